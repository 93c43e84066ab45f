/- ast.statement and ast.CheckProgram find nothing wrong with a statement of free points that defines one good name, and with a program of such statements.
   Conditions: the name is one that lexer.IsName takes (GoodName); the statements lie in memory as the law lays them. -/
import Derived.Test.YthdjkcnofdgefaaLex
import Derived.Test.YthdjkcnofdgefaaEq
import Derived.Deep.QuietTactic
import Derived.BigQuiet
namespace Go.Proofs.Ythdjkcnofdgefaa
open Go.RowKit

/-- A name that lexer.IsName takes. -/
structure GoodName (s : ByteArray) : Prop where
  pos : 1 ≤ s.size
  le : s.size ≤ 20
  letters : ∀ i (h : i < s.size), 97 ≤ (s[i].toNat : Int) ∧ (s[i].toNat : Int) ≤ 122
  noKey : ∀ k < 29, ((kw k).toList == s.toList) = false

theorem GoodName.calls {s : ByteArray} (h : GoodName s) (w : World) :
    Calls Try.prog 19 #[.string s] w fun e w' => e = .returned (.bool true) ∧ Below w.heap.size w w' :=
  isName_yes s w h.pos h.le h.letters h.noKey

set_option maxHeartbeats 1000000 in
theorem statement_points (s : ByteArray) (nb : Nat) (w : World) (hg : GoodName s) (hn : w.cell? ⟨nb, 0, none⟩ = some (.string s)) (hlt : nb < w.heap.size) :
    Calls Try.prog 10 #[.agg #[.int .i64 1, .slice (some ⟨nb, 0, none⟩) 1 1, .int .i64 0, .string ⟨#[]⟩, .bool false, .slice none 0 0, .slice none 0 0, .slice none 0 0, .int .i64 0, .int .i64 0]] w
      fun e w' => e = .returned (.int .i64 0) ∧ Below w.heap.size w w' := by
  go_enter Try.func10, Try.ntmps10
  go_wp2_with fail
  go_loopw [50] (fun t wr => ∃ k : Nat, k ≤ 1 ∧ t = .int .i64 k ∧ Below (w.alloc (.cells #[.int .i64 1, .slice (some ⟨nb, 0, none⟩) 1 1, .int .i64 0, .string ⟨#[]⟩, .bool false, .slice none 0 0, .slice none 0 0, .slice none 0 0, .int .i64 0, .int .i64 0] 37)).heap.size (w.alloc (.cells #[.int .i64 1, .slice (some ⟨nb, 0, none⟩) 1 1, .int .i64 0, .string ⟨#[]⟩, .bool false, .slice none 0 0, .slice none 0 0, .slice none 0 0, .int .i64 0, .int .i64 0] 37)) wr) (fun t _ => 1 - (intOf t).toNat)
  case atStart => exact ⟨0, by omega, rfl, Below.refl _ _⟩
  case round =>
    obtain ⟨k, hk, rfl, hb⟩ := hrel
    obtain ⟨hc, hf⟩ := below_cells hb
    by_cases hlt1 : k < 1
    · obtain rfl : k = 0 := by omega
      have hn1 : wr.cell? ⟨nb, 0, none⟩ = some (.string s) := by
        rw [hc nb 0 (by simp; omega)]
        exact (World.cell?_alloc_lt w _ ⟨nb, 0, none⟩ hlt).trans hn
      go_wp2_with (go_at_call 19; refine (hg.calls _).mono ?_)
      rintro e w1 ⟨rfl, hb1⟩
      have hb2 : Below (w.alloc (.cells #[.int .i64 1, .slice (some ⟨nb, 0, none⟩) 1 1, .int .i64 0, .string ⟨#[]⟩, .bool false, .slice none 0 0, .slice none 0 0, .slice none 0 0, .int .i64 0, .int .i64 0] 37)).heap.size (w.alloc (.cells #[.int .i64 1, .slice (some ⟨nb, 0, none⟩) 1 1, .int .i64 0, .string ⟨#[]⟩, .bool false, .slice none 0 0, .slice none 0 0, .slice none 0 0, .int .i64 0, .int .i64 0] 37)) w1 := hb.trans (hb1.mono hb.size)
      clear hb hb1 hc hf
      go_wp2_with fail
      go_roundw
      case rel => exact ⟨1, by omega, by go_num, hb2⟩
      case measure => simp [intOf]
    · go_wp2_with (go_at_call 20; refine (equalExpr_zero _).mono ?_)
      rintro e w1 ⟨rfl, hb1⟩
      go_wp2_with fail
      go_ret
      exact ⟨rfl, ((Below.refl _ _).alloc (Nat.le_refl _) _).trans ((hb.trans (hb1.mono hb.size)).mono (by simp))⟩

/-- Statement i of the row of statements in block g, as the law lays it: free points, one name, s, in a block of its own. -/
def StmtAt (w : World) (s : ByteArray) (g i : Nat) : Prop :=
  g < w.heap.size ∧ ∃ nb, nb < w.heap.size ∧ w.cell? ⟨nb, 0, none⟩ = some (.string s) ∧ w.cell? ⟨g, i * 10, none⟩ = some (.int .i64 1) ∧ w.cell? ⟨g, i * 10 + 1, none⟩ = some (.slice (some ⟨nb, 0, none⟩) 1 1) ∧ w.cell? ⟨g, i * 10 + 2, none⟩ = some (.int .i64 0) ∧ w.cell? ⟨g, i * 10 + 3, none⟩ = some (.string ⟨#[]⟩) ∧ w.cell? ⟨g, i * 10 + 4, none⟩ = some (.bool false) ∧ w.cell? ⟨g, i * 10 + 5, none⟩ = some (.slice none 0 0) ∧ w.cell? ⟨g, i * 10 + 6, none⟩ = some (.slice none 0 0) ∧ w.cell? ⟨g, i * 10 + 7, none⟩ = some (.slice none 0 0) ∧ w.cell? ⟨g, i * 10 + 8, none⟩ = some (.int .i64 0) ∧ w.cell? ⟨g, i * 10 + 9, none⟩ = some (.int .i64 0)

theorem StmtAt.below {w w' : World} {s : ByteArray} {g i : Nat} (h : StmtAt w s g i) (hb : Below w.heap.size w w') : StmtAt w' s g i := by
  obtain ⟨hg, nb, hn, h1, c0, c1, c2, c3, c4, c5, c6, c7, c8, c9⟩ := h
  have hc : ∀ b o v, b < w.heap.size → w.cell? ⟨b, o, none⟩ = some v → w'.cell? ⟨b, o, none⟩ = some v := fun b o v hlt hv => (hb.cell (p := ⟨b, o, none⟩) hlt).trans hv
  have hz := hb.size
  exact ⟨by omega, nb, by omega, hc _ _ _ hn h1, hc _ _ _ hg c0, hc _ _ _ hg c1, hc _ _ _ hg c2, hc _ _ _ hg c3, hc _ _ _ hg c4, hc _ _ _ hg c5, hc _ _ _ hg c6, hc _ _ _ hg c7, hc _ _ _ hg c8, hc _ _ _ hg c9⟩

set_option maxHeartbeats 1000000 in
theorem checkProgram_any (s : ByteArray) (A : Option Addr) (g n c : Nat) (w : World) (hg : GoodName s) (hn : n ≤ 2500) (hA : 0 < n → A = some ⟨g, 0, none⟩) (H : ∀ i < n, StmtAt w s g i) :
    Calls Try.prog 5 #[.agg #[.slice A n c]] w fun e w' => e = .returned (.tuple #[.int .i64 0, .int .i64 0]) ∧ Below w.heap.size w w' := by
  have HS := Lib.hid H
  have HA := Lib.hid hA
  clear H hA
  go_enter Try.func5, Try.ntmps5
  go_wp2_with fail
  go_loopw [10] (fun t wr => ∃ k : Nat, k ≤ n ∧ t = .int .i64 k ∧ Below w.heap.size w wr) (fun t _ => n - (intOf t).toNat)
  case atStart => exact ⟨0, by omega, rfl, (Below.refl _ _).alloc (Nat.le_refl _) _⟩
  case round =>
    obtain ⟨k, hk, rfl, hb⟩ := hrel
    have HB := Lib.hid hb
    clear hb
    by_cases hlt : k < n
    · obtain ⟨hgl, nb, hnl, h1, c0, c1, c2, c3, c4, c5, c6, c7, c8, c9⟩ := (HS.out k hlt).below HB.out
      obtain rfl := HA.out (by omega)
      go_wp2_with fail
      refine (statement_points s nb _ hg ?cell ?lt).mono ?_
      case cell => exact (World.cell?_alloc_lt wr _ ⟨nb, 0, none⟩ hnl).trans h1
      case lt => simp; omega
      rintro e w1 ⟨rfl, hb1⟩
      have hb2 : Below w.heap.size w w1 := (HB.out.alloc HB.out.size _).trans (hb1.mono (by have := HB.out.size; simp; omega))
      go_wp2_with fail
      go_roundw
      case rel => exact ⟨k + 1, by omega, by go_num, hb2⟩
      case measure => simp [intOf]; omega
    · go_wp2_with fail
      go_ret2
      exact ⟨rfl, HB.out⟩
end Go.Proofs.Ythdjkcnofdgefaa
