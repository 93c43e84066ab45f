/- What printer.Program answers for a program of n equal statements of free points with one good name: the text of n lines, or ErrLarge where it would be too long.
   Conditions: the name is good; at most 2500 statements, which lie in memory as the law lays them. -/
import Derived.Test.YthdjkcnofdgefaaBuild
import Derived.Test.YthdjkcnofdgefaaCheck
import Derived.Deep.RegionWith
import Derived.StillTailTactics
namespace Go.Proofs.Ythdjkcnofdgefaa
open Go.RowKit

set_option maxHeartbeats 400000 in
theorem full_no (B b : Nat) (bs : List Value) (w : World) (h : Lib.IsBuilder 50 5 B b bs w) (hl : bs.length ≤ 20000) :
    Calls Try.prog 6 #[.pointer (some ⟨b, 0, none⟩)] w fun e w' => e = .returned (.bool false) ∧ w = w' := by
  have hd : decide (20000 < (bs.length : Int)) = false := by simp; omega
  go_enter Try.func6, Try.ntmps6
  go_wp2_with (go_at_call 11; refine (len_any B b bs _ h).mono ?_; rintro e w' ⟨rfl, rfl⟩)
  go_ret
  exact ⟨rfl, rfl⟩

set_option maxHeartbeats 400000 in
theorem full_yes (B b : Nat) (bs : List Value) (w : World) (h : Lib.IsBuilder 50 5 B b bs w) (hl : 20000 < bs.length) :
    Calls Try.prog 6 #[.pointer (some ⟨b, 0, none⟩)] w fun e w' => e = .returned (.bool true) ∧ w = w' := by
  have hd : decide (20000 < (bs.length : Int)) = true := by simp; omega
  go_enter Try.func6, Try.ntmps6
  go_wp2_with (go_at_call 11; refine (len_any B b bs _ h).mono ?_; rintro e w' ⟨rfl, rfl⟩)
  go_ret
  exact ⟨rfl, rfl⟩

set_option maxHeartbeats 400000 in
theorem join_one (s sep : ByteArray) (nb : Nat) (w : World) (hn : w.cell? ⟨nb, 0, none⟩ = some (.string s)) :
    Calls Try.prog 23 #[.slice (some ⟨nb, 0, none⟩) 1 1, .string sep] w fun e w' => e = .returned (.string s) ∧ w = w' := by
  go_enter Try.func23, Try.ntmps23
  go_wp2_with fail
  go_ret
  exact ⟨rfl, rfl⟩

set_option maxHeartbeats 400000 in
theorem method_points (b : Nat) (w : World) :
    Calls Try.prog 7 #[.pointer (some ⟨b, 0, none⟩), .int .i64 1] w fun e w' => e = .returned (.func (.func 12) #[.pointer (some ⟨b, 0, none⟩)] #[]) ∧ w = w' := by
  go_enter Try.func7, Try.ntmps7
  go_wp2_with fail
  go_ret
  exact ⟨rfl, rfl⟩

theorem builder_below {B b : Nat} {p : Value} {bs : List Value} {w w' : World} (h : Lib.BuilderAt 50 5 B b p bs w) (hb : Below w.heap.size w w') : Lib.BuilderAt 50 5 B b p bs w' := by
  obtain ⟨hB, v, hbk, hown, hne⟩ := h
  have hlt := Lib.BuilderAt.lt ⟨hB, v, hbk, hown, hne⟩
  refine ⟨hB, v, (hb.block b hlt).trans hbk, ?_, hne⟩
  refine hown.kept (row := none) ⟨hb.os, hb.tape, hb.output, hb.size, fun i hi _ => hb.block i hi⟩ (by cases v.ownBlock <;> simp)

/-- 'points '. -/
def pre : ByteArray := ⟨#[112, 111, 105, 110, 116, 115, 32]⟩
theorem pre_size (s : ByteArray) : (pre ++ s).size = 7 + s.size := by rw [ByteArray.size_append]; rfl

set_option maxHeartbeats 1000000 in
theorem points_any (B b nb : Nat) (bs : List Value) (s : ByteArray) (w : World) (h : Lib.IsBuilder 50 5 B b bs w) (hs : s.size ≤ 20) (hl : bs.length ≤ 20000) (hBw : B ≤ w.heap.size)
    (hn : w.cell? ⟨nb, 0, none⟩ = some (.string s)) (hlt : nb < w.heap.size) :
    Calls Try.prog 12 #[.pointer (some ⟨b, 0, none⟩), .agg #[.int .i64 1, .slice (some ⟨nb, 0, none⟩) 1 1, .int .i64 0, .string ⟨#[]⟩, .bool false, .slice none 0 0, .slice none 0 0, .slice none 0 0, .int .i64 0, .int .i64 0]] w
      fun e w' => e = .returned (.tuple #[]) ∧ Lib.BuilderAt 50 5 B b (.pointer (some ⟨b, 0, none⟩)) (bs ++ Lib.strCells (pre ++ s)) w' ∧ Below B w w' := by
  have hb0 : Below w.heap.size w (w.alloc (.cells #[.int .i64 1, .slice (some ⟨nb, 0, none⟩) 1 1, .int .i64 0, .string ⟨#[]⟩, .bool false, .slice none 0 0, .slice none 0 0, .slice none 0 0, .int .i64 0, .int .i64 0] 37)) := (Below.refl _ _).alloc (Nat.le_refl _) _
  have hB0 : Below B w (w.alloc (.cells #[.int .i64 1, .slice (some ⟨nb, 0, none⟩) 1 1, .int .i64 0, .string ⟨#[]⟩, .bool false, .slice none 0 0, .slice none 0 0, .slice none 0 0, .int .i64 0, .int .i64 0] 37)) := (Below.refl _ _).alloc hBw _
  have hn1 : (w.alloc (.cells #[.int .i64 1, .slice (some ⟨nb, 0, none⟩) 1 1, .int .i64 0, .string ⟨#[]⟩, .bool false, .slice none 0 0, .slice none 0 0, .slice none 0 0, .int .i64 0, .int .i64 0] 37)).cell? ⟨nb, 0, none⟩ = some (.string s) := (hb0.cell (p := ⟨nb, 0, none⟩) hlt).trans hn
  have h1 : Lib.IsBuilder 50 5 B b bs (w.alloc (.cells #[.int .i64 1, .slice (some ⟨nb, 0, none⟩) 1 1, .int .i64 0, .string ⟨#[]⟩, .bool false, .slice none 0 0, .slice none 0 0, .slice none 0 0, .int .i64 0, .int .i64 0] 37)) := by
    rcases h with h | h
    · exact .inl (builder_below h hb0)
    · exact .inr (builder_below h hb0)
  have hl7 : bs.length + (pre ++ s).size ≤ 140737488355328 := by rw [pre_size]; omega
  have hBw1 : B ≤ (w.alloc (.cells #[.int .i64 1, .slice (some ⟨nb, 0, none⟩) 1 1, .int .i64 0, .string ⟨#[]⟩, .bool false, .slice none 0 0, .slice none 0 0, .slice none 0 0, .int .i64 0, .int .i64 0] 37)).drew.heap.size := by
    show B ≤ (w.alloc (.cells #[.int .i64 1, .slice (some ⟨nb, 0, none⟩) 1 1, .int .i64 0, .string ⟨#[]⟩, .bool false, .slice none 0 0, .slice none 0 0, .slice none 0 0, .int .i64 0, .int .i64 0] 37)).heap.size
    simp; omega
  go_enter Try.func12, Try.ntmps12
  go_wp2_with fail
  go_region_with (first | (refine (join_one s _ nb _ (by exact hn1)).mono ?_; rintro e w' ⟨rfl, rfl⟩) | (refine (writeString_any B b bs (pre ++ s) _ (by exact h1) hl7 hBw1).mono ?_; rintro e w' ⟨rfl, h2, hb2⟩))
  all_goals (go_end0; exact ⟨rfl, h2, hB0.drew.trans hb2⟩)

set_option maxHeartbeats 400000 in
theorem result_full (B b : Nat) (bs : List Value) (w : World) (h : Lib.IsBuilder 50 5 B b bs w) (hl : 20000 < bs.length) :
    Calls Try.prog 9 #[.pointer (some ⟨b, 0, none⟩)] w fun e w' => e = .returned (.tuple #[.string ⟨#[]⟩, .int .i64 4]) ∧ w = w' := by
  go_enter Try.func9, Try.ntmps9
  go_wp2_with (go_at_call 6; refine (full_yes B b bs _ h hl).mono ?_; rintro e w' ⟨rfl, rfl⟩)
  go_ret2
  exact ⟨rfl, rfl⟩

set_option maxHeartbeats 400000 in
theorem result_some (B b : Nat) (l : List UInt8) (w : World) (h : Lib.IsBuilder 50 5 B b (Lib.byteCells l) w) (h0 : l ≠ []) (hl : l.length ≤ 20000) :
    Calls Try.prog 9 #[.pointer (some ⟨b, 0, none⟩)] w fun e w' => e = .returned (.tuple #[.string ⟨l.toArray⟩, .int .i64 0]) ∧ Below B w w' := by
  have hl' : (Lib.byteCells l).length ≤ 20000 := by rw [Lib.byteCells_length]; exact hl
  go_enter Try.func9, Try.ntmps9
  go_wp2_with (first | (go_at_call 6; refine (full_no B b _ _ h hl').mono ?_; rintro e w' ⟨rfl, rfl⟩) | (go_at_call 18; refine (string_some B b l _ h h0).mono ?_; rintro e w' ⟨rfl, hb⟩))
  go_ret2
  exact ⟨rfl, hb⟩

set_option maxHeartbeats 400000 in
theorem result_nil (B b : Nat) (w : World) (hB : B ≤ b) (hbk : w.heap[b]? = some (.cells #[.pointer none, .slice none 0 0] 50 (0, 0))) :
    Calls Try.prog 9 #[.pointer (some ⟨b, 0, none⟩)] w fun e w' => e = .returned (.tuple #[.string ⟨#[]⟩, .int .i64 0]) ∧ Below B w w' := by
  have h : Lib.IsBuilder 50 5 B b [] w := .inl ⟨hB, .slice none 0 0, hbk, World.ownsRow_nil _ _ _ _, by simp [Value.ownBlock]⟩
  go_enter Try.func9, Try.ntmps9
  go_wp2_with (first | (go_at_call 6; refine (full_no B b _ _ h (by simp)).mono ?_; rintro e w' ⟨rfl, rfl⟩) | (go_at_call 18; refine (string_nil B b _ _ hbk).mono ?_; rintro e w' ⟨rfl, hb⟩))
  go_ret2
  exact ⟨rfl, hb⟩
end Go.Proofs.Ythdjkcnofdgefaa
