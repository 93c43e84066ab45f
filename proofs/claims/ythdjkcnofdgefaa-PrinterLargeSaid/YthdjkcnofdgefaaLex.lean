/- What lexer.IsName says of the names that the law makes: the first m letters of 'abcdefghijklmnopqrst', 1 to 20 of them: yes.
   Conditions: 1 ≤ m ≤ 20. -/
import Derived.Test.YthdjkcnofdgefaaProg
import Derived.WalkKit
import Derived.WalkSpells
import Derived.WalkLawsBesides
import Derived.Lib.Hide
import Derived.KernelRfl
import Derived.Below
import Derived.Laws.Rows
namespace Go.Proofs.Ythdjkcnofdgefaa
open Go.RowKit

set_option maxHeartbeats 400000 in
theorem kindOf_letter (c : Int) (w : World) (h1 : 97 ≤ c) (h2 : c ≤ 122) :
    Calls Try.prog 25 #[.int .u8 c] w fun e w' => e = .returned (.int .i64 2) ∧ w = w' := by
  have k1 : (c == 32) = false := by simp; omega
  have k2 : (c == 9) = false := by simp; omega
  have k3 : (c == 13) = false := by simp; omega
  have k4 : (c == 10) = false := by simp; omega
  have k5 : decide (97 ≤ c) = true := by simp; omega
  have k6 : decide (c ≤ 122) = true := by simp; omega
  go_enter Try.func25, Try.ntmps25
  go_wp2
  go_ret
  exact ⟨rfl, rfl⟩

theorem ret_i64 {a b : Int} (h : a = b) : Ending.returned (.int .i64 a) = .returned (.int .i64 b) := by rw [h]

set_option maxHeartbeats 400000 in
theorem end_letters (s : ByteArray) (w : World) (hs : s.size ≤ 1000) (hL : ∀ i (h : i < s.size), 97 ≤ (s[i].toNat : Int) ∧ (s[i].toNat : Int) ≤ 122) :
    Calls Try.prog 26 #[.string s, .int .i64 0, .bool true] w fun e w' => e = .returned (.int .i64 s.size) ∧ w = w' := by
  have HL := Lib.hid hL
  clear hL
  go_enter Try.func26, Try.ntmps26
  go_wp2
  go_loop [1] (fun t => ∃ k : Nat, k ≤ s.size ∧ t = .int .i64 k) (fun t => s.size - (intOf t).toNat)
  case atStart => exact ⟨0, Nat.zero_le _, rfl⟩
  case round =>
    obtain ⟨k, hk, rfl⟩ := hrel
    by_cases hlt : k < s.size
    · obtain ⟨h1, h2⟩ := HL.out k hlt
      go_wp2_with (go_at_call 25; refine (kindOf_letter _ _ h1 h2).mono ?_; rintro e w' ⟨rfl, rfl⟩)
      go_round
      case rel => exact ⟨k + 1, by omega, by go_num⟩
      case measure => simp [intOf]; omega
    · go_wp2_with fail
      go_ret
      exact ⟨ret_i64 (by omega), rfl⟩

/-- The keywords. -/
def kws : List ByteArray :=
  [⟨#[97, 110, 103, 108, 101]⟩,
   ⟨#[97, 112, 101, 120]⟩,
   ⟨#[98, 105, 115, 101, 99, 116, 111, 114]⟩,
   ⟨#[99, 101, 110, 116, 101, 114]⟩,
   ⟨#[99, 105, 114, 99, 108, 101]⟩,
   ⟨#[99, 105, 114, 99, 117, 109]⟩,
   ⟨#[99, 111, 108, 108, 105, 110, 101, 97, 114]⟩,
   ⟨#[99, 111, 109, 109, 111, 110]⟩,
   ⟨#[99, 111, 110, 99, 121, 99, 108, 105, 99]⟩,
   ⟨#[99, 111, 110, 103, 114, 117, 101, 110, 116]⟩,
   ⟨#[99, 114, 111, 115, 115]⟩,
   ⟨#[99, 117, 116]⟩,
   ⟨#[100, 105, 118, 105, 100, 101]⟩,
   ⟨#[102, 111, 111, 116]⟩,
   ⟨#[108, 105, 110, 101]⟩,
   ⟨#[109, 101, 101, 116]⟩,
   ⟨#[109, 105, 100, 112, 111, 105, 110, 116]⟩,
   ⟨#[109, 105, 114, 114, 111, 114]⟩,
   ⟨#[111, 110]⟩,
   ⟨#[111, 116, 104, 101, 114]⟩,
   ⟨#[112, 97, 114, 97, 108, 108, 101, 108]⟩,
   ⟨#[112, 101, 114, 112, 101, 110, 100, 105, 99, 117, 108, 97, 114]⟩,
   ⟨#[112, 111, 105, 110, 116, 115]⟩,
   ⟨#[112, 114, 111, 118, 101]⟩,
   ⟨#[114, 97, 116, 105, 111]⟩,
   ⟨#[114, 101, 102, 108, 101, 99, 116]⟩,
   ⟨#[115, 97, 109, 101]⟩,
   ⟨#[115, 104, 105, 102, 116]⟩,
   ⟨#[116, 117, 114, 110]⟩]
def kw (k : Nat) : ByteArray := kws.getD k ⟨#[]⟩
def kwCells : Array Value := (kws.map Value.string).toArray

set_option maxHeartbeats 400000 in
theorem keywords_any (w : World) :
    Calls Try.prog 27 #[] w fun e w' => e = .returned (.slice (some ⟨w.heap.size, 0, none⟩) 29 29) ∧ w.alloc (.cells kwCells 9) = w' := by
  go_enter Try.func27, Try.ntmps27
  go_wp2
  go_ret
  exact ⟨rfl, rfl⟩

theorem kw_cell (w : World) (k : Nat) (h : k < 29) : (w.alloc (.cells kwCells 9)).cell? ⟨w.heap.size, k, none⟩ = some (.string (kw k)) := by
  rw [cell_of_row _ _ _ kwCells 9 (0, 0) (heap_alloc_new w _)]
  have hl : k < kws.length := h
  simp [kwCells, kw, List.getElem?_eq_getElem hl, List.getD_eq_getElem?_getD]

set_option maxHeartbeats 1000000 in
theorem isName_yes (s : ByteArray) (w : World) (h0 : 1 ≤ s.size) (hs : s.size ≤ 20) (hL : ∀ i (h : i < s.size), 97 ≤ (s[i].toNat : Int) ∧ (s[i].toNat : Int) ≤ 122) (hK : ∀ k < 29, ((kw k).toList == s.toList) = false) :
    Calls Try.prog 19 #[.string s] w fun e w' => e = .returned (.bool true) ∧ Below w.heap.size w w' := by
  have HL := Lib.hid hL
  have HK := Lib.hid hK
  clear hL hK
  have e1 : s.toList.isEmpty = false := by
    have : s.toList.length = s.size := by rw [ByteArray.toList_eq]; rfl
    cases h : s.toList with
    | nil => rw [h] at this; simp at this; omega
    | cons _ _ => rfl
  have e3 : decide (20 < (s.size : Int)) = false := by simp; omega
  have hl := HL.out 0 (by omega)
  obtain ⟨hl1, hl2⟩ := hl
  go_enter Try.func19, Try.ntmps19
  go_wp2_with (first | (go_at_call 25; refine (kindOf_letter _ _ hl1 hl2).mono ?_; rintro e w' ⟨rfl, rfl⟩) | (go_at_call 26; refine (end_letters _ _ (by omega) HL.out).mono ?_; rintro e w' ⟨rfl, rfl⟩) | (go_at_call 27; refine (keywords_any _).mono ?_; rintro e w' ⟨rfl, rfl⟩))
  have hB : Below w.heap.size w (w.alloc (.cells kwCells 9)) := (Below.refl _ _).alloc (Nat.le_refl _) _
  have HC := Lib.hid (kw_cell w)
  go_loop [27] (fun t => ∃ k : Nat, k ≤ 29 ∧ t = .int .i64 k) (fun t => 29 - (intOf t).toNat)
  case atStart => exact ⟨0, by omega, rfl⟩
  case round =>
    obtain ⟨k, hk, rfl⟩ := hrel
    by_cases hlt : k < 29
    · have hc := HC.out k hlt
      have hq := HK.out k hlt
      generalize kw k = x at hc hq
      go_wp2_with fail
      go_round
      case rel => exact ⟨k + 1, by omega, by go_num⟩
      case measure => simp [intOf]; omega
    · go_wp2_with fail
      go_ret
      exact ⟨rfl, hB⟩
end Go.Proofs.Ythdjkcnofdgefaa
