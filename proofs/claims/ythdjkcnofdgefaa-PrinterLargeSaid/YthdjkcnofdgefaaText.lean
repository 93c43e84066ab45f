/- What printer.Program answers for a program of n equal statements of free points with one good name: the text of n lines, or ErrLarge where it would be too long.
   Conditions: the name is good; at most 2500 statements, which lie in memory as the law lays them. -/
import Derived.Test.YthdjkcnofdgefaaPrint
namespace Go.Proofs.Ythdjkcnofdgefaa
open Go.RowKit

/-- The line of a statement. -/
def ln (s : ByteArray) : List UInt8 := (pre ++ s).data.toList ++ [59, 10]
/-- k lines. -/
def text (s : ByteArray) : Nat → List UInt8
  | 0 => []
  | k + 1 => text s k ++ ln s
theorem ln_length (s : ByteArray) : (ln s).length = 9 + s.size := by
  have h := pre_size s
  have h' : (pre ++ s).data.toList.length = 7 + s.size := h
  simp only [ln, List.length_append, h', List.length_cons, List.length_nil]
  omega
theorem text_length (s : ByteArray) (k : Nat) : (text s k).length = k * (9 + s.size) := by
  induction k with
  | zero => simp [text]
  | succ k ih => rw [text, List.length_append, ih, ln_length, Nat.succ_mul]
theorem text_cells (s : ByteArray) (k : Nat) : (Lib.byteCells (text s k) ++ Lib.strCells (pre ++ s)) ++ Lib.strCells ⟨#[59, 10]⟩ = Lib.byteCells (text s (k + 1)) := by
  simp only [text, ln, Lib.strCells_eq, Lib.byteCells, List.map_append, List.append_assoc]
theorem text_mono (s : ByteArray) {k n : Nat} (h : k ≤ n) : (text s k).length ≤ (text s n).length := by
  rw [text_length, text_length]
  exact Nat.mul_le_mul_right _ h

/-- The builder in block b, one of those from B on, holds k lines; with no line it has never been written. -/
def Built (B b : Nat) (s : ByteArray) (k : Nat) (w : World) : Prop :=
  Lib.IsBuilder 50 5 B b (Lib.byteCells (text s k)) w ∧ (k = 0 → w.heap[b]? = some (.cells #[.pointer none, .slice none 0 0] 50 (0, 0)))
theorem Built.new (B : Nat) (s : ByteArray) (w : World) (hB : B ≤ w.heap.size) : Built B w.heap.size s 0 (w.alloc (.cells #[.pointer none, .slice none 0 0] 50)) :=
  ⟨.inl ⟨hB, .slice none 0 0, heap_alloc_new w _, World.ownsRow_nil _ _ _ _, by simp [Value.ownBlock]⟩, fun _ => heap_alloc_new w _⟩
theorem Built.below {B b k : Nat} {s : ByteArray} {w w' : World} (h : Lib.IsBuilder 50 5 B b (Lib.byteCells (text s k)) w) (hb : Below w.heap.size w w') : Lib.IsBuilder 50 5 B b (Lib.byteCells (text s k)) w' := by
  rcases h with h | h
  · exact .inl (builder_below h hb)
  · exact .inr (builder_below h hb)

set_option maxHeartbeats 1000000 in
theorem program_fits (s : ByteArray) (A : Option Addr) (g n c : Nat) (w : World) (hg : GoodName s) (hn : n ≤ 2500) (hA : 0 < n → A = some ⟨g, 0, none⟩) (H : ∀ i < n, StmtAt w s g i)
    (hfit : (text s n).length ≤ 20000) :
    Calls Try.prog 4 #[.agg #[.slice A n c]] w fun e w' => e = .returned (.tuple #[.string ⟨(text s n).toArray⟩, .int .i64 0]) ∧ Below w.heap.size w w' := by
  have hB1 : Below w.heap.size w (w.alloc (.cells #[.slice A n c] 25)) := (Below.refl _ _).alloc (Nat.le_refl _) _
  have HS := Lib.hid H
  have HA := Lib.hid hA
  have HF := Lib.hid hfit
  clear H hA hfit
  go_enter Try.func4, Try.ntmps4
  go_wp2_with (go_at_call 5; refine (checkProgram_any s A g n c _ hg hn HA.out (fun i hi => (HS.out i hi).below hB1)).mono ?_)
  rintro e w1 ⟨rfl, hb1⟩
  have hz : w.heap.size < w1.heap.size := by
    have := hb1.size
    simp at this
    omega
  have hp : w1.cell? ⟨w.heap.size, 0, none⟩ = some (.slice A n c) := by
    rw [hb1.cell (p := ⟨w.heap.size, 0, none⟩) (by simp)]
    exact (Lib.cell_of_heap (heap_alloc_new w _) 0)
  go_wp2_with fail
  go_loopw [23] (fun t wr => ∃ k : Nat, k ≤ n ∧ t = .int .i64 k ∧ Below w.heap.size w wr ∧ Built w.heap.size w1.heap.size s k wr) (fun t _ => n - (intOf t).toNat)
  case atStart => exact ⟨0, by omega, rfl, (hB1.trans (hb1.mono (by simp))).alloc (by omega) _, Built.new _ _ _ (by omega)⟩
  case round =>
    obtain ⟨k, hk, rfl, hb, hbl, hb0⟩ := hrel
    have HB := Lib.hid hb
    have H0 := Lib.hid hb0
    have HL := Lib.hid hbl
    have hle : (Lib.byteCells (text s k)).length ≤ 20000 := by
      rw [Lib.byteCells_length]
      exact Nat.le_trans (text_mono s hk) HF.out
    clear hb hb0 hbl hp hb1
    by_cases hlt : k < n
    · obtain ⟨hgl, nb, hnl, h1, c0, c1, c2, c3, c4, c5, c6, c7, c8, c9⟩ := (HS.out k hlt).below HB.out
      obtain rfl := HA.out (by omega)
      go_wp2_with fail
      refine (full_no w.heap.size w1.heap.size _ _ (Built.below HL.out ((Below.refl _ _).alloc (Nat.le_refl _) _)) hle).mono ?_
      rintro e w' ⟨rfl, rfl⟩
      go_wp2_with fail
      refine (method_points _ _).mono ?_
      rintro e w' ⟨rfl, rfl⟩
      go_wp2_with fail
      refine (points_any w.heap.size w1.heap.size nb _ s _ (Built.below HL.out ((Below.refl _ _).alloc (Nat.le_refl _) _)) hg.le hle ?room ?cell ?lt).mono ?_
      case room => have := HB.out.size; simp; omega
      case cell => exact (World.cell?_alloc_lt wr _ ⟨nb, 0, none⟩ hnl).trans h1
      case lt => simp; omega
      rintro e w2 ⟨rfl, h2, hb2⟩
      have hb3 : Below w.heap.size w w2 := (HB.out.alloc HB.out.size _).trans hb2
      have hlen : (Lib.byteCells (text s k) ++ Lib.strCells (pre ++ s)).length + (⟨#[59, 10]⟩ : ByteArray).size ≤ 140737488355328 := by
        have hps := pre_size s
        have hsl := hg.le
        rw [List.length_append, Lib.strCells_length, hps]
        have : (⟨#[59, 10]⟩ : ByteArray).size = 2 := rfl
        omega
      have HN := Lib.hid hlen
      have H2 := Lib.hid h2
      have H3 := Lib.hid hb3
      clear hlen h2 hb2 hb3
      go_wp2_with fail
      refine (writeString_any w.heap.size w1.heap.size _ _ _ (.inr H2.out) HN.out H3.out.size).mono ?_
      rintro e w3 ⟨rfl, h4, hb4⟩
      rw [text_cells] at h4
      have hrel2 : Below w.heap.size w w3 ∧ Built w.heap.size w1.heap.size s (k + 1) w3 := ⟨H3.out.trans hb4, .inr h4, fun h0 => absurd h0 (by omega)⟩
      have HR := Lib.hid hrel2
      clear h4 hb4 hrel2
      go_wp2_with fail
      go_roundw
      case rel => exact ⟨k + 1, by omega, by go_num, HR.out⟩
      case measure => simp [intOf]; omega
    · obtain rfl : k = n := by omega
      by_cases hk0 : k = 0
      · subst hk0
        go_wp2_with fail
        refine (result_nil w.heap.size w1.heap.size _ (by omega) (H0.out trivial)).mono ?_
        rintro e w2 ⟨rfl, hb2⟩
        go_wp2_with fail
        go_ret2
        exact ⟨rfl, HB.out.trans hb2⟩
      · have hne : text s k ≠ [] := by
          intro h
          have h' := congrArg List.length h
          have hm : 0 < k * (9 + s.size) := Nat.mul_pos (by omega) (by omega)
          rw [text_length, List.length_nil] at h'
          omega
        go_wp2_with fail
        refine (result_some w.heap.size w1.heap.size _ _ HL.out hne (by rw [Lib.byteCells_length] at hle; exact hle)).mono ?_
        rintro e w2 ⟨rfl, hb2⟩
        go_wp2_with fail
        go_ret2
        exact ⟨rfl, HB.out.trans hb2⟩
set_option maxHeartbeats 1000000 in
theorem program_large (s : ByteArray) (A : Option Addr) (g n c : Nat) (w : World) (hg : GoodName s) (hn : n ≤ 2500) (hA : 0 < n → A = some ⟨g, 0, none⟩) (H : ∀ i < n, StmtAt w s g i)
    (hlarge : 20000 < (text s n).length) :
    Calls Try.prog 4 #[.agg #[.slice A n c]] w fun e w' => e = .returned (.tuple #[.string ⟨#[]⟩, .int .i64 4]) ∧ Below w.heap.size w w' := by
  have hB1 : Below w.heap.size w (w.alloc (.cells #[.slice A n c] 25)) := (Below.refl _ _).alloc (Nat.le_refl _) _
  have HS := Lib.hid H
  have HA := Lib.hid hA
  have HF := Lib.hid hlarge
  clear H hA hlarge
  go_enter Try.func4, Try.ntmps4
  go_wp2_with (go_at_call 5; refine (checkProgram_any s A g n c _ hg hn HA.out (fun i hi => (HS.out i hi).below hB1)).mono ?_)
  rintro e w1 ⟨rfl, hb1⟩
  have hz : w.heap.size < w1.heap.size := by
    have := hb1.size
    simp at this
    omega
  have hp : w1.cell? ⟨w.heap.size, 0, none⟩ = some (.slice A n c) := by
    rw [hb1.cell (p := ⟨w.heap.size, 0, none⟩) (by simp)]
    exact (Lib.cell_of_heap (heap_alloc_new w _) 0)
  go_wp2_with fail
  go_loopw [23] (fun t wr => ∃ k : Nat, k ≤ n ∧ t = .int .i64 k ∧ Below w.heap.size w wr ∧ Built w.heap.size w1.heap.size s k wr) (fun t _ => n - (intOf t).toNat)
  case atStart => exact ⟨0, by omega, rfl, (hB1.trans (hb1.mono (by simp))).alloc (by omega) _, Built.new _ _ _ (by omega)⟩
  case round =>
    obtain ⟨k, hk, rfl, hb, hbl, hb0⟩ := hrel
    have HB := Lib.hid hb
    have H0 := Lib.hid hb0
    have HL := Lib.hid hbl
    clear hb hb0 hbl hp hb1
    by_cases hlt : k < n
    · obtain ⟨hgl, nb, hnl, h1, c0, c1, c2, c3, c4, c5, c6, c7, c8, c9⟩ := (HS.out k hlt).below HB.out
      obtain rfl := HA.out (by omega)
      by_cases hle : 20000 < (Lib.byteCells (text s k)).length
      · go_wp2_with fail
        refine (full_yes w.heap.size w1.heap.size _ _ (Built.below HL.out ((Below.refl _ _).alloc (Nat.le_refl _) _)) hle).mono ?_
        rintro e w' ⟨rfl, rfl⟩
        go_wp2_with fail
        refine (result_full w.heap.size w1.heap.size _ _ (Built.below HL.out ((Below.refl _ _).alloc (Nat.le_refl _) _)) hle).mono ?_
        rintro e w' ⟨rfl, rfl⟩
        go_wp2_with fail
        go_ret2
        exact ⟨rfl, HB.out.alloc HB.out.size _⟩
      replace hle : (Lib.byteCells (text s k)).length ≤ 20000 := by omega
      go_wp2_with fail
      refine (full_no w.heap.size w1.heap.size _ _ (Built.below HL.out ((Below.refl _ _).alloc (Nat.le_refl _) _)) hle).mono ?_
      rintro e w' ⟨rfl, rfl⟩
      go_wp2_with fail
      refine (method_points _ _).mono ?_
      rintro e w' ⟨rfl, rfl⟩
      go_wp2_with fail
      refine (points_any w.heap.size w1.heap.size nb _ s _ (Built.below HL.out ((Below.refl _ _).alloc (Nat.le_refl _) _)) hg.le hle ?room ?cell ?lt).mono ?_
      case room => have := HB.out.size; simp; omega
      case cell => exact (World.cell?_alloc_lt wr _ ⟨nb, 0, none⟩ hnl).trans h1
      case lt => simp; omega
      rintro e w2 ⟨rfl, h2, hb2⟩
      have hb3 : Below w.heap.size w w2 := (HB.out.alloc HB.out.size _).trans hb2
      have hlen : (Lib.byteCells (text s k) ++ Lib.strCells (pre ++ s)).length + (⟨#[59, 10]⟩ : ByteArray).size ≤ 140737488355328 := by
        have hps := pre_size s
        have hsl := hg.le
        rw [List.length_append, Lib.strCells_length, hps]
        have : (⟨#[59, 10]⟩ : ByteArray).size = 2 := rfl
        omega
      have HN := Lib.hid hlen
      have H2 := Lib.hid h2
      have H3 := Lib.hid hb3
      clear hlen h2 hb2 hb3
      go_wp2_with fail
      refine (writeString_any w.heap.size w1.heap.size _ _ _ (.inr H2.out) HN.out H3.out.size).mono ?_
      rintro e w3 ⟨rfl, h4, hb4⟩
      rw [text_cells] at h4
      have hrel2 : Below w.heap.size w w3 ∧ Built w.heap.size w1.heap.size s (k + 1) w3 := ⟨H3.out.trans hb4, .inr h4, fun h0 => absurd h0 (by omega)⟩
      have HR := Lib.hid hrel2
      clear h4 hb4 hrel2
      go_wp2_with fail
      go_roundw
      case rel => exact ⟨k + 1, by omega, by go_num, HR.out⟩
      case measure => simp [intOf]; omega
    · obtain rfl : k = n := by omega
      have hle : 20000 < (Lib.byteCells (text s k)).length := by
        rw [Lib.byteCells_length]
        exact HF.out
      go_wp2_with fail
      refine (result_full w.heap.size w1.heap.size _ _ HL.out hle).mono ?_
      rintro e w' ⟨rfl, rfl⟩
      go_wp2_with fail
      go_ret2
      exact ⟨rfl, HB.out⟩
end Go.Proofs.Ythdjkcnofdgefaa
