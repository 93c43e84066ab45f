/- geoproverlaw18.PrinterLarge returns true for every pair of numbers, and leaves what was in memory as it was.
   Conditions: both numbers are of the kind uint16. -/
import Derived.Test.YthdjkcnofdgefaaText
import Derived.Deep.AppendLies
namespace Go.Proofs.Ythdjkcnofdgefaa
open Go.RowKit

/-! ### The names -/
def alpha : ByteArray := ⟨#[97, 98, 99, 100, 101, 102, 103, 104, 105, 106, 107, 108, 109, 110, 111, 112, 113, 114, 115, 116]⟩
def goodB (s : ByteArray) : Bool :=
  decide (1 ≤ s.data.size) && decide (s.data.size ≤ 20) && s.data.toList.all (fun c => decide (97 ≤ c.toNat) && decide (c.toNat ≤ 122)) && kws.all (fun q => !(q.data.toList == s.data.toList))
theorem goodB_names : ∀ m < 21, 1 ≤ m → goodB (alpha.extract 0 m) = true := by decide +kernel
theorem good_of {s : ByteArray} (h : goodB s = true) : GoodName s := by
  simp only [goodB, Bool.and_eq_true, decide_eq_true_eq, List.all_eq_true, Bool.not_eq_true'] at h
  obtain ⟨⟨⟨h1, h2⟩, h3⟩, h4⟩ := h
  refine ⟨h1, h2, fun i hi => ?_, fun k hk => ?_⟩
  · have := h3 s[i] (by
      have hi' : i < s.data.size := hi
      exact Array.getElem_mem_toList hi')
    omega
  · rw [ByteArray.toList_eq, ByteArray.toList_eq]
    have hl : k < kws.length := hk
    have hm : kw k ∈ kws := by
      unfold kw
      rw [List.getD_eq_getElem?_getD, List.getElem?_eq_getElem hl]
      exact List.getElem_mem hl
    exact h4 _ hm
theorem good_name (m : Nat) (h1 : 1 ≤ m) (h2 : m ≤ 20) : GoodName (alpha.extract 0 m) := good_of (goodB_names m (by omega) h1)
theorem name_size (m : Nat) (h2 : m ≤ 20) : (alpha.extract 0 m).size = m := by
  have : ∀ m < 21, (alpha.extract 0 m).size = m := by decide +kernel
  exact this m (by omega)

/-! ### The statements that the law lays -/
/-- The cells of a statement whose names lie in block nb. -/
def sc (nb : Nat) : List Value := [.int .i64 1, .slice (some ⟨nb, 0, none⟩) 1 1, .int .i64 0, .string ⟨#[]⟩, .bool false, .slice none 0 0, .slice none 0 0, .slice none 0 0, .int .i64 0, .int .i64 0]

/-- After j rounds: the program's variable is block w.heap.size; its slice is a row of j statements, each with its name in a block of its own. -/
def Rel (w : World) (s : ByteArray) (j : Nat) (wr : World) : Prop :=
  Below w.heap.size w wr ∧ ∃ (v : Value) (bl : List Nat), wr.heap[w.heap.size]? = some (.cells #[v] 25 (0, 0)) ∧ wr.ownsRow w.heap.size 37 10 v j (bl.flatMap sc) ∧ bl.length = j ∧
    ∀ nb ∈ bl, wr.heap[nb]? = some (.cells #[.string s] 9 (0, 0))

theorem Rel.start (w : World) (s : ByteArray) : Rel w s 0 (w.alloc (.cells #[.slice none 0 0] 25)) :=
  ⟨(Below.refl _ _).alloc (Nat.le_refl _) _, .slice none 0 0, [], heap_alloc_new w _, World.ownsRow_nil _ _ _ _, rfl, by simp⟩

theorem heap_lt {w : World} {i : Nat} {o : Obj} (h : w.heap[i]? = some o) : i < w.heap.size := by
  rcases Nat.lt_or_ge i w.heap.size with h' | h'
  · exact h'
  · simp [Array.getElem?_eq_none h'] at h

theorem row_ne {w : World} {B size : Nat} {e T : TypeId} {v : Value} {n : Nat} {xs : List Value} {b : Nat} {cs : Array Value} {fr : Nat × Nat} (hown : w.ownsRow B e size v n xs) (hb : w.heap[b]? = some (.cells cs T fr)) (hTe : T ≠ e) : v.ownBlock ≠ some b := by
  rcases hown.2 with ⟨rfl, _⟩ | ⟨g, cap, cur, rfl, _, hg, _⟩
  · simp [Value.ownBlock]
  · intro h
    simp only [Value.ownBlock, Option.some.injEq] at h
    subst h
    rw [hg] at hb
    simp only [Option.some.injEq, Obj.cells.injEq] at hb
    exact hTe hb.2.1.symm

theorem Rel.step {w wr w2 : World} {s : ByteArray} {j : Nat} {v v' : Value} {bl : List Nat} {O : Obj}
    (hb : Below w.heap.size w wr) (hp : wr.heap[w.heap.size]? = some (.cells #[v] 25 (0, 0))) (hown : wr.ownsRow w.heap.size 37 10 v j (bl.flatMap sc)) (hl : bl.length = j)
    (hbl : ∀ nb ∈ bl, wr.heap[nb]? = some (.cells #[.string s] 9 (0, 0)))
    (hown' : w2.ownsRow w.heap.size 37 10 v' (j + 1) (bl.flatMap sc ++ sc wr.heap.size)) (hg : ((wr.alloc (.cells #[.string s] 9)).alloc O).grownBy w2 v.ownBlock) :
    Rel w s (j + 1) (w2.setCell ⟨w.heap.size, 0, none⟩ v') := by
  have hz := hb.size
  have hsz : ((wr.alloc (.cells #[.string s] 9)).alloc O).heap.size = wr.heap.size + 2 := by simp
  have old : ∀ i o, wr.heap[i]? = some o → v.ownBlock ≠ some i → w2.heap[i]? = some o := fun i o hi hne => by
    have hlt := heap_lt hi
    rw [hg.block i (by rw [hsz]; omega) (fun e => hne e.symm), Lib.alloc_old _ _ i (by simp; omega), Lib.alloc_old _ _ i hlt]
    exact hi
  have hp2 : w2.heap[w.heap.size]? = some (.cells #[v] 25 (0, 0)) := old _ _ hp (row_ne hown hp (by decide))
  have new2 : w2.heap[wr.heap.size]? = some (.cells #[.string s] 9 (0, 0)) := by
    rw [hg.block wr.heap.size (by rw [hsz]; omega) ?_, Lib.alloc_old _ _ wr.heap.size (by simp)]
    · exact heap_alloc_new wr _
    · intro e
      have := (hown.lt _ e.symm).2
      omega
  have far : ∀ i, i ≠ w.heap.size → (w2.setCell ⟨w.heap.size, 0, none⟩ v').heap[i]? = w2.heap[i]? := fun i hi => Below.heap_setCell w2 ⟨w.heap.size, 0, none⟩ v' i hi
  refine ⟨?_, v', bl ++ [wr.heap.size], ?_, ?_, by simp [hl], ?_⟩
  · refine Below.setCell (p := ⟨w.heap.size, 0, none⟩) ?_ (Nat.le_refl _) _
    exact ((hb.alloc hz _).alloc (by simp; omega) _).grown hg (by rw [hsz]; omega) (fun k hk => (hown.lt k hk).1)
  · simp [World.setCell, Array.getElem?_modify, hp2]
  · rw [List.flatMap_append]
    have hc : ([wr.heap.size] : List Nat).flatMap sc = sc wr.heap.size := by simp
    rw [hc]
    refine hown'.kept (row := some w.heap.size) ⟨rfl, rfl, rfl, by simp [World.setCell], fun k _ hk => far k (fun e => hk (by simp [e]))⟩ (Or.inr ?_)
    exact row_ne hown' hp2 (by decide)
  · intro nb hnb
    rcases List.mem_append.1 hnb with hin | hin
    · have hx := hbl nb hin
      rw [far nb (fun e => by subst e; rw [hp] at hx; simp at hx)]
      exact old _ _ hx (row_ne hown hx (by decide))
    · have : nb = wr.heap.size := by simpa using hin
      subst this
      rw [far _ (by have := heap_lt hp; omega)]
      exact new2

theorem sc_length (nb : Nat) : (sc nb).length = 10 := rfl
theorem flat_at : ∀ (bl : List Nat) (i : Nat) (h : i < bl.length) (q : Nat), q < 10 → (bl.flatMap sc)[i * 10 + q]? = (sc bl[i])[q]?
  | nb :: r, 0, _, q, hq => by
    rw [List.flatMap_cons, List.getElem?_append_left (by rw [sc_length]; omega)]
    simp
  | nb :: r, i + 1, h, q, hq => by
    rw [List.flatMap_cons, List.getElem?_append_right (by rw [sc_length]; omega), sc_length]
    have := flat_at r i (by simpa using h) q hq
    rw [show (i + 1) * 10 + q - 10 = i * 10 + q from by omega, this]
    simp

theorem add_flat (g j : Nat) : (⟨g, 0, none⟩ : Addr).add j = ⟨g, j, none⟩ := by unfold Addr.add; split <;> simp_all

theorem stmts_of {wr : World} {B j : Nat} {v : Value} {bl : List Nat} {s : ByteArray} (hown : wr.ownsRow B 37 10 v j (bl.flatMap sc)) (hl : bl.length = j)
    (hbl : ∀ nb ∈ bl, wr.heap[nb]? = some (.cells #[.string s] 9 (0, 0))) :
    ∃ A c g, v = .slice A j c ∧ (0 < j → A = some ⟨g, 0, none⟩) ∧ ∀ i < j, StmtAt wr s g i := by
  rcases hown.2 with ⟨rfl, rfl⟩ | ⟨g, cap, cur, rfl, _, hg, _⟩
  · exact ⟨none, 0, 0, rfl, fun h => absurd h (by omega), fun i hi => absurd hi (by omega)⟩
  · refine ⟨some ⟨g, 0, none⟩, cap, g, rfl, fun _ => rfl, fun i hi => ⟨heap_lt hg, ?_⟩⟩
    have hi' : i < bl.length := by omega
    have hm := hbl bl[i] (List.getElem_mem hi')
    have hc : ∀ q u, q < 10 → (sc bl[i])[q]? = some u → wr.cell? ⟨g, i * 10 + q, none⟩ = some u := fun q u hq hu => by
      have h := hown.cells (g := g) rfl (i * 10 + q) u ((flat_at bl i hi' q hq).trans hu)
      rwa [add_flat] at h
    exact ⟨bl[i], heap_lt hm, Lib.cell_of_heap hm 0, hc 0 _ (by omega) rfl, hc 1 _ (by omega) rfl, hc 2 _ (by omega) rfl, hc 3 _ (by omega) rfl, hc 4 _ (by omega) rfl, hc 5 _ (by omega) rfl, hc 6 _ (by omega) rfl, hc 7 _ (by omega) rfl, hc 8 _ (by omega) rfl, hc 9 _ (by omega) rfl⟩

theorem sc_one (nb : Nat) : ∀ u ∈ sc nb, u.oneCell' = true := by
  intro u hu
  simp only [sc, List.mem_cons, List.not_mem_nil, or_false] at hu
  rcases hu with rfl | rfl | rfl | rfl | rfl | rfl | rfl | rfl | rfl | rfl <;> rfl

theorem info37 : (Try.prog.info? 37).map (fun i => (i.zero, i.size, i.bytes)) = some (some (.agg #[.int .i64 0, .slice none 0 0, .int .i64 0, .string ⟨#[]⟩, .bool false, .slice none 0 0, .slice none 0 0, .slice none 0 0, .int .i64 0, .int .i64 0]), 10, 152) := by kernel_rfl

set_option maxHeartbeats 1000000 in
theorem law_any (n k : Int) (w : World) (hn0 : 0 ≤ n) (hn1 : n ≤ 65535) (hk0 : 0 ≤ k) (hk1 : k ≤ 65535) :
    Calls Try.prog 3 #[.int .u16 n, .int .u16 k] w fun e w' => e = .returned (.bool true) ∧ Below w.heap.size w w' := by
  obtain ⟨i0, hi, hz0, hz1, hz2⟩ := info_parts info37
  have hg := good_name (1 + k % 20).toNat (by omega) (by omega)
  have hsz := name_size (1 + k % 20).toNat (by omega)
  have HI := Lib.hid (And.intro hi (And.intro hz0 (And.intro hz1 hz2)))
  have HZ := Lib.hid hsz
  clear hi hz0 hz1 hz2 hsz
  go_enter Try.func3, Try.ntmps3
  go_wp2_with fail
  obtain ⟨s, hs⟩ : ∃ s, s = alpha.extract 0 (1 + k % 20).toNat := ⟨_, rfl⟩
  obtain ⟨N, hN⟩ : ∃ N : Nat, n % 2500 = N := ⟨(n % 2500).toNat, by omega⟩
  rw [show ({ data := #[97, 98, 99, 100, 101, 102, 103, 104, 105, 106, 107, 108, 109, 110, 111, 112, 113, 114, 115, 116] } : ByteArray) = alpha from rfl, ← hs, hN]
  rw [← hs] at hg
  have hN1 : N < 2500 := by omega
  have HS := Lib.hid hs
  have HN := Lib.hid hN
  clear hs hN
  go_loopw [18] (fun t wr => ∃ j : Nat, j ≤ N ∧ t = .int .i64 j ∧ Rel w s j wr) (fun t _ => N - (intOf t).toNat)
  case atStart => exact ⟨0, by omega, rfl, Rel.start w s⟩
  case round =>
    obtain ⟨j, hj, rfl, hb, v, bl, hp, hown, hl, hbl⟩ := hrel
    have c0 : wr.cell? ⟨w.heap.size, 0, none⟩ = some v := Lib.cell_of_heap hp 0
    have f0 : wr.frozen? ⟨w.heap.size, 0, none⟩ = false := Lib.frozen_of_heap hp 0
    have hzz := hb.size
    have hPl := heap_lt hp
    by_cases hlt : j < N
    · obtain ⟨hi, hz0, hz1, hz2⟩ := HI.out
      have HX := Lib.hid (And.intro hb (And.intro hp (And.intro hown (And.intro hl hbl))))
      clear hb hp hl hbl
      go_wp2_with (at_builtin; refine wpList_append_own _ rfl _ _ 23 rfl w.heap.size 37 i0 _ 10 152 Try.underlying23 hi hz0 hz1 hz2 rfl (by decide) _ _ _ rfl ((hown.alloc _).alloc _) ⟨wr.heap.size + 1, 0, none⟩ 1 1 (sc wr.heap.size) rfl rfl ?c1 ?c2 ?c3 ?c4 ?c5 ?_)
      case c1 =>
        refine World.news_of_block (cs := (sc wr.heap.size).toArray) (t := 37) (fr := (0, 0)) ?_
        have h := heap_alloc_new (wr.alloc (.cells #[.string s] 9)) (.cells (sc wr.heap.size).toArray 37)
        have h1 : (wr.alloc (.cells #[.string s] 9)).heap.size = wr.heap.size + 1 := by simp
        rw [h1] at h
        exact h
      case c2 => exact sc_one _
      case c3 => unfold maxLen; omega
      case c4 => omega
      case c5 => simp; omega
      intro v' w2 hown' hg2 _
      obtain ⟨hb, hp, hown, hl, hbl⟩ := HX.out
      have hr := Rel.step hb hp hown hl hbl hown' hg2
      have hp2 : w2.heap[w.heap.size]? = some (.cells #[v] 25 (0, 0)) := by
        rw [hg2.block w.heap.size (by simp; omega) (fun e => row_ne hown hp (by decide) e.symm), Lib.alloc_old _ _ _ (by simp; omega), Lib.alloc_old _ _ _ hPl]
        exact hp
      have d0 : w2.cell? ⟨w.heap.size, 0, none⟩ = some v := Lib.cell_of_heap hp2 0
      have g0 : w2.frozen? ⟨w.heap.size, 0, none⟩ = false := Lib.frozen_of_heap hp2 0
      have HR := Lib.hid hr
      obtain ⟨ao, n', cap, rfl⟩ : ∃ ao n' cap, v' = .slice ao n' cap := by
        rcases hown'.2 with ⟨hv, _⟩ | ⟨g, cap, cur, hv, _⟩
        · exact ⟨_, _, _, hv⟩
        · exact ⟨_, _, _, hv⟩
      clear hr hb hp hown hl hbl hown' hg2 hp2
      go_wp2_with fail
      go_roundw
      case rel => exact ⟨j + 1, by omega, by go_num, HR.out⟩
      case measure => simp [intOf]; omega
    · obtain ⟨A, c, g, rfl, hA, HT⟩ := stmts_of hown hl hbl
      have hw : wrap64 ((j : Int) * wrap64 (9 + (s.size : Int))) = ((text s j).length : Int) := by
        have hs20 := hg.le
        have hm : j * (9 + s.size) ≤ 2500 * 29 := Nat.mul_le_mul (by omega) (by omega)
        rw [text_length, show wrap64 (9 + (s.size : Int)) = ((9 + s.size : Nat) : Int) from by unfold wrap64; omega]
        have he : (j : Int) * ((9 + s.size : Nat) : Int) = ((j * (9 + s.size) : Nat) : Int) := by rw [Int.natCast_mul]
        rw [he]
        generalize j * (9 + s.size) = q at hm
        unfold wrap64
        omega
      have HW := Lib.hid hw
      have HT' := Lib.hid HT
      have HB := Lib.hid hb
      clear hw HT hb hp hown hl hbl
      go_wp2_with fail
      rw [HW.out]
      by_cases hL : 20000 < (text s j).length
      · refine (program_large s A g j c _ hg (by omega) hA HT'.out hL).mono ?_
        rintro e w2 ⟨rfl, hb2⟩
        have HB2 := Lib.hid (HB.out.trans (hb2.mono hzz))
        clear hb2
        generalize (text s j).length = q at hL
        have hd : decide (20000 < (q : Int)) = true := by simp; omega
        go_wp2_with fail
        go_ret
        exact ⟨rfl, HB2.out⟩
      · refine (program_fits s A g j c _ hg (by omega) hA HT'.out (by omega)).mono ?_
        rintro e w2 ⟨rfl, hb2⟩
        have HB2 := Lib.hid (HB.out.trans (hb2.mono hzz))
        clear hb2
        generalize text s j = tx at hL
        have hd : decide (20000 < (tx.length : Int)) = false := by simp; omega
        go_wp2_with fail
        go_ret
        exact ⟨rfl, HB2.out⟩
end Go.Proofs.Ythdjkcnofdgefaa
