/-
  Walks: package fifo.
-/
import Derived.Test.YtefoldehejbiiaaGreatM31

set_option linter.unusedSimpArgs false
set_option linter.unusedVariables false
namespace Go.Proofs.YtefoldehejbiiaaGreat
open Go.RowKit Lich

def FifoBlk (ring : List Int) (fr n : Int) : Array Value := (ring.map (Value.int .i64) ++ [Value.int .i64 fr, Value.int .i64 n]).toArray

/-- A queue stands at block f. -/
def FifoIs (w : World) (f : Nat) (xs : List Int) : Prop :=
  ∃ (ring : List Int) (fr : Nat), ring.length = 16 ∧ fr < 16 ∧ xs.length ≤ 16 ∧ w.heap[f]? = some (.cells (FifoBlk ring fr xs.length) 126 (0, 0)) ∧ ∀ i, i < xs.length → ring.getD ((fr + i) % 16) 0 = xs.getD i 0

theorem FifoIs.keep {R : Nat → Prop} {w w' : World} {f : Nat} {xs : List Int} (h : FifoIs w f xs) (hk : Kept R w w') (hR : ¬ R f) : FifoIs w' f xs := by
  obtain ⟨ring, fr, h1, h2, h3, h4, h5⟩ := h
  exact ⟨ring, fr, h1, h2, h3, blk_kept hk h4 hR, h5⟩
theorem FifoIs.lt {w : World} {f : Nat} {xs : List Int} (h : FifoIs w f xs) : f < w.heap.size := by
  obtain ⟨_, _, _, _, _, h4, _⟩ := h
  exact lt_of_block h4
theorem FifoIs.blk {w : World} {f : Nat} {xs : List Int} (h : FifoIs w f xs) : ∃ cs, w.heap[f]? = some (.cells cs 126 (0, 0)) := by
  obtain ⟨_, _, _, _, _, h4, _⟩ := h
  exact ⟨_, h4⟩

theorem FifoBlk_ring {ring : List Int} (hr : ring.length = 16) (fr n : Int) {i : Nat} (hi : i < 16) : (FifoBlk ring fr n)[i]? = some (.int .i64 (ring.getD i 0)) := by
  unfold FifoBlk
  simp [List.getElem?_append, hr, hi, List.getD]
theorem FifoBlk_from {ring : List Int} (hr : ring.length = 16) (fr n : Int) : (FifoBlk ring fr n)[16]? = some (.int .i64 fr) := by
  unfold FifoBlk
  simp [List.getElem?_append, hr]
theorem FifoBlk_many {ring : List Int} (hr : ring.length = 16) (fr n : Int) : (FifoBlk ring fr n)[17]? = some (.int .i64 n) := by
  unfold FifoBlk
  simp [List.getElem?_append, hr]
theorem FifoBlk_setRing {ring : List Int} (hr : ring.length = 16) (fr n x : Int) {i : Nat} (hi : i < 16) : (FifoBlk ring fr n).setIfInBounds i (.int .i64 x) = FifoBlk (ring.set i x) fr n := by
  unfold FifoBlk
  simp only [List.setIfInBounds_toArray]
  rw [List.set_append_left _ _ (by simpa [hr] using hi), List.map_set]
theorem FifoBlk_setFrom {ring : List Int} (hr : ring.length = 16) (fr n x : Int) : (FifoBlk ring fr n).setIfInBounds 16 (.int .i64 x) = FifoBlk ring x n := by
  unfold FifoBlk
  simp only [List.setIfInBounds_toArray]
  rw [List.set_append_right _ _ (by simp [hr])]
  simp [hr]
theorem FifoBlk_setMany {ring : List Int} (hr : ring.length = 16) (fr n x : Int) : (FifoBlk ring fr n).setIfInBounds 17 (.int .i64 x) = FifoBlk ring fr x := by
  unfold FifoBlk
  simp only [List.setIfInBounds_toArray]
  rw [List.set_append_right _ _ (by simp [hr])]
  simp [hr]

def ring0 : List Int := List.replicate 16 0

theorem fifoNew_calls (w : World) : Calls Tryz.prog 38 #[] w fun e w' => e = .returned (.pointer (some ⟨w.heap.size, 0, none⟩)) ∧ w.alloc (.cells (FifoBlk ring0 0 0) 126) = w' := by
  go_enter Tryz.func38, Tryz.ntmps38
  go_wp2
  go_ret
  exact ⟨rfl, rfl⟩

theorem FifoIs.new (w : World) : FifoIs (w.alloc (.cells (FifoBlk ring0 0 0) 126)) w.heap.size [] :=
  ⟨ring0, 0, rfl, by decide, by simp, blk_new _ _ _ rfl, by simp⟩

theorem fifoLen_calls {w : World} {f : Nat} {xs : List Int} (h : FifoIs w f xs) : Calls Tryz.prog 42 #[.pointer (some ⟨f, 0, none⟩)] w fun e w' => e = .returned (.int .i64 xs.length) ∧ w = w' := by
  obtain ⟨ring, fr, h1, h2, h3, h4, h5⟩ := h
  have c17 : w.cell? ⟨f, 17, none⟩ = some (.int .i64 xs.length) := (blk_cell h4).trans (FifoBlk_many h1 _ _)
  clear h4 h5
  go_enter Tryz.func42, Tryz.ntmps42
  go_wp2
  go_ret
  exact ⟨rfl, rfl⟩

def Pushed (f : Nat) (xs : List Int) (b : Int) (w : World) (e : Ending) (w' : World) : Prop :=
  e = .returned (.int .i64 (if xs.length = 16 then 801 else 0)) ∧ FifoIs w' f (if xs.length = 16 then xs else xs ++ [b]) ∧ Kept (fun k => k = f) w w'

set_option maxRecDepth 100000 in
theorem fifoPush_calls {w : World} {f : Nat} {xs : List Int} (h : FifoIs w f xs) (b : Int) : Calls Tryz.prog 41 #[.pointer (some ⟨f, 0, none⟩), .int .i64 b] w (Pushed f xs b w) := by
  unfold Pushed
  have hh := Lib.hid h
  obtain ⟨ring, fr, h1, h2, h3, h4, h5⟩ := h
  have c17 : w.cell? ⟨f, 17, none⟩ = some (.int .i64 xs.length) := (blk_cell h4).trans (FifoBlk_many h1 _ _)
  by_cases hn : xs.length = 16
  · have b17 : ((xs.length : Int) == 16) = true := by simp [hn]
    rw [if_pos hn, if_pos hn]
    clear h4 h5 hn
    go_enter Tryz.func41, Tryz.ntmps41
    go_wp2
    go_ret
    exact ⟨rfl, hh.out, Kept.refl _ _⟩
  · have b17 : ((xs.length : Int) == 16) = false := by simp; omega
    rw [if_neg hn, if_neg hn]
    have c16 : w.cell? ⟨f, 16, none⟩ = some (.int .i64 fr) := (blk_cell h4).trans (FifoBlk_from h1 _ _)
    obtain ⟨k, hk, hk16⟩ : ∃ k, k = (fr + xs.length) % 16 ∧ k < 16 := ⟨_, rfl, by omega⟩
    have ck : w.cell? ⟨f, k, none⟩ = some (.int .i64 (ring.getD k 0)) := (blk_cell h4).trans (FifoBlk_ring h1 _ _ hk16)
    have hf : ∀ i, w.frozen? ⟨f, i, none⟩ = false := fun i => blk_free h4
    have e1 : ((fr : Int) + (xs.length : Int)) % 16 = (k : Int) := by omega
    have b1 : (0 : Int) ≤ (k : Int) := by omega
    have b2 : (k : Int) < 16 := by omega
    have hnew : FifoIs ((w.setCell ⟨f, k, none⟩ (.int .i64 b)).setCell ⟨f, 17, none⟩ (.int .i64 ((xs.length : Int) + 1))) f (xs ++ [b]) := by
      refine ⟨ring.set k b, fr, by simp [h1], h2, by simp; omega, ?_, fun i hi => ?_⟩
      · rw [blk_set (blk_set h4 _), FifoBlk_setRing h1 _ _ _ hk16, FifoBlk_setMany (by simp [h1])]
        simp
      · simp only [List.length_append, List.length_singleton] at hi
        by_cases hlt : i < xs.length
        · rw [show (xs ++ [b]).getD i 0 = xs.getD i 0 by simp [List.getD, List.getElem?_append, hlt], ← h5 i hlt]
          have hne : k ≠ (fr + i) % 16 := by omega
          simp [List.getD, List.getElem?_set, hne]
        · obtain rfl : i = xs.length := by omega
          rw [← hk]
          simp [List.getD, List.getElem?_set, h1, hk16]
    have hkept : Kept (fun k => k = f) w ((w.setCell ⟨f, k, none⟩ (.int .i64 b)).setCell ⟨f, 17, none⟩ (.int .i64 ((xs.length : Int) + 1))) :=
      ((Kept.refl (fun k => k = f) w).setCell (p := ⟨f, k, none⟩) (.inl rfl) _).setCell (p := ⟨f, 17, none⟩) (.inl rfl) _
    have HN := Lib.hid hnew
    have HK := Lib.hid hkept
    have hl : xs.length < 16 := by omega
    clear hnew hkept h4 h5 h1 hk hn hh
    generalize xs.length = n at *
    go_enter Tryz.func41, Tryz.ntmps41
    go_wp2_with fail
    go_region
    go_wp2_with fail
    go_ret
    exact ⟨rfl, HN.out.keep ((Kept.refl (fun _ => False) _).drew) (fun e => e), HK.out.drew⟩

def Popped (f : Nat) (xs : List Int) (w : World) (e : Ending) (w' : World) : Prop :=
  e = .returned (.tuple #[.int .i64 (xs.headD 0), .int .i64 (if xs = [] then 800 else 0)]) ∧ FifoIs w' f xs.tail ∧ Kept (fun k => k = f) w w'

set_option maxRecDepth 100000 in
theorem fifoPop_calls {w : World} {f : Nat} {xs : List Int} (h : FifoIs w f xs) : Calls Tryz.prog 43 #[.pointer (some ⟨f, 0, none⟩)] w (Popped f xs w) := by
  unfold Popped
  have hh := Lib.hid h
  obtain ⟨ring, fr, h1, h2, h3, h4, h5⟩ := h
  have c17 : w.cell? ⟨f, 17, none⟩ = some (.int .i64 xs.length) := (blk_cell h4).trans (FifoBlk_many h1 _ _)
  cases xs with
  | nil =>
    simp only [List.length_nil, Int.ofNat_zero, Int.natCast_zero] at c17
    clear h4 h5
    go_enter Tryz.func43, Tryz.ntmps43
    go_wp2
    go_ret2
    exact ⟨rfl, hh.out, Kept.refl _ _⟩
  | cons x xs =>
    simp only [List.length_cons, Int.natCast_add, Int.natCast_one] at c17 h3 h5
    simp only [List.headD_cons, List.tail_cons, reduceCtorEq, if_false]
    have c16 : w.cell? ⟨f, 16, none⟩ = some (.int .i64 fr) := (blk_cell h4).trans (FifoBlk_from h1 _ _)
    have hx : ring.getD fr 0 = x := by
      have := h5 0 (by omega)
      rw [show (fr + 0) % 16 = fr by omega] at this
      simpa using this
    have ck : w.cell? ⟨f, fr, none⟩ = some (.int .i64 x) := by rw [← hx]; exact (blk_cell h4).trans (FifoBlk_ring h1 _ _ h2)
    have hf : ∀ i, w.frozen? ⟨f, i, none⟩ = false := fun i => blk_free h4
    have e1 : ((fr : Int) + 1) % 16 = (((fr + 1) % 16 : Nat) : Int) := by omega
    have b0 : ((xs.length : Int) + 1 == 0) = false := by simp; omega
    have b1 : (0 : Int) ≤ (fr : Int) := by omega
    have b2 : (fr : Int) < 16 := by omega
    have hnew : FifoIs ((w.setCell ⟨f, 16, none⟩ (.int .i64 (((fr + 1) % 16 : Nat) : Int))).setCell ⟨f, 17, none⟩ (.int .i64 xs.length)) f xs := by
      refine ⟨ring, (fr + 1) % 16, h1, by omega, by omega, ?_, fun i hi => ?_⟩
      · rw [blk_set (blk_set h4 _), FifoBlk_setFrom h1, FifoBlk_setMany h1]
      · have := h5 (i + 1) (by omega)
        rw [show ((fr + 1) % 16 + i) % 16 = (fr + (i + 1)) % 16 by omega]
        simpa using this
    have hkept : Kept (fun k => k = f) w ((w.setCell ⟨f, 16, none⟩ (.int .i64 (((fr + 1) % 16 : Nat) : Int))).setCell ⟨f, 17, none⟩ (.int .i64 xs.length)) :=
      ((Kept.refl (fun k => k = f) w).setCell (p := ⟨f, 16, none⟩) (.inl rfl) _).setCell (p := ⟨f, 17, none⟩) (.inl rfl) _
    have HN := Lib.hid hnew
    have HK := Lib.hid hkept
    have hl : xs.length < 16 := by omega
    clear hnew hkept h4 h5 h1 hx hh h3
    generalize (fr + 1) % 16 = k at *
    generalize xs.length = n at *
    go_enter Tryz.func43, Tryz.ntmps43
    go_wp2_with fail
    go_region
    go_wp2_with fail
    go_ret2
    exact ⟨rfl, HN.out.keep ((Kept.refl (fun _ => False) _).drew) (fun e => e), HK.out.drew⟩
end Go.Proofs.YtefoldehejbiiaaGreat
