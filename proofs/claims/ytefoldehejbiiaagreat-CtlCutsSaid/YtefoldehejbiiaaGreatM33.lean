/-
  Walks: package table: what a command is like; may it have so many data?; a command as phases.
-/
import Derived.Test.YtefoldehejbiiaaGreatM32
import Derived.Test.YtefoldehejbiiaaGreatM16

namespace Go.Proofs.YtefoldehejbiiaaGreat
open Go.RowKit Lich

/-- The cells of a result that is a command, behind new blocks. -/
theorem six_far {w w1 : World} {a0 a1 a2 a3 a4 a5 : Value} (hb : Below (w.alloc (.cells #[a0, a1, a2, a3, a4, a5] 94)).heap.size (w.alloc (.cells #[a0, a1, a2, a3, a4, a5] 94)) w1) :
    (∀ o, (w1.alloc o).heap[w.heap.size]? = some (.cells #[a0, a1, a2, a3, a4, a5] 94 (0, 0))) ∧ (∀ o, (w1.alloc o).cell? ⟨w.heap.size, 0, none⟩ = some a0) ∧ (∀ o, (w1.alloc o).cell? ⟨w.heap.size, 1, none⟩ = some a1) ∧ (∀ o, (w1.alloc o).cell? ⟨w.heap.size, 2, none⟩ = some a2) ∧ (∀ o, (w1.alloc o).cell? ⟨w.heap.size, 3, none⟩ = some a3) ∧ (∀ o, (w1.alloc o).cell? ⟨w.heap.size, 4, none⟩ = some a4) ∧ (∀ o, (w1.alloc o).cell? ⟨w.heap.size, 5, none⟩ = some a5) ∧
    (∀ o i, (w1.alloc o).frozen? ⟨w.heap.size, i, none⟩ = false) := by
  have hr : ∀ o, (w1.alloc o).heap[w.heap.size]? = some (.cells #[a0, a1, a2, a3, a4, a5] 94 (0, 0)) := fun o => blk_alloc (by rw [hb.block _ (by simp)]; exact blk_new _ _ _ rfl) _
  exact ⟨hr, fun o => (six_cells (hr o)).1, fun o => (six_cells (hr o)).2.1, fun o => (six_cells (hr o)).2.2.1, fun o => (six_cells (hr o)).2.2.2.1, fun o => (six_cells (hr o)).2.2.2.2.1, fun o => (six_cells (hr o)).2.2.2.2.2, fun o i => blk_free (hr o)⟩

theorem six_set' {W : World} {r : Nat} {b0 b1 b2 b3 b4 b5 : Value} (hr : W.heap[r]? = some (.cells #[b0, b1, b2, b3, b4, b5] 94 (0, 0))) (a0 a1 a2 a3 a4 a5 : Value) :
    ((((((W.setCell ⟨r, 0, none⟩ a0).setCell ⟨r, 1, none⟩ a1).setCell ⟨r, 2, none⟩ a2).setCell ⟨r, 3, none⟩ a3).setCell ⟨r, 4, none⟩ a4).setCell ⟨r, 5, none⟩ a5).heap[r]? = some (.cells #[a0, a1, a2, a3, a4, a5] 94 (0, 0)) := by
  have h := blk_set (i := 5) (blk_set (i := 4) (blk_set (i := 3) (blk_set (i := 2) (blk_set (i := 1) (blk_set (i := 0) hr a0) a1) a2) a3) a4) a5
  simp only [List.setIfInBounds_toArray, List.set_cons_zero, List.set_cons_succ] at h
  exact h
theorem six_below' {w W : World} {r : Nat} (h : Below w.heap.size w W) (hr : w.heap.size ≤ r) (a0 a1 a2 a3 a4 a5 : Value) :
    Below w.heap.size w ((((((W.setCell ⟨r, 0, none⟩ a0).setCell ⟨r, 1, none⟩ a1).setCell ⟨r, 2, none⟩ a2).setCell ⟨r, 3, none⟩ a3).setCell ⟨r, 4, none⟩ a4).setCell ⟨r, 5, none⟩ a5) :=
  (((((h.setCell (p := ⟨r, 0, none⟩) hr _).setCell (p := ⟨r, 1, none⟩) hr _).setCell (p := ⟨r, 2, none⟩) hr _).setCell (p := ⟨r, 3, none⟩) hr _).setCell (p := ⟨r, 4, none⟩) hr _).setCell (p := ⟨r, 5, none⟩) hr _

set_option maxRecDepth 100000 in
set_option maxHeartbeats 1000000 in
theorem find_calls (b : Int) (w : World) :
    Calls Tryz.prog 44 #[.int .i64 b] w fun e w' => e = .returned (.tuple #[opVal ((opOf b).getD {}), .int .i64 (if (opOf b).isSome then 0 else 900)]) ∧ Below w.heap.size w w' := by
  have hc := opOf_calls b (w.alloc (.cells #[.int .i64 0, .int .i64 0, .bool false, .int .i64 0, .int .i64 0, .bool false] 94))
  cases ho : opOf b with
  | none =>
    rw [ho] at hc
    simp only [Option.getD_none, Option.isSome_none, Bool.false_eq_true, ↓reduceIte, opVal] at hc ⊢
    have HC := Lib.hid hc
    clear hc ho
    go_enter Tryz.func44, Tryz.ntmps44
    go_wp2_with fail
    refine HC.out.mono ?_
    rintro e w1 ⟨rfl, hb⟩
    have hB : Below w.heap.size w w1 := (below_new (Below.refl _ w) _).trans (hb.mono (by simp))
    obtain ⟨hr, r0, r1, r2, r3, r4, r5, rf⟩ := six_far hb
    have HB := Lib.hid hB
    have HR := Lib.hid hr
    clear hb hB hr
    go_wp2_with fail
    exact bodyPost_ret (run_results_op rfl rfl (six_set' (HR.out _) _ _ _ _ _ _)) rfl ⟨rfl, six_below' (below_new HB.out _) (Nat.le_refl _) _ _ _ _ _ _⟩
  | some o =>
    rw [ho] at hc
    simp only [Option.getD_some, Option.isSome_some, ↓reduceIte, opVal] at hc ⊢
    have HC := Lib.hid hc
    obtain ⟨y0, y1, y2, y3, y4, y5⟩ := o
    clear hc ho
    simp only at HC ⊢
    go_enter Tryz.func44, Tryz.ntmps44
    go_wp2_with fail
    refine HC.out.mono ?_
    rintro e w1 ⟨rfl, hb⟩
    have hB : Below w.heap.size w w1 := (below_new (Below.refl _ w) _).trans (hb.mono (by simp))
    obtain ⟨hr, r0, r1, r2, r3, r4, r5, rf⟩ := six_far hb
    have HB := Lib.hid hB
    have HR := Lib.hid hr
    clear hb hB hr
    go_wp2_with fail
    exact bodyPost_ret (run_results_op rfl rfl (six_set' (HR.out _) _ _ _ _ _ _)) rfl ⟨rfl, six_below' (below_new HB.out _) (Nat.le_refl _) _ _ _ _ _ _⟩
end Go.Proofs.YtefoldehejbiiaaGreat
