/-
  Walks: a command's byte.
-/
import Derived.Test.YtefoldehejbiiaaGreatM06
import Derived.StillTailTactics
import Derived.Deep.RegionHeld3
import Derived.Deep.RegionWith
import Derived.BigRegion

namespace Go.Proofs.YtefoldehejbiiaaGreat
open Go.RowKit Lich

theorem opOf_byte {n : Int} {o : OpD} (h : opOf n = some o) : o.byte = n := by
  unfold opOf at h
  repeat' split at h
  all_goals first | (simp only [Option.some.injEq] at h; subst h; first | rfl | (simp; omega)) | simp at h

section
variable {w : World} {b : Nat} {c : Chip} {S : Nat → Prop} {md : Bool} {jv bv dv : Value}

def opZero : Value := .agg #[.int .i64 0, .int .i64 0, .bool false, .int .i64 0, .int .i64 0, .bool false]
def opArr (o : OpD) : Array Value := #[.int .i64 o.byte, .int .i64 o.addr, .bool o.mode, .int .i64 o.dummy, .int .i64 o.data, .bool o.inn]

theorem six_cells {W : World} {g : Nat} {a0 a1 a2 a3 a4 a5 : Value} (h : W.heap[g]? = some (.cells #[a0, a1, a2, a3, a4, a5] 94 (0, 0))) :
    W.cell? ⟨g, 0, none⟩ = some a0 ∧ W.cell? ⟨g, 1, none⟩ = some a1 ∧ W.cell? ⟨g, 2, none⟩ = some a2 ∧ W.cell? ⟨g, 3, none⟩ = some a3 ∧ W.cell? ⟨g, 4, none⟩ = some a4 ∧ W.cell? ⟨g, 5, none⟩ = some a5 :=
  ⟨(blk_cell h).trans rfl, (blk_cell h).trans rfl, (blk_cell h).trans rfl, (blk_cell h).trans rfl, (blk_cell h).trans rfl, (blk_cell h).trans rfl⟩

/-- A command that lies in a result's own cells, and a result beside it. -/
theorem run_results_op {fn : Func} {W : World} {tmps : Array Value} {t u : Tmp} {r : Nat} {a0 a1 a2 a3 a4 a5 : Value} (hf : fn.results = #[.cell t 94, .tmp u]) (ht : tmps.getD t undef = .pointer (some ⟨r, 0, none⟩))
    (hr : W.heap[r]? = some (.cells #[a0, a1, a2, a3, a4, a5] 94 (0, 0))) : (results fn tmps).run Tryz.prog W = .ok (.tuple #[.agg #[a0, a1, a2, a3, a4, a5], tmps.getD u undef]) W := by
  obtain ⟨r0, r1, r2, r3, r4, r5⟩ := six_cells hr
  have ht' : tmps[t]?.getD undef = .pointer (some ⟨r, 0, none⟩) := by simpa using ht
  simp [results, hf, ht', go_sem, r0, r1, r2, r3, r4, r5]

theorem six_set {W : World} {r : Nat} {b0 b1 b2 b3 b4 b5 : Value} (hr : W.heap[r]? = some (.cells #[b0, b1, b2, b3, b4, b5] 94 (0, 0))) (a0 a1 a2 a3 a4 a5 : Value) :
    ((((((W.setCell ⟨r, 0, none⟩ a0).setCell ⟨r, 1, none⟩ a1).setCell ⟨r, 2, none⟩ a2).setCell ⟨r, 3, none⟩ a3).setCell ⟨r, 4, none⟩ a4).setCell ⟨r, 5, none⟩ a5).drew.heap[r]? = some (.cells #[a0, a1, a2, a3, a4, a5] 94 (0, 0)) := by
  have h := blk_set (i := 5) (blk_set (i := 4) (blk_set (i := 3) (blk_set (i := 2) (blk_set (i := 1) (blk_set (i := 0) hr a0) a1) a2) a3) a4) a5
  simp only [List.setIfInBounds_toArray, List.set_cons_zero, List.set_cons_succ] at h
  rw [show ∀ X : World, X.drew.heap = X.heap from fun _ => rfl]
  exact h

theorem six_below {w W : World} {r : Nat} (h : Below w.heap.size w W) (hr : w.heap.size ≤ r) (a0 a1 a2 a3 a4 a5 : Value) :
    Below w.heap.size w ((((((W.setCell ⟨r, 0, none⟩ a0).setCell ⟨r, 1, none⟩ a1).setCell ⟨r, 2, none⟩ a2).setCell ⟨r, 3, none⟩ a3).setCell ⟨r, 4, none⟩ a4).setCell ⟨r, 5, none⟩ a5).drew :=
  ((((((h.setCell (p := ⟨r, 0, none⟩) hr _).setCell (p := ⟨r, 1, none⟩) hr _).setCell (p := ⟨r, 2, none⟩) hr _).setCell (p := ⟨r, 3, none⟩) hr _).setCell (p := ⟨r, 4, none⟩) hr _).setCell (p := ⟨r, 5, none⟩) hr _).drew

set_option maxRecDepth 100000 in
set_option maxHeartbeats 1000000 in
theorem known_calls (h : ChipIs w b c S md jv bv dv) (n : Int) :
    Calls Tryz.prog 114 #[.pointer (some ⟨b, 0, none⟩), .int .i64 n] w fun e w' =>
      e = .returned (.tuple #[opVal ((opOf n).getD {}), .bool ((opOf n).isSome && c.takes n)]) ∧ Below w.heap.size w w' := by
  have hc := opOf_calls n (w.alloc (.cells #[.int .i64 0, .int .i64 0, .bool false, .int .i64 0, .int .i64 0, .bool false] 94))
  have htk : ∀ (g : Nat) (W : World) (o : OpD), opOf n = some o → W.heap[g]? = some (.cells (opArr o) 94 (0, 0)) → Below w.heap.size w W →
      Calls Tryz.prog 130 #[.pointer (some ⟨b, 0, none⟩), .pointer (some ⟨g, 0, none⟩)] W fun e w' => e = .returned (.bool (c.takes n)) ∧ W = w' := fun g W o ho hg hB =>
    takes_calls (h.keep (R := fun _ => False) (Kept.of_below hB) (fun _ _ h => h)) g n ((blk_cell hg).trans (by rw [← opOf_byte ho]; rfl))
  have HT := Lib.hid htk
  clear htk h
  cases ho : opOf n with
  | none =>
    rw [ho] at hc
    simp only [Option.getD_none, Option.isSome_none, Bool.false_eq_true, ↓reduceIte, Bool.false_and, opVal] at hc ⊢
    have HC := Lib.hid hc
    clear hc ho HT
    go_enter Tryz.func114, Tryz.ntmps114
    go_wp2_with fail
    refine HC.out.mono ?_
    rintro e w1 ⟨rfl, hb⟩
    go_wp2_with fail
    have hB : Below w.heap.size w (w1.alloc (.cells #[.int .i64 0, .int .i64 0, .bool false, .int .i64 0, .int .i64 0, .bool false] 94)) :=
      below_new (((below_new (Below.refl _ w) _).trans (hb.mono (by simp)))) _
    have hr : (w1.alloc (.cells #[.int .i64 0, .int .i64 0, .bool false, .int .i64 0, .int .i64 0, .bool false] 94)).heap[w.heap.size]? = some (.cells #[.int .i64 0, .int .i64 0, .bool false, .int .i64 0, .int .i64 0, .bool false] 94 (0, 0)) :=
      blk_alloc (by rw [hb.block _ (by simp)]; exact blk_new _ _ _ rfl) _
    have ho : (w1.alloc (.cells #[.int .i64 0, .int .i64 0, .bool false, .int .i64 0, .int .i64 0, .bool false] 94)).heap[w1.heap.size]? = some (.cells #[.int .i64 0, .int .i64 0, .bool false, .int .i64 0, .int .i64 0, .bool false] 94 (0, 0)) := blk_new _ _ _ rfl
    clear hb
    generalize w1.alloc (.cells #[.int .i64 0, .int .i64 0, .bool false, .int .i64 0, .int .i64 0, .bool false] 94) = W at *
    generalize w1.heap.size = g at *
    obtain ⟨o0, o1, o2, o3, o4, o5⟩ := six_cells ho
    obtain ⟨r0, r1, r2, r3, r4, r5⟩ := six_cells hr
    have hf : ∀ i, W.frozen? ⟨w.heap.size, i, none⟩ = false := fun i => blk_free hr
    have KB := Lib.hid hB
    have HR := Lib.hid hr
    clear hr ho hB
    go_region
    go_wp2_with fail
    exact bodyPost_ret (run_results_op rfl rfl (six_set HR.out _ _ _ _ _ _)) rfl ⟨rfl, six_below KB.out (Nat.le_refl _) _ _ _ _ _ _⟩
  | some o =>
    rw [ho] at hc
    simp only [Option.getD_some, Option.isSome_some, ↓reduceIte, Bool.true_and, opVal] at hc ⊢
    have HC := Lib.hid hc
    have HO := Lib.hid ho
    clear hc ho
    generalize c.takes n = tk at *
    obtain ⟨y0, y1, y2, y3, y4, y5⟩ := o
    simp only at HC HO ⊢
    go_enter Tryz.func114, Tryz.ntmps114
    go_wp2_with fail
    refine HC.out.mono ?_
    rintro e w1 ⟨rfl, hb⟩
    go_wp2_with fail
    have hB : Below w.heap.size w (w1.alloc (.cells #[.int .i64 y0, .int .i64 y1, .bool y2, .int .i64 y3, .int .i64 y4, .bool y5] 94)) :=
      below_new (((below_new (Below.refl _ w) _).trans (hb.mono (by simp)))) _
    have hr : (w1.alloc (.cells #[.int .i64 y0, .int .i64 y1, .bool y2, .int .i64 y3, .int .i64 y4, .bool y5] 94)).heap[w.heap.size]? = some (.cells #[.int .i64 0, .int .i64 0, .bool false, .int .i64 0, .int .i64 0, .bool false] 94 (0, 0)) :=
      blk_alloc (by rw [hb.block _ (by simp)]; exact blk_new _ _ _ rfl) _
    have ho : (w1.alloc (.cells #[.int .i64 y0, .int .i64 y1, .bool y2, .int .i64 y3, .int .i64 y4, .bool y5] 94)).heap[w1.heap.size]? = some (.cells #[.int .i64 y0, .int .i64 y1, .bool y2, .int .i64 y3, .int .i64 y4, .bool y5] 94 (0, 0)) := blk_new _ _ _ rfl
    clear hb
    generalize w1.alloc (.cells #[.int .i64 y0, .int .i64 y1, .bool y2, .int .i64 y3, .int .i64 y4, .bool y5] 94) = W at *
    generalize w1.heap.size = g at *
    obtain ⟨o0, o1, o2, o3, o4, o5⟩ := six_cells ho
    obtain ⟨r0, r1, r2, r3, r4, r5⟩ := six_cells hr
    have hf : ∀ i, W.frozen? ⟨w.heap.size, i, none⟩ = false := fun i => blk_free hr
    have hcall := HT.out g W.drew ⟨y0, y1, y2, y3, y4, y5⟩ HO.out ho hB.drew
    have HK := Lib.hid hcall
    have KB := Lib.hid hB
    have HR := Lib.hid hr
    clear hr ho hcall HT hB
    go_region_with (go_at_call 130; refine HK.out.mono ?_; rintro e w' ⟨rfl, rfl⟩)
    all_goals
      go_wp2_with fail
      exact bodyPost_ret (run_results_op rfl rfl (six_set HR.out _ _ _ _ _ _)) rfl ⟨rfl, six_below KB.out (Nat.le_refl _) _ _ _ _ _ _⟩
end
end Go.Proofs.YtefoldehejbiiaaGreat
