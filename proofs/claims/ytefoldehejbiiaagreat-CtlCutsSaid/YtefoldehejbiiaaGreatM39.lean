/-
  Walks: the phases by which a read goes on no more, made once.
-/
import Derived.Test.YtefoldehejbiiaaGreatM37
import Derived.Test.YtefoldehejbiiaaGreatM07

namespace Go.Proofs.YtefoldehejbiiaaGreat
open Go.RowKit Lich

section
variable {w : World} {q b fo fi : Nat} {k : Ctl} {md : Bool} {lv : Value} {gl gb : Nat} {Sc : Nat → Prop}

theorem CtlMem.leave_phases (h : CtlMem w q b fo fi k true lv gl gb Sc) : PhasesIs w lv Lich.leaving Sc := by
  obtain ⟨rfl, h1, h2⟩ := h.leaves rfl
  refine ⟨gl, 0, 1, rfl, fun i hi => ?_⟩
  obtain rfl : i = 0 := by simp [Lich.leaving] at hi; omega
  refine ⟨(blk_cell h1).trans rfl, ⟨_, (blk_cell h1).trans rfl, .inr ⟨gb, 0, 4, by simp [Lich.leaving], rfl, lt_of_block h2, (h.lS rfl).2, fun j hj => ?_⟩⟩, (blk_cell h1).trans rfl, (blk_cell h1).trans rfl, lt_of_block h1, (h.lS rfl).1⟩
  have hj4 : j < 4 := by simpa [Lich.leaving] using hj
  obtain rfl | rfl | rfl | rfl : j = 0 ∨ j = 1 ∨ j = 2 ∨ j = 3 := by omega
  all_goals exact (blk_cell h2).trans rfl

def LeftAt (q : Nat) (u : World) : World :=
  (((u.setCell ⟨q, 13, none⟩ (.slice (some ⟨u.heap.size + 1, 0, none⟩) 1 1)).alloc (.cells #[.int .i64 0, .int .i64 0, .int .i64 0, .int .i64 0] 3)).alloc (.cells #[.int .i64 4, .slice (some ⟨u.heap.size, 0, none⟩) 4 4, .int .i64 0, .int .i64 0] 116)).drew

set_option maxRecDepth 100000 in
theorem leaveFn_calls (q gp : Nat) (w : World) (v : Value) (hg : w.cell? ⟨gp, 0, none⟩ = some (.pointer (some ⟨q, 0, none⟩))) (hs : w.cell? ⟨q, 13, none⟩ = some v) (hf : w.frozen? ⟨q, 13, none⟩ = false) :
    Calls Tryz.prog 70 #[.pointer (some ⟨gp, 0, none⟩)] w fun e w' => e = .returned (.tuple #[]) ∧ LeftAt q w = w' := by
  have hmk : ∀ w, (Instr.makeSlice 32 (.int .i64 4) (.int .i64 4)).run Tryz.prog w = .ok (.slice (some ⟨w.heap.size, 0, none⟩) 4 4) (w.alloc (.cells #[.int .i64 0, .int .i64 0, .int .i64 0, .int .i64 0] 3)) := fun _ => by kernel_rfl
  have hq1 := World.block_lt_of_cell? _ _ hs
  have hq2 := World.block_lt_of_cell? _ _ hg
  simp only at hq1 hq2
  have s2 : ∀ o, (w.alloc o).cell? ⟨gp, 0, none⟩ = some (.pointer (some ⟨q, 0, none⟩)) := fun o => by rw [World.cell?_alloc_lt _ _ _ hq2]; exact hg
  have s3 : ∀ o o', ((w.alloc o).alloc o').cell? ⟨gp, 0, none⟩ = some (.pointer (some ⟨q, 0, none⟩)) := fun o o' => by rw [World.cell?_alloc_lt _ _ _ (by rw [World.size_alloc]; show gp < _; omega)]; exact s2 o
  have t3 : ∀ o o', ((w.alloc o).alloc o').cell? ⟨q, 13, none⟩ = some v := fun o o' => by rw [World.cell?_alloc_lt _ _ _ (by rw [World.size_alloc]; show q < _; omega), World.cell?_alloc_lt _ _ _ hq1]; exact hs
  have f3 : ∀ o o', ((w.alloc o).alloc o').frozen? ⟨q, 13, none⟩ = false := fun o o' => by
    rw [World.frozen?_of_block (w := w) (by rw [Below.heap_alloc _ _ _ (by rw [World.size_alloc]; show q < _; omega), Below.heap_alloc _ _ _ hq1])]
    exact hf
  go_enter Tryz.func70, Tryz.ntmps70
  go_wp2_with fail
  go_region
  all_goals
    go_wp2_with fail
    go_end0
    exact ⟨rfl, rfl⟩

/-- The leave is made: the controller behind it. -/
theorem CtlMem.made (h : CtlMem w q b fo fi k false lv gl gb Sc) : ∃ lv' gl' gb', CtlMem (((LeftAt q (w.setCell ⟨q, 11, none⟩ (.int .i32 1))).drew.setCell ⟨q, 10, none⟩ (.int .u32 1)).setCell ⟨q, 11, none⟩ (.int .i32 0)) q b fo fi k true lv' gl' gb' Sc ∧
    w.heap.size ≤ gl' ∧ w.heap.size ≤ gb' ∧ Kept (fun j => j = q) w (((LeftAt q (w.setCell ⟨q, 11, none⟩ (.int .i32 1))).drew.setCell ⟨q, 10, none⟩ (.int .u32 1)).setCell ⟨q, 11, none⟩ (.int .i32 0)) := by
  have hsz : (w.setCell ⟨q, 11, none⟩ (.int .i32 1)).heap.size = w.heap.size := by simp
  have hql := lt_of_block h.blk
  have k1 : Kept (fun j => j = q) w (w.setCell ⟨q, 11, none⟩ (.int .i32 1)) := (Kept.refl (fun j => j = q) w).setCell (p := ⟨q, 11, none⟩) (.inl rfl) _
  have k2 : Kept (fun j => j = q) w (LeftAt q (w.setCell ⟨q, 11, none⟩ (.int .i32 1))) := (((k1.setCell (p := ⟨q, 13, none⟩) (.inl rfl) _).alloc _).alloc _).drew
  have k3 := (k2.drew.setCell (p := ⟨q, 10, none⟩) (.inl rfl) (.int .u32 1)).setCell (p := ⟨q, 11, none⟩) (.inl rfl) (.int .i32 0)
  have hne1 : w.heap.size ≠ q := by omega
  have hne2 : w.heap.size + 1 ≠ q := by omega
  have hq : (LeftAt q (w.setCell ⟨q, 11, none⟩ (.int .i32 1))).heap[q]? = some (.cells (((CtlBlk b fo fi k false lv).setIfInBounds 11 (.int .i32 1)).setIfInBounds 13 (.slice (some ⟨w.heap.size + 1, 0, none⟩) 1 1)) 91 (0, 0)) := by
    unfold LeftAt
    rw [hsz]
    exact blk_alloc (blk_alloc (blk_set (blk_set h.blk _) _) _) _
  have hz : (LeftAt q (w.setCell ⟨q, 11, none⟩ (.int .i32 1))).heap[w.heap.size]? = some (.cells #[.int .i64 0, .int .i64 0, .int .i64 0, .int .i64 0] 3 (0, 0)) := by
    unfold LeftAt
    exact blk_alloc (blk_new _ _ _ (by simp)) _
  have hp : (LeftAt q (w.setCell ⟨q, 11, none⟩ (.int .i32 1))).heap[w.heap.size + 1]? = some (.cells #[.int .i64 4, .slice (some ⟨w.heap.size, 0, none⟩) 4 4, .int .i64 0, .int .i64 0] 116 (0, 0)) := by
    unfold LeftAt
    rw [hsz]
    exact blk_new _ _ _ (by simp)
  have hqS : ∀ j, Sc j → ¬ j = q := fun j hj e => h.qS (e ▸ hj)
  have hqf := h.q_out
  have hqi := h.q_inn
  refine ⟨.slice (some ⟨w.heap.size + 1, 0, none⟩) 1 1, w.heap.size + 1, w.heap.size, ⟨?_, h.chip.keep k3 hqS, h.out.keep k3 hqf, h.inn.keep k3 hqi, h.ne, .inr ⟨rfl, rfl, ?_, ?_⟩, h.qS, h.oS, h.iS, fun _ => ⟨fun e => ?_, fun e => ?_⟩, fun j hj => Nat.lt_of_lt_of_le (h.low j hj) k3.size⟩, by omega, Nat.le_refl _, k3⟩
  · rw [blk_set (blk_set (w := (LeftAt q (w.setCell ⟨q, 11, none⟩ (.int .i32 1))).drew) hq (.int .u32 1)) (.int .i32 0)]
    rfl
  · exact blk_far (blk_far (w := (LeftAt q (w.setCell ⟨q, 11, none⟩ (.int .i32 1))).drew) hp hne2 _) hne2 _
  · exact blk_far (blk_far (w := (LeftAt q (w.setCell ⟨q, 11, none⟩ (.int .i32 1))).drew) hz hne1 _) hne1 _
  · have := h.low _ e; omega
  · have := h.low _ e; omega

def Leaving (q b fo fi : Nat) (k : Ctl) (md : Bool) (gl gb : Nat) (Sc : Nat → Prop) (w : World) (e : Ending) (w' : World) : Prop :=
  ∃ lv' gl' gb', e = .returned lv' ∧ CtlMem w' q b fo fi k true lv' gl' gb' Sc ∧ Step (CtlFeet q fo fi md gl gb Sc) (CtlFeet q fo fi true gl' gb' Sc) w w'

set_option maxRecDepth 100000 in
set_option maxHeartbeats 1000000 in
theorem leaving_calls (h : CtlMem w q b fo fi k md lv gl gb Sc) :
    Calls Tryz.prog 47 #[.pointer (some ⟨q, 0, none⟩)] w (Leaving q b fo fi k md gl gb Sc w) := by
  have hmf : ∀ (fn : Fn) (first cap : Array Value) (w : World), (Instr.makeFunc fn first cap).run Tryz.prog w = .ok (.func fn first cap) w := fun _ _ _ _ => rfl
  have hql := lt_of_block h.blk
  have h1 : CtlMem (w.alloc (.cells #[.pointer (some ⟨q, 0, none⟩)] 27)) q b fo fi k md lv gl gb Sc := h.keep (R := fun _ => False) ((Kept.refl _ w).alloc _) (fun _ _ e => e)
  have hg : (w.alloc (.cells #[.pointer (some ⟨q, 0, none⟩)] 27)).heap[w.heap.size]? = some (.cells #[.pointer (some ⟨q, 0, none⟩)] 27 (0, 0)) := blk_new _ _ _ rfl
  have s1 : Step (CtlFeet q fo fi md gl gb Sc) (CtlFeet q fo fi md gl gb Sc) w (w.alloc (.cells #[.pointer (some ⟨q, 0, none⟩)] 27)) := Step.of_kept ((Kept.refl _ w).alloc _)
  have hne : w.heap.size ≠ q := by omega
  cases md with
  | true =>
    have hd := Lib.hid (do_done ⟨q, 10, none⟩ (.func (.func 70) #[] #[.pointer (some ⟨w.heap.size, 0, none⟩)]) _ (h1.cell rfl))
    have s14 : w.cell? ⟨q, 13, none⟩ = some lv := h.cell rfl
    have H := Lib.hid h1
    have S1 := Lib.hid s1
    clear h h1 hg hne s1
    go_enter Tryz.func47, Tryz.ntmps47
    go_wp2_with fail
    refine hd.out.mono ?_
    rintro e w' ⟨rfl, rfl⟩
    go_wp2_with fail
    go_ret
    exact ⟨lv, gl, gb, rfl, H.out, S1.out⟩
  | false =>
    have hd : Calls Tryz.prog 69 #[.pointer (some ⟨q, 10, none⟩), .func (.func 70) #[] #[.pointer (some ⟨w.heap.size, 0, none⟩)]] (w.alloc (.cells #[.pointer (some ⟨q, 0, none⟩)] 27)) fun e w' => e = .returned (.tuple #[]) ∧
        w' = (((LeftAt q ((w.alloc (.cells #[.pointer (some ⟨q, 0, none⟩)] 27)).setCell ⟨q, 11, none⟩ (.int .i32 1))).drew.setCell ⟨q, 10, none⟩ (.int .u32 1)).setCell ⟨q, 11, none⟩ (.int .i32 0)) := by
      have b2 := blk_set (i := 11) h1.blk (.int .i32 1)
      have b3 : (LeftAt q ((w.alloc (.cells #[.pointer (some ⟨q, 0, none⟩)] 27)).setCell ⟨q, 11, none⟩ (.int .i32 1))).heap[q]? = some (.cells (((CtlBlk b fo fi k false lv).setIfInBounds 11 (.int .i32 1)).setIfInBounds 13 (.slice (some ⟨((w.alloc (.cells #[.pointer (some ⟨q, 0, none⟩)] 27)).setCell ⟨q, 11, none⟩ (.int .i32 1)).heap.size + 1, 0, none⟩) 1 1)) 91 (0, 0)) :=
        blk_alloc (blk_alloc (blk_set b2 _) _) _
      refine (doL_first q 10 w.heap.size _ (fun w' => LeftAt q ((w.alloc (.cells #[.pointer (some ⟨q, 0, none⟩)] 27)).setCell ⟨q, 11, none⟩ (.int .i32 1)) = w') (h1.cell rfl) (h1.cell rfl) (h1.free 11)
        (leaveFn_calls q w.heap.size _ _ ((blk_cell (blk_far hg hne _)).trans rfl) ((blk_cell b2).trans rfl) (blk_free b2)) (fun w' hw' => ?_)).mono ?_
      · subst hw'
        exact ⟨(blk_cell b3).trans rfl, (blk_cell b3).trans rfl, blk_free b3, blk_free b3⟩
      · rintro e w' ⟨rfl, w2, rfl, rfl⟩
        exact ⟨rfl, rfl⟩
    obtain ⟨lv', gl', gb', h3, hl1, hl2, k3⟩ := h1.made
    have hg3 : (((LeftAt q ((w.alloc (.cells #[.pointer (some ⟨q, 0, none⟩)] 27)).setCell ⟨q, 11, none⟩ (.int .i32 1))).drew.setCell ⟨q, 10, none⟩ (.int .u32 1)).setCell ⟨q, 11, none⟩ (.int .i32 0)).heap[w.heap.size]? = some (.cells #[.pointer (some ⟨q, 0, none⟩)] 27 (0, 0)) := blk_kept k3 hg hne
    have HD := Lib.hid hd
    clear hd
    go_enter Tryz.func47, Tryz.ntmps47
    go_wp2_with fail
    refine HD.out.mono ?_
    rintro e w' ⟨rfl, rfl⟩
    generalize (((LeftAt q ((w.alloc (.cells #[.pointer (some ⟨q, 0, none⟩)] 27)).setCell ⟨q, 11, none⟩ (.int .i32 1))).drew.setCell ⟨q, 10, none⟩ (.int .u32 1)).setCell ⟨q, 11, none⟩ (.int .i32 0)) = w3 at *
    have s13 : w3.cell? ⟨q, 13, none⟩ = some lv' := h3.cell rfl
    have g0 : w3.cell? ⟨w.heap.size, 0, none⟩ = some (.pointer (some ⟨q, 0, none⟩)) := (blk_cell hg3).trans rfl
    have H3 := Lib.hid h3
    have S3 : Hid (Step (CtlFeet q fo fi false gl gb Sc) (CtlFeet q fo fi true gl' gb' Sc) w w3) := by
      refine ⟨(s1.toKept.trans ((k3.mono (S' := CtlFeet q fo fi false gl gb Sc) fun j hj => .inl hj))), fun j hj => ?_⟩
      simp only [World.size_alloc] at hl1 hl2
      rcases hj with e | e | e | ⟨_, e | e⟩ | e
      · exact .inl (.inl e)
      · exact .inl (.inr (.inl e))
      · exact .inl (.inr (.inr (.inl e)))
      · exact .inr (by omega)
      · exact .inr (by omega)
      · exact .inl (.inr (.inr (.inr (.inr e))))
    clear h3 k3 hg3 h1 h hg s1
    go_wp2_with fail
    go_ret
    exact ⟨lv', gl', gb', rfl, H3.out, S3.out⟩
end
end Go.Proofs.YtefoldehejbiiaaGreat
