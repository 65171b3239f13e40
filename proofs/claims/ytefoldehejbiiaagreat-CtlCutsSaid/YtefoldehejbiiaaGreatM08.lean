/-
  Walks: the table that a chip tells of itself, made once.
-/
import Derived.Test.YtefoldehejbiiaaGreatM07
import Derived.Deep.RegionWith
import Derived.BigRegion

namespace Go.Proofs.YtefoldehejbiiaaGreat
open Go.RowKit Lich

/-- What making the table has done. -/
def TableMade (b : Nat) (w : World) (w' : World) : Prop := ∃ w2, Below w.heap.size w w2 ∧ w' = w2.setCell ⟨b, 14, none⟩ (.string (S8 Lich.table))

set_option maxRecDepth 100000 in
set_option maxHeartbeats 1000000 in
theorem tableFn_calls (b gp : Nat) (w : World) (s : ByteArray) (hg : w.cell? ⟨gp, 0, none⟩ = some (.pointer (some ⟨b, 0, none⟩))) (hs : w.cell? ⟨b, 14, none⟩ = some (.string s)) (hf : w.frozen? ⟨b, 14, none⟩ = false) :
    Calls Tryz.prog 172 #[.pointer (some ⟨gp, 0, none⟩)] w fun e w' => e = .returned (.tuple #[]) ∧ TableMade b w w' := by
  have hgl := World.block_lt_of_cell? _ _ hg
  have hsl := World.block_lt_of_cell? _ _ hs
  have hp := Lib.hid (sfdpPut_calls w.drew)
  go_enter Tryz.func172, Tryz.ntmps172
  go_wp2_with fail
  go_region_with (go_at_call 173; refine hp.out.mono ?_; rintro e w1 ⟨rfl, hb1⟩; have z0 : w1.cell? ⟨gp, 0, none⟩ = some (.pointer (some ⟨b, 0, none⟩)) := (hb1.cell (by exact hgl)).trans hg; have z1 : w1.cell? ⟨b, 14, none⟩ = some (.string s) := (hb1.cell (by exact hsl)).trans hs; have z2 : w1.frozen? ⟨b, 14, none⟩ = false := (hb1.frozen (by exact hsl)).trans hf; have HB1 := Lib.hid hb1; clear hb1)
  all_goals
    go_wp2_with fail
    go_end0
    exact ⟨rfl, w1, ((Below.refl _ w).drew).trans HB1.out, rfl⟩
section
variable {w : World} {b : Nat} {c : Chip} {S : Nat → Prop} {md : Bool} {jv bv dv : Value}

theorem ChipIs.rest {w' : World} (h : ChipIs w b c S md jv bv dv) (hk : Kept (fun k => k = b) w w') (hb : w'.heap[b]? = some (.cells (ChipBlk c true jv bv dv) 109 (0, 0))) : ChipIs w' b c S true jv bv dv :=
  ⟨hb, h.own, h.job.keep hk (fun _ hg => h.job_ne hg), h.busy.keep hk (fun k hk' => h.busy_ne k hk'), ownsRow_keep h.data hk (fun k hk' => h.data_ne k hk'), h.dataS, h.apart⟩

set_option maxRecDepth 100000 in
set_option maxHeartbeats 1000000 in
theorem table_calls (h : ChipIs w b c S md jv bv dv) :
    Calls Tryz.prog 169 #[.pointer (some ⟨b, 0, none⟩)] w fun e w' => e = .returned (.string (S8 Lich.table)) ∧ ChipIs w' b c S true jv bv dv ∧ Kept (fun k => k = b) w w' := by
  have hmf : ∀ (fn : Fn) (first cap : Array Value) (w : World), (Instr.makeFunc fn first cap).run Tryz.prog w = .ok (.func fn first cap) w := fun _ _ _ _ => rfl
  have h1 := h.alloc (.cells #[.pointer (some ⟨b, 0, none⟩)] 23)
  have hg : (w.alloc (.cells #[.pointer (some ⟨b, 0, none⟩)] 23)).heap[w.heap.size]? = some (.cells #[.pointer (some ⟨b, 0, none⟩)] 23 (0, 0)) := blk_new _ _ _ rfl
  have hne : w.heap.size ≠ b := by have := h.lt; omega
  cases md with
  | true =>
    have hd := Lib.hid (do_done ⟨b, 11, none⟩ (.func (.func 172) #[] #[.pointer (some ⟨w.heap.size, 0, none⟩)]) _ h1.c11)
    have s14 := h.c14
    have hlt := h.lt
    have H := Lib.hid h1
    clear h h1 hg hne
    go_enter Tryz.func169, Tryz.ntmps169
    go_wp2_with fail
    refine hd.out.mono ?_
    rintro e w' ⟨rfl, rfl⟩
    go_wp2_with fail
    go_ret
    exact ⟨rfl, H.out, (Kept.refl _ w).alloc _⟩
  | false =>
    have hb1 := h1.blk
    have k1 : Kept (fun k => k = b) w (w.alloc (.cells #[.pointer (some ⟨b, 0, none⟩)] 23)) := (Kept.refl _ w).alloc _
    generalize hw1 : w.alloc (.cells #[.pointer (some ⟨b, 0, none⟩)] 23) = w1 at *
    have k2 : Kept (fun k => k = b) w (w1.setCell ⟨b, 12, none⟩ (.int .i32 1)) := k1.setCell (p := ⟨b, 12, none⟩) (.inl rfl) _
    have b2 := blk_set (i := 12) hb1 (.int .i32 1)
    have hfn := tableFn_calls b w.heap.size (w1.setCell ⟨b, 12, none⟩ (.int .i32 1)) (S8 []) ((blk_cell (blk_far hg hne _)).trans rfl) ((blk_cell b2).trans rfl) (blk_free b2)
    have haft : ∀ w', TableMade b (w1.setCell ⟨b, 12, none⟩ (.int .i32 1)) w' → Kept (fun k => k = b) w w' ∧
        w'.heap[b]? = some (.cells (((ChipBlk c false jv bv dv).setIfInBounds 12 (.int .i32 1)).setIfInBounds 14 (.string (S8 Lich.table))) 109 (0, 0)) ∧
        w'.heap[w.heap.size]? = some (.cells #[.pointer (some ⟨b, 0, none⟩)] 23 (0, 0)) := by
      rintro w' ⟨w2, hb2, rfl⟩
      refine ⟨(k2.below hb2).setCell (p := ⟨b, 14, none⟩) (.inl rfl) _, blk_set ?_ _, blk_far ?_ hne _⟩
      · rw [hb2.block _ (lt_of_block b2)]; exact b2
      · rw [hb2.block _ (by simp; rw [← hw1]; simp)]; exact blk_far hg hne _
    have hd := Lib.hid (doT_first b 11 w.heap.size w1 (TableMade b (w1.setCell ⟨b, 12, none⟩ (.int .i32 1))) h1.c11 h1.c12 (h1.free 12) hfn (fun w' hw' => by
      obtain ⟨_, hb', _⟩ := haft w' hw'
      exact ⟨(blk_cell hb').trans rfl, (blk_cell hb').trans rfl, blk_free hb', blk_free hb'⟩))
    have hfin : ∀ w', TableMade b (w1.setCell ⟨b, 12, none⟩ (.int .i32 1)) w' →
        ChipIs ((w'.drew.setCell ⟨b, 11, none⟩ (.int .u32 1)).setCell ⟨b, 12, none⟩ (.int .i32 0)) b c S true jv bv dv ∧ Kept (fun k => k = b) w ((w'.drew.setCell ⟨b, 11, none⟩ (.int .u32 1)).setCell ⟨b, 12, none⟩ (.int .i32 0)) ∧
        ((w'.drew.setCell ⟨b, 11, none⟩ (.int .u32 1)).setCell ⟨b, 12, none⟩ (.int .i32 0)).heap[w.heap.size]? = some (.cells #[.pointer (some ⟨b, 0, none⟩)] 23 (0, 0)) := by
      intro w' hw'
      obtain ⟨kk, hb', hg'⟩ := haft w' hw'
      have hk := (kk.drew.setCell (p := ⟨b, 11, none⟩) (.inl rfl) (.int .u32 1)).setCell (p := ⟨b, 12, none⟩) (.inl rfl) (.int .i32 0)
      have hbb := blk_set (i := 12) (blk_set (w := w'.drew) (i := 11) hb' (.int .u32 1)) (.int .i32 0)
      exact ⟨h.rest hk (by rw [hbb]; rfl), hk, blk_far (blk_far (w := w'.drew) hg' hne _) hne _⟩
    have HF := Lib.hid hfin
    clear hfin haft hfn b2 k2 k1 hb1 hg hne h1 h
    subst hw1
    go_enter Tryz.func169, Tryz.ntmps169
    go_wp2_with fail
    refine hd.out.mono ?_
    rintro e w' ⟨rfl, w2, hr, rfl⟩
    obtain ⟨h3, k3, g3⟩ := HF.out w2 hr
    clear hr
    generalize (w2.drew.setCell ⟨b, 11, none⟩ (.int .u32 1)).setCell ⟨b, 12, none⟩ (.int .i32 0) = w3 at *
    have s14 := h3.c14
    have g0 : w3.cell? ⟨w.heap.size, 0, none⟩ = some (.pointer (some ⟨b, 0, none⟩)) := (blk_cell g3).trans rfl
    have H3 := Lib.hid h3
    have K3 := Lib.hid k3
    clear h3 k3 g3
    go_wp2_with fail
    go_ret
    exact ⟨rfl, H3.out, K3.out⟩
end

end Go.Proofs.YtefoldehejbiiaaGreat
