/-
  Walks: something is let be under way, of which a duration was told.
  Walks: what comes of a command.
-/
import Derived.Test.YtefoldehejbiiaaGreatM21

set_option linter.unusedSimpArgs false
set_option linter.unusedVariables false
namespace Go.Proofs.YtefoldehejbiiaaGreat
open Go.RowKit Lich

section
variable {w : World} {b : Nat} {c : Chip} {S : Nat → Prop} {md : Bool} {jv bv dv : Value}

set_option maxRecDepth 100000 in
set_option maxHeartbeats 2000000 in
theorem starts_last (h : ChipIs w b c S md jv bv dv) (a0 : 0 ≤ c.cmd.addr) (a1 : c.cmd.addr < 4096) (g : Nat) (j : Job) (hg : FreshJob w g j) (hjv : jv ≠ .pointer (some ⟨g, 0, none⟩)) (hS : S g) (hjs : j.susp = false)
    (he : c.en = true) (hp : (c.prot && decide (c.cmd.addr < 2048)) = false) (hjo : j.sector = -1 ∨ 0 ≤ j.sector ∧ j.sector < 8) (hw8 : c.wipes.length = 8) (d0 : Int) (rest : List Int) (hbu : c.busy = d0 :: rest) (k off cap : Nat) (hbv : bv = .slice (some ⟨k, off, none⟩) (rest.length + 1) cap) (hcap : cap = 1) :
    Calls Tryz.prog 121 #[.pointer (some ⟨b, 0, none⟩), .pointer (some ⟨g, 0, none⟩)] w (Now b (c.starts j) S (.tuple #[]) w) := by
  have c16 := h.c16
  have c1 := h.c1
  have c29 := h.c29
  rw [he] at c16
  have x1 : ∀ x : Ext w, x.w'.cell? ⟨b, 1, none⟩ = some (.bool c.prot) := fun x => x.cell c1
  have x29 : ∀ x : Ext w, x.w'.cell? ⟨b, 29, none⟩ = some (.int .i64 c.cmd.addr) := fun x => x.cell c29
  have hp2 := fun x : Ext w => protected_calls c.prot c.cmd.addr x.w' a0 a1
  rw [hp] at hp2
  have HP := Lib.hid hp2
  have H := Lib.hid h
  clear h hp2
  go_enter Tryz.func121, Tryz.ntmps121
  go_wp2_with fail
  refine wp_region_ext (by kernel_rfl) (by kernel_rfl) ?_
  repeat (go_big_quiet_step ((go_at_call 133; exact ext_eq (HP.out _))))
  refine wpQuiet_nil ?_
  intro wx hx
  obtain ⟨x, rfl⟩ := hx
  have h1' : ChipIs x.w' b c S md jv bv dv := H.out.ext x
  have k1 : Kept S w x.w' := Kept.of_below x.below
  have hg1 : FreshJob x.w' g j := by unfold FreshJob at *; rw [x.below.block g (lt_of_block hg)]; exact hg
  generalize x.w' = w1 at *
  have q19 := h1'.c19
  have q18 := h1'.c18
  have qf := h1'.free
  have qw := wipe_cell h1'
  have hne : g ≠ b := blk_ne hg1 h1'.blk (by decide)
  have hne' : b ≠ g := fun e => hne e.symm
  have g3 : w1.cell? ⟨g, 3, none⟩ = some (.int .i64 0) := (blk_cell hg1).trans rfl
  have g0 : w1.cell? ⟨g, 0, none⟩ = some (.int .i64 j.sector) := (blk_cell hg1).trans rfl
  have gf : ∀ i, w1.frozen? ⟨g, i, none⟩ = false := fun i => blk_free hg1
  have H1 := Lib.hid h1'
  have K1 := Lib.hid k1
  have G1 := Lib.hid hg1
  clear h1' k1 hg1 hg
  subst hbv
  have hbz : ∃ cs, S k ∧ w1.heap[k]? = some (.cells cs 3 (0, 0)) ∧ (∀ i x, (d0 :: rest)[i]? = some x → cs[off + i]? = some (.int .i64 x)) := by
    rcases H1.out.busy with ⟨e, _⟩ | ⟨k', off', cap', cs, e, h1, h2, h3, h4, h5⟩
    · simp at e
    · simp only [Value.slice.injEq, Option.some.injEq, Addr.mk.injEq, and_true] at e
      obtain ⟨⟨rfl, rfl⟩, _, rfl⟩ := e
      rw [hbu] at h5
      exact ⟨cs, h3, h4, h5⟩
  obtain ⟨cs, hSk, hk, hcs⟩ := hbz
  have k0 : w1.cell? ⟨k, off, none⟩ = some (.int .i64 d0) := by rw [blk_cell hk]; exact hcs 0 d0 rfl
  subst hcap
  have hr0 : rest = [] := by
    rcases H1.out.busy with ⟨e, _⟩ | ⟨k', off', cap', cs, e, h1, _⟩
    · simp at e
    · simp only [Value.slice.injEq] at e
      obtain ⟨_, h2, rfl⟩ := e
      exact List.eq_nil_of_length_eq_zero (by omega)
  subst hr0
  have hrest : IntsIs w1 (.slice (some ⟨k, off, none⟩) 0 0) [] S := .inr ⟨k, off, 0, cs, rfl, by simp, by decide, hSk, hk, by simp⟩
  have hkg : k ≠ g := fun e => by subst e; exact blk_ne hk G1.out (by decide) rfl
  have hkb : k ≠ b := fun e => by subst e; exact blk_ne hk H1.out.blk (by decide) rfl
  have h2 := (H1.out.atJob G1.out hjv 3 (.int .i64 8)).atJob (job_left G1.out hjs 8) hjv 3 (.int .i64 d0)
  have hg2 := job_left2 (job_left G1.out hjs 8) d0
  have k2 : Kept S w ((w1.setCell ⟨g, 3, none⟩ (.int .i64 8)).setCell ⟨g, 3, none⟩ (.int .i64 d0)) := (K1.out.setCell (p := ⟨g, 3, none⟩) (.inl hS) _).setCell (p := ⟨g, 3, none⟩) (.inl hS) _
  have hr2 : IntsIs ((w1.setCell ⟨g, 3, none⟩ (.int .i64 8)).setCell ⟨g, 3, none⟩ (.int .i64 d0)) (.slice (some ⟨k, off, none⟩) 0 0) [] S :=
    hrest.keep (R := fun k => k = g) (((Kept.refl (fun k => k = g) w1).setCell (p := ⟨g, 3, none⟩) (.inl rfl) (.int .i64 8)).setCell (p := ⟨g, 3, none⟩) (.inl rfl) (.int .i64 d0)) (fun i hi => by simp only [Value.ownBlock, Option.some.injEq] at hi; subst hi; exact hkg)
  have h3 := h2.setBusy hr2 (fun i hi => by simp only [Value.ownBlock, Option.some.injEq] at hi; subst hi; exact hkb) (fun i hi e => h2.apart i hi (by simpa [Value.ownBlock] using e))
  have hg3 := blk_far (i := 19) hg2 hne (.slice (some ⟨k, off, none⟩) 0 0)
  have k3 := k2.setCell (p := ⟨b, 19, none⟩) (.inl h2.own) (.slice (some ⟨k, off, none⟩) 0 0)
  have H3 := Lib.hid h3
  have G3 := Lib.hid hg3
  have K3 := Lib.hid k3
  have hnp : ¬ (c.prot = true ∧ c.cmd.addr < 2048) := by simpa using hp
  clear h2 hg2 k2 hr2 h3 hg3 k3 hrest hk hcs
  have hjs' : j.sector = -1 ∨ ∃ q : Nat, q < 8 ∧ j.sector = q := by
    rcases hjo with e | ⟨e0, e1⟩
    · exact .inl e
    · exact .inr ⟨j.sector.toNat, by omega, by omega⟩
  rcases hjs' with hj1 | ⟨q, hq, hj1⟩
  · rw [hj1] at g0
    have hr : c.starts j = { c with job := some { j with left := d0 }, busy := [] } := by
      unfold Chip.starts
      simp only [he, hbu, hj1]
      rw [if_neg (by simp), if_neg hnp, if_pos trivial]
    have HR := Lib.hid hr
    clear hr
    have F := Lib.hid (fin_page (w := w) H3.out G3.out hS K3.out)
    go_wp2_with fail
    first | go_end0 | refine bodyPost_ret (results_none rfl _ _ _) rfl ?_
    rw [HR.out]
    exact F.out
  · rw [hj1] at g0
    have hqb : ((q : Int) == -1) = false := by simp
    have hr : c.starts j = { c with job := some { j with left := d0 }, busy := [], wipes := c.wipes.set q (wrap64 (c.wipes.getD q 0 + 1)) } := by
      unfold Chip.starts
      simp only [he, hbu, hj1]
      rw [if_neg (by simp), if_neg hnp, if_neg (by omega)]
      rfl
    have HR := Lib.hid hr
    clear hr
    go_wp2_with fail
    generalize ((w1.setCell ⟨g, 3, none⟩ (.int .i64 8)).setCell ⟨g, 3, none⟩ (.int .i64 d0)).setCell ⟨b, 19, none⟩ (.slice (some ⟨k, off, none⟩) 0 0) = w2 at *
    have y0 : w2.cell? ⟨g, 0, none⟩ = some (.int .i64 q) := (blk_cell G3.out).trans (by rw [← hj1]; rfl)
    have yq := wipe_cell H3.out q hq
    have yf := H3.out.free
    have y18 := H3.out.c18
    have F := fin_sector (w := w) H3.out G3.out hS K3.out hw8 q hq (wrap64 (c.wipes.getD q 0 + 1))
    clear qw q19 q18 g3 g0 gf qf k0
    have F' : Now b (c.starts j) S (.tuple #[]) w (.returned (.tuple #[])) ((w2.drew.setCell ⟨b, 3 + q, none⟩ (.int .i64 (wrap64 (c.wipes.getD q 0 + 1)))).setCell ⟨b, 18, none⟩ (.pointer (some ⟨g, 0, none⟩))) := by rw [HR.out]; exact F
    have F2 := Lib.hid F'
    change w2.cell? ⟨b, 3 + q, none⟩ = some (.int .i64 (c.wipes.getD q 0)) at yq
    clear F F' HR hj1 H1 G1 hqb H3 G3 K3 K1
    generalize c.wipes.getD q 0 = v at *
    obtain rfl | rfl | rfl | rfl | rfl | rfl | rfl | rfl : q = 0 ∨ q = 1 ∨ q = 2 ∨ q = 3 ∨ q = 4 ∨ q = 5 ∨ q = 6 ∨ q = 7 := by omega
    all_goals
      go_still_tail 13, (by kernel_rfl)
      go_wp2_with fail
      first | go_end0 | refine bodyPost_ret (results_none rfl _ _ _) rfl ?_
      exact F2.out

set_option maxRecDepth 100000 in
set_option maxHeartbeats 2000000 in
theorem starts_next (h : ChipIs w b c S md jv bv dv) (a0 : 0 ≤ c.cmd.addr) (a1 : c.cmd.addr < 4096) (g : Nat) (j : Job) (hg : FreshJob w g j) (hjv : jv ≠ .pointer (some ⟨g, 0, none⟩)) (hS : S g) (hjs : j.susp = false)
    (he : c.en = true) (hp : (c.prot && decide (c.cmd.addr < 2048)) = false) (hjo : j.sector = -1 ∨ 0 ≤ j.sector ∧ j.sector < 8) (hw8 : c.wipes.length = 8) (d0 : Int) (rest : List Int) (hbu : c.busy = d0 :: rest) (k off cap : Nat) (hbv : bv = .slice (some ⟨k, off, none⟩) (rest.length + 1) cap) (hcap : cap ≠ 1 ∧ rest.length + 1 ≤ cap ∧ cap ≤ maxLen) :
    Calls Tryz.prog 121 #[.pointer (some ⟨b, 0, none⟩), .pointer (some ⟨g, 0, none⟩)] w (Now b (c.starts j) S (.tuple #[]) w) := by
  have c16 := h.c16
  have c1 := h.c1
  have c29 := h.c29
  rw [he] at c16
  have x1 : ∀ x : Ext w, x.w'.cell? ⟨b, 1, none⟩ = some (.bool c.prot) := fun x => x.cell c1
  have x29 : ∀ x : Ext w, x.w'.cell? ⟨b, 29, none⟩ = some (.int .i64 c.cmd.addr) := fun x => x.cell c29
  have hp2 := fun x : Ext w => protected_calls c.prot c.cmd.addr x.w' a0 a1
  rw [hp] at hp2
  have HP := Lib.hid hp2
  have H := Lib.hid h
  clear h hp2
  go_enter Tryz.func121, Tryz.ntmps121
  go_wp2_with fail
  refine wp_region_ext (by kernel_rfl) (by kernel_rfl) ?_
  repeat (go_big_quiet_step ((go_at_call 133; exact ext_eq (HP.out _))))
  refine wpQuiet_nil ?_
  intro wx hx
  obtain ⟨x, rfl⟩ := hx
  have h1' : ChipIs x.w' b c S md jv bv dv := H.out.ext x
  have k1 : Kept S w x.w' := Kept.of_below x.below
  have hg1 : FreshJob x.w' g j := by unfold FreshJob at *; rw [x.below.block g (lt_of_block hg)]; exact hg
  generalize x.w' = w1 at *
  have q19 := h1'.c19
  have q18 := h1'.c18
  have qf := h1'.free
  have qw := wipe_cell h1'
  have hne : g ≠ b := blk_ne hg1 h1'.blk (by decide)
  have hne' : b ≠ g := fun e => hne e.symm
  have g3 : w1.cell? ⟨g, 3, none⟩ = some (.int .i64 0) := (blk_cell hg1).trans rfl
  have g0 : w1.cell? ⟨g, 0, none⟩ = some (.int .i64 j.sector) := (blk_cell hg1).trans rfl
  have gf : ∀ i, w1.frozen? ⟨g, i, none⟩ = false := fun i => blk_free hg1
  have H1 := Lib.hid h1'
  have K1 := Lib.hid k1
  have G1 := Lib.hid hg1
  clear h1' k1 hg1 hg
  subst hbv
  have hbz : ∃ cs, S k ∧ w1.heap[k]? = some (.cells cs 3 (0, 0)) ∧ (∀ i x, (d0 :: rest)[i]? = some x → cs[off + i]? = some (.int .i64 x)) := by
    rcases H1.out.busy with ⟨e, _⟩ | ⟨k', off', cap', cs, e, h1, h2, h3, h4, h5⟩
    · simp at e
    · simp only [Value.slice.injEq, Option.some.injEq, Addr.mk.injEq, and_true] at e
      obtain ⟨⟨rfl, rfl⟩, _, rfl⟩ := e
      rw [hbu] at h5
      exact ⟨cs, h3, h4, h5⟩
  obtain ⟨cs, hSk, hk, hcs⟩ := hbz
  have k0 : w1.cell? ⟨k, off, none⟩ = some (.int .i64 d0) := by rw [blk_cell hk]; exact hcs 0 d0 rfl
  obtain ⟨hc1, hc2, hc3⟩ := hcap
  have hrest : IntsIs w1 (.slice (some ⟨k, off + 1, none⟩) rest.length (cap - 1)) rest S := .inr ⟨k, off + 1, cap - 1, cs, rfl, by omega, by omega, hSk, hk, fun i x hx => by rw [Nat.add_assoc, Nat.add_comm 1 i]; exact hcs (i + 1) x hx⟩
  have hkg : k ≠ g := fun e => by subst e; exact blk_ne hk G1.out (by decide) rfl
  have hkb : k ≠ b := fun e => by subst e; exact blk_ne hk H1.out.blk (by decide) rfl
  have h2 := (H1.out.atJob G1.out hjv 3 (.int .i64 8)).atJob (job_left G1.out hjs 8) hjv 3 (.int .i64 d0)
  have hg2 := job_left2 (job_left G1.out hjs 8) d0
  have k2 : Kept S w ((w1.setCell ⟨g, 3, none⟩ (.int .i64 8)).setCell ⟨g, 3, none⟩ (.int .i64 d0)) := (K1.out.setCell (p := ⟨g, 3, none⟩) (.inl hS) _).setCell (p := ⟨g, 3, none⟩) (.inl hS) _
  have hr2 : IntsIs ((w1.setCell ⟨g, 3, none⟩ (.int .i64 8)).setCell ⟨g, 3, none⟩ (.int .i64 d0)) (.slice (some ⟨k, off + 1, none⟩) rest.length (cap - 1)) rest S :=
    hrest.keep (R := fun k => k = g) (((Kept.refl (fun k => k = g) w1).setCell (p := ⟨g, 3, none⟩) (.inl rfl) (.int .i64 8)).setCell (p := ⟨g, 3, none⟩) (.inl rfl) (.int .i64 d0)) (fun i hi => by simp only [Value.ownBlock, Option.some.injEq] at hi; subst hi; exact hkg)
  have h3 := h2.setBusy hr2 (fun i hi => by simp only [Value.ownBlock, Option.some.injEq] at hi; subst hi; exact hkb) (fun i hi e => h2.apart i hi (by simpa [Value.ownBlock] using e))
  have hg3 := blk_far (i := 19) hg2 hne (.slice (some ⟨k, off + 1, none⟩) rest.length (cap - 1))
  have k3 := k2.setCell (p := ⟨b, 19, none⟩) (.inl h2.own) (.slice (some ⟨k, off + 1, none⟩) rest.length (cap - 1))
  have H3 := Lib.hid h3
  have G3 := Lib.hid hg3
  have K3 := Lib.hid k3
  have hnp : ¬ (c.prot = true ∧ c.cmd.addr < 2048) := by simpa using hp
  clear h2 hg2 k2 hr2 h3 hg3 k3 hrest hk hcs
  have hjs' : j.sector = -1 ∨ ∃ q : Nat, q < 8 ∧ j.sector = q := by
    rcases hjo with e | ⟨e0, e1⟩
    · exact .inl e
    · exact .inr ⟨j.sector.toNat, by omega, by omega⟩
  rcases hjs' with hj1 | ⟨q, hq, hj1⟩
  · rw [hj1] at g0
    have hr : c.starts j = { c with job := some { j with left := d0 }, busy := rest } := by
      unfold Chip.starts
      simp only [he, hbu, hj1]
      rw [if_neg (by simp), if_neg hnp, if_pos trivial]
    have HR := Lib.hid hr
    clear hr
    have F := Lib.hid (fin_page (w := w) H3.out G3.out hS K3.out)
    go_wp2_with fail
    first | go_end0 | refine bodyPost_ret (results_none rfl _ _ _) rfl ?_
    rw [HR.out]
    exact F.out
  · rw [hj1] at g0
    have hqb : ((q : Int) == -1) = false := by simp
    have hr : c.starts j = { c with job := some { j with left := d0 }, busy := rest, wipes := c.wipes.set q (wrap64 (c.wipes.getD q 0 + 1)) } := by
      unfold Chip.starts
      simp only [he, hbu, hj1]
      rw [if_neg (by simp), if_neg hnp, if_neg (by omega)]
      rfl
    have HR := Lib.hid hr
    clear hr
    go_wp2_with fail
    generalize ((w1.setCell ⟨g, 3, none⟩ (.int .i64 8)).setCell ⟨g, 3, none⟩ (.int .i64 d0)).setCell ⟨b, 19, none⟩ (.slice (some ⟨k, off + 1, none⟩) rest.length (cap - 1)) = w2 at *
    have y0 : w2.cell? ⟨g, 0, none⟩ = some (.int .i64 q) := (blk_cell G3.out).trans (by rw [← hj1]; rfl)
    have yq := wipe_cell H3.out q hq
    have yf := H3.out.free
    have y18 := H3.out.c18
    have F := fin_sector (w := w) H3.out G3.out hS K3.out hw8 q hq (wrap64 (c.wipes.getD q 0 + 1))
    clear qw q19 q18 g3 g0 gf qf k0
    have F' : Now b (c.starts j) S (.tuple #[]) w (.returned (.tuple #[])) ((w2.drew.setCell ⟨b, 3 + q, none⟩ (.int .i64 (wrap64 (c.wipes.getD q 0 + 1)))).setCell ⟨b, 18, none⟩ (.pointer (some ⟨g, 0, none⟩))) := by rw [HR.out]; exact F
    have F2 := Lib.hid F'
    change w2.cell? ⟨b, 3 + q, none⟩ = some (.int .i64 (c.wipes.getD q 0)) at yq
    clear F F' HR hj1 H1 G1 hqb H3 G3 K3 K1
    generalize c.wipes.getD q 0 = v at *
    obtain rfl | rfl | rfl | rfl | rfl | rfl | rfl | rfl : q = 0 ∨ q = 1 ∨ q = 2 ∨ q = 3 ∨ q = 4 ∨ q = 5 ∨ q = 6 ∨ q = 7 := by omega
    all_goals
      go_still_tail 13, (by kernel_rfl)
      go_wp2_with fail
      first | go_end0 | refine bodyPost_ret (results_none rfl _ _ _) rfl ?_
      exact F2.out

/-- Something is let be under way, if it may. -/
theorem starts_calls (h : ChipIs w b c S md jv bv dv) (a0 : 0 ≤ c.cmd.addr) (a1 : c.cmd.addr < 4096) (g : Nat) (j : Job) (hg : FreshJob w g j) (hjv : jv ≠ .pointer (some ⟨g, 0, none⟩)) (hS : S g) (hjs : j.susp = false)
    (hjo : j.sector = -1 ∨ 0 ≤ j.sector ∧ j.sector < 8) (hw8 : c.wipes.length = 8) :
    Calls Tryz.prog 121 #[.pointer (some ⟨b, 0, none⟩), .pointer (some ⟨g, 0, none⟩)] w (Now b (c.starts j) S (.tuple #[]) w) := by
  by_cases he : c.en = false
  · have hr : c.starts j = { c with en := false } := by unfold Chip.starts; rw [if_pos he, ← he]
    rw [hr]
    exact (starts_head h a0 a1 g (.inl he)).mono fun _ _ hh => ⟨hh.1, ⟨md, jv, bv, dv, hh.2.1⟩, hh.2.2⟩
  · by_cases hp : c.prot = true ∧ c.cmd.addr < 2048
    · have hr : c.starts j = { c with en := false } := by unfold Chip.starts; rw [if_neg he, if_pos hp]
      rw [hr]
      exact (starts_head h a0 a1 g (.inr hp)).mono fun _ _ hh => ⟨hh.1, ⟨md, jv, bv, dv, hh.2.1⟩, hh.2.2⟩
    · have he' : c.en = true := by simpa using he
      have hp' : (c.prot && decide (c.cmd.addr < 2048)) = false := by simpa using hp
      cases hb : c.busy with
      | nil => exact starts_on h a0 a1 g j hg hjv hS hjs he' hp' hjo hw8 hb
      | cons d0 rest =>
        rcases h.busy with ⟨_, e⟩ | ⟨k, off, cap, cs, e, h1, h2, _⟩
        · rw [hb] at e; simp at e
        · rw [hb] at e h1
          simp only [List.length_cons] at e h1
          by_cases hc : cap = 1
          · exact starts_last h a0 a1 g j hg hjv hS hjs he' hp' hjo hw8 d0 rest hb k off cap e hc
          · exact starts_next h a0 a1 g j hg hjv hS hjs he' hp' hjo hw8 d0 rest hb k off cap e ⟨hc, h1, h2⟩
end
end Go.Proofs.YtefoldehejbiiaaGreat

namespace Go.Proofs.YtefoldehejbiiaaGreat
open Go.RowKit Lich

section
variable {w : World} {b : Nat} {c : Chip} {S : Nat → Prop} {md : Bool} {jv bv dv : Value}

theorem ends_eq {c : Chip} (h0 : c.cmd.stage ≠ 0) (h1 : c.cmd.stage ≠ 1) (hw : c.cmd.whole = true) (c' : Chip) (hr : (if c.cmd.op.byte = 6 then { c with en := true }
  else if c.cmd.op.byte = 4 then { c with en := false }
  else if c.cmd.op.byte = 117 then
    match c.job with
    | some j => if j.sector ≠ -1 then { c with job := some { j with susp := true } } else c
    | none => c
  else if c.cmd.op.byte = 122 then
    match c.job with
    | some j => { c with job := some { j with susp := false } }
    | none => c
  else if c.cmd.op.byte = 1 then
    match c.en, c.cmd.data with
    | true, [x, y] => { c with prot := x / 4 % 2 = 1, quad := y / 2 % 2 = 1, en := false }
    | _, _ => c
  else if c.cmd.op.byte = 2 then
    if c.cmd.data = [] then c else c.starts { sector := -1, page := c.cmd.addr - c.cmd.addr % 32, data := pageOf c.cmd.addr c.cmd.data, left := 0, susp := false }
  else if c.cmd.op.byte = 32 then c.starts { sector := c.cmd.addr / 512, page := 0, data := [], left := 0, susp := false }
  else if c.cmd.op.byte = 235 then { c with goes := c.cmd.moded && c.cmd.mode = 160 }
  else c) = c') : c.ends = c' := by
  subst hr
  unfold Chip.ends
  simp only
  rw [if_neg (by simp [h0, h1, hw])]
  rfl

set_option maxRecDepth 100000 in
set_option maxHeartbeats 1000000 in
theorem ends_off (h : ChipIs w b c S md jv bv dv) (hi : c.cmd.op.inn = true → c.cmd.op.data = 1) (hn : c.cmd.stage = 0 ∨ c.cmd.stage = 1 ∨ c.cmd.whole = false) :
    Calls Tryz.prog 100 #[.pointer (some ⟨b, 0, none⟩)] w (Posted b c.ends S (.tuple #[]) w) := by
  have hr : c.ends = c := by
    unfold Chip.ends
    simp only
    rw [if_pos hn]
  rw [hr]
  have c26 := h.c26
  have HW := Lib.hid (whole_calls h hi)
  have H := Lib.hid h
  clear h hr hi
  by_cases h0 : c.cmd.stage = 0
  · rw [h0] at c26
    go_enter Tryz.func100, Tryz.ntmps100
    go_wp2_with fail
    first | go_end0 | refine bodyPost_ret (results_none rfl _ _ _) rfl ?_
    exact ⟨rfl, S, ⟨md, jv, bv, dv, H.out⟩, Step.refl S w⟩
  · have e0 : (c.cmd.stage == 0) = false := by simpa using h0
    by_cases h1 : c.cmd.stage = 1
    · rw [h1] at c26
      go_enter Tryz.func100, Tryz.ntmps100
      go_wp2_with fail
      first | go_end0 | refine bodyPost_ret (results_none rfl _ _ _) rfl ?_
      exact ⟨rfl, S, ⟨md, jv, bv, dv, H.out⟩, Step.refl S w⟩
    · have e1 : (c.cmd.stage == 1) = false := by simpa using h1
      have hw : c.cmd.whole = false := by
        rcases hn with e | e | e
        · exact absurd e h0
        · exact absurd e h1
        · exact e
      rw [hw] at HW
      go_enter Tryz.func100, Tryz.ntmps100
      go_wp2_with fail
      refine HW.out.mono ?_
      rintro e w1 ⟨rfl, hb⟩
      have h1' : ChipIs w1 b c S md jv bv dv := H.out.ext ⟨w1, hb⟩
      have H1 := Lib.hid h1'
      have K1 := Lib.hid (Kept.of_below (S := S) hb)
      clear h1' hb
      go_wp2_with fail
      first | go_end0 | refine bodyPost_ret (results_none rfl _ _ _) rfl ?_
      exact ⟨rfl, S, ⟨md, jv, bv, dv, H1.out⟩, K1.out, fun _ hk => .inl hk⟩

set_option maxRecDepth 100000 in
set_option maxHeartbeats 1000000 in
theorem ends_en (h : ChipIs w b c S md jv bv dv) (hi : c.cmd.op.inn = true → c.cmd.op.data = 1) (h0 : c.cmd.stage ≠ 0) (h1 : c.cmd.stage ≠ 1) (hw : c.cmd.whole = true) (hby : c.cmd.op.byte = 6) : Calls Tryz.prog 100 #[.pointer (some ⟨b, 0, none⟩)] w (Posted b c.ends S (.tuple #[]) w) := by
  have hr : c.ends = { c with en := true } := ends_eq h0 h1 hw _ (by rw [hby]; rfl)
  rw [hr]
  clear hr
  have e0 : (c.cmd.stage == 0) = false := by simpa using h0
  have e1 : (c.cmd.stage == 1) = false := by simpa using h1
  have c26 := h.c26
  have hwc := whole_calls h hi
  rw [hw] at hwc
  have HW := Lib.hid hwc
  have H := Lib.hid h
  have BY := Lib.hid hby
  clear h hi hwc h0 h1 hw hby
  go_enter Tryz.func100, Tryz.ntmps100
  go_wp2_with fail
  refine HW.out.mono ?_
  rintro e w1 ⟨rfl, hb⟩
  have h1' : ChipIs w1 b c S md _ bv _ := H.out.ext ⟨w1, hb⟩
  have c20 := h1'.c20
  rw [BY.out] at c20
  have hf := h1'.free
  have c16 := h1'.c16
  have H1 := Lib.hid h1'
  have K1 := Lib.hid (Kept.of_below (S := S) hb)
  clear h1' hb
  go_wp2_with fail
  first | go_end0 | refine bodyPost_ret (results_none rfl _ _ _) rfl ?_
  exact ⟨rfl, S, ⟨md, jv, bv, dv, H1.out.set (c' := { c with en := true }) (i := 16) (v := .bool true) rfl rfl rfl rfl⟩, K1.out.setCell (p := ⟨b, 16, none⟩) (.inl H1.out.own) _, fun _ hk => .inl hk⟩

set_option maxRecDepth 100000 in
set_option maxHeartbeats 1000000 in
theorem ends_dis (h : ChipIs w b c S md jv bv dv) (hi : c.cmd.op.inn = true → c.cmd.op.data = 1) (h0 : c.cmd.stage ≠ 0) (h1 : c.cmd.stage ≠ 1) (hw : c.cmd.whole = true) (hby : c.cmd.op.byte = 4) : Calls Tryz.prog 100 #[.pointer (some ⟨b, 0, none⟩)] w (Posted b c.ends S (.tuple #[]) w) := by
  have hr : c.ends = { c with en := false } := ends_eq h0 h1 hw _ (by rw [hby]; rfl)
  rw [hr]
  clear hr
  have e0 : (c.cmd.stage == 0) = false := by simpa using h0
  have e1 : (c.cmd.stage == 1) = false := by simpa using h1
  have c26 := h.c26
  have hwc := whole_calls h hi
  rw [hw] at hwc
  have HW := Lib.hid hwc
  have H := Lib.hid h
  have BY := Lib.hid hby
  clear h hi hwc h0 h1 hw hby
  go_enter Tryz.func100, Tryz.ntmps100
  go_wp2_with fail
  refine HW.out.mono ?_
  rintro e w1 ⟨rfl, hb⟩
  have h1' : ChipIs w1 b c S md _ bv _ := H.out.ext ⟨w1, hb⟩
  have c20 := h1'.c20
  rw [BY.out] at c20
  have hf := h1'.free
  have c16 := h1'.c16
  have H1 := Lib.hid h1'
  have K1 := Lib.hid (Kept.of_below (S := S) hb)
  clear h1' hb
  go_wp2_with fail
  first | go_end0 | refine bodyPost_ret (results_none rfl _ _ _) rfl ?_
  exact ⟨rfl, S, ⟨md, jv, bv, dv, H1.out.set (c' := { c with en := false }) (i := 16) (v := .bool false) rfl rfl rfl rfl⟩, K1.out.setCell (p := ⟨b, 16, none⟩) (.inl H1.out.own) _, fun _ hk => .inl hk⟩

set_option maxRecDepth 100000 in
set_option maxHeartbeats 1000000 in
theorem ends_goes (h : ChipIs w b c S md jv bv dv) (hi : c.cmd.op.inn = true → c.cmd.op.data = 1) (h0 : c.cmd.stage ≠ 0) (h1 : c.cmd.stage ≠ 1) (hw : c.cmd.whole = true) (hby : c.cmd.op.byte = 235) : Calls Tryz.prog 100 #[.pointer (some ⟨b, 0, none⟩)] w (Posted b c.ends S (.tuple #[]) w) := by
  have hr : c.ends = { c with goes := c.cmd.moded && c.cmd.mode == 160 } := ends_eq h0 h1 hw _ (by rw [hby]; simp; rw [Bool.eq_iff_iff]; simp)
  rw [hr]
  clear hr
  have e0 : (c.cmd.stage == 0) = false := by simpa using h0
  have e1 : (c.cmd.stage == 1) = false := by simpa using h1
  have c26 := h.c26
  have hwc := whole_calls h hi
  rw [hw] at hwc
  have HW := Lib.hid hwc
  have H := Lib.hid h
  have BY := Lib.hid hby
  clear h hi hwc h0 h1 hw hby
  have hfin : ∀ w1, ChipIs w1 b c S md jv bv dv → Kept S w w1 → ∀ v, v = (c.cmd.moded && c.cmd.mode == 160) → Posted b { c with goes := c.cmd.moded && c.cmd.mode == 160 } S (.tuple #[]) w (.returned (.tuple #[])) (w1.setCell ⟨b, 17, none⟩ (.bool v)) := by
    intro w1 h1 k1 v hv
    rw [← hv]
    exact ⟨rfl, S, ⟨md, jv, bv, dv, h1.set (c' := { c with goes := v }) (i := 17) (v := .bool v) rfl rfl rfl rfl⟩, k1.setCell (p := ⟨b, 17, none⟩) (.inl h1.own) _, fun _ hk => .inl hk⟩
  have FIN := Lib.hid hfin
  clear hfin
  generalize hmm : c.cmd.moded = mm at *
  cases mm
  all_goals
    go_enter Tryz.func100, Tryz.ntmps100
    go_wp2_with fail
    refine HW.out.mono ?_
    rintro e w1 ⟨rfl, hb⟩
    have h1' : ChipIs w1 b c S md _ bv _ := H.out.ext ⟨w1, hb⟩
    have c20 := h1'.c20
    rw [BY.out] at c20
    have hf := h1'.free
    have c17 := h1'.c17
    have c31 := h1'.c31
    rw [hmm] at c31
    have c30 := h1'.c30
    have H1 := Lib.hid h1'
    have K1 := Lib.hid (Kept.of_below (S := S) hb)
    clear h1' hb
    go_wp2_with fail
    first | go_end0 | refine bodyPost_ret (results_none rfl _ _ _) rfl ?_
    exact FIN.out _ H1.out K1.out _ (by simp)

set_option maxRecDepth 100000 in
set_option maxHeartbeats 1000000 in
theorem ends_none (h : ChipIs w b c S md jv bv dv) (hi : c.cmd.op.inn = true → c.cmd.op.data = 1) (h0 : c.cmd.stage ≠ 0) (h1 : c.cmd.stage ≠ 1) (hw : c.cmd.whole = true) (hby : c.cmd.op.byte ≠ 6 ∧ c.cmd.op.byte ≠ 4 ∧ c.cmd.op.byte ≠ 117 ∧ c.cmd.op.byte ≠ 122 ∧ c.cmd.op.byte ≠ 1 ∧ c.cmd.op.byte ≠ 2 ∧ c.cmd.op.byte ≠ 32 ∧ c.cmd.op.byte ≠ 235) : Calls Tryz.prog 100 #[.pointer (some ⟨b, 0, none⟩)] w (Posted b c.ends S (.tuple #[]) w) := by
  obtain ⟨b1, b2, b3, b4, b5, b6, b7, b8⟩ := hby
  have hr : c.ends = c := ends_eq h0 h1 hw _ (by rw [if_neg b1, if_neg b2, if_neg b3, if_neg b4, if_neg b5, if_neg b6, if_neg b7, if_neg b8])
  rw [hr]
  clear hr
  have hby : c.cmd.op.byte = c.cmd.op.byte := rfl
  have z1 : (c.cmd.op.byte == 6) = false := by simpa using b1
  have z2 : (c.cmd.op.byte == 4) = false := by simpa using b2
  have z3 : (c.cmd.op.byte == 117) = false := by simpa using b3
  have z4 : (c.cmd.op.byte == 122) = false := by simpa using b4
  have z5 : (c.cmd.op.byte == 1) = false := by simpa using b5
  have z6 : (c.cmd.op.byte == 2) = false := by simpa using b6
  have z7 : (c.cmd.op.byte == 32) = false := by simpa using b7
  have z8 : (c.cmd.op.byte == 235) = false := by simpa using b8
  clear b1 b2 b3 b4 b5 b6 b7 b8
  have e0 : (c.cmd.stage == 0) = false := by simpa using h0
  have e1 : (c.cmd.stage == 1) = false := by simpa using h1
  have c26 := h.c26
  have hwc := whole_calls h hi
  rw [hw] at hwc
  have HW := Lib.hid hwc
  have H := Lib.hid h
  have BY := Lib.hid hby
  clear h hi hwc h0 h1 hw hby
  go_enter Tryz.func100, Tryz.ntmps100
  go_wp2_with fail
  refine HW.out.mono ?_
  rintro e w1 ⟨rfl, hb⟩
  have h1' : ChipIs w1 b c S md _ bv _ := H.out.ext ⟨w1, hb⟩
  have c20 := h1'.c20
  have hf := h1'.free
  have H1 := Lib.hid h1'
  have K1 := Lib.hid (Kept.of_below (S := S) hb)
  clear h1' hb
  go_wp2_with fail
  first | go_end0 | refine bodyPost_ret (results_none rfl _ _ _) rfl ?_
  exact ⟨rfl, S, ⟨md, jv, bv, dv, H1.out⟩, K1.out, fun _ hk => .inl hk⟩

theorem susp_fin {w1 : World} {g : Nat} {j : Job} (h : ChipIs w1 b c S md (.pointer (some ⟨g, 0, none⟩)) bv dv) (hj : c.job = some j) (hg : w1.heap[g]? = some (.cells (JobBlk j) 140 (0, 0))) (hS : S g) (hk : Kept S w w1) (v : Bool) :
    Posted b { c with job := some { j with susp := v } } S (.tuple #[]) w (.returned (.tuple #[])) (w1.setCell ⟨g, 4, none⟩ (.bool v)) := by
  have hne : g ≠ b := blk_ne hg h.blk (by decide)
  have kk : Kept (fun k => k = g) w1 (w1.setCell ⟨g, 4, none⟩ (.bool v)) := (Kept.refl (fun k => k = g) w1).setCell (p := ⟨g, 4, none⟩) (.inl rfl) _
  obtain ⟨r1, r2⟩ := h.rest_keep hg hne (fun k hk => .inl hk) kk
  exact ⟨rfl, S, ⟨md, _, bv, dv, blk_kept kk h.blk (fun e => hne e.symm), h.own, ⟨g, rfl, hS, by rw [blk_set hg]; rfl⟩, r1, r2, h.dataS, h.apart⟩, hk.setCell (p := ⟨g, 4, none⟩) (.inl hS) _, fun _ hk => .inl hk⟩

set_option maxRecDepth 100000 in
set_option maxHeartbeats 1000000 in
theorem ends_susp (h : ChipIs w b c S md jv bv dv) (hi : c.cmd.op.inn = true → c.cmd.op.data = 1) (h0 : c.cmd.stage ≠ 0) (h1 : c.cmd.stage ≠ 1) (hw : c.cmd.whole = true) (hby : c.cmd.op.byte = 117) : Calls Tryz.prog 100 #[.pointer (some ⟨b, 0, none⟩)] w (Posted b c.ends S (.tuple #[]) w) := by
  cases hj : c.job with
  | none =>
    have hjv := h.jobNil hj
    subst hjv
    have hr : c.ends = c := ends_eq h0 h1 hw _ (by rw [hby, hj]; rfl)
    rw [hr]
    clear hr hj
    have e0 : (c.cmd.stage == 0) = false := by simpa using h0
    have e1 : (c.cmd.stage == 1) = false := by simpa using h1
    have c26 := h.c26
    have hwc := whole_calls h hi
    rw [hw] at hwc
    have HW := Lib.hid hwc
    have H := Lib.hid h
    have BY := Lib.hid hby
    clear h hi hwc h0 h1 hw hby
    go_enter Tryz.func100, Tryz.ntmps100
    go_wp2_with fail
    refine HW.out.mono ?_
    rintro e w1 ⟨rfl, hb⟩
    have h1' : ChipIs w1 b c S md _ bv _ := H.out.ext ⟨w1, hb⟩
    have c20 := h1'.c20
    rw [BY.out] at c20
    have hf := h1'.free
    have c18 := h1'.c18
    have H1 := Lib.hid h1'
    have K1 := Lib.hid (Kept.of_below (S := S) hb)
    clear h1' hb
    go_wp2_with fail
    first | go_end0 | refine bodyPost_ret (results_none rfl _ _ _) rfl ?_
    exact ⟨rfl, S, ⟨md, _, bv, dv, H1.out⟩, K1.out, fun _ hk => .inl hk⟩
  | some j =>
    obtain ⟨g, rfl, hS, hne, hg⟩ := h.jobSome hj
    by_cases hs : j.sector = -1
    · have hr : c.ends = c := ends_eq h0 h1 hw _ (by rw [hby, hj]; simp [hs])
      rw [hr]
      clear hr hj
      have e0 : (c.cmd.stage == 0) = false := by simpa using h0
      have e1 : (c.cmd.stage == 1) = false := by simpa using h1
      have c26 := h.c26
      have hwc := whole_calls h hi
      rw [hw] at hwc
      have HW := Lib.hid hwc
      have H := Lib.hid h
      have BY := Lib.hid hby
      clear h hi hwc h0 h1 hw hby
      go_enter Tryz.func100, Tryz.ntmps100
      go_wp2_with fail
      refine HW.out.mono ?_
      rintro e w1 ⟨rfl, hb⟩
      have h1' : ChipIs w1 b c S md _ bv _ := H.out.ext ⟨w1, hb⟩
      have c20 := h1'.c20
      rw [BY.out] at c20
      have hf := h1'.free
      have c18 := h1'.c18
      have g0 : w1.cell? ⟨g, 0, none⟩ = some (.int .i64 (-1)) := by rw [hb.cell (by exact lt_of_block hg), blk_cell hg, ← hs]; rfl
      have H1 := Lib.hid h1'
      have K1 := Lib.hid (Kept.of_below (S := S) hb)
      clear h1' hb
      go_wp2_with fail
      first | go_end0 | refine bodyPost_ret (results_none rfl _ _ _) rfl ?_
      exact ⟨rfl, S, ⟨md, _, bv, dv, H1.out⟩, K1.out, fun _ hk => .inl hk⟩
    · have hr : c.ends = { c with job := some { j with susp := true } } := ends_eq h0 h1 hw _ (by rw [hby, hj]; simp [hs])
      have es : (j.sector == -1) = false := by simpa using hs
      rw [hr]
      clear hr
      have e0 : (c.cmd.stage == 0) = false := by simpa using h0
      have e1 : (c.cmd.stage == 1) = false := by simpa using h1
      have c26 := h.c26
      have hwc := whole_calls h hi
      rw [hw] at hwc
      have HW := Lib.hid hwc
      have H := Lib.hid h
      have BY := Lib.hid hby
      clear h hi hwc h0 h1 hw hby
      go_enter Tryz.func100, Tryz.ntmps100
      go_wp2_with fail
      refine HW.out.mono ?_
      rintro e w1 ⟨rfl, hb⟩
      have h1' : ChipIs w1 b c S md _ bv _ := H.out.ext ⟨w1, hb⟩
      have c20 := h1'.c20
      rw [BY.out] at c20
      have hf := h1'.free
      have c18 := h1'.c18
      have hg1 : w1.heap[g]? = some (.cells (JobBlk j) 140 (0, 0)) := by rw [hb.block g (lt_of_block hg)]; exact hg
      have g0 : w1.cell? ⟨g, 0, none⟩ = some (.int .i64 j.sector) := (blk_cell hg1).trans rfl
      have g4 : w1.cell? ⟨g, 4, none⟩ = some (.bool j.susp) := (blk_cell hg1).trans rfl
      have gf : ∀ i, w1.frozen? ⟨g, i, none⟩ = false := fun i => blk_free hg1
      have H1 := Lib.hid h1'
      have K1 := Lib.hid (Kept.of_below (S := S) hb)
      clear h1' hb
      go_wp2_with fail
      first | go_end0 | refine bodyPost_ret (results_none rfl _ _ _) rfl ?_
      exact susp_fin H1.out hj hg1 hS K1.out true

set_option maxRecDepth 100000 in
set_option maxHeartbeats 1000000 in
theorem ends_resume (h : ChipIs w b c S md jv bv dv) (hi : c.cmd.op.inn = true → c.cmd.op.data = 1) (h0 : c.cmd.stage ≠ 0) (h1 : c.cmd.stage ≠ 1) (hw : c.cmd.whole = true) (hby : c.cmd.op.byte = 122) : Calls Tryz.prog 100 #[.pointer (some ⟨b, 0, none⟩)] w (Posted b c.ends S (.tuple #[]) w) := by
  cases hj : c.job with
  | none =>
    have hjv := h.jobNil hj
    subst hjv
    have hr : c.ends = c := ends_eq h0 h1 hw _ (by rw [hby, hj]; rfl)
    rw [hr]
    clear hr hj
    have e0 : (c.cmd.stage == 0) = false := by simpa using h0
    have e1 : (c.cmd.stage == 1) = false := by simpa using h1
    have c26 := h.c26
    have hwc := whole_calls h hi
    rw [hw] at hwc
    have HW := Lib.hid hwc
    have H := Lib.hid h
    have BY := Lib.hid hby
    clear h hi hwc h0 h1 hw hby
    go_enter Tryz.func100, Tryz.ntmps100
    go_wp2_with fail
    refine HW.out.mono ?_
    rintro e w1 ⟨rfl, hb⟩
    have h1' : ChipIs w1 b c S md _ bv _ := H.out.ext ⟨w1, hb⟩
    have c20 := h1'.c20
    rw [BY.out] at c20
    have hf := h1'.free
    have c18 := h1'.c18
    have H1 := Lib.hid h1'
    have K1 := Lib.hid (Kept.of_below (S := S) hb)
    clear h1' hb
    go_wp2_with fail
    first | go_end0 | refine bodyPost_ret (results_none rfl _ _ _) rfl ?_
    exact ⟨rfl, S, ⟨md, _, bv, dv, H1.out⟩, K1.out, fun _ hk => .inl hk⟩
  | some j =>
    obtain ⟨g, rfl, hS, hne, hg⟩ := h.jobSome hj
    have hr : c.ends = { c with job := some { j with susp := false } } := ends_eq h0 h1 hw _ (by rw [hby, hj]; rfl)
    rw [hr]
    clear hr
    have e0 : (c.cmd.stage == 0) = false := by simpa using h0
    have e1 : (c.cmd.stage == 1) = false := by simpa using h1
    have c26 := h.c26
    have hwc := whole_calls h hi
    rw [hw] at hwc
    have HW := Lib.hid hwc
    have H := Lib.hid h
    have BY := Lib.hid hby
    clear h hi hwc h0 h1 hw hby
    go_enter Tryz.func100, Tryz.ntmps100
    go_wp2_with fail
    refine HW.out.mono ?_
    rintro e w1 ⟨rfl, hb⟩
    have h1' : ChipIs w1 b c S md _ bv _ := H.out.ext ⟨w1, hb⟩
    have c20 := h1'.c20
    rw [BY.out] at c20
    have hf := h1'.free
    have c18 := h1'.c18
    have hg1 : w1.heap[g]? = some (.cells (JobBlk j) 140 (0, 0)) := by rw [hb.block g (lt_of_block hg)]; exact hg
    have g4 : w1.cell? ⟨g, 4, none⟩ = some (.bool j.susp) := (blk_cell hg1).trans rfl
    have gf : ∀ i, w1.frozen? ⟨g, i, none⟩ = false := fun i => blk_free hg1
    have H1 := Lib.hid h1'
    have K1 := Lib.hid (Kept.of_below (S := S) hb)
    clear h1' hb
    go_wp2_with fail
    first | go_end0 | refine bodyPost_ret (results_none rfl _ _ _) rfl ?_
    exact susp_fin H1.out hj hg1 hS K1.out false

end
end Go.Proofs.YtefoldehejbiiaaGreat
