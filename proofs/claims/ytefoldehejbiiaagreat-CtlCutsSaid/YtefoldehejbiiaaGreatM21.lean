/-
  Walks: something is let be under way.
-/
import Derived.Test.YtefoldehejbiiaaGreatM20
import Derived.Test.YtefoldehejbiiaaGreatM05
import Derived.Deep.RegionWith
import Derived.BigRegion

namespace Go.Proofs.YtefoldehejbiiaaGreat
open Go.RowKit Lich

section
variable {w : World} {b : Nat} {c : Chip} {S : Nat → Prop} {md : Bool} {jv bv dv : Value}

/-- What is written into blocks that are none of a chip's own. -/
theorem ChipIs.far {R : Nat → Prop} {w' : World} (h : ChipIs w b c S md jv bv dv) (hk : Kept R w w') (hb : ¬ R b) (hj : ∀ g, jv = .pointer (some ⟨g, 0, none⟩) → ¬ R g) (hu : ∀ k, bv.ownBlock = some k → ¬ R k) (hd : ∀ k, dv.ownBlock = some k → ¬ R k) : ChipIs w' b c S md jv bv dv :=
  ⟨blk_kept hk h.blk hb, h.own, h.job.keep hk hj, h.busy.keep hk hu, ownsRow_keep h.data hk hd, h.dataS, h.apart⟩

def JobBlk (j : Job) : Array Value := #[.int .i64 j.sector, .int .i64 j.page, .string (S8 j.data), .int .i64 j.left, .bool j.susp]

theorem ChipIs.setJob (h : ChipIs w b c S md jv bv dv) {g : Nat} {j : Job} (hg : S g) (hb : w.heap[g]? = some (.cells (JobBlk j) 140 (0, 0))) :
    ChipIs (w.setCell ⟨b, 18, none⟩ (.pointer (some ⟨g, 0, none⟩))) b { c with job := some j } S md (.pointer (some ⟨g, 0, none⟩)) bv dv := by
  have hk : Kept (fun k => k = b) w (w.setCell ⟨b, 18, none⟩ (.pointer (some ⟨g, 0, none⟩))) := (Kept.refl (fun k => k = b) w).setCell (p := ⟨b, 18, none⟩) (.inl rfl) _
  have hne : g ≠ b := blk_ne hb h.blk (by decide)
  exact ⟨by rw [blk_set h.blk]; rfl, h.own, ⟨g, rfl, hg, blk_kept hk hb hne⟩, h.busy.keep hk (fun k hk' => h.busy_ne k hk'), ownsRow_keep h.data hk (fun k hk' => h.data_ne k hk'), h.dataS, h.apart⟩

theorem ChipIs.setBusy (h : ChipIs w b c S md jv bv dv) {v : Value} {xs : List Int} (hv : IntsIs w v xs S) (hvb : ∀ k, v.ownBlock = some k → k ≠ b) (ha : ∀ k, dv.ownBlock = some k → v.ownBlock ≠ some k) :
    ChipIs (w.setCell ⟨b, 19, none⟩ v) b { c with busy := xs } S md jv v dv := by
  have hk : Kept (fun k => k = b) w (w.setCell ⟨b, 19, none⟩ v) := (Kept.refl (fun k => k = b) w).setCell (p := ⟨b, 19, none⟩) (.inl rfl) _
  exact ⟨by rw [blk_set h.blk]; rfl, h.own, h.job.keep hk (fun g hg => h.job_ne hg), hv.keep hk hvb, ownsRow_keep h.data hk (fun k hk' => h.data_ne k hk'), h.dataS, ha⟩

theorem ChipIs.setWipe (h : ChipIs w b c S md jv bv dv) (hl : c.wipes.length = 8) (q : Nat) (hq : q < 8) (v : Int) :
    ChipIs (w.setCell ⟨b, 3 + q, none⟩ (.int .i64 v)) b { c with wipes := c.wipes.set q v } S md jv bv dv := by
  refine h.set (c' := { c with wipes := c.wipes.set q v }) (i := 3 + q) (v := .int .i64 v) ?_ rfl rfl rfl
  obtain ⟨a0, a1, a2, a3, a4, a5, a6, a7, hw⟩ : ∃ a0 a1 a2 a3 a4 a5 a6 a7, c.wipes = [a0, a1, a2, a3, a4, a5, a6, a7] := by
    match hx : c.wipes with
    | [a0, a1, a2, a3, a4, a5, a6, a7] => exact ⟨_, _, _, _, _, _, _, _, rfl⟩
    | [] | [_] | [_, _] | [_, _, _] | [_, _, _, _] | [_, _, _, _, _] | [_, _, _, _, _, _] | [_, _, _, _, _, _, _] => rw [hx] at hl; simp at hl
    | _ :: _ :: _ :: _ :: _ :: _ :: _ :: _ :: _ :: _ => rw [hx] at hl; simp at hl
  unfold ChipBlk
  simp only [hw]
  obtain rfl | rfl | rfl | rfl | rfl | rfl | rfl | rfl : q = 0 ∨ q = 1 ∨ q = 2 ∨ q = 3 ∨ q = 4 ∨ q = 5 ∨ q = 6 ∨ q = 7 := by omega
  all_goals rfl

theorem wipe_cell (h : ChipIs w b c S md jv bv dv) (q : Nat) (hq : q < 8) : w.cell? ⟨b, 3 + q, none⟩ = some (.int .i64 (c.wipes.getD q 0)) := by
  rw [blk_cell h.blk]
  obtain rfl | rfl | rfl | rfl | rfl | rfl | rfl | rfl : q = 0 ∨ q = 1 ∨ q = 2 ∨ q = 3 ∨ q = 4 ∨ q = 5 ∨ q = 6 ∨ q = 7 := by omega
  all_goals rfl

set_option maxRecDepth 100000 in
set_option maxHeartbeats 1000000 in
/-- What may not be under way. -/
theorem starts_head (h : ChipIs w b c S md jv bv dv) (a0 : 0 ≤ c.cmd.addr) (a1 : c.cmd.addr < 4096) (g : Nat) (hoff : c.en = false ∨ (c.prot = true ∧ c.cmd.addr < 2048)) :
    Calls Tryz.prog 121 #[.pointer (some ⟨b, 0, none⟩), .pointer (some ⟨g, 0, none⟩)] w fun e w' => e = .returned (.tuple #[]) ∧ ChipIs w' b { c with en := false } S md jv bv dv ∧ Kept S w w' := by
  have c16 := h.c16
  have c1 := h.c1
  have c29 := h.c29
  by_cases he : c.en = false
  · rw [he] at c16
    have hr : { c with en := false } = c := by rw [← he]
    rw [hr]
    have H := Lib.hid h
    clear h hoff hr he
    go_enter Tryz.func121, Tryz.ntmps121
    go_wp2_with fail
    first | go_end0 | refine bodyPost_ret (results_none rfl _ _ _) rfl ?_
    exact ⟨rfl, H.out, Kept.refl S w⟩
  · have he' : c.en = true := by simpa using he
    obtain ⟨hp, ha⟩ : c.prot = true ∧ c.cmd.addr < 2048 := by rcases hoff with e | e; exact absurd e he; exact e
    rw [he'] at c16
    rw [hp] at c1
    have x1 : ∀ x : Ext w, x.w'.cell? ⟨b, 1, none⟩ = some (.bool true) := fun x => x.cell c1
    have x29 : ∀ x : Ext w, x.w'.cell? ⟨b, 29, none⟩ = some (.int .i64 c.cmd.addr) := fun x => x.cell c29
    have hp2 := fun x : Ext w => protected_calls true c.cmd.addr x.w' a0 a1
    have HP := Lib.hid hp2
    have H := Lib.hid h
    clear h hoff hp2
    go_enter Tryz.func121, Tryz.ntmps121
    go_wp2_with fail
    refine wp_region_ext (by kernel_rfl) (by kernel_rfl) ?_
    repeat (go_big_quiet_step ((go_at_call 133; exact ext_eq (HP.out _))))
    refine wpQuiet_nil ?_
    intro wx hx
    obtain ⟨x, rfl⟩ := hx
    have h1' : ChipIs x.w' b c S md jv bv dv := H.out.ext x
    have k1 : Kept S w x.w' := Kept.of_below x.below
    generalize x.w' = w1 at *
    have q16 := h1'.c16
    have qf := h1'.free
    have H1 := Lib.hid h1'
    have K1 := Lib.hid k1
    clear h1' k1
    have hd : decide (c.cmd.addr < 2048) = true := by simp [ha]
    rw [hd]
    go_wp2_with fail
    first | go_end0 | refine bodyPost_ret (results_none rfl _ _ _) rfl ?_
    exact ⟨rfl, H1.out.set (c' := { c with en := false }) (i := 16) (v := .bool false) rfl rfl rfl rfl, K1.out.setCell (p := ⟨b, 16, none⟩) (.inl H1.out.own) _⟩

/-- What lies at the block of what begins. -/
def FreshJob (w : World) (g : Nat) (j : Job) : Prop := w.heap[g]? = some (.cells (JobBlk { j with left := 0, susp := false }) 140 (0, 0))

theorem job_left {w1 : World} {g : Nat} {j : Job} (hg : FreshJob w1 g j) (hs : j.susp = false) (l : Int) : (w1.setCell ⟨g, 3, none⟩ (.int .i64 l)).heap[g]? = some (.cells (JobBlk { j with left := l }) 140 (0, 0)) := by
  rw [blk_set hg]
  unfold JobBlk
  rw [hs]
  rfl
theorem job_left2 {w1 : World} {g : Nat} {j : Job} {l : Int} (hg : w1.heap[g]? = some (.cells (JobBlk { j with left := l }) 140 (0, 0))) (k : Int) : (w1.setCell ⟨g, 3, none⟩ (.int .i64 k)).heap[g]? = some (.cells (JobBlk { j with left := k }) 140 (0, 0)) := by
  rw [blk_set hg]
  rfl

/-- A store into what begins leaves a chip as it is. -/
theorem ChipIs.atJob (h : ChipIs w b c S md jv bv dv) {g : Nat} {cs : Array Value} (hg : w.heap[g]? = some (.cells cs 140 (0, 0))) (hjv : jv ≠ .pointer (some ⟨g, 0, none⟩)) (i : Nat) (v : Value) :
    ChipIs (w.setCell ⟨g, i, none⟩ v) b c S md jv bv dv := by
  refine h.far (R := fun k => k = g) ((Kept.refl (fun k => k = g) w).setCell (p := ⟨g, i, none⟩) (.inl rfl) v) ?_ ?_ ?_ ?_
  · intro e; subst e; exact blk_ne hg h.blk (by decide) rfl
  · rintro k e rfl; exact hjv e
  · rintro k e rfl
    rcases h.busy with ⟨rfl, _⟩ | ⟨g', off, cap, cs', rfl, _, _, _, hb', _⟩
    · simp [Value.ownBlock] at e
    · simp only [Value.ownBlock, Option.some.injEq] at e; subst e
      exact blk_ne hb' hg (by decide) rfl
  · rintro k e rfl
    obtain ⟨cur, hb'⟩ := owns_blk h.data e
    exact blk_ne hb' hg (by decide) rfl

theorem fin_page {w2 : World} (h2 : ChipIs w2 b c S md jv bv dv) {g : Nat} {j : Job} (hg : w2.heap[g]? = some (.cells (JobBlk j) 140 (0, 0))) (hS : S g) (hk : Kept S w w2) :
    Now b { c with job := some j } S (.tuple #[]) w (.returned (.tuple #[])) (w2.setCell ⟨b, 18, none⟩ (.pointer (some ⟨g, 0, none⟩))) :=
  ⟨rfl, ⟨md, _, bv, dv, h2.setJob hS hg⟩, hk.setCell (p := ⟨b, 18, none⟩) (.inl h2.own) _⟩

theorem fin_sector {w2 : World} (h2 : ChipIs w2 b c S md jv bv dv) {g : Nat} {j : Job} (hg : w2.heap[g]? = some (.cells (JobBlk j) 140 (0, 0))) (hS : S g) (hk : Kept S w w2) (hl : c.wipes.length = 8) (q : Nat) (hq : q < 8) (v : Int) :
    Now b { c with job := some j, wipes := c.wipes.set q v } S (.tuple #[]) w (.returned (.tuple #[])) ((w2.drew.setCell ⟨b, 3 + q, none⟩ (.int .i64 v)).setCell ⟨b, 18, none⟩ (.pointer (some ⟨g, 0, none⟩))) := by
  have h3 := (h2.drewN 1).setWipe hl q hq v
  have hne : g ≠ b := blk_ne hg h2.blk (by decide)
  exact ⟨rfl, ⟨md, _, bv, dv, h3.setJob (j := j) hS (blk_far (w := w2.drew) hg hne _)⟩, ((hk.drew).setCell (p := ⟨b, 3 + q, none⟩) (.inl h2.own) _).setCell (p := ⟨b, 18, none⟩) (.inl h2.own) _⟩

set_option maxRecDepth 100000 in
set_option maxHeartbeats 2000000 in
theorem starts_on (h : ChipIs w b c S md jv bv dv) (a0 : 0 ≤ c.cmd.addr) (a1 : c.cmd.addr < 4096) (g : Nat) (j : Job) (hg : FreshJob w g j) (hjv : jv ≠ .pointer (some ⟨g, 0, none⟩)) (hS : S g) (hjs : j.susp = false)
    (he : c.en = true) (hp : (c.prot && decide (c.cmd.addr < 2048)) = false) (hjo : j.sector = -1 ∨ 0 ≤ j.sector ∧ j.sector < 8) (hw8 : c.wipes.length = 8) (hbu : c.busy = []) :
    Calls Tryz.prog 121 #[.pointer (some ⟨b, 0, none⟩), .pointer (some ⟨g, 0, none⟩)] w (Now b (c.starts j) S (.tuple #[]) w) := by
  have c16 := h.c16
  have c1 := h.c1
  have c29 := h.c29
  rw [he] at c16
  have x1 : ∀ x : Ext w, x.w'.cell? ⟨b, 1, none⟩ = some (.bool c.prot) := fun x => x.cell c1
  have x29 : ∀ x : Ext w, x.w'.cell? ⟨b, 29, none⟩ = some (.int .i64 c.cmd.addr) := fun x => x.cell c29
  have hp2 := fun x : Ext w => protected_calls c.prot c.cmd.addr x.w' a0 a1
  rw [hp] at hp2
  have HP := Lib.hid hp2
  have H := Lib.hid h
  clear h hp2
  go_enter Tryz.func121, Tryz.ntmps121
  go_wp2_with fail
  refine wp_region_ext (by kernel_rfl) (by kernel_rfl) ?_
  repeat (go_big_quiet_step ((go_at_call 133; exact ext_eq (HP.out _))))
  refine wpQuiet_nil ?_
  intro wx hx
  obtain ⟨x, rfl⟩ := hx
  have h1' : ChipIs x.w' b c S md jv bv dv := H.out.ext x
  have k1 : Kept S w x.w' := Kept.of_below x.below
  have hg1 : FreshJob x.w' g j := by unfold FreshJob at *; rw [x.below.block g (lt_of_block hg)]; exact hg
  generalize x.w' = w1 at *
  have q19 := h1'.c19
  have q18 := h1'.c18
  have qf := h1'.free
  have qw := wipe_cell h1'
  have hne : g ≠ b := blk_ne hg1 h1'.blk (by decide)
  have hne' : b ≠ g := fun e => hne e.symm
  have g3 : w1.cell? ⟨g, 3, none⟩ = some (.int .i64 0) := (blk_cell hg1).trans rfl
  have g0 : w1.cell? ⟨g, 0, none⟩ = some (.int .i64 j.sector) := (blk_cell hg1).trans rfl
  have gf : ∀ i, w1.frozen? ⟨g, i, none⟩ = false := fun i => blk_free hg1
  have H1 := Lib.hid h1'
  have K1 := Lib.hid k1
  have G1 := Lib.hid hg1
  clear h1' k1 hg1 hg
  have hbz : ∃ A cap, bv = .slice A 0 cap := by
    rcases H1.out.busy with ⟨e, _⟩ | ⟨k, off, cap, cs, e, _⟩
    · exact ⟨_, _, e⟩
    · rw [hbu] at e; exact ⟨_, _, e⟩
  obtain ⟨A, cap, rfl⟩ := hbz
  have hjs' : j.sector = -1 ∨ ∃ q : Nat, q < 8 ∧ j.sector = q := by
    rcases hjo with e | ⟨e0, e1⟩
    · exact .inl e
    · exact .inr ⟨j.sector.toNat, by omega, by omega⟩
  rcases hjs' with hj1 | ⟨q, hq, hj1⟩
  · rw [hj1] at g0
    have hr : c.starts j = { c with job := some { j with left := 8 } } := by
      unfold Chip.starts
      simp only [he, hbu, hj1]
      have hp' : ¬ (c.prot = true ∧ c.cmd.addr < 2048) := by simpa using hp
      rw [if_neg (by simp), if_neg hp', if_pos trivial]
    have HR := Lib.hid hr
    clear hr
    have F := Lib.hid (fin_page (w := w) (H1.out.atJob G1.out hjv 3 (.int .i64 8)) (job_left G1.out hjs 8) hS (K1.out.setCell (p := ⟨g, 3, none⟩) (.inl hS) _))
    go_wp2_with fail
    first | go_end0 | refine bodyPost_ret (results_none rfl _ _ _) rfl ?_
    rw [HR.out]
    exact F.out
  · rw [hj1] at g0
    have hqb : ((q : Int) == -1) = false := by simp
    have qwq := qw q hq
    have hr : c.starts j = { c with job := some { j with left := 8 }, wipes := c.wipes.set q (wrap64 (c.wipes.getD q 0 + 1)) } := by
      unfold Chip.starts
      simp only [he, hbu, hj1]
      have hp' : ¬ (c.prot = true ∧ c.cmd.addr < 2048) := by simpa using hp
      rw [if_neg (by simp), if_neg hp', if_neg (by omega)]
      rfl
    have HR := Lib.hid hr
    clear hr
    have h2 := H1.out.atJob G1.out hjv 3 (.int .i64 8)
    have hg2 := job_left G1.out hjs 8
    have k2 : Kept S w (w1.setCell ⟨g, 3, none⟩ (.int .i64 8)) := K1.out.setCell (p := ⟨g, 3, none⟩) (.inl hS) _
    go_wp2_with fail
    generalize w1.setCell ⟨g, 3, none⟩ (.int .i64 8) = w2 at *
    have y0 : w2.cell? ⟨g, 0, none⟩ = some (.int .i64 q) := (blk_cell hg2).trans (by rw [← hj1]; rfl)
    have yq := wipe_cell h2 q hq
    have yf := h2.free
    have y18 := h2.c18
    have F := Lib.hid (fin_sector (w := w) h2 hg2 hS k2 hw8 q hq (wrap64 (c.wipes.getD q 0 + 1)))
    clear qwq qw q19 g3 g0 gf qf h2 hg2 k2
    have F' : Now b (c.starts j) S (.tuple #[]) w (.returned (.tuple #[])) ((w2.drew.setCell ⟨b, 3 + q, none⟩ (.int .i64 (wrap64 (c.wipes.getD q 0 + 1)))).setCell ⟨b, 18, none⟩ (.pointer (some ⟨g, 0, none⟩))) := by rw [HR.out]; exact F.out
    have F2 := Lib.hid F'
    clear F F' HR hj1 H1 G1 hqb
    generalize c.wipes.getD q 0 = v at *
    obtain rfl | rfl | rfl | rfl | rfl | rfl | rfl | rfl : q = 0 ∨ q = 1 ∨ q = 2 ∨ q = 3 ∨ q = 4 ∨ q = 5 ∨ q = 6 ∨ q = 7 := by omega
    all_goals
      go_still_tail 13, (by kernel_rfl)
      go_wp2_with fail
      first | go_end0 | refine bodyPost_ret (results_none rfl _ _ _) rfl ?_
      exact F2.out
end
end Go.Proofs.YtefoldehejbiiaaGreat
