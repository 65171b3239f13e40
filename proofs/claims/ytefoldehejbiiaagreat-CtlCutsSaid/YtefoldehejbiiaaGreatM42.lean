/-
  Walks: a controller runs a command.
-/
import Derived.Test.YtefoldehejbiiaaGreatM38
import Derived.Test.YtefoldehejbiiaaGreatM39
import Derived.Test.YtefoldehejbiiaaGreatM41

namespace Go.Proofs.YtefoldehejbiiaaGreat
open Go.RowKit Lich

section
variable {w : World} {q b fo fi : Nat} {k : Ctl} {md : Bool} {lv : Value} {gl gb : Nat} {Sc : Nat → Prop}

theorem opOf_addr {o : OpD} (ho : opOf 235 = some o) : o = { byte := 235, addr := 4, mode := true, dummy := 4, data := 4 } := by
  have h235 : opOf 235 = some { byte := 235, addr := 4, mode := true, dummy := 4, data := 4 } := by decide
  rw [h235] at ho
  exact (Option.some.inj ho).symm
theorem row_cap {w : World} {base : Nat} {e : TypeId} {size : Nat} {v : Value} {n : Nat} {xs : List Value} (h : w.ownsRow base e size v n xs) (hn : 1 ≤ n) : ∃ g cap, v = .slice (some ⟨g, 0, none⟩) n cap ∧ n ≤ cap := by
  rcases h.2 with ⟨_, h0⟩ | ⟨g, cap, cur, hv, _, _, hc, _⟩
  · omega
  · exact ⟨g, cap, hv, hc⟩

theorem CmdOk.one {o : OpD} (ho : opOf 235 = some o) {at_ : Int} {data : List Int} {read : Int} (h : CmdOk o at_ data read) : data.length = 1 := by
  have h235 : opOf 235 = some { byte := 235, addr := 4, mode := true, dummy := 4, data := 4 } := by decide
  rw [h235] at ho
  have := Option.some.inj ho
  subst this
  have := h.f
  simpa [fitsB] using this

theorem PhasesIs.tail {v : Value} {ps : List Phase} {F : Nat → Prop} (h : PhasesIs w v ps F) {g cap : Nat} (hv : v = .slice (some ⟨g, 0, none⟩) ps.length cap) : PhasesIs w (.slice (some ⟨g, 4, none⟩) (ps.length - 1) (cap - 1)) ps.tail F := by
  obtain ⟨q, o, cap', e, hp⟩ := h
  rw [hv] at e
  simp only [Value.slice.injEq, Option.some.injEq, Addr.mk.injEq, true_and, and_true] at e
  obtain ⟨⟨rfl, rfl⟩, rfl⟩ := e
  refine ⟨g, 4, cap - 1, by simp, fun i hi => ?_⟩
  have := hp (i + 1) (by simp at hi; omega)
  rw [show 0 + (i + 1) * 4 = 4 + i * 4 by omega] at this
  rw [show ps.tail.getD i {} = ps.getD (i + 1) {} by simp [List.getD]]
  exact this

/-- Phases that lay there, behind a step of what owns less. -/
theorem PhasesIs.after {w2 w3 : World} {v : Value} {ps : List Phase} {n : Nat} {S S3 S4 : Nat → Prop} (h : PhasesIs w2 v ps (fun j => j < n)) (hs : Step S S3 w2 w3) (hS : ∀ j, S j → j < n) {w4 : World} (hk : Kept S3 w3 w4) (hS4 : ∀ j, S4 j → S3 j) : PhasesIs w4 v ps S4 := by
  have h1 := (h.mono (F' := S) hS).step hs
  have h2 := h1.step (Step.of_kept hk)
  exact h2.mono hS4

/-- Ahead of a command's last drive. -/
def RunMid (q b fo fi : Nat) (k : Ctl) (S : Nat → Prop) (bb at_ : Int) (data : List Int) (dv : Value) (read : Int) (w : World) (psv : Value) (wx : World) : Prop :=
  ∃ md lv gl gb Sc k1 ps, CtlMem wx q b fo fi k1 md lv gl gb Sc ∧ PhasesIs wx psv ps Sc ∧ ps.all Phase.okB = true ∧ ps.length ≤ 20 ∧ k1.lost = false ∧ k1.chip.Fine ∧ k1.chip.sel = false ∧ 0 ≤ k1.clocks ∧ k1.clocks < 4000000000000000000 ∧ k1.left < 9223372036854775808 ∧
    Step S (CtlFeet q fo fi md gl gb Sc) w wx ∧ RowIs wx dv data ∧ (∀ g, dv.ownBlock = some g → ¬ CtlFeet q fo fi md gl gb Sc g) ∧ k.run bb at_ data read = k1.fin bb data ps

theorem Ctl.drive_ways {k : Ctl} (hf : k.chip.Fine) (hsel : k.chip.sel = false) {ps : List Phase} (hok : ps.all Phase.okB = true) (hlen : ps.length ≤ 20) :
    (∃ k' xs, k.drive ps = (k', xs, 0) ∧ k'.chip.Fine ∧ k'.chip.sel = false ∧ k'.lost = k.lost ∧ k.clocks ≤ k'.clocks ∧ k'.clocks ≤ k.clocks + 200000 ∧ (k.left < 9223372036854775808 → k'.left < 9223372036854775808)) ∨ ∃ k', k.drive ps = (k', [], 1101) := by
  obtain ⟨c', xs, n, t, hd⟩ := driveOn_drives hf hsel hok hlen k.left
  rw [Ctl.drive_eq hd]
  have h0 := hd.n0
  have h1 := hd.n1
  cases t
  · rw [if_neg (by simp)]
    exact .inr ⟨_, rfl⟩
  · rw [if_pos rfl]
    refine .inl ⟨{ k with chip := c', clocks := k.clocks + n, left := if 0 ≤ k.left then k.left - n else k.left }, xs, rfl, hd.fine, hd.sel rfl, rfl, ?_, ?_, fun hl => ?_⟩
    · show k.clocks ≤ k.clocks + n; omega
    · show k.clocks + n ≤ k.clocks + 200000; omega
    · show (if 0 ≤ k.left then k.left - n else k.left) < _
      split <;> omega

set_option maxRecDepth 100000 in
theorem ctlRun_lost (h : CtlMem w q b fo fi k md lv gl gb Sc) (hl : k.lost = true) (bb at_ : Int) (dv : Value) (read : Int) :
    Calls Tryz.prog 17 #[.pointer (some ⟨q, 0, none⟩), .int .i64 bb, .int .i64 at_, dv, .int .i64 read] w (CtlGave q b (k, [], 1101) (CtlFeet q fo fi md gl gb Sc) w) := by
  have c9 : w.cell? ⟨q, 9, none⟩ = some (.bool true) := by rw [← hl]; exact h.cell rfl
  have H := Lib.hid (h.gave_none (Step.refl _ w) (e := 1101))
  clear h hl
  go_enter Tryz.func17, Tryz.ntmps17
  go_wp2_with fail
  refine (state_lost c9).mono ?_
  rintro e w' ⟨rfl, rfl⟩
  go_wp2_with fail
  go_ret2
  exact H.out

theorem CtlMem.gave_below (h : CtlMem w q b fo fi k md lv gl gb Sc) {w' : World} (hb : Below w.heap.size w w') (e : Int) : CtlGave q b (k, [], e) (CtlFeet q fo fi md gl gb Sc) w (.returned (.tuple #[.slice none 0 0, .int .i64 e])) w' :=
  (h.keep (R := fun _ => False) (Kept.of_below hb) (fun _ _ e => e)).gave_none (Step.of_kept (Kept.of_below hb))

set_option maxRecDepth 100000 in
set_option maxHeartbeats 2000000 in
theorem ctlRun_none (h : CtlMem w q b fo fi k md lv gl gb Sc) (hl : k.lost = false) (bb at_ : Int) (ho : opOf bb = none) (dv : Value) (read : Int) :
    Calls Tryz.prog 17 #[.pointer (some ⟨q, 0, none⟩), .int .i64 bb, .int .i64 at_, dv, .int .i64 read] w (CtlGave q b (k, [], 1100) (CtlFeet q fo fi md gl gb Sc) w) := by
  have c9 : w.cell? ⟨q, 9, none⟩ = some (.bool false) := by rw [← hl]; exact h.cell rfl
  have hfd := find_calls bb w
  rw [ho] at hfd
  simp only [Option.getD_none, Option.isSome_none, Bool.false_eq_true, ↓reduceIte, opVal] at hfd
  have hcm := fun u => command_none at_ dv read u
  simp only [opVal] at hcm
  have HF := Lib.hid hfd
  have HC := Lib.hid hcm
  have H := Lib.hid h
  clear h hl hfd hcm ho
  go_enter Tryz.func17, Tryz.ntmps17
  go_wp2_with fail
  refine (state_ok c9).mono ?_
  rintro e w' ⟨rfl, rfl⟩
  go_wp2_with fail
  refine HF.out.mono ?_
  rintro e w1 ⟨rfl, hb1⟩
  have HB1 := Lib.hid hb1
  clear hb1
  go_wp2_with fail
  refine (HC.out _).mono ?_
  rintro e w2 ⟨rfl, hb2⟩
  have HB2 := Lib.hid ((below_new HB1.out _).trans (hb2.mono (by have := HB1.out.size; simp; omega)))
  clear hb2
  go_wp2_with fail
  go_ret2
  exact H.out.gave_below HB2.out 1100

set_option maxRecDepth 100000 in
set_option maxHeartbeats 2000000 in
theorem ctlRun_bad (h : CtlMem w q b fo fi k md lv gl gb Sc) (hl : k.lost = false) (bb at_ : Int) {o : OpD} (ho : opOf bb = some o) (data : List Int) (dv : Value) (read : Int) (hv : RowIs w dv data) (hbad : ¬ CmdOk o at_ data read) :
    Calls Tryz.prog 17 #[.pointer (some ⟨q, 0, none⟩), .int .i64 bb, .int .i64 at_, dv, .int .i64 read] w (CtlGave q b (k, [], 1100) (CtlFeet q fo fi md gl gb Sc) w) := by
  have c9 : w.cell? ⟨q, 9, none⟩ = some (.bool false) := by rw [← hl]; exact h.cell rfl
  have hfd := find_calls bb w
  rw [ho] at hfd
  simp only [Option.getD_some, Option.isSome_some, ↓reduceIte, opVal] at hfd
  have ho' : opOf o.byte = some o := by rw [opOf_byte ho]; exact ho
  have hcm := fun u (hu : Below w.heap.size w u) => command_bad o ho' at_ data dv read u (hv.below hu) hbad
  simp only [opVal] at hcm
  obtain ⟨y0, y1, y2, y3, y4, y5⟩ := o
  simp only at hfd hcm
  have HF := Lib.hid hfd
  have HC := Lib.hid hcm
  have H := Lib.hid h
  obtain ⟨a, cap, rfl⟩ := hv.len
  clear h hl hfd hcm ho ho' hbad hv
  go_enter Tryz.func17, Tryz.ntmps17
  go_wp2_with fail
  refine (state_ok c9).mono ?_
  rintro e w' ⟨rfl, rfl⟩
  go_wp2_with fail
  refine HF.out.mono ?_
  rintro e w1 ⟨rfl, hb1⟩
  have HB1 := Lib.hid hb1
  clear hb1
  go_wp2_with fail
  refine (HC.out _ (below_new HB1.out _)).mono ?_
  rintro e w2 ⟨rfl, hb2⟩
  have HB2 := Lib.hid ((below_new HB1.out _).trans (hb2.mono (by have := HB1.out.size; simp; omega)))
  clear hb2
  go_wp2_with fail
  go_ret2
  exact H.out.gave_below HB2.out 1100

set_option maxRecDepth 100000 in
set_option maxHeartbeats 4000000 in
theorem ctlRun_plain_235_ok (h : CtlMem w q b fo fi k md lv gl gb Sc) (hl : k.lost = false) (hkc : k.chip.Fine) (hks : k.chip.sel = false) (hc0 : 0 ≤ k.clocks) (hc1 : k.clocks < 3000000000000000000) (hlf : k.left < 9223372036854775808)
    (bb at_ : Int) {o : OpD} (ho : opOf bb = some o) (data : List Int) (dv : Value) (read : Int) (hv : RowIs w dv data) (hdf : ∀ g, dv.ownBlock = some g → ¬ CtlFeet q fo fi md gl gb Sc g) (hok : CmdOk o at_ data read)
    (hg : k.goes = false) (hbb : bb = 235) {k5 : Ctl} {xs5 : List Int} (hw : k.drive (cmdPhases o at_ data read) = (k5, xs5, 0)) :
    Calls Tryz.prog 17 #[.pointer (some ⟨q, 0, none⟩), .int .i64 bb, .int .i64 at_, dv, .int .i64 read] w (CtlGave q b ({ k5 with goes := decide (bb = 235 ∧ data.headD 0 = 160) }, xs5, 0) (CtlFeet q fo fi md gl gb Sc) w) := by
  have c9 : w.cell? ⟨q, 9, none⟩ = some (.bool false) := by rw [← hl]; exact h.cell rfl
  have hfd := find_calls bb w
  rw [ho] at hfd
  simp only [Option.getD_some, Option.isSome_some, ↓reduceIte, opVal] at hfd
  have ho' : opOf o.byte = some o := by rw [opOf_byte ho]; exact ho
  obtain ⟨hall, hplen⟩ := cmdPhases_ok ho' hok
  have hd1 : bb = 235 → data.length = 1 := fun e => CmdOk.one (e ▸ ho) hok
  have hcm : ∀ u, Below w.heap.size w u → Calls Tryz.prog 45 #[opVal o, .int .i64 at_, dv, .int .i64 read] u (Commanded (cmdPhases o at_ data read) u) := fun u hu => by
    obtain ⟨y0, y1, y2, y3, y4, y5⟩ := o
    exact command_good' y0 y1 y3 y4 y2 y5 ho' at_ data dv read u (hv.below hu) hok
  have hpne : cmdPhases o at_ data read ≠ [] := by unfold cmdPhases; simp
  have hpl2 : bb = 235 → 2 ≤ (cmdPhases o at_ data read).length := fun e => by
    obtain rfl := opOf_addr (o := o) (by rw [← e]; exact ho)
    simp [cmdPhases]
  have hpl0 : 1 ≤ (cmdPhases o at_ data read).length := List.length_pos_iff.2 hpne
  generalize cmdPhases o at_ data read = ps at *
  obtain ⟨y0, y1, y2, y3, y4, y5⟩ := o
  simp only [opVal] at hfd hcm
  have HF := Lib.hid hfd
  have HCM := Lib.hid hcm
  have H := Lib.hid h
  have HV := Lib.hid hv
  have HDF := Lib.hid hdf
  have HALL := Lib.hid hall
  have HD1 := Lib.hid hd1
  have HKC := Lib.hid hkc
  have HPN := Lib.hid hpne
  have HBB := Lib.hid hbb
  have HW := Lib.hid hw
  have c70 : w.cell? ⟨q, 7, none⟩ = some (.bool k.goes) := h.cell rfl
  rw [hg] at c70
  have c7w : ∀ w2, Below w.heap.size w w2 → w2.cell? ⟨q, 7, none⟩ = some (.bool false) := fun w2 hb => by rw [World.cell?_of_block (hb.block q (lt_of_block h.blk))]; exact c70
  obtain ⟨a, cap, rfl⟩ := hv.len
  have b235 : (bb == 235) = true := by simp [hbb]
  clear h hfd hcm ho ho' hv hok hall hd1 hkc hdf hpne hbb hw hg c70 hpl2
  go_enter Tryz.func17, Tryz.ntmps17
  go_wp2_with fail
  refine (state_ok c9).mono ?_
  rintro e w' ⟨rfl, rfl⟩
  go_wp2_with fail
  refine HF.out.mono ?_
  rintro e w1 ⟨rfl, hb1⟩
  have HB1 := Lib.hid hb1
  clear hb1
  go_wp2_with fail
  refine (HCM.out _ (below_new HB1.out _)).mono ?_
  rintro e w2 ⟨psv, vs, rfl, hown, hb2⟩
  have hb2' := (below_new HB1.out (.cells #[.int .i64 y0, .int .i64 y1, .bool y2, .int .i64 y3, .int .i64 y4, .bool y5] 94)).trans (hb2.mono (by have := HB1.out.size; simp; omega))
  have hph := hown.phases HPN.out
  obtain ⟨g0, cp0, hpsv, hcap0⟩ := row_cap hown.row hpl0
  have HCP := Lib.hid hcap0
  have hn0 : w.heap.size ≤ (w1.alloc (.cells #[.int .i64 y0, .int .i64 y1, .bool y2, .int .i64 y3, .int .i64 y4, .bool y5] 94)).heap.size := by have := HB1.out.size; simp; omega
  have HPH := Lib.hid (hph.mono (F' := fun j => j < w.heap.size) (fun j hj => Nat.lt_of_lt_of_le hj hn0))
  have c7 := c7w w2 hb2'
  have h2 : CtlMem w2 q b fo fi k md lv gl gb Sc := H.out.keep (R := fun _ => False) (Kept.of_below hb2') (fun _ _ e => e)
  have cf := h2.free
  have H2 := Lib.hid h2
  have HS2 := Lib.hid (Step.of_kept (S := CtlFeet q fo fi md gl gb Sc) (Kept.of_below hb2'))
  have HV2 := Lib.hid (HV.out.below hb2')
  subst hpsv
  clear hcap0
  clear hb2 hb2' hown hph h2 c7w HB1 HCM HF
  have HDR := Lib.hid (ctlDrive_calls H2.out HKC.out hks _ _ (HPH.out.mono (fun j hj => H.out.low j hj)) HALL.out (by omega) hl hc0 (by omega) hlf)
  rw [HW.out] at HDR
  go_wp2_with fail
  refine HDR.out.mono ?_
  rintro e w5 ⟨xv, S5, rfl, hrow, ⟨fo5, fi5, md5, lv5, gl5, gb5, Sc5, hm, rfl⟩, hst5, hfar5⟩
  have HROW := Lib.hid hrow
  have HM := Lib.hid hm
  have HST := Lib.hid (HS2.out.trans hst5)
  have hfr : ∀ g, xv.ownBlock = some g → (CtlFeet q fo fi md gl gb Sc g ∨ w.heap.size ≤ g) ∧ ¬ CtlFeet q fo5 fi5 md5 gl5 gb5 Sc5 g := fun g hg => by
    refine ⟨?_, (hfar5 g hg).2⟩
    rcases (hfar5 g hg).1 with e | e
    · exact HS2.out.sub g e
    · exact .inr (Nat.le_trans HS2.out.toKept.size e)
  have HFR := Lib.hid hfr
  have cg : w5.cell? ⟨q, 7, none⟩ = some (.bool k5.goes) := hm.cell rfl
  have cfr := hm.free
  have hlen1 := HD1.out HBB.out
  obtain ⟨x, hx⟩ : ∃ x, data = [x] := by
    match data, hlen1 with
    | [x], _ => exact ⟨x, rfl⟩
  have hrw : RowIs w5 (.slice a data.length cap) data := HV2.out.keep hst5.toKept HDF.out
  rw [hx] at hrw
  rcases hrw with ⟨_, e⟩ | ⟨gd, od, cd, ed, _, hcd⟩
  case inl => cases e
  have hd0 := hcd 0 (by simp)
  simp only [List.length_singleton, Value.slice.injEq] at ed
  obtain ⟨rfl, _, rfl⟩ := ed
  simp only [List.getD_cons_zero, Nat.add_zero] at hd0
  have HX := Lib.hid hx
  clear hrow hm hst5 hfar5 hfr hx
  go_wp2_with fail
  go_ret2
  have hms := HM.out.set (k' := { k5 with goes := (x == 160) }) (i := 7) (v := .bool (x == 160)) rfl rfl rfl rfl
  have hres : ({ k5 with goes := decide (bb = 235 ∧ data.headD 0 = 160) } : Ctl) = { k5 with goes := (x == 160) } := by
    rw [HX.out]; simp [HBB.out, Bool.beq_eq_decide_eq]
  rw [hres]
  exact hms.gave (HST.out.trans (CtlMem.stepSet _ (.inl rfl) 7 (.bool (x == 160)))) (ownsRow_keep HROW.out ((Kept.refl (fun j => j = q) w5).setCell (p := ⟨q, 7, none⟩) (.inl rfl) _) (fun g hg e => (HFR.out g hg).2 (.inl e))) HFR.out

set_option maxRecDepth 100000 in
set_option maxHeartbeats 4000000 in
theorem ctlRun_plain_any_ok (h : CtlMem w q b fo fi k md lv gl gb Sc) (hl : k.lost = false) (hkc : k.chip.Fine) (hks : k.chip.sel = false) (hc0 : 0 ≤ k.clocks) (hc1 : k.clocks < 3000000000000000000) (hlf : k.left < 9223372036854775808)
    (bb at_ : Int) {o : OpD} (ho : opOf bb = some o) (data : List Int) (dv : Value) (read : Int) (hv : RowIs w dv data) (hdf : ∀ g, dv.ownBlock = some g → ¬ CtlFeet q fo fi md gl gb Sc g) (hok : CmdOk o at_ data read)
    (hg : k.goes = false) (hbb : ¬ bb = 235) {k5 : Ctl} {xs5 : List Int} (hw : k.drive (cmdPhases o at_ data read) = (k5, xs5, 0)) :
    Calls Tryz.prog 17 #[.pointer (some ⟨q, 0, none⟩), .int .i64 bb, .int .i64 at_, dv, .int .i64 read] w (CtlGave q b ({ k5 with goes := decide (bb = 235 ∧ data.headD 0 = 160) }, xs5, 0) (CtlFeet q fo fi md gl gb Sc) w) := by
  have c9 : w.cell? ⟨q, 9, none⟩ = some (.bool false) := by rw [← hl]; exact h.cell rfl
  have hfd := find_calls bb w
  rw [ho] at hfd
  simp only [Option.getD_some, Option.isSome_some, ↓reduceIte, opVal] at hfd
  have ho' : opOf o.byte = some o := by rw [opOf_byte ho]; exact ho
  obtain ⟨hall, hplen⟩ := cmdPhases_ok ho' hok
  have hd1 : bb = 235 → data.length = 1 := fun e => CmdOk.one (e ▸ ho) hok
  have hcm : ∀ u, Below w.heap.size w u → Calls Tryz.prog 45 #[opVal o, .int .i64 at_, dv, .int .i64 read] u (Commanded (cmdPhases o at_ data read) u) := fun u hu => by
    obtain ⟨y0, y1, y2, y3, y4, y5⟩ := o
    exact command_good' y0 y1 y3 y4 y2 y5 ho' at_ data dv read u (hv.below hu) hok
  have hpne : cmdPhases o at_ data read ≠ [] := by unfold cmdPhases; simp
  have hpl2 : bb = 235 → 2 ≤ (cmdPhases o at_ data read).length := fun e => by
    obtain rfl := opOf_addr (o := o) (by rw [← e]; exact ho)
    simp [cmdPhases]
  have hpl0 : 1 ≤ (cmdPhases o at_ data read).length := List.length_pos_iff.2 hpne
  generalize cmdPhases o at_ data read = ps at *
  obtain ⟨y0, y1, y2, y3, y4, y5⟩ := o
  simp only [opVal] at hfd hcm
  have HF := Lib.hid hfd
  have HCM := Lib.hid hcm
  have H := Lib.hid h
  have HV := Lib.hid hv
  have HDF := Lib.hid hdf
  have HALL := Lib.hid hall
  have HD1 := Lib.hid hd1
  have HKC := Lib.hid hkc
  have HPN := Lib.hid hpne
  have HBB := Lib.hid hbb
  have HW := Lib.hid hw
  have c70 : w.cell? ⟨q, 7, none⟩ = some (.bool k.goes) := h.cell rfl
  rw [hg] at c70
  have c7w : ∀ w2, Below w.heap.size w w2 → w2.cell? ⟨q, 7, none⟩ = some (.bool false) := fun w2 hb => by rw [World.cell?_of_block (hb.block q (lt_of_block h.blk))]; exact c70
  obtain ⟨a, cap, rfl⟩ := hv.len
  have b235 : (bb == 235) = false := by simp [hbb]
  clear h hfd hcm ho ho' hv hok hall hd1 hkc hdf hpne hbb hw hg c70 hpl2
  go_enter Tryz.func17, Tryz.ntmps17
  go_wp2_with fail
  refine (state_ok c9).mono ?_
  rintro e w' ⟨rfl, rfl⟩
  go_wp2_with fail
  refine HF.out.mono ?_
  rintro e w1 ⟨rfl, hb1⟩
  have HB1 := Lib.hid hb1
  clear hb1
  go_wp2_with fail
  refine (HCM.out _ (below_new HB1.out _)).mono ?_
  rintro e w2 ⟨psv, vs, rfl, hown, hb2⟩
  have hb2' := (below_new HB1.out (.cells #[.int .i64 y0, .int .i64 y1, .bool y2, .int .i64 y3, .int .i64 y4, .bool y5] 94)).trans (hb2.mono (by have := HB1.out.size; simp; omega))
  have hph := hown.phases HPN.out
  obtain ⟨g0, cp0, hpsv, hcap0⟩ := row_cap hown.row hpl0
  have HCP := Lib.hid hcap0
  have hn0 : w.heap.size ≤ (w1.alloc (.cells #[.int .i64 y0, .int .i64 y1, .bool y2, .int .i64 y3, .int .i64 y4, .bool y5] 94)).heap.size := by have := HB1.out.size; simp; omega
  have HPH := Lib.hid (hph.mono (F' := fun j => j < w.heap.size) (fun j hj => Nat.lt_of_lt_of_le hj hn0))
  have c7 := c7w w2 hb2'
  have h2 : CtlMem w2 q b fo fi k md lv gl gb Sc := H.out.keep (R := fun _ => False) (Kept.of_below hb2') (fun _ _ e => e)
  have cf := h2.free
  have H2 := Lib.hid h2
  have HS2 := Lib.hid (Step.of_kept (S := CtlFeet q fo fi md gl gb Sc) (Kept.of_below hb2'))
  have HV2 := Lib.hid (HV.out.below hb2')
  subst hpsv
  clear hcap0
  clear hb2 hb2' hown hph h2 c7w HB1 HCM HF
  have HDR := Lib.hid (ctlDrive_calls H2.out HKC.out hks _ _ (HPH.out.mono (fun j hj => H.out.low j hj)) HALL.out (by omega) hl hc0 (by omega) hlf)
  rw [HW.out] at HDR
  go_wp2_with fail
  refine HDR.out.mono ?_
  rintro e w5 ⟨xv, S5, rfl, hrow, ⟨fo5, fi5, md5, lv5, gl5, gb5, Sc5, hm, rfl⟩, hst5, hfar5⟩
  have HROW := Lib.hid hrow
  have HM := Lib.hid hm
  have HST := Lib.hid (HS2.out.trans hst5)
  have hfr : ∀ g, xv.ownBlock = some g → (CtlFeet q fo fi md gl gb Sc g ∨ w.heap.size ≤ g) ∧ ¬ CtlFeet q fo5 fi5 md5 gl5 gb5 Sc5 g := fun g hg => by
    refine ⟨?_, (hfar5 g hg).2⟩
    rcases (hfar5 g hg).1 with e | e
    · exact HS2.out.sub g e
    · exact .inr (Nat.le_trans HS2.out.toKept.size e)
  have HFR := Lib.hid hfr
  have cg : w5.cell? ⟨q, 7, none⟩ = some (.bool k5.goes) := hm.cell rfl
  have cfr := hm.free
  clear hrow hm hst5 hfar5 hfr
  go_wp2_with fail
  go_ret2
  have hms := HM.out.set (k' := { k5 with goes := false }) (i := 7) (v := .bool false) rfl rfl rfl rfl
  have hres : ({ k5 with goes := decide (bb = 235 ∧ data.headD 0 = 160) } : Ctl) = { k5 with goes := false } := by
    simp [HBB.out]
  rw [hres]
  exact hms.gave (HST.out.trans (CtlMem.stepSet _ (.inl rfl) 7 (.bool false))) (ownsRow_keep HROW.out ((Kept.refl (fun j => j = q) w5).setCell (p := ⟨q, 7, none⟩) (.inl rfl) _) (fun g hg e => (HFR.out g hg).2 (.inl e))) HFR.out

set_option maxRecDepth 100000 in
set_option maxHeartbeats 4000000 in
theorem ctlRun_tail_ok (h : CtlMem w q b fo fi k md lv gl gb Sc) (hl : k.lost = false) (hkc : k.chip.Fine) (hks : k.chip.sel = false) (hc0 : 0 ≤ k.clocks) (hc1 : k.clocks < 3000000000000000000) (hlf : k.left < 9223372036854775808)
    (bb at_ : Int) {o : OpD} (ho : opOf bb = some o) (data : List Int) (dv : Value) (read : Int) (hv : RowIs w dv data) (hdf : ∀ g, dv.ownBlock = some g → ¬ CtlFeet q fo fi md gl gb Sc g) (hok : CmdOk o at_ data read)
    (hg : k.goes = true) (hbb : bb = 235) {k5 : Ctl} {xs5 : List Int} (hw : k.drive (cmdPhases o at_ data read).tail = (k5, xs5, 0)) :
    Calls Tryz.prog 17 #[.pointer (some ⟨q, 0, none⟩), .int .i64 bb, .int .i64 at_, dv, .int .i64 read] w (CtlGave q b ({ k5 with goes := decide (bb = 235 ∧ data.headD 0 = 160) }, xs5, 0) (CtlFeet q fo fi md gl gb Sc) w) := by
  have c9 : w.cell? ⟨q, 9, none⟩ = some (.bool false) := by rw [← hl]; exact h.cell rfl
  have hfd := find_calls bb w
  rw [ho] at hfd
  simp only [Option.getD_some, Option.isSome_some, ↓reduceIte, opVal] at hfd
  have ho' : opOf o.byte = some o := by rw [opOf_byte ho]; exact ho
  obtain ⟨hall, hplen⟩ := cmdPhases_ok ho' hok
  have hd1 : bb = 235 → data.length = 1 := fun e => CmdOk.one (e ▸ ho) hok
  have hcm : ∀ u, Below w.heap.size w u → Calls Tryz.prog 45 #[opVal o, .int .i64 at_, dv, .int .i64 read] u (Commanded (cmdPhases o at_ data read) u) := fun u hu => by
    obtain ⟨y0, y1, y2, y3, y4, y5⟩ := o
    exact command_good' y0 y1 y3 y4 y2 y5 ho' at_ data dv read u (hv.below hu) hok
  have hpne : cmdPhases o at_ data read ≠ [] := by unfold cmdPhases; simp
  have hpl2 : bb = 235 → 2 ≤ (cmdPhases o at_ data read).length := fun e => by
    obtain rfl := opOf_addr (o := o) (by rw [← e]; exact ho)
    simp [cmdPhases]
  have hpl0 : 1 ≤ (cmdPhases o at_ data read).length := List.length_pos_iff.2 hpne
  generalize cmdPhases o at_ data read = ps at *
  obtain ⟨y0, y1, y2, y3, y4, y5⟩ := o
  simp only [opVal] at hfd hcm
  have HF := Lib.hid hfd
  have HCM := Lib.hid hcm
  have H := Lib.hid h
  have HV := Lib.hid hv
  have HDF := Lib.hid hdf
  have HALL := Lib.hid hall
  have HD1 := Lib.hid hd1
  have HKC := Lib.hid hkc
  have HPN := Lib.hid hpne
  have HBB := Lib.hid hbb
  have HW := Lib.hid hw
  have c70 : w.cell? ⟨q, 7, none⟩ = some (.bool k.goes) := h.cell rfl
  rw [hg] at c70
  have c7w : ∀ w2, Below w.heap.size w w2 → w2.cell? ⟨q, 7, none⟩ = some (.bool true) := fun w2 hb => by rw [World.cell?_of_block (hb.block q (lt_of_block h.blk))]; exact c70
  obtain ⟨a, cap, rfl⟩ := hv.len
  have b235 : (bb == 235) = true := by simp [hbb]
  have hallt : ps.tail.all Phase.okB = true := List.all_eq_true.2 fun p hp => List.all_eq_true.1 hall p (List.mem_of_mem_tail hp)
  have hlent : ps.tail.length ≤ 20 := by simp; omega
  have hpl4 := hpl2 hbb
  clear h hfd hcm ho ho' hv hok hall hd1 hkc hdf hpne hbb hw hg c70 hpl2
  go_enter Tryz.func17, Tryz.ntmps17
  go_wp2_with fail
  refine (state_ok c9).mono ?_
  rintro e w' ⟨rfl, rfl⟩
  go_wp2_with fail
  refine HF.out.mono ?_
  rintro e w1 ⟨rfl, hb1⟩
  have HB1 := Lib.hid hb1
  clear hb1
  go_wp2_with fail
  refine (HCM.out _ (below_new HB1.out _)).mono ?_
  rintro e w2 ⟨psv, vs, rfl, hown, hb2⟩
  have hb2' := (below_new HB1.out (.cells #[.int .i64 y0, .int .i64 y1, .bool y2, .int .i64 y3, .int .i64 y4, .bool y5] 94)).trans (hb2.mono (by have := HB1.out.size; simp; omega))
  have hph := hown.phases HPN.out
  obtain ⟨g0, cp0, hpsv, hcap0⟩ := row_cap hown.row hpl0
  have HCP := Lib.hid hcap0
  have hn0 : w.heap.size ≤ (w1.alloc (.cells #[.int .i64 y0, .int .i64 y1, .bool y2, .int .i64 y3, .int .i64 y4, .bool y5] 94)).heap.size := by have := HB1.out.size; simp; omega
  have HPH := Lib.hid (hph.mono (F' := fun j => j < w.heap.size) (fun j hj => Nat.lt_of_lt_of_le hj hn0))
  have c7 := c7w w2 hb2'
  have h2 : CtlMem w2 q b fo fi k md lv gl gb Sc := H.out.keep (R := fun _ => False) (Kept.of_below hb2') (fun _ _ e => e)
  have cf := h2.free
  have H2 := Lib.hid h2
  have HS2 := Lib.hid (Step.of_kept (S := CtlFeet q fo fi md gl gb Sc) (Kept.of_below hb2'))
  have HV2 := Lib.hid (HV.out.below hb2')
  subst hpsv
  clear hcap0
  clear hb2 hb2' hown hph h2 c7w HB1 HCM HF
  have HPT := Lib.hid (PhasesIs.tail HPH.out rfl)
  have hcp1 : ps.length ≤ cp0 := HCP.out
  have hcp2 : ¬ cp0 = 1 := by omega
  have hcp3 : ¬ cp0 - 1 = 0 := by omega
  have HDR := Lib.hid (ctlDrive_calls H2.out HKC.out hks _ _ (HPT.out.mono (fun j hj => H.out.low j hj)) hallt hlent hl hc0 (by omega) hlf)
  rw [HW.out] at HDR
  go_wp2_with fail
  refine HDR.out.mono ?_
  rintro e w5 ⟨xv, S5, rfl, hrow, ⟨fo5, fi5, md5, lv5, gl5, gb5, Sc5, hm, rfl⟩, hst5, hfar5⟩
  have HROW := Lib.hid hrow
  have HM := Lib.hid hm
  have HST := Lib.hid (HS2.out.trans hst5)
  have hfr : ∀ g, xv.ownBlock = some g → (CtlFeet q fo fi md gl gb Sc g ∨ w.heap.size ≤ g) ∧ ¬ CtlFeet q fo5 fi5 md5 gl5 gb5 Sc5 g := fun g hg => by
    refine ⟨?_, (hfar5 g hg).2⟩
    rcases (hfar5 g hg).1 with e | e
    · exact HS2.out.sub g e
    · exact .inr (Nat.le_trans HS2.out.toKept.size e)
  have HFR := Lib.hid hfr
  have cg : w5.cell? ⟨q, 7, none⟩ = some (.bool k5.goes) := hm.cell rfl
  have cfr := hm.free
  have hlen1 := HD1.out HBB.out
  obtain ⟨x, hx⟩ : ∃ x, data = [x] := by
    match data, hlen1 with
    | [x], _ => exact ⟨x, rfl⟩
  have hrw : RowIs w5 (.slice a data.length cap) data := HV2.out.keep hst5.toKept HDF.out
  rw [hx] at hrw
  rcases hrw with ⟨_, e⟩ | ⟨gd, od, cd, ed, _, hcd⟩
  case inl => cases e
  have hd0 := hcd 0 (by simp)
  simp only [List.length_singleton, Value.slice.injEq] at ed
  obtain ⟨rfl, _, rfl⟩ := ed
  simp only [List.getD_cons_zero, Nat.add_zero] at hd0
  have HX := Lib.hid hx
  clear hrow hm hst5 hfar5 hfr hx
  go_wp2_with fail
  go_ret2
  have hms := HM.out.set (k' := { k5 with goes := (x == 160) }) (i := 7) (v := .bool (x == 160)) rfl rfl rfl rfl
  have hres : ({ k5 with goes := decide (bb = 235 ∧ data.headD 0 = 160) } : Ctl) = { k5 with goes := (x == 160) } := by
    rw [HX.out]; simp [HBB.out, Bool.beq_eq_decide_eq]
  rw [hres]
  exact hms.gave (HST.out.trans (CtlMem.stepSet _ (.inl rfl) 7 (.bool (x == 160)))) (ownsRow_keep HROW.out ((Kept.refl (fun j => j = q) w5).setCell (p := ⟨q, 7, none⟩) (.inl rfl) _) (fun g hg e => (HFR.out g hg).2 (.inl e))) HFR.out

set_option maxRecDepth 100000 in
set_option maxHeartbeats 4000000 in
theorem ctlRun_leave_ok (h : CtlMem w q b fo fi k md lv gl gb Sc) (hl : k.lost = false) (hkc : k.chip.Fine) (hks : k.chip.sel = false) (hc0 : 0 ≤ k.clocks) (hc1 : k.clocks < 3000000000000000000) (hlf : k.left < 9223372036854775808)
    (bb at_ : Int) {o : OpD} (ho : opOf bb = some o) (data : List Int) (dv : Value) (read : Int) (hv : RowIs w dv data) (hdf : ∀ g, dv.ownBlock = some g → ¬ CtlFeet q fo fi md gl gb Sc g) (hok : CmdOk o at_ data read)
    (hg : k.goes = true) (hbb : ¬ bb = 235) {k4 : Ctl} {xs4 : List Int} (hw4 : k.drive Lich.leaving = (k4, xs4, 0)) (hk4f : k4.chip.Fine) (hk4s : k4.chip.sel = false) (hk4l : k4.lost = false) (hk40 : 0 ≤ k4.clocks) (hk41 : k4.clocks < 4000000000000000000) (hk4e : k4.left < 9223372036854775808) {k5 : Ctl} {xs5 : List Int} (hw : ({ k4 with goes := false } : Ctl).drive (cmdPhases o at_ data read) = (k5, xs5, 0)) :
    Calls Tryz.prog 17 #[.pointer (some ⟨q, 0, none⟩), .int .i64 bb, .int .i64 at_, dv, .int .i64 read] w (CtlGave q b ({ k5 with goes := decide (bb = 235 ∧ data.headD 0 = 160) }, xs5, 0) (CtlFeet q fo fi md gl gb Sc) w) := by
  have c9 : w.cell? ⟨q, 9, none⟩ = some (.bool false) := by rw [← hl]; exact h.cell rfl
  have hfd := find_calls bb w
  rw [ho] at hfd
  simp only [Option.getD_some, Option.isSome_some, ↓reduceIte, opVal] at hfd
  have ho' : opOf o.byte = some o := by rw [opOf_byte ho]; exact ho
  obtain ⟨hall, hplen⟩ := cmdPhases_ok ho' hok
  have hd1 : bb = 235 → data.length = 1 := fun e => CmdOk.one (e ▸ ho) hok
  have hcm : ∀ u, Below w.heap.size w u → Calls Tryz.prog 45 #[opVal o, .int .i64 at_, dv, .int .i64 read] u (Commanded (cmdPhases o at_ data read) u) := fun u hu => by
    obtain ⟨y0, y1, y2, y3, y4, y5⟩ := o
    exact command_good' y0 y1 y3 y4 y2 y5 ho' at_ data dv read u (hv.below hu) hok
  have hpne : cmdPhases o at_ data read ≠ [] := by unfold cmdPhases; simp
  have hpl2 : bb = 235 → 2 ≤ (cmdPhases o at_ data read).length := fun e => by
    obtain rfl := opOf_addr (o := o) (by rw [← e]; exact ho)
    simp [cmdPhases]
  have hpl0 : 1 ≤ (cmdPhases o at_ data read).length := List.length_pos_iff.2 hpne
  generalize cmdPhases o at_ data read = ps at *
  obtain ⟨y0, y1, y2, y3, y4, y5⟩ := o
  simp only [opVal] at hfd hcm
  have HF := Lib.hid hfd
  have HCM := Lib.hid hcm
  have H := Lib.hid h
  have HV := Lib.hid hv
  have HDF := Lib.hid hdf
  have HALL := Lib.hid hall
  have HD1 := Lib.hid hd1
  have HKC := Lib.hid hkc
  have HPN := Lib.hid hpne
  have HBB := Lib.hid hbb
  have HW := Lib.hid hw
  have c70 : w.cell? ⟨q, 7, none⟩ = some (.bool k.goes) := h.cell rfl
  rw [hg] at c70
  have c7w : ∀ w2, Below w.heap.size w w2 → w2.cell? ⟨q, 7, none⟩ = some (.bool true) := fun w2 hb => by rw [World.cell?_of_block (hb.block q (lt_of_block h.blk))]; exact c70
  obtain ⟨a, cap, rfl⟩ := hv.len
  have b235 : (bb == 235) = false := by simp [hbb]
  have HW4 := Lib.hid hw4
  have KF := Lib.hid hk4f
  clear hw4 hk4f
  clear h hfd hcm ho ho' hv hok hall hd1 hkc hdf hpne hbb hw hg c70 hpl2
  go_enter Tryz.func17, Tryz.ntmps17
  go_wp2_with fail
  refine (state_ok c9).mono ?_
  rintro e w' ⟨rfl, rfl⟩
  go_wp2_with fail
  refine HF.out.mono ?_
  rintro e w1 ⟨rfl, hb1⟩
  have HB1 := Lib.hid hb1
  clear hb1
  go_wp2_with fail
  refine (HCM.out _ (below_new HB1.out _)).mono ?_
  rintro e w2 ⟨psv, vs, rfl, hown, hb2⟩
  have hb2' := (below_new HB1.out (.cells #[.int .i64 y0, .int .i64 y1, .bool y2, .int .i64 y3, .int .i64 y4, .bool y5] 94)).trans (hb2.mono (by have := HB1.out.size; simp; omega))
  have hph := hown.phases HPN.out
  obtain ⟨g0, cp0, hpsv, hcap0⟩ := row_cap hown.row hpl0
  have HCP := Lib.hid hcap0
  have hn0 : w.heap.size ≤ (w1.alloc (.cells #[.int .i64 y0, .int .i64 y1, .bool y2, .int .i64 y3, .int .i64 y4, .bool y5] 94)).heap.size := by have := HB1.out.size; simp; omega
  have HPH := Lib.hid (hph.mono (F' := fun j => j < w.heap.size) (fun j hj => Nat.lt_of_lt_of_le hj hn0))
  have c7 := c7w w2 hb2'
  have h2 : CtlMem w2 q b fo fi k md lv gl gb Sc := H.out.keep (R := fun _ => False) (Kept.of_below hb2') (fun _ _ e => e)
  have cf := h2.free
  have H2 := Lib.hid h2
  have HS2 := Lib.hid (Step.of_kept (S := CtlFeet q fo fi md gl gb Sc) (Kept.of_below hb2'))
  have HV2 := Lib.hid (HV.out.below hb2')
  subst hpsv
  clear hcap0
  clear hb2 hb2' hown hph h2 c7w HB1 HCM HF
  go_wp2_with fail
  refine (leaving_calls H2.out).mono ?_
  rintro e w3 ⟨lv3, gl3, gb3, rfl, hm3, hs3⟩
  have HM3 := Lib.hid hm3
  have HS3 := Lib.hid hs3
  have HDR4 := Lib.hid (ctlDrive_calls hm3 HKC.out hks _ _ hm3.leave_phases (by decide) (by decide) hl hc0 (by omega) hlf)
  rw [HW4.out] at HDR4
  clear hm3 hs3
  go_wp2_with fail
  refine HDR4.out.mono ?_
  rintro e w4 ⟨xv4, S4, rfl, hrow4, ⟨fo4, fi4, md4, lv4, gl4, gb4, Sc4, hm4, rfl⟩, hst4, hfar4⟩
  have hg4 : w4.cell? ⟨q, 7, none⟩ = some (.bool k4.goes) := hm4.cell rfl
  have hfr4 := hm4.free
  have hs4 := (HS2.out.trans (HS3.out.trans hst4)).trans (CtlMem.stepSet _ (.inl rfl) 7 (.bool false))
  have HM4 := Lib.hid (hm4.set (k' := { k4 with goes := false }) (i := 7) (v := .bool false) rfl rfl rfl rfl)
  have HS4 := Lib.hid hs4
  have hdf5 : ∀ g, (Value.slice a data.length cap).ownBlock = some g → ¬ CtlFeet q fo4 fi4 md4 gl4 gb4 Sc4 g := fun g hg hf => by
    rcases hs4.sub g hf with e | e
    · exact HDF.out g hg e
    · rcases HV.out with ⟨e', _⟩ | ⟨g', _, _, e', hlt, _⟩
      · rw [e'] at hg; simp [Value.ownBlock] at hg
      · rw [e'] at hg
        simp only [Value.ownBlock, Option.some.injEq] at hg
        omega
  have HROW5 := Lib.hid (HV.out.keep hs4.toKept HDF.out)
  have HDF5 := Lib.hid hdf5
  have HPH4 := Lib.hid (PhasesIs.after HPH.out (HS3.out.trans hst4) (fun j hj => H.out.feet_lt hj) ((Kept.refl (CtlFeet q fo4 fi4 md4 gl4 gb4 Sc4) w4).setCell (p := ⟨q, 7, none⟩) (.inl (.inl rfl)) (.bool false)) (S4 := Sc4) (fun j hj => .inr (.inr (.inr (.inr hj)))))
  clear hm4 hst4 hfar4 hrow4 hdf5 hs4
  go_wp2_with fail
  have HDR := Lib.hid (ctlDrive_calls HM4.out KF.out hk4s _ _ HPH4.out HALL.out (by omega) hk4l hk40 hk41 hk4e)
  rw [HW.out] at HDR
  refine HDR.out.mono ?_
  rintro e w5 ⟨xv, S5, rfl, hrow, ⟨fo5, fi5, md5, lv5, gl5, gb5, Sc5, hm, rfl⟩, hst5, hfar5⟩
  have HROW := Lib.hid hrow
  have HM := Lib.hid hm
  have HST := Lib.hid (HS4.out.trans hst5)
  have hfr : ∀ g, xv.ownBlock = some g → (CtlFeet q fo fi md gl gb Sc g ∨ w.heap.size ≤ g) ∧ ¬ CtlFeet q fo5 fi5 md5 gl5 gb5 Sc5 g := fun g hg => by
    refine ⟨?_, (hfar5 g hg).2⟩
    rcases (hfar5 g hg).1 with e | e
    · exact HS4.out.sub g e
    · exact .inr (Nat.le_trans HS4.out.toKept.size e)
  have HFR := Lib.hid hfr
  have cg : w5.cell? ⟨q, 7, none⟩ = some (.bool k5.goes) := hm.cell rfl
  have cfr := hm.free
  clear hrow hm hst5 hfar5 hfr
  go_wp2_with fail
  go_ret2
  have hms := HM.out.set (k' := { k5 with goes := false }) (i := 7) (v := .bool false) rfl rfl rfl rfl
  have hres : ({ k5 with goes := decide (bb = 235 ∧ data.headD 0 = 160) } : Ctl) = { k5 with goes := false } := by
    simp [HBB.out]
  rw [hres]
  exact hms.gave (HST.out.trans (CtlMem.stepSet _ (.inl rfl) 7 (.bool false))) (ownsRow_keep HROW.out ((Kept.refl (fun j => j = q) w5).setCell (p := ⟨q, 7, none⟩) (.inl rfl) _) (fun g hg e => (HFR.out g hg).2 (.inl e))) HFR.out

set_option maxRecDepth 100000 in
set_option maxHeartbeats 4000000 in
theorem ctlRun_plain_235_cut (h : CtlMem w q b fo fi k md lv gl gb Sc) (hl : k.lost = false) (hkc : k.chip.Fine) (hks : k.chip.sel = false) (hc0 : 0 ≤ k.clocks) (hc1 : k.clocks < 3000000000000000000) (hlf : k.left < 9223372036854775808)
    (bb at_ : Int) {o : OpD} (ho : opOf bb = some o) (data : List Int) (dv : Value) (read : Int) (hv : RowIs w dv data) (hdf : ∀ g, dv.ownBlock = some g → ¬ CtlFeet q fo fi md gl gb Sc g) (hok : CmdOk o at_ data read)
    (hg : k.goes = false) (hbb : bb = 235) {k5 : Ctl} (hw : k.drive (cmdPhases o at_ data read) = (k5, [], 1101)) :
    Calls Tryz.prog 17 #[.pointer (some ⟨q, 0, none⟩), .int .i64 bb, .int .i64 at_, dv, .int .i64 read] w (CtlGave q b (k5, [], 1101) (CtlFeet q fo fi md gl gb Sc) w) := by
  have c9 : w.cell? ⟨q, 9, none⟩ = some (.bool false) := by rw [← hl]; exact h.cell rfl
  have hfd := find_calls bb w
  rw [ho] at hfd
  simp only [Option.getD_some, Option.isSome_some, ↓reduceIte, opVal] at hfd
  have ho' : opOf o.byte = some o := by rw [opOf_byte ho]; exact ho
  obtain ⟨hall, hplen⟩ := cmdPhases_ok ho' hok
  have hd1 : bb = 235 → data.length = 1 := fun e => CmdOk.one (e ▸ ho) hok
  have hcm : ∀ u, Below w.heap.size w u → Calls Tryz.prog 45 #[opVal o, .int .i64 at_, dv, .int .i64 read] u (Commanded (cmdPhases o at_ data read) u) := fun u hu => by
    obtain ⟨y0, y1, y2, y3, y4, y5⟩ := o
    exact command_good' y0 y1 y3 y4 y2 y5 ho' at_ data dv read u (hv.below hu) hok
  have hpne : cmdPhases o at_ data read ≠ [] := by unfold cmdPhases; simp
  have hpl2 : bb = 235 → 2 ≤ (cmdPhases o at_ data read).length := fun e => by
    obtain rfl := opOf_addr (o := o) (by rw [← e]; exact ho)
    simp [cmdPhases]
  have hpl0 : 1 ≤ (cmdPhases o at_ data read).length := List.length_pos_iff.2 hpne
  generalize cmdPhases o at_ data read = ps at *
  obtain ⟨y0, y1, y2, y3, y4, y5⟩ := o
  simp only [opVal] at hfd hcm
  have HF := Lib.hid hfd
  have HCM := Lib.hid hcm
  have H := Lib.hid h
  have HV := Lib.hid hv
  have HDF := Lib.hid hdf
  have HALL := Lib.hid hall
  have HD1 := Lib.hid hd1
  have HKC := Lib.hid hkc
  have HPN := Lib.hid hpne
  have HBB := Lib.hid hbb
  have HW := Lib.hid hw
  have c70 : w.cell? ⟨q, 7, none⟩ = some (.bool k.goes) := h.cell rfl
  rw [hg] at c70
  have c7w : ∀ w2, Below w.heap.size w w2 → w2.cell? ⟨q, 7, none⟩ = some (.bool false) := fun w2 hb => by rw [World.cell?_of_block (hb.block q (lt_of_block h.blk))]; exact c70
  obtain ⟨a, cap, rfl⟩ := hv.len
  have b235 : (bb == 235) = true := by simp [hbb]
  clear h hfd hcm ho ho' hv hok hall hd1 hkc hdf hpne hbb hw hg c70 hpl2
  go_enter Tryz.func17, Tryz.ntmps17
  go_wp2_with fail
  refine (state_ok c9).mono ?_
  rintro e w' ⟨rfl, rfl⟩
  go_wp2_with fail
  refine HF.out.mono ?_
  rintro e w1 ⟨rfl, hb1⟩
  have HB1 := Lib.hid hb1
  clear hb1
  go_wp2_with fail
  refine (HCM.out _ (below_new HB1.out _)).mono ?_
  rintro e w2 ⟨psv, vs, rfl, hown, hb2⟩
  have hb2' := (below_new HB1.out (.cells #[.int .i64 y0, .int .i64 y1, .bool y2, .int .i64 y3, .int .i64 y4, .bool y5] 94)).trans (hb2.mono (by have := HB1.out.size; simp; omega))
  have hph := hown.phases HPN.out
  obtain ⟨g0, cp0, hpsv, hcap0⟩ := row_cap hown.row hpl0
  have HCP := Lib.hid hcap0
  have hn0 : w.heap.size ≤ (w1.alloc (.cells #[.int .i64 y0, .int .i64 y1, .bool y2, .int .i64 y3, .int .i64 y4, .bool y5] 94)).heap.size := by have := HB1.out.size; simp; omega
  have HPH := Lib.hid (hph.mono (F' := fun j => j < w.heap.size) (fun j hj => Nat.lt_of_lt_of_le hj hn0))
  have c7 := c7w w2 hb2'
  have h2 : CtlMem w2 q b fo fi k md lv gl gb Sc := H.out.keep (R := fun _ => False) (Kept.of_below hb2') (fun _ _ e => e)
  have cf := h2.free
  have H2 := Lib.hid h2
  have HS2 := Lib.hid (Step.of_kept (S := CtlFeet q fo fi md gl gb Sc) (Kept.of_below hb2'))
  have HV2 := Lib.hid (HV.out.below hb2')
  subst hpsv
  clear hcap0
  clear hb2 hb2' hown hph h2 c7w HB1 HCM HF
  have HDR := Lib.hid (ctlDrive_calls H2.out HKC.out hks _ _ (HPH.out.mono (fun j hj => H.out.low j hj)) HALL.out (by omega) hl hc0 (by omega) hlf)
  rw [HW.out] at HDR
  go_wp2_with fail
  refine HDR.out.mono ?_
  rintro e w5 ⟨xv, S5, rfl, hrow, ⟨fo5, fi5, md5, lv5, gl5, gb5, Sc5, hm, rfl⟩, hst5, hfar5⟩
  have HROW := Lib.hid hrow
  have HM := Lib.hid hm
  have HST := Lib.hid (HS2.out.trans hst5)
  have hfr : ∀ g, xv.ownBlock = some g → (CtlFeet q fo fi md gl gb Sc g ∨ w.heap.size ≤ g) ∧ ¬ CtlFeet q fo5 fi5 md5 gl5 gb5 Sc5 g := fun g hg => by
    refine ⟨?_, (hfar5 g hg).2⟩
    rcases (hfar5 g hg).1 with e | e
    · exact HS2.out.sub g e
    · exact .inr (Nat.le_trans HS2.out.toKept.size e)
  have HFR := Lib.hid hfr
  have cg : w5.cell? ⟨q, 7, none⟩ = some (.bool k5.goes) := hm.cell rfl
  have cfr := hm.free
  clear hrow hm hst5 hfar5 hfr
  go_wp2_with fail
  go_ret2
  exact HM.out.gave HST.out HROW.out HFR.out

set_option maxRecDepth 100000 in
set_option maxHeartbeats 4000000 in
theorem ctlRun_plain_any_cut (h : CtlMem w q b fo fi k md lv gl gb Sc) (hl : k.lost = false) (hkc : k.chip.Fine) (hks : k.chip.sel = false) (hc0 : 0 ≤ k.clocks) (hc1 : k.clocks < 3000000000000000000) (hlf : k.left < 9223372036854775808)
    (bb at_ : Int) {o : OpD} (ho : opOf bb = some o) (data : List Int) (dv : Value) (read : Int) (hv : RowIs w dv data) (hdf : ∀ g, dv.ownBlock = some g → ¬ CtlFeet q fo fi md gl gb Sc g) (hok : CmdOk o at_ data read)
    (hg : k.goes = false) (hbb : ¬ bb = 235) {k5 : Ctl} (hw : k.drive (cmdPhases o at_ data read) = (k5, [], 1101)) :
    Calls Tryz.prog 17 #[.pointer (some ⟨q, 0, none⟩), .int .i64 bb, .int .i64 at_, dv, .int .i64 read] w (CtlGave q b (k5, [], 1101) (CtlFeet q fo fi md gl gb Sc) w) := by
  have c9 : w.cell? ⟨q, 9, none⟩ = some (.bool false) := by rw [← hl]; exact h.cell rfl
  have hfd := find_calls bb w
  rw [ho] at hfd
  simp only [Option.getD_some, Option.isSome_some, ↓reduceIte, opVal] at hfd
  have ho' : opOf o.byte = some o := by rw [opOf_byte ho]; exact ho
  obtain ⟨hall, hplen⟩ := cmdPhases_ok ho' hok
  have hd1 : bb = 235 → data.length = 1 := fun e => CmdOk.one (e ▸ ho) hok
  have hcm : ∀ u, Below w.heap.size w u → Calls Tryz.prog 45 #[opVal o, .int .i64 at_, dv, .int .i64 read] u (Commanded (cmdPhases o at_ data read) u) := fun u hu => by
    obtain ⟨y0, y1, y2, y3, y4, y5⟩ := o
    exact command_good' y0 y1 y3 y4 y2 y5 ho' at_ data dv read u (hv.below hu) hok
  have hpne : cmdPhases o at_ data read ≠ [] := by unfold cmdPhases; simp
  have hpl2 : bb = 235 → 2 ≤ (cmdPhases o at_ data read).length := fun e => by
    obtain rfl := opOf_addr (o := o) (by rw [← e]; exact ho)
    simp [cmdPhases]
  have hpl0 : 1 ≤ (cmdPhases o at_ data read).length := List.length_pos_iff.2 hpne
  generalize cmdPhases o at_ data read = ps at *
  obtain ⟨y0, y1, y2, y3, y4, y5⟩ := o
  simp only [opVal] at hfd hcm
  have HF := Lib.hid hfd
  have HCM := Lib.hid hcm
  have H := Lib.hid h
  have HV := Lib.hid hv
  have HDF := Lib.hid hdf
  have HALL := Lib.hid hall
  have HD1 := Lib.hid hd1
  have HKC := Lib.hid hkc
  have HPN := Lib.hid hpne
  have HBB := Lib.hid hbb
  have HW := Lib.hid hw
  have c70 : w.cell? ⟨q, 7, none⟩ = some (.bool k.goes) := h.cell rfl
  rw [hg] at c70
  have c7w : ∀ w2, Below w.heap.size w w2 → w2.cell? ⟨q, 7, none⟩ = some (.bool false) := fun w2 hb => by rw [World.cell?_of_block (hb.block q (lt_of_block h.blk))]; exact c70
  obtain ⟨a, cap, rfl⟩ := hv.len
  have b235 : (bb == 235) = false := by simp [hbb]
  clear h hfd hcm ho ho' hv hok hall hd1 hkc hdf hpne hbb hw hg c70 hpl2
  go_enter Tryz.func17, Tryz.ntmps17
  go_wp2_with fail
  refine (state_ok c9).mono ?_
  rintro e w' ⟨rfl, rfl⟩
  go_wp2_with fail
  refine HF.out.mono ?_
  rintro e w1 ⟨rfl, hb1⟩
  have HB1 := Lib.hid hb1
  clear hb1
  go_wp2_with fail
  refine (HCM.out _ (below_new HB1.out _)).mono ?_
  rintro e w2 ⟨psv, vs, rfl, hown, hb2⟩
  have hb2' := (below_new HB1.out (.cells #[.int .i64 y0, .int .i64 y1, .bool y2, .int .i64 y3, .int .i64 y4, .bool y5] 94)).trans (hb2.mono (by have := HB1.out.size; simp; omega))
  have hph := hown.phases HPN.out
  obtain ⟨g0, cp0, hpsv, hcap0⟩ := row_cap hown.row hpl0
  have HCP := Lib.hid hcap0
  have hn0 : w.heap.size ≤ (w1.alloc (.cells #[.int .i64 y0, .int .i64 y1, .bool y2, .int .i64 y3, .int .i64 y4, .bool y5] 94)).heap.size := by have := HB1.out.size; simp; omega
  have HPH := Lib.hid (hph.mono (F' := fun j => j < w.heap.size) (fun j hj => Nat.lt_of_lt_of_le hj hn0))
  have c7 := c7w w2 hb2'
  have h2 : CtlMem w2 q b fo fi k md lv gl gb Sc := H.out.keep (R := fun _ => False) (Kept.of_below hb2') (fun _ _ e => e)
  have cf := h2.free
  have H2 := Lib.hid h2
  have HS2 := Lib.hid (Step.of_kept (S := CtlFeet q fo fi md gl gb Sc) (Kept.of_below hb2'))
  have HV2 := Lib.hid (HV.out.below hb2')
  subst hpsv
  clear hcap0
  clear hb2 hb2' hown hph h2 c7w HB1 HCM HF
  have HDR := Lib.hid (ctlDrive_calls H2.out HKC.out hks _ _ (HPH.out.mono (fun j hj => H.out.low j hj)) HALL.out (by omega) hl hc0 (by omega) hlf)
  rw [HW.out] at HDR
  go_wp2_with fail
  refine HDR.out.mono ?_
  rintro e w5 ⟨xv, S5, rfl, hrow, ⟨fo5, fi5, md5, lv5, gl5, gb5, Sc5, hm, rfl⟩, hst5, hfar5⟩
  have HROW := Lib.hid hrow
  have HM := Lib.hid hm
  have HST := Lib.hid (HS2.out.trans hst5)
  have hfr : ∀ g, xv.ownBlock = some g → (CtlFeet q fo fi md gl gb Sc g ∨ w.heap.size ≤ g) ∧ ¬ CtlFeet q fo5 fi5 md5 gl5 gb5 Sc5 g := fun g hg => by
    refine ⟨?_, (hfar5 g hg).2⟩
    rcases (hfar5 g hg).1 with e | e
    · exact HS2.out.sub g e
    · exact .inr (Nat.le_trans HS2.out.toKept.size e)
  have HFR := Lib.hid hfr
  have cg : w5.cell? ⟨q, 7, none⟩ = some (.bool k5.goes) := hm.cell rfl
  have cfr := hm.free
  clear hrow hm hst5 hfar5 hfr
  go_wp2_with fail
  go_ret2
  exact HM.out.gave HST.out HROW.out HFR.out

set_option maxRecDepth 100000 in
set_option maxHeartbeats 4000000 in
theorem ctlRun_tail_cut (h : CtlMem w q b fo fi k md lv gl gb Sc) (hl : k.lost = false) (hkc : k.chip.Fine) (hks : k.chip.sel = false) (hc0 : 0 ≤ k.clocks) (hc1 : k.clocks < 3000000000000000000) (hlf : k.left < 9223372036854775808)
    (bb at_ : Int) {o : OpD} (ho : opOf bb = some o) (data : List Int) (dv : Value) (read : Int) (hv : RowIs w dv data) (hdf : ∀ g, dv.ownBlock = some g → ¬ CtlFeet q fo fi md gl gb Sc g) (hok : CmdOk o at_ data read)
    (hg : k.goes = true) (hbb : bb = 235) {k5 : Ctl} (hw : k.drive (cmdPhases o at_ data read).tail = (k5, [], 1101)) :
    Calls Tryz.prog 17 #[.pointer (some ⟨q, 0, none⟩), .int .i64 bb, .int .i64 at_, dv, .int .i64 read] w (CtlGave q b (k5, [], 1101) (CtlFeet q fo fi md gl gb Sc) w) := by
  have c9 : w.cell? ⟨q, 9, none⟩ = some (.bool false) := by rw [← hl]; exact h.cell rfl
  have hfd := find_calls bb w
  rw [ho] at hfd
  simp only [Option.getD_some, Option.isSome_some, ↓reduceIte, opVal] at hfd
  have ho' : opOf o.byte = some o := by rw [opOf_byte ho]; exact ho
  obtain ⟨hall, hplen⟩ := cmdPhases_ok ho' hok
  have hd1 : bb = 235 → data.length = 1 := fun e => CmdOk.one (e ▸ ho) hok
  have hcm : ∀ u, Below w.heap.size w u → Calls Tryz.prog 45 #[opVal o, .int .i64 at_, dv, .int .i64 read] u (Commanded (cmdPhases o at_ data read) u) := fun u hu => by
    obtain ⟨y0, y1, y2, y3, y4, y5⟩ := o
    exact command_good' y0 y1 y3 y4 y2 y5 ho' at_ data dv read u (hv.below hu) hok
  have hpne : cmdPhases o at_ data read ≠ [] := by unfold cmdPhases; simp
  have hpl2 : bb = 235 → 2 ≤ (cmdPhases o at_ data read).length := fun e => by
    obtain rfl := opOf_addr (o := o) (by rw [← e]; exact ho)
    simp [cmdPhases]
  have hpl0 : 1 ≤ (cmdPhases o at_ data read).length := List.length_pos_iff.2 hpne
  generalize cmdPhases o at_ data read = ps at *
  obtain ⟨y0, y1, y2, y3, y4, y5⟩ := o
  simp only [opVal] at hfd hcm
  have HF := Lib.hid hfd
  have HCM := Lib.hid hcm
  have H := Lib.hid h
  have HV := Lib.hid hv
  have HDF := Lib.hid hdf
  have HALL := Lib.hid hall
  have HD1 := Lib.hid hd1
  have HKC := Lib.hid hkc
  have HPN := Lib.hid hpne
  have HBB := Lib.hid hbb
  have HW := Lib.hid hw
  have c70 : w.cell? ⟨q, 7, none⟩ = some (.bool k.goes) := h.cell rfl
  rw [hg] at c70
  have c7w : ∀ w2, Below w.heap.size w w2 → w2.cell? ⟨q, 7, none⟩ = some (.bool true) := fun w2 hb => by rw [World.cell?_of_block (hb.block q (lt_of_block h.blk))]; exact c70
  obtain ⟨a, cap, rfl⟩ := hv.len
  have b235 : (bb == 235) = true := by simp [hbb]
  have hallt : ps.tail.all Phase.okB = true := List.all_eq_true.2 fun p hp => List.all_eq_true.1 hall p (List.mem_of_mem_tail hp)
  have hlent : ps.tail.length ≤ 20 := by simp; omega
  have hpl4 := hpl2 hbb
  clear h hfd hcm ho ho' hv hok hall hd1 hkc hdf hpne hbb hw hg c70 hpl2
  go_enter Tryz.func17, Tryz.ntmps17
  go_wp2_with fail
  refine (state_ok c9).mono ?_
  rintro e w' ⟨rfl, rfl⟩
  go_wp2_with fail
  refine HF.out.mono ?_
  rintro e w1 ⟨rfl, hb1⟩
  have HB1 := Lib.hid hb1
  clear hb1
  go_wp2_with fail
  refine (HCM.out _ (below_new HB1.out _)).mono ?_
  rintro e w2 ⟨psv, vs, rfl, hown, hb2⟩
  have hb2' := (below_new HB1.out (.cells #[.int .i64 y0, .int .i64 y1, .bool y2, .int .i64 y3, .int .i64 y4, .bool y5] 94)).trans (hb2.mono (by have := HB1.out.size; simp; omega))
  have hph := hown.phases HPN.out
  obtain ⟨g0, cp0, hpsv, hcap0⟩ := row_cap hown.row hpl0
  have HCP := Lib.hid hcap0
  have hn0 : w.heap.size ≤ (w1.alloc (.cells #[.int .i64 y0, .int .i64 y1, .bool y2, .int .i64 y3, .int .i64 y4, .bool y5] 94)).heap.size := by have := HB1.out.size; simp; omega
  have HPH := Lib.hid (hph.mono (F' := fun j => j < w.heap.size) (fun j hj => Nat.lt_of_lt_of_le hj hn0))
  have c7 := c7w w2 hb2'
  have h2 : CtlMem w2 q b fo fi k md lv gl gb Sc := H.out.keep (R := fun _ => False) (Kept.of_below hb2') (fun _ _ e => e)
  have cf := h2.free
  have H2 := Lib.hid h2
  have HS2 := Lib.hid (Step.of_kept (S := CtlFeet q fo fi md gl gb Sc) (Kept.of_below hb2'))
  have HV2 := Lib.hid (HV.out.below hb2')
  subst hpsv
  clear hcap0
  clear hb2 hb2' hown hph h2 c7w HB1 HCM HF
  have HPT := Lib.hid (PhasesIs.tail HPH.out rfl)
  have hcp1 : ps.length ≤ cp0 := HCP.out
  have hcp2 : ¬ cp0 = 1 := by omega
  have hcp3 : ¬ cp0 - 1 = 0 := by omega
  have HDR := Lib.hid (ctlDrive_calls H2.out HKC.out hks _ _ (HPT.out.mono (fun j hj => H.out.low j hj)) hallt hlent hl hc0 (by omega) hlf)
  rw [HW.out] at HDR
  go_wp2_with fail
  refine HDR.out.mono ?_
  rintro e w5 ⟨xv, S5, rfl, hrow, ⟨fo5, fi5, md5, lv5, gl5, gb5, Sc5, hm, rfl⟩, hst5, hfar5⟩
  have HROW := Lib.hid hrow
  have HM := Lib.hid hm
  have HST := Lib.hid (HS2.out.trans hst5)
  have hfr : ∀ g, xv.ownBlock = some g → (CtlFeet q fo fi md gl gb Sc g ∨ w.heap.size ≤ g) ∧ ¬ CtlFeet q fo5 fi5 md5 gl5 gb5 Sc5 g := fun g hg => by
    refine ⟨?_, (hfar5 g hg).2⟩
    rcases (hfar5 g hg).1 with e | e
    · exact HS2.out.sub g e
    · exact .inr (Nat.le_trans HS2.out.toKept.size e)
  have HFR := Lib.hid hfr
  have cg : w5.cell? ⟨q, 7, none⟩ = some (.bool k5.goes) := hm.cell rfl
  have cfr := hm.free
  clear hrow hm hst5 hfar5 hfr
  go_wp2_with fail
  go_ret2
  exact HM.out.gave HST.out HROW.out HFR.out

set_option maxRecDepth 100000 in
set_option maxHeartbeats 4000000 in
theorem ctlRun_leave_cut (h : CtlMem w q b fo fi k md lv gl gb Sc) (hl : k.lost = false) (hkc : k.chip.Fine) (hks : k.chip.sel = false) (hc0 : 0 ≤ k.clocks) (hc1 : k.clocks < 3000000000000000000) (hlf : k.left < 9223372036854775808)
    (bb at_ : Int) {o : OpD} (ho : opOf bb = some o) (data : List Int) (dv : Value) (read : Int) (hv : RowIs w dv data) (hdf : ∀ g, dv.ownBlock = some g → ¬ CtlFeet q fo fi md gl gb Sc g) (hok : CmdOk o at_ data read)
    (hg : k.goes = true) (hbb : ¬ bb = 235) {k4 : Ctl} {xs4 : List Int} (hw4 : k.drive Lich.leaving = (k4, xs4, 0)) (hk4f : k4.chip.Fine) (hk4s : k4.chip.sel = false) (hk4l : k4.lost = false) (hk40 : 0 ≤ k4.clocks) (hk41 : k4.clocks < 4000000000000000000) (hk4e : k4.left < 9223372036854775808) {k5 : Ctl} (hw : ({ k4 with goes := false } : Ctl).drive (cmdPhases o at_ data read) = (k5, [], 1101)) :
    Calls Tryz.prog 17 #[.pointer (some ⟨q, 0, none⟩), .int .i64 bb, .int .i64 at_, dv, .int .i64 read] w (CtlGave q b (k5, [], 1101) (CtlFeet q fo fi md gl gb Sc) w) := by
  have c9 : w.cell? ⟨q, 9, none⟩ = some (.bool false) := by rw [← hl]; exact h.cell rfl
  have hfd := find_calls bb w
  rw [ho] at hfd
  simp only [Option.getD_some, Option.isSome_some, ↓reduceIte, opVal] at hfd
  have ho' : opOf o.byte = some o := by rw [opOf_byte ho]; exact ho
  obtain ⟨hall, hplen⟩ := cmdPhases_ok ho' hok
  have hd1 : bb = 235 → data.length = 1 := fun e => CmdOk.one (e ▸ ho) hok
  have hcm : ∀ u, Below w.heap.size w u → Calls Tryz.prog 45 #[opVal o, .int .i64 at_, dv, .int .i64 read] u (Commanded (cmdPhases o at_ data read) u) := fun u hu => by
    obtain ⟨y0, y1, y2, y3, y4, y5⟩ := o
    exact command_good' y0 y1 y3 y4 y2 y5 ho' at_ data dv read u (hv.below hu) hok
  have hpne : cmdPhases o at_ data read ≠ [] := by unfold cmdPhases; simp
  have hpl2 : bb = 235 → 2 ≤ (cmdPhases o at_ data read).length := fun e => by
    obtain rfl := opOf_addr (o := o) (by rw [← e]; exact ho)
    simp [cmdPhases]
  have hpl0 : 1 ≤ (cmdPhases o at_ data read).length := List.length_pos_iff.2 hpne
  generalize cmdPhases o at_ data read = ps at *
  obtain ⟨y0, y1, y2, y3, y4, y5⟩ := o
  simp only [opVal] at hfd hcm
  have HF := Lib.hid hfd
  have HCM := Lib.hid hcm
  have H := Lib.hid h
  have HV := Lib.hid hv
  have HDF := Lib.hid hdf
  have HALL := Lib.hid hall
  have HD1 := Lib.hid hd1
  have HKC := Lib.hid hkc
  have HPN := Lib.hid hpne
  have HBB := Lib.hid hbb
  have HW := Lib.hid hw
  have c70 : w.cell? ⟨q, 7, none⟩ = some (.bool k.goes) := h.cell rfl
  rw [hg] at c70
  have c7w : ∀ w2, Below w.heap.size w w2 → w2.cell? ⟨q, 7, none⟩ = some (.bool true) := fun w2 hb => by rw [World.cell?_of_block (hb.block q (lt_of_block h.blk))]; exact c70
  obtain ⟨a, cap, rfl⟩ := hv.len
  have b235 : (bb == 235) = false := by simp [hbb]
  have HW4 := Lib.hid hw4
  have KF := Lib.hid hk4f
  clear hw4 hk4f
  clear h hfd hcm ho ho' hv hok hall hd1 hkc hdf hpne hbb hw hg c70 hpl2
  go_enter Tryz.func17, Tryz.ntmps17
  go_wp2_with fail
  refine (state_ok c9).mono ?_
  rintro e w' ⟨rfl, rfl⟩
  go_wp2_with fail
  refine HF.out.mono ?_
  rintro e w1 ⟨rfl, hb1⟩
  have HB1 := Lib.hid hb1
  clear hb1
  go_wp2_with fail
  refine (HCM.out _ (below_new HB1.out _)).mono ?_
  rintro e w2 ⟨psv, vs, rfl, hown, hb2⟩
  have hb2' := (below_new HB1.out (.cells #[.int .i64 y0, .int .i64 y1, .bool y2, .int .i64 y3, .int .i64 y4, .bool y5] 94)).trans (hb2.mono (by have := HB1.out.size; simp; omega))
  have hph := hown.phases HPN.out
  obtain ⟨g0, cp0, hpsv, hcap0⟩ := row_cap hown.row hpl0
  have HCP := Lib.hid hcap0
  have hn0 : w.heap.size ≤ (w1.alloc (.cells #[.int .i64 y0, .int .i64 y1, .bool y2, .int .i64 y3, .int .i64 y4, .bool y5] 94)).heap.size := by have := HB1.out.size; simp; omega
  have HPH := Lib.hid (hph.mono (F' := fun j => j < w.heap.size) (fun j hj => Nat.lt_of_lt_of_le hj hn0))
  have c7 := c7w w2 hb2'
  have h2 : CtlMem w2 q b fo fi k md lv gl gb Sc := H.out.keep (R := fun _ => False) (Kept.of_below hb2') (fun _ _ e => e)
  have cf := h2.free
  have H2 := Lib.hid h2
  have HS2 := Lib.hid (Step.of_kept (S := CtlFeet q fo fi md gl gb Sc) (Kept.of_below hb2'))
  have HV2 := Lib.hid (HV.out.below hb2')
  subst hpsv
  clear hcap0
  clear hb2 hb2' hown hph h2 c7w HB1 HCM HF
  go_wp2_with fail
  refine (leaving_calls H2.out).mono ?_
  rintro e w3 ⟨lv3, gl3, gb3, rfl, hm3, hs3⟩
  have HM3 := Lib.hid hm3
  have HS3 := Lib.hid hs3
  have HDR4 := Lib.hid (ctlDrive_calls hm3 HKC.out hks _ _ hm3.leave_phases (by decide) (by decide) hl hc0 (by omega) hlf)
  rw [HW4.out] at HDR4
  clear hm3 hs3
  go_wp2_with fail
  refine HDR4.out.mono ?_
  rintro e w4 ⟨xv4, S4, rfl, hrow4, ⟨fo4, fi4, md4, lv4, gl4, gb4, Sc4, hm4, rfl⟩, hst4, hfar4⟩
  have hg4 : w4.cell? ⟨q, 7, none⟩ = some (.bool k4.goes) := hm4.cell rfl
  have hfr4 := hm4.free
  have hs4 := (HS2.out.trans (HS3.out.trans hst4)).trans (CtlMem.stepSet _ (.inl rfl) 7 (.bool false))
  have HM4 := Lib.hid (hm4.set (k' := { k4 with goes := false }) (i := 7) (v := .bool false) rfl rfl rfl rfl)
  have HS4 := Lib.hid hs4
  have hdf5 : ∀ g, (Value.slice a data.length cap).ownBlock = some g → ¬ CtlFeet q fo4 fi4 md4 gl4 gb4 Sc4 g := fun g hg hf => by
    rcases hs4.sub g hf with e | e
    · exact HDF.out g hg e
    · rcases HV.out with ⟨e', _⟩ | ⟨g', _, _, e', hlt, _⟩
      · rw [e'] at hg; simp [Value.ownBlock] at hg
      · rw [e'] at hg
        simp only [Value.ownBlock, Option.some.injEq] at hg
        omega
  have HROW5 := Lib.hid (HV.out.keep hs4.toKept HDF.out)
  have HDF5 := Lib.hid hdf5
  have HPH4 := Lib.hid (PhasesIs.after HPH.out (HS3.out.trans hst4) (fun j hj => H.out.feet_lt hj) ((Kept.refl (CtlFeet q fo4 fi4 md4 gl4 gb4 Sc4) w4).setCell (p := ⟨q, 7, none⟩) (.inl (.inl rfl)) (.bool false)) (S4 := Sc4) (fun j hj => .inr (.inr (.inr (.inr hj)))))
  clear hm4 hst4 hfar4 hrow4 hdf5 hs4
  go_wp2_with fail
  have HDR := Lib.hid (ctlDrive_calls HM4.out KF.out hk4s _ _ HPH4.out HALL.out (by omega) hk4l hk40 hk41 hk4e)
  rw [HW.out] at HDR
  refine HDR.out.mono ?_
  rintro e w5 ⟨xv, S5, rfl, hrow, ⟨fo5, fi5, md5, lv5, gl5, gb5, Sc5, hm, rfl⟩, hst5, hfar5⟩
  have HROW := Lib.hid hrow
  have HM := Lib.hid hm
  have HST := Lib.hid (HS4.out.trans hst5)
  have hfr : ∀ g, xv.ownBlock = some g → (CtlFeet q fo fi md gl gb Sc g ∨ w.heap.size ≤ g) ∧ ¬ CtlFeet q fo5 fi5 md5 gl5 gb5 Sc5 g := fun g hg => by
    refine ⟨?_, (hfar5 g hg).2⟩
    rcases (hfar5 g hg).1 with e | e
    · exact HS4.out.sub g e
    · exact .inr (Nat.le_trans HS4.out.toKept.size e)
  have HFR := Lib.hid hfr
  have cg : w5.cell? ⟨q, 7, none⟩ = some (.bool k5.goes) := hm.cell rfl
  have cfr := hm.free
  clear hrow hm hst5 hfar5 hfr
  go_wp2_with fail
  go_ret2
  exact HM.out.gave HST.out HROW.out HFR.out

set_option maxRecDepth 100000 in
set_option maxHeartbeats 4000000 in
theorem ctlRun_leave_gone (h : CtlMem w q b fo fi k md lv gl gb Sc) (hl : k.lost = false) (hkc : k.chip.Fine) (hks : k.chip.sel = false) (hc0 : 0 ≤ k.clocks) (hc1 : k.clocks < 3000000000000000000) (hlf : k.left < 9223372036854775808)
    (bb at_ : Int) {o : OpD} (ho : opOf bb = some o) (data : List Int) (dv : Value) (read : Int) (hv : RowIs w dv data) (hdf : ∀ g, dv.ownBlock = some g → ¬ CtlFeet q fo fi md gl gb Sc g) (hok : CmdOk o at_ data read)
    (hg : k.goes = true) (hbb : ¬ bb = 235) {k4 : Ctl} (hw : k.drive Lich.leaving = (k4, [], 1101)) :
    Calls Tryz.prog 17 #[.pointer (some ⟨q, 0, none⟩), .int .i64 bb, .int .i64 at_, dv, .int .i64 read] w (CtlGave q b (k4, [], 1101) (CtlFeet q fo fi md gl gb Sc) w) := by
  have c9 : w.cell? ⟨q, 9, none⟩ = some (.bool false) := by rw [← hl]; exact h.cell rfl
  have hfd := find_calls bb w
  rw [ho] at hfd
  simp only [Option.getD_some, Option.isSome_some, ↓reduceIte, opVal] at hfd
  have ho' : opOf o.byte = some o := by rw [opOf_byte ho]; exact ho
  obtain ⟨hall, hplen⟩ := cmdPhases_ok ho' hok
  have hd1 : bb = 235 → data.length = 1 := fun e => CmdOk.one (e ▸ ho) hok
  have hcm : ∀ u, Below w.heap.size w u → Calls Tryz.prog 45 #[opVal o, .int .i64 at_, dv, .int .i64 read] u (Commanded (cmdPhases o at_ data read) u) := fun u hu => by
    obtain ⟨y0, y1, y2, y3, y4, y5⟩ := o
    exact command_good' y0 y1 y3 y4 y2 y5 ho' at_ data dv read u (hv.below hu) hok
  have hpne : cmdPhases o at_ data read ≠ [] := by unfold cmdPhases; simp
  have hpl2 : bb = 235 → 2 ≤ (cmdPhases o at_ data read).length := fun e => by
    obtain rfl := opOf_addr (o := o) (by rw [← e]; exact ho)
    simp [cmdPhases]
  have hpl0 : 1 ≤ (cmdPhases o at_ data read).length := List.length_pos_iff.2 hpne
  generalize cmdPhases o at_ data read = ps at *
  obtain ⟨y0, y1, y2, y3, y4, y5⟩ := o
  simp only [opVal] at hfd hcm
  have HF := Lib.hid hfd
  have HCM := Lib.hid hcm
  have H := Lib.hid h
  have HV := Lib.hid hv
  have HDF := Lib.hid hdf
  have HALL := Lib.hid hall
  have HD1 := Lib.hid hd1
  have HKC := Lib.hid hkc
  have HPN := Lib.hid hpne
  have HBB := Lib.hid hbb
  have HW := Lib.hid hw
  have c70 : w.cell? ⟨q, 7, none⟩ = some (.bool k.goes) := h.cell rfl
  rw [hg] at c70
  have c7w : ∀ w2, Below w.heap.size w w2 → w2.cell? ⟨q, 7, none⟩ = some (.bool true) := fun w2 hb => by rw [World.cell?_of_block (hb.block q (lt_of_block h.blk))]; exact c70
  obtain ⟨a, cap, rfl⟩ := hv.len
  have b235 : (bb == 235) = false := by simp [hbb]
  clear h hfd hcm ho ho' hv hok hall hd1 hkc hdf hpne hbb hw hg c70 hpl2
  go_enter Tryz.func17, Tryz.ntmps17
  go_wp2_with fail
  refine (state_ok c9).mono ?_
  rintro e w' ⟨rfl, rfl⟩
  go_wp2_with fail
  refine HF.out.mono ?_
  rintro e w1 ⟨rfl, hb1⟩
  have HB1 := Lib.hid hb1
  clear hb1
  go_wp2_with fail
  refine (HCM.out _ (below_new HB1.out _)).mono ?_
  rintro e w2 ⟨psv, vs, rfl, hown, hb2⟩
  have hb2' := (below_new HB1.out (.cells #[.int .i64 y0, .int .i64 y1, .bool y2, .int .i64 y3, .int .i64 y4, .bool y5] 94)).trans (hb2.mono (by have := HB1.out.size; simp; omega))
  have hph := hown.phases HPN.out
  obtain ⟨g0, cp0, hpsv, hcap0⟩ := row_cap hown.row hpl0
  have HCP := Lib.hid hcap0
  have hn0 : w.heap.size ≤ (w1.alloc (.cells #[.int .i64 y0, .int .i64 y1, .bool y2, .int .i64 y3, .int .i64 y4, .bool y5] 94)).heap.size := by have := HB1.out.size; simp; omega
  have HPH := Lib.hid (hph.mono (F' := fun j => j < w.heap.size) (fun j hj => Nat.lt_of_lt_of_le hj hn0))
  have c7 := c7w w2 hb2'
  have h2 : CtlMem w2 q b fo fi k md lv gl gb Sc := H.out.keep (R := fun _ => False) (Kept.of_below hb2') (fun _ _ e => e)
  have cf := h2.free
  have H2 := Lib.hid h2
  have HS2 := Lib.hid (Step.of_kept (S := CtlFeet q fo fi md gl gb Sc) (Kept.of_below hb2'))
  have HV2 := Lib.hid (HV.out.below hb2')
  subst hpsv
  clear hcap0
  clear hb2 hb2' hown hph h2 c7w HB1 HCM HF
  go_wp2_with fail
  refine (leaving_calls H2.out).mono ?_
  rintro e w3 ⟨lv3, gl3, gb3, rfl, hm3, hs3⟩
  have HS3 := Lib.hid hs3
  have HDR4 := Lib.hid (ctlDrive_calls hm3 HKC.out hks _ _ hm3.leave_phases (by decide) (by decide) hl hc0 (by omega) hlf)
  rw [HW.out] at HDR4
  clear hm3 hs3
  go_wp2_with fail
  refine HDR4.out.mono ?_
  rintro e w4 ⟨xv4, S4, rfl, hrow4, ⟨fo4, fi4, md4, lv4, gl4, gb4, Sc4, hm4, rfl⟩, hst4, hfar4⟩
  have HM4 := Lib.hid hm4
  have HS4 := Lib.hid (HS2.out.trans (HS3.out.trans hst4))
  clear hm4 hst4 hrow4 hfar4
  go_wp2_with fail
  go_ret2
  exact HM4.out.gave_none HS4.out

theorem Ctl.fin_ok {k k5 : Ctl} {bb : Int} {data xs5 : List Int} {ps : List Phase} (hw : k.drive ps = (k5, xs5, 0)) : k.fin bb data ps = ({ k5 with goes := decide (bb = 235 ∧ data.headD 0 = 160) }, xs5, 0) := by
  unfold Ctl.fin
  rw [hw]
  simp
theorem Ctl.fin_cut {k k5 : Ctl} {bb : Int} {data : List Int} {ps : List Phase} (hw : k.drive ps = (k5, [], 1101)) : k.fin bb data ps = (k5, [], 1101) := by
  unfold Ctl.fin
  rw [hw]
  simp

theorem ctlRun_good (h : CtlMem w q b fo fi k md lv gl gb Sc) (hl : k.lost = false) (hkc : k.chip.Fine) (hks : k.chip.sel = false) (hc0 : 0 ≤ k.clocks) (hc1 : k.clocks < 3000000000000000000) (hlf : k.left < 9223372036854775808)
    (bb at_ : Int) {o : OpD} (ho : opOf bb = some o) (data : List Int) (dv : Value) (read : Int) (hv : RowIs w dv data) (hdf : ∀ g, dv.ownBlock = some g → ¬ CtlFeet q fo fi md gl gb Sc g) (hok : CmdOk o at_ data read) :
    Calls Tryz.prog 17 #[.pointer (some ⟨q, 0, none⟩), .int .i64 bb, .int .i64 at_, dv, .int .i64 read] w (CtlGave q b (k.run bb at_ data read) (CtlFeet q fo fi md gl gb Sc) w) := by
  have ho' : opOf o.byte = some o := by rw [opOf_byte ho]; exact ho
  have hcc := commandOf_good ho' hok
  obtain ⟨hall, hplen⟩ := cmdPhases_ok ho' hok
  cases hg : k.goes
  case false =>
    rw [Ctl.run_plain hl ho hcc hg]
    rcases Ctl.drive_ways hkc hks hall (by omega) with ⟨k5, xs5, hw, _⟩ | ⟨k5, hw⟩
    · rw [Ctl.fin_ok hw]
      by_cases hbb : bb = 235
      · exact ctlRun_plain_235_ok h hl hkc hks hc0 hc1 hlf bb at_ ho data dv read hv hdf hok hg hbb hw
      · exact ctlRun_plain_any_ok h hl hkc hks hc0 hc1 hlf bb at_ ho data dv read hv hdf hok hg hbb hw
    · rw [Ctl.fin_cut hw]
      by_cases hbb : bb = 235
      · exact ctlRun_plain_235_cut h hl hkc hks hc0 hc1 hlf bb at_ ho data dv read hv hdf hok hg hbb hw
      · exact ctlRun_plain_any_cut h hl hkc hks hc0 hc1 hlf bb at_ ho data dv read hv hdf hok hg hbb hw
  case true =>
    by_cases hbb : bb = 235
    · rw [Ctl.run_tail hl ho hcc hg hbb]
      have hallt : (cmdPhases o at_ data read).tail.all Phase.okB = true := List.all_eq_true.2 fun p hp => List.all_eq_true.1 hall p (List.mem_of_mem_tail hp)
      rcases Ctl.drive_ways hkc hks hallt (by simp; omega) with ⟨k5, xs5, hw, _⟩ | ⟨k5, hw⟩
      · rw [Ctl.fin_ok hw]
        exact ctlRun_tail_ok h hl hkc hks hc0 hc1 hlf bb at_ ho data dv read hv hdf hok hg hbb hw
      · rw [Ctl.fin_cut hw]
        exact ctlRun_tail_cut h hl hkc hks hc0 hc1 hlf bb at_ ho data dv read hv hdf hok hg hbb hw
    · rw [Ctl.run_leave hl ho hcc hg hbb]
      rcases Ctl.drive_ways (k := k) hkc hks (ps := Lich.leaving) (by decide) (by decide) with ⟨k4, xs4, hw4, h1, h2, h3, h4, h5, h6⟩ | ⟨k4, hw4⟩
      · rw [hw4]
        simp only [if_true]
        rcases Ctl.drive_ways (k := ({ k4 with goes := false } : Ctl)) h1 h2 hall (by omega) with ⟨k5, xs5, hw, _⟩ | ⟨k5, hw⟩
        · rw [Ctl.fin_ok hw]
          exact ctlRun_leave_ok h hl hkc hks hc0 hc1 hlf bb at_ ho data dv read hv hdf hok hg hbb hw4 h1 h2 (h3.trans hl) (by omega) (by omega) (h6 hlf) hw
        · rw [Ctl.fin_cut hw]
          exact ctlRun_leave_cut h hl hkc hks hc0 hc1 hlf bb at_ ho data dv read hv hdf hok hg hbb hw4 h1 h2 (h3.trans hl) (by omega) (by omega) (h6 hlf) hw
      · rw [hw4]
        exact ctlRun_leave_gone h hl hkc hks hc0 hc1 hlf bb at_ ho data dv read hv hdf hok hg hbb hw4

/-- A command, whatever it is. -/
theorem ctlRun_calls (h : CtlMem w q b fo fi k md lv gl gb Sc) (hk : k.Fine) (hc1 : k.clocks < 3000000000000000000) (bb at_ : Int) (data : List Int) (dv : Value) (read : Int) (hv : RowIs w dv data) (hdf : ∀ g, dv.ownBlock = some g → ¬ CtlFeet q fo fi md gl gb Sc g) :
    Calls Tryz.prog 17 #[.pointer (some ⟨q, 0, none⟩), .int .i64 bb, .int .i64 at_, dv, .int .i64 read] w (CtlGave q b (k.run bb at_ data read) (CtlFeet q fo fi md gl gb Sc) w) := by
  cases hl : k.lost
  case true =>
    rw [Ctl.run_lost hl]
    exact ctlRun_lost h hl bb at_ dv read
  cases ho : opOf bb with
  | none =>
    rw [Ctl.run_none hl ho]
    exact ctlRun_none h hl bb at_ ho dv read
  | some o =>
    by_cases hok : CmdOk o at_ data read
    · exact ctlRun_good h hl hk.chip (hk.sel hl) hk.clocks hc1 hk.left bb at_ ho data dv read hv hdf hok
    · rw [Ctl.run_bad hl ho (commandOf_bad hok)]
      exact ctlRun_bad h hl bb at_ ho data dv read hv hok
end
end Go.Proofs.YtefoldehejbiiaaGreat
