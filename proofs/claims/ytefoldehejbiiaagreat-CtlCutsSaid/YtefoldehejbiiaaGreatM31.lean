/-
  Walks: a phase that may be; phases on a chip.
-/
import Derived.Test.YtefoldehejbiiaaGreatM29
import Derived.Test.YtefoldehejbiiaaGreatM30

namespace Go.Proofs.YtefoldehejbiiaaGreat
open Go.RowKit Lich

section
variable {w : World} {p b : Nat} {d : DR} {S : Nat → Prop} {ov : Value}

theorem phase_calls (h : DriveIs w p b d S ov) {n : Int} (hd : d.Live n) (q o : Nat) (ph : Phase) (hp : PhaseIs w q o ph (Feet S p ov)) (hok : ph.okB = true) (hn : n + 10000 < 1000000) (hol : d.out.length + 1000 < 1000000) :
    Calls Tryz.prog 83 #[.pointer (some ⟨p, 0, none⟩), .pointer (some ⟨q, o, none⟩)] w (Drove p b (d.phase ph).1 S ov (.bool (d.phase ph).2) w) := by
  by_cases hb : ph.bytes = []
  · by_cases hr : ph.read = 0
    · obtain ⟨h0, h1, h2⟩ := Phase.ok_clocks hok hb hr
      exact phase_clocks h hd q o ph hp hb ph.clocks.toNat (by omega) (by omega) hr
    · obtain ⟨h0, h1, h2, h3⟩ := Phase.ok_read hok hb hr
      exact phase_reads h hd q o ph hp hb h0 ph.read.toNat (by omega) (by omega) h3 (by omega)
  · obtain ⟨h0, h1, h2, h3, h4⟩ := Phase.ok_bytes hok hb
    exact phase_bytes h hd q o ph hp h0 h2 (by omega) h3 h4 hb

theorem PhaseIs.step {q o : Nat} {ph : Phase} {F F' : Nat → Prop} {w' : World} (h : PhaseIs w q o ph F) (hs : Step F F' w w') : PhaseIs w' q o ph F' := by
  have hk := h.keep hs.toKept
  have hn : ∀ k, k < w.heap.size → ¬ F k → ¬ F' k := fun k h1 h2 h3 => by
    rcases hs.sub k h3 with h4 | h4
    · exact h2 h4
    · omega
  obtain ⟨v, hv, hb⟩ := h.c1
  obtain ⟨v', hv', hb'⟩ := hk.c1
  refine ⟨hk.c0, ⟨v', hv', ?_⟩, hk.c2, hk.c3, hk.lt, hn q h.lt h.far⟩
  have hvv : v' = v := by
    have := World.cell?_of_block (a := ⟨q, o + 1, none⟩) (hs.toKept.block q h.lt h.far)
    rw [hv, hv'] at this
    simpa using this
  subst hvv
  rcases hb with e | ⟨g, off, cap, hne, e, h1, h2, h3⟩
  · exact .inl e
  · rcases hb' with e' | ⟨g', off', cap', hne', e', h1', h2', h3'⟩
    · exact absurd e'.2 hne
    · rw [e] at e'
      simp only [Value.slice.injEq, Option.some.injEq, Addr.mk.injEq, true_and, and_true] at e'
      obtain ⟨⟨rfl, rfl⟩, rfl⟩ := e'
      exact .inr ⟨g, off, cap, hne, e, h1', hn g h1 h2, h3'⟩

theorem results_tmp4 {fn : Func} {t u v x : Tmp} (h : fn.results = #[.tmp t, .tmp u, .tmp v, .tmp x]) (tmps : Array Value) (P : Program) (w : World) :
    (results fn tmps).run P w = .ok (.tuple #[tmps.getD t undef, tmps.getD u undef, tmps.getD v undef, tmps.getD x undef]) w := by
  simp [results, h]

/-- What driving phases comes to, in memory: the row that was read lies apart, and is new. -/
def DriveOut (b : Nat) (c' : Chip) (out : List Int) (S : Nat → Prop) (ov : Value) (w w' : World) : Prop :=
  w'.ownsRow 0 3 1 ov out.length (out.map (.int .i64)) ∧ ∃ S', ChipAt w' b c' S' ∧ Step S S' w w' ∧ ∀ k, ov.ownBlock = some k → (S k ∨ w.heap.size ≤ k) ∧ ¬ S' k

theorem PhasesIs.step {F F' : Nat → Prop} {v : Value} {ps : List Phase} {w' : World} (h : PhasesIs w v ps F) (hs : Step F F' w w') : PhasesIs w' v ps F' := by
  obtain ⟨q, o, cap, e, hp⟩ := h
  exact ⟨q, o, cap, e, fun i hi => (hp i hi).step hs⟩

theorem Step.out {S1 : Nat → Prop} {w' : World} (h : Step (fun k => S k ∧ k < w.heap.size) S1 w w') : Step S S1 w w' :=
  ⟨h.toKept.mono fun _ hk => hk.1, fun k hk => (h.sub k hk).elim (fun e => .inl e.1) .inr⟩

theorem driveOn_eq {c : Chip} {ps : List Phase} {most : Int} (hok : ps.all Phase.okB = true) (hsel : c.sel = false) :
    driveOn c ps most = match DR.phases { chip := c.select, most := most } ps with
      | (d, false) => some (d.chip, d.out, d.n, false)
      | (d, true) => some (d.chip.deselect, d.out, d.n, true) := by
  unfold driveOn
  rw [if_neg (by rw [hok, hsel]; simp)]
  rcases DR.phases { chip := c.select, most := most } ps with ⟨d, t⟩
  cases t <;> rfl

/-- The drive as it is laid. -/
theorem DriveIs.fresh {c : Chip} (hc : ChipAt w b c S) (most : Int) :
    DriveIs (w.alloc (.cells #[.pointer (some ⟨b, 0, none⟩), .slice none 0 0, .int .i64 0, .int .i64 most] 144)) w.heap.size b { chip := c, most := most } (Tight S w.heap.size) (.slice none 0 0) := by
  refine ⟨blk_new _ _ _ rfl, hc.tight.keep (R := fun _ => False) ((Kept.refl _ w).alloc _) (fun _ _ e => e), World.ownsRow_nil _ _ _ _, fun e => ?_, by simp [Value.ownBlock], fun k hk => ?_⟩
  · have := e.2; omega
  · have := hk.2; simp; omega

theorem DriveIs.gone (h : DriveIs w p b d S ov) {S0 : Nat → Prop} {w0 : World} (hs : Step S0 (Feet S p ov) w0 w) : DriveOut b d.chip d.out S0 ov w0 w := by
  refine ⟨h.out, S, h.chip, ⟨hs.toKept, fun k hk => hs.sub k (.inl hk)⟩, fun k hk => ⟨hs.sub k (.inr (.inr hk)), h.oS k hk⟩⟩

set_option maxRecDepth 100000 in
set_option maxHeartbeats 4000000 in
theorem Drive_calls {c : Chip} (hc : ChipAt w b c S) (hf : c.Fine) (hsel : c.sel = false) (ps : List Phase) (psv : Value) (hps : PhasesIs w psv ps S) (hok : ps.all Phase.okB = true) (hlen : ps.length ≤ 20) (most : Int) {c' : Chip} {out : List Int} {n : Int} {t : Bool} (hd : driveOn c ps most = some (c', out, n, t)) :
    Calls Tryz.prog 68 #[.pointer (some ⟨b, 0, none⟩), psv, .int .i64 most] w fun e w' => ∃ ov, e = .returned (.tuple #[ov, .int .i64 n, .bool t, .int .i64 0]) ∧ DriveOut b c' out S ov w w' := by
  rw [driveOn_eq hok hsel] at hd
  have hl0 := DR.Live.fresh hf most
  have HPS := Lib.hid hps
  have HD := Lib.hid hd
  have HL := Lib.hid hl0
  have HC := Lib.hid hc
  have HOK := Lib.hid hok
  obtain ⟨q, o, cap, rfl, _⟩ := hps
  clear hd hl0 hc hf
  go_enter Tryz.func68, Tryz.ntmps68
  go_wp2_with fail
  refine (clocks_calls ps _ S w HPS.out hok (by omega)).mono ?_
  rintro e w1 ⟨⟨n, rfl⟩, hb⟩
  have KB := Lib.hid (Kept.of_below (S := S) hb)
  obtain ⟨md, jv, bv, dv, hch⟩ := HC.out.keep (R := fun _ => False) (Kept.of_below hb) (fun _ _ e => e)
  have HCH := Lib.hid hch
  clear hch hb hok
  go_wp2_with fail
  refine (Select_calls HCH.out hsel).mono ?_
  rintro e w2 ⟨rfl, S', hat, hst⟩
  have h3 := DriveIs.fresh hat most
  have s3 : Step S (Feet (Tight S' w2.heap.size) w2.heap.size (.slice none 0 0)) w (w2.alloc (.cells #[.pointer (some ⟨b, 0, none⟩), .slice none 0 0, .int .i64 0, .int .i64 most] 144)) := by
    have h1 : Step S S' w w2 := (Step.of_kept KB.out).trans hst
    refine ⟨h1.toKept.alloc _, fun k hk => ?_⟩
    have := h1.toKept.size
    rcases hk with e | e | e
    · exact h1.sub k e.1
    · exact .inr (by omega)
    · simp [Value.ownBlock] at e
  have H3 := Lib.hid h3
  have S3 := Lib.hid s3
  have P3 := Lib.hid (HPS.out.step s3)
  clear h3 s3 hat hst
  go_wp2_with fail
  go_loopw [13, 34] (fun _ i wr => ∃ (k : Nat) (dk : DR) (S1 : Nat → Prop) (ov1 : Value), k ≤ ps.length ∧ i = .int .i64 k ∧ DR.phases { chip := c.select, most := most } (ps.take k) = (dk, true) ∧ DriveIs wr w2.heap.size b dk S1 ov1 ∧
      Step (Feet (Tight S' w2.heap.size) w2.heap.size (.slice none 0 0)) (Feet S1 w2.heap.size ov1) (w2.alloc (.cells #[.pointer (some ⟨b, 0, none⟩), .slice none 0 0, .int .i64 0, .int .i64 most] 144)) wr ∧ dk.Live (10000 * k) ∧ dk.out.length ≤ 512 * k) (fun _ i _ => ps.length - (intOf i).toNat)
  case atStart => exact ⟨0, _, _, _, Nat.zero_le _, rfl, rfl, H3.out, Step.refl _ _, HL.out, by simp⟩
  case round =>
    obtain ⟨k, dk, S1, ov1, hk, rfl, hs, hdr, hst, hlv, hlo⟩ := hrel
    have HDR := Lib.hid hdr
    have HLV := Lib.hid hlv
    have HLO := Lib.hid hlo
    have HS := Lib.hid hs
    have HST := Lib.hid (S3.out.trans hst)
    have HPH := Lib.hid (P3.out.step hst)
    have HRF := Lib.hid hst
    clear hdr hlv hlo hs hst
    by_cases hlt : k < ps.length
    · obtain ⟨q', o', cap', he, hp⟩ := HPH.out
      simp only [Value.slice.injEq, Option.some.injEq, Addr.mk.injEq, true_and, and_true] at he
      obtain ⟨⟨rfl, rfl⟩, rfl⟩ := he
      have hokk : (ps.getD k {}).okB = true := List.all_eq_true.1 HOK.out _ (by simp [List.getD, hlt])
      have HC2 := Lib.hid (phase_calls HDR.out HLV.out q (o + k * 4) (ps.getD k {}) (hp k hlt) hokk (by omega) (by have := HLO.out; omega))
      have hbd := Phase.ok_bound hokk
      have HL2 := Lib.hid (DR.phase_live HLV.out (ps.getD k {}) (by rcases hbd.2.2.2.2.2 with h | h
                                                                    · exact .inl h
                                                                    · by_cases hr : (ps.getD k {}).read = 0
                                                                      · exact .inr hr
                                                                      · by_cases hb : (ps.getD k {}).bytes = []
                                                                        · exact .inl (Phase.ok_read hokk hb hr).1
                                                                        · exact .inl (Phase.ok_bytes hokk hb).1) hbd.1 ⟨hbd.2.1, hbd.2.2.1⟩ ⟨hbd.2.2.2.1, hbd.2.2.2.2.1⟩)
      have HN := Lib.hid (DR.phases_next hlt HS.out)
      clear hp hokk hbd
      generalize ps.getD k {} = ph at *
      go_wp2_with fail
      refine HC2.out.mono ?_
      rintro e w4 ⟨rfl, S4, ov4, h4, s4⟩
      have H4 := Lib.hid h4
      have S4' := Lib.hid s4
      clear h4 s4
      rcases hpt : dk.phase ph with ⟨d2, t2⟩
      have HPT := Lib.hid hpt
      cases t2
      · have hfin := DR.phases_stop (k := k + 1) (by rw [HN.out, HPT.out])
        rw [hpt] at H4
        have hd := HD.out
        rw [hfin] at hd
        simp only [Option.some.injEq, Prod.mk.injEq] at hd
        obtain ⟨rfl, rfl, rfl, rfl⟩ := hd
        clear hpt hfin
        have p1 : w4.cell? ⟨w2.heap.size, 1, none⟩ = some ov4 := (blk_cell H4.out.blk).trans rfl
        have p2 : w4.cell? ⟨w2.heap.size, 2, none⟩ = some (.int .i64 d2.n) := (blk_cell H4.out.blk).trans rfl
        generalize w2.heap.size = pp at *
        go_wp2_with fail
        go_quiet (fail)
        go_wp2_with fail
        refine bodyPost_ret (results_tmp4 rfl _ _ _) rfl ?_
        exact ⟨ov4, rfl, (H4.out.drewN _).gone ((HST.out.trans S4'.out).trans (Step.drewN _))⟩
      · rw [hpt] at H4 HL2
        clear hpt
        go_wp2_with fail
        exact ⟨⟨k + 1, d2, S4, ov4, by omega, by go_num, by rw [HN.out, HPT.out], H4.out, HRF.out.trans S4'.out, HL2.out.1.more (by simp; omega), by have e1 : d2.out.length ≤ dk.out.length + 512 := HL2.out.2.1; have e2 := HLO.out; omega⟩, by simp [intOf]; omega⟩
    · have hke : k = ps.length := by omega
      have hfin := HS.out
      rw [List.take_of_length_le (by omega)] at hfin
      have hd := HD.out
      rw [hfin] at hd
      simp only [Option.some.injEq, Prod.mk.injEq] at hd
      obtain ⟨rfl, rfl, rfl, rfl⟩ := hd
      obtain ⟨md, jv, bv, dv, hch⟩ := HDR.out.chip
      have HCC := Lib.hid hch
      have hlim : (10000 : Int) * k < 1000000 := by omega
      clear hch hfin
      go_wp2_with fail
      refine (Deselect_calls HCC.out HLV.out.chip hlim HLV.out.sel).mono ?_
      rintro e w4 ⟨rfl, S4, hat, hst⟩
      obtain ⟨S5, h5, s5⟩ := HDR.out.step hat hst
      have H5 := Lib.hid h5
      have S5' := Lib.hid s5
      have p1 : w4.cell? ⟨w2.heap.size, 1, none⟩ = some ov1 := (blk_cell h5.blk).trans rfl
      have p2 : w4.cell? ⟨w2.heap.size, 2, none⟩ = some (.int .i64 dk.n) := (blk_cell h5.blk).trans rfl
      clear h5 s5 hat hst
      generalize w2.heap.size = pp at *
      go_wp2_with fail
      go_quiet (fail)
      go_wp2_with fail
      refine bodyPost_ret (results_tmp4 rfl _ _ _) rfl ?_
      exact ⟨ov1, rfl, (H5.out.drewN _).gone ((HST.out.trans S5'.out).trans (Step.drewN _))⟩
end
end Go.Proofs.YtefoldehejbiiaaGreat
