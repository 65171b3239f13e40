/-
  Walks: a byte is put.
  Walks: a byte is got.
-/
import Derived.Test.YtefoldehejbiiaaGreatM24
import Derived.Test.YtefoldehejbiiaaGreatM25
import Derived.OwnWalk
import Derived.Deep.AppendLies

set_option linter.unusedSimpArgs false
set_option linter.unusedVariables false
namespace Go.Proofs.YtefoldehejbiiaaGreat
open Go.RowKit Lich

section
variable {w : World} {p b : Nat} {d : DR} {S : Nat → Prop} {ov : Value}

theorem DriveIs.keep {w' : World} (h : DriveIs w p b d S ov) (hk : Kept (fun _ => False) w w') : DriveIs w' p b d S ov :=
  ⟨blk_kept hk h.blk (fun e => e), h.chip.keep hk (fun _ _ e => e), ownsRow_keep h.out hk (fun _ _ e => e), h.pS, h.oS, fun k hS => Nat.lt_of_lt_of_le (h.low k hS) hk.size⟩

theorem Step.of_kept {S : Nat → Prop} {w w' : World} (h : Kept S w w') : Step S S w w' := ⟨h, fun _ h => .inl h⟩

set_option maxRecDepth 100000 in
set_option maxHeartbeats 2000000 in
theorem put4_calls (h : DriveIs w p b d S ov) {n : Int} (hd : d.Live n) (hn : n + 8 < 1000000) (v : Int) (v0 : 0 ≤ v) (v1 : v < 256) :
    Calls Tryz.prog 97 #[.pointer (some ⟨p, 0, none⟩), .int .i64 v, .int .i64 4] w (Drove p b (d.put v 4).1 S ov (.bool (d.put v 4).2) w) := by
  have hlen : (laneOut v 4).length = 2 := by simp [laneOut, bitsOf]
  have hylen : (wires v 4).length = 2 := by simp [wires, bitsOf]
  have hyx : ∀ k, k < 2 → (wires v 4).getD k 0 = (laneOut v 4).getD k 0 := by
    intro k hk
    obtain rfl | rfl : k = 0 ∨ k = 1 := by omega
    all_goals simp [wires, laneOut, bitsOf]
  have hyb : ∀ k, k < 2 → 0 ≤ (wires v 4).getD k 0 ∧ (wires v 4).getD k 0 < 16 := by
    intro k hk
    have := wires_in 4 v ((wires v 4)[k]'(by omega)) (List.getElem_mem _)
    simpa [List.getD, show k < (wires v 4).length by omega] using this
  have hx01 : 4 = 1 → ∀ k, k < 2 → (laneOut v 4).getD k 0 = 0 ∨ (laneOut v 4).getD k 0 = 1 := by
    intro _ k hk
    obtain rfl | rfl : k = 0 ∨ k = 1 := by omega
    all_goals first | (simp [laneOut, bitsOf]; omega) | simp at *
  have hput : d.put v 4 = d.sends (wires v 4) := rfl
  rw [hput]
  generalize wires v 4 = ys at *
  generalize hxs : laneOut v 4 = xs at *
  have HO := Lib.hid (Out4_calls v v0 v1 w)
  rw [hxs] at HO
  have HY := Lib.hid hyx
  have HYB := Lib.hid hyb
  have HX01 := Lib.hid (hx01 )
  have H := Lib.hid h
  have HD := Lib.hid hd
  clear h hd hyx hyb hx01 hput hxs
  go_enter Tryz.func97, Tryz.ntmps97
  go_wp2_with fail
  refine HO.out.mono ?_
  rintro e w1 ⟨g, cap, rfl, hrow, hb⟩
  have hgl := (hrow.lt g rfl)
  have h1 : DriveIs w1 p b d S ov := H.out.keep (Kept.of_below hb)
  have hcell : ∀ k, k < 2 → w1.cell? ⟨g, k, none⟩ = some (.int .i64 (xs.getD k 0)) := by
    intro k hk
    have := hrow.cells (g := g) rfl k (.int .i64 (xs.getD k 0)) (by simp [List.getD, show k < xs.length by omega])
    have ha : (⟨g, 0, none⟩ : Addr).add k = ⟨g, k, none⟩ := by unfold Addr.add; split <;> simp_all
    rw [ha] at this
    exact this
  have hfar : ¬ Feet S p ov g := by
    have := H.out.lt
    rintro (e | e | e)
    · have := H.out.low g e; omega
    · omega
    · have := H.out.out_lt g e; omega
  have KB := Lib.hid (Kept.of_below (S := Feet S p ov) hb)
  have HF := Lib.hid hfar
  have HCE := Lib.hid hcell
  have H1 := Lib.hid h1
  clear h1 hfar hcell hrow hb
  go_wp2_with fail
  go_loopw [21] (fun i wr => ∃ (k : Nat) (dk : DR) (S' : Nat → Prop) (ov' : Value), k ≤ 2 ∧ i = .int .i64 k ∧ d.sends (ys.take k) = (dk, true) ∧ DriveIs wr p b dk S' ov' ∧ Step (Feet S p ov) (Feet S' p ov') w1 wr ∧ dk.Live (n + k)) (fun i _ => 2 - (intOf i).toNat)
  case atStart => exact ⟨0, d, S, ov, Nat.zero_le _, rfl, rfl, H1.out, Step.refl _ _, HD.out.more (by omega)⟩
  case round =>
    obtain ⟨k, dk, S', ov', hk, rfl, hs, hdr, hst, hlv⟩ := hrel
    by_cases hlt : k < 2
    · have ck : wr.cell? ⟨g, k, none⟩ = some (.int .i64 (xs.getD k 0)) := by
        rw [World.cell?_of_block (hst.toKept.block g hgl.2 HF.out)]; exact HCE.out k hlt
      have hyk := HY.out k hlt
      have hyb := HYB.out k hlt
      have hnext := DR.sends_next (d := d) (dk := dk) (ys := ys) (k := k) (by omega) hs
      generalize hxk : xs.getD k 0 = x at *
      generalize ys.getD k 0 = y at *
      subst hyk
      have HDR := Lib.hid hdr
      have HST := Lib.hid hst
      have HLV := Lib.hid hlv
      have HN := Lib.hid hnext
      clear hdr hst hlv hnext hs
      have hl1 := HLV.out.n1
      by_cases hg : 0 ≤ dk.most ∧ dk.most ≤ dk.n
      · have hfin : d.sends ys = (dk, false) := DR.sends_stop (k := k + 1) (by rw [HN.out, tick_stop hg.1 hg.2])
        have FIN := Lib.hid hfin
        clear hfin
        go_wp2_with fail
        skip
        refine (dclock_stop HDR.out hg.1 hg.2 _).mono ?_
        rintro e w2 ⟨rfl, S2, ov2, h2, s2⟩
        have H2 := Lib.hid h2
        have K2 := Lib.hid s2
        clear h2 s2
        go_wp2_with fail
        go_ret
        rw [FIN.out]
        exact ⟨rfl, S2, ov2, H2.out, (Step.of_kept KB.out).trans (HST.out.trans K2.out)⟩
      · have htk := tick_goes hg y
        have TK := Lib.hid htk
        clear htk
        go_wp2_with fail
        skip
        skip
        refine (dclock_goes HDR.out hg HLV.out.n0 (by omega) HLV.out.chip (by omega) HLV.out.sel y hyb.1 hyb.2).mono ?_
        rintro e w2 ⟨rfl, S2, ov2, h2, s2⟩
        have H2 := Lib.hid h2
        have K2 := Lib.hid s2
        clear h2 s2
        go_wp2_with fail
        refine ⟨⟨k + 1, _, S2, ov2, by omega, by go_num, by rw [HN.out, TK.out], H2.out, HST.out.trans K2.out, ?_⟩, by simp [intOf]; omega⟩
        have := (HLV.out.tick TK.out).1
        exact this.more (by simp; omega)
    · have hke : k = 2 := by omega
      subst hke
      rw [List.take_of_length_le (by omega)] at hs
      have HS := Lib.hid hs
      have HDR := Lib.hid hdr
      have HST := Lib.hid hst
      clear hs hdr hst hlv
      go_wp2_with fail
      go_ret
      rw [HS.out]
      exact ⟨rfl, S', ov', HDR.out, (Step.of_kept KB.out).trans HST.out⟩

set_option maxRecDepth 100000 in
set_option maxHeartbeats 2000000 in
theorem put1_calls (h : DriveIs w p b d S ov) {n : Int} (hd : d.Live n) (hn : n + 8 < 1000000) (v : Int) (v0 : 0 ≤ v) (v1 : v < 256) :
    Calls Tryz.prog 97 #[.pointer (some ⟨p, 0, none⟩), .int .i64 v, .int .i64 1] w (Drove p b (d.put v 1).1 S ov (.bool (d.put v 1).2) w) := by
  have hlen : (laneOut v 1).length = 8 := by simp [laneOut, bitsOf]
  have hylen : (wires v 1).length = 8 := by simp [wires, bitsOf]
  have hyx : ∀ k, k < 8 → (wires v 1).getD k 0 = 14 + (laneOut v 1).getD k 0 := by
    intro k hk
    obtain rfl | rfl | rfl | rfl | rfl | rfl | rfl | rfl : k = 0 ∨ k = 1 ∨ k = 2 ∨ k = 3 ∨ k = 4 ∨ k = 5 ∨ k = 6 ∨ k = 7 := by omega
    all_goals simp [wires, laneOut, bitsOf]
  have hyb : ∀ k, k < 8 → 0 ≤ (wires v 1).getD k 0 ∧ (wires v 1).getD k 0 < 16 := by
    intro k hk
    have := wires_in 1 v ((wires v 1)[k]'(by omega)) (List.getElem_mem _)
    simpa [List.getD, show k < (wires v 1).length by omega] using this
  have hx01 : 1 = 1 → ∀ k, k < 8 → (laneOut v 1).getD k 0 = 0 ∨ (laneOut v 1).getD k 0 = 1 := by
    intro _ k hk
    obtain rfl | rfl | rfl | rfl | rfl | rfl | rfl | rfl : k = 0 ∨ k = 1 ∨ k = 2 ∨ k = 3 ∨ k = 4 ∨ k = 5 ∨ k = 6 ∨ k = 7 := by omega
    all_goals first | (simp [laneOut, bitsOf]; omega) | simp at *
  have hput : d.put v 1 = d.sends (wires v 1) := rfl
  rw [hput]
  generalize wires v 1 = ys at *
  generalize hxs : laneOut v 1 = xs at *
  have HO := Lib.hid (Out1_calls v v0 v1 w)
  rw [hxs] at HO
  have HY := Lib.hid hyx
  have HYB := Lib.hid hyb
  have HX01 := Lib.hid (hx01 rfl)
  have H := Lib.hid h
  have HD := Lib.hid hd
  clear h hd hyx hyb hx01 hput hxs
  go_enter Tryz.func97, Tryz.ntmps97
  go_wp2_with fail
  refine HO.out.mono ?_
  rintro e w1 ⟨g, cap, rfl, hrow, hb⟩
  have hgl := (hrow.lt g rfl)
  have h1 : DriveIs w1 p b d S ov := H.out.keep (Kept.of_below hb)
  have hcell : ∀ k, k < 8 → w1.cell? ⟨g, k, none⟩ = some (.int .i64 (xs.getD k 0)) := by
    intro k hk
    have := hrow.cells (g := g) rfl k (.int .i64 (xs.getD k 0)) (by simp [List.getD, show k < xs.length by omega])
    have ha : (⟨g, 0, none⟩ : Addr).add k = ⟨g, k, none⟩ := by unfold Addr.add; split <;> simp_all
    rw [ha] at this
    exact this
  have hfar : ¬ Feet S p ov g := by
    have := H.out.lt
    rintro (e | e | e)
    · have := H.out.low g e; omega
    · omega
    · have := H.out.out_lt g e; omega
  have KB := Lib.hid (Kept.of_below (S := Feet S p ov) hb)
  have HF := Lib.hid hfar
  have HCE := Lib.hid hcell
  have H1 := Lib.hid h1
  clear h1 hfar hcell hrow hb
  go_wp2_with fail
  go_loopw [21] (fun i wr => ∃ (k : Nat) (dk : DR) (S' : Nat → Prop) (ov' : Value), k ≤ 8 ∧ i = .int .i64 k ∧ d.sends (ys.take k) = (dk, true) ∧ DriveIs wr p b dk S' ov' ∧ Step (Feet S p ov) (Feet S' p ov') w1 wr ∧ dk.Live (n + k)) (fun i _ => 8 - (intOf i).toNat)
  case atStart => exact ⟨0, d, S, ov, Nat.zero_le _, rfl, rfl, H1.out, Step.refl _ _, HD.out.more (by omega)⟩
  case round =>
    obtain ⟨k, dk, S', ov', hk, rfl, hs, hdr, hst, hlv⟩ := hrel
    by_cases hlt : k < 8
    · have ck : wr.cell? ⟨g, k, none⟩ = some (.int .i64 (xs.getD k 0)) := by
        rw [World.cell?_of_block (hst.toKept.block g hgl.2 HF.out)]; exact HCE.out k hlt
      have hyk := HY.out k hlt
      have hyb := HYB.out k hlt
      have hnext := DR.sends_next (d := d) (dk := dk) (ys := ys) (k := k) (by omega) hs
      generalize hxk : xs.getD k 0 = x at *
      generalize ys.getD k 0 = y at *
      have hor : bits .or .i64 x 14 = 14 + x := by rcases (hxk ▸ HX01.out k hlt : x = 0 ∨ x = 1) with rfl | rfl <;> decide
      have HDR := Lib.hid hdr
      have HST := Lib.hid hst
      have HLV := Lib.hid hlv
      have HN := Lib.hid hnext
      clear hdr hst hlv hnext hs
      have hl1 := HLV.out.n1
      by_cases hg : 0 ≤ dk.most ∧ dk.most ≤ dk.n
      · have hfin : d.sends ys = (dk, false) := DR.sends_stop (k := k + 1) (by rw [HN.out, tick_stop hg.1 hg.2])
        have FIN := Lib.hid hfin
        clear hfin
        go_wp2_with fail
        try rw [hor]
        refine (dclock_stop HDR.out hg.1 hg.2 _).mono ?_
        rintro e w2 ⟨rfl, S2, ov2, h2, s2⟩
        have H2 := Lib.hid h2
        have K2 := Lib.hid s2
        clear h2 s2
        go_wp2_with fail
        go_ret
        rw [FIN.out]
        exact ⟨rfl, S2, ov2, H2.out, (Step.of_kept KB.out).trans (HST.out.trans K2.out)⟩
      · have htk := tick_goes hg y
        have TK := Lib.hid htk
        clear htk
        go_wp2_with fail
        try rw [hor]
        rw [← hyk]
        refine (dclock_goes HDR.out hg HLV.out.n0 (by omega) HLV.out.chip (by omega) HLV.out.sel y hyb.1 hyb.2).mono ?_
        rintro e w2 ⟨rfl, S2, ov2, h2, s2⟩
        have H2 := Lib.hid h2
        have K2 := Lib.hid s2
        clear h2 s2
        go_wp2_with fail
        refine ⟨⟨k + 1, _, S2, ov2, by omega, by go_num, by rw [HN.out, TK.out], H2.out, HST.out.trans K2.out, ?_⟩, by simp [intOf]; omega⟩
        have := (HLV.out.tick TK.out).1
        exact this.more (by simp; omega)
    · have hke : k = 8 := by omega
      subst hke
      rw [List.take_of_length_le (by omega)] at hs
      have HS := Lib.hid hs
      have HDR := Lib.hid hdr
      have HST := Lib.hid hst
      clear hs hdr hst hlv
      go_wp2_with fail
      go_ret
      rw [HS.out]
      exact ⟨rfl, S', ov', HDR.out, (Step.of_kept KB.out).trans HST.out⟩

end
end Go.Proofs.YtefoldehejbiiaaGreat

namespace Go.Proofs.YtefoldehejbiiaaGreat
open Go.RowKit Lich

section
variable {w : World} {p b : Nat} {d : DR} {S : Nat → Prop} {ov : Value}

/-- What is written outside of all that a drive owns. -/
theorem DriveIs.far {R : Nat → Prop} {w' : World} (h : DriveIs w p b d S ov) (hk : Kept R w w') (hR : ∀ q, R q → ¬ Feet S p ov q) : DriveIs w' p b d S ov :=
  ⟨blk_kept hk h.blk (fun e => hR p e (.inr (.inl rfl))), h.chip.keep hk (fun q hq e => hR q e (.inl hq)), ownsRow_keep h.out hk (fun q hq e => hR q e (.inr (.inr hq))), h.pS, h.oS, fun k hS => Nat.lt_of_lt_of_le (h.low k hS) hk.size⟩
theorem DriveIs.feet_lt (h : DriveIs w p b d S ov) {q : Nat} (hq : Feet S p ov q) : q < w.heap.size := by
  rcases hq with e | e | e
  · exact h.low q e
  · have := h.lt; omega
  · exact h.out_lt q e

/-- One more of what was read. -/
theorem DriveIs.more (h : DriveIs w p b d S ov) (x : Int) {w2 : World} {g cap : Nat}
    (hown : w2.ownsRow 0 3 1 (.slice (some ⟨g, 0, none⟩) (d.out.length + 1) cap) (d.out.length + 1) (d.out.map (.int .i64) ++ [.int .i64 x]))
    (hg : (w.alloc (.cells #[.int .i64 x] 3)).grownBy w2 ov.ownBlock) (hat : ov.ownBlock = some g ∨ g = w.heap.size + 1) :
    DriveIs (w2.setCell ⟨p, 1, none⟩ (.slice (some ⟨g, 0, none⟩) (d.out.length + 1) cap)) p b { d with out := d.out ++ [x] } S (.slice (some ⟨g, 0, none⟩) (d.out.length + 1) cap) ∧
      Step (Feet S p ov) (Feet S p (.slice (some ⟨g, 0, none⟩) (d.out.length + 1) cap)) w (w2.setCell ⟨p, 1, none⟩ (.slice (some ⟨g, 0, none⟩) (d.out.length + 1) cap)) := by
  have kb : Kept (fun k => ov.ownBlock = some k) w w2 := ((Kept.refl _ w).alloc _).grown hg (fun k hk => .inl hk)
  have kc : Kept (fun k => ov.ownBlock = some k ∨ k = p) w (w2.setCell ⟨p, 1, none⟩ (.slice (some ⟨g, 0, none⟩) (d.out.length + 1) cap)) := (kb.mono fun k hk => .inl hk).setCell (p := ⟨p, 1, none⟩) (.inl (.inr rfl)) _
  have hgp : g ≠ p := by
    rcases hat with e | e
    · exact h.out_ne g e
    · have := h.lt; omega
  refine ⟨⟨?_, h.chip.keep kc (fun q hq e => ?_), ?_, h.pS, fun q hq e => ?_, fun q hq => Nat.lt_of_lt_of_le (h.low q hq) kc.size⟩, kc.mono fun q hq => ?_, fun q hq => ?_⟩
  · rw [blk_set (blk_kept kb h.blk (fun e => h.out_ne p e rfl))]; rfl
  · rcases e with e | e
    · exact h.oS q e hq
    · subst e; exact h.pS hq
  · have := ownsRow_keep hown ((Kept.refl (fun k => k = p) w2).setCell (p := ⟨p, 1, none⟩) (.inl rfl) (.slice (some ⟨g, 0, none⟩) (d.out.length + 1) cap)) (fun k hk => by simp only [Value.ownBlock, Option.some.injEq] at hk; subst hk; exact hgp)
    simpa using this
  · simp only [Value.ownBlock, Option.some.injEq] at hq
    subst hq
    rcases hat with e' | e'
    · exact h.oS _ e' e
    · have := h.low _ e; omega
  · rcases hq with e | e
    · exact .inr (.inr e)
    · exact .inr (.inl e)
  · rcases hq with e | e | e
    · exact .inl (.inl e)
    · exact .inl (.inr (.inl e))
    · simp only [Value.ownBlock, Option.some.injEq] at e
      subst e
      rcases hat with e' | e'
      · exact .inl (.inr (.inr e'))
      · exact .inr (by omega)

set_option maxRecDepth 100000 in
set_option maxHeartbeats 4000000 in
theorem get4_calls (h : DriveIs w p b d S ov) {n : Int} (hd : d.Live n) (hn : n + 8 < 1000000) (hol : d.out.length < 1000000) :
    Calls Tryz.prog 99 #[.pointer (some ⟨p, 0, none⟩), .int .i64 4] w (Drove p b (d.get 4).1 S ov (.bool (d.get 4).2) w) := by
  obtain ⟨i0, hi0, hz0, hz1, hz2⟩ := info_parts info_int
  have hget : d.get 4 = match d.hears 2 4 0 with | (d', none) => (d', false) | (d', some b) => ({ d' with out := d'.out ++ [b] }, true) := rfl
  have HG := Lib.hid hget
  have H := Lib.hid h
  have HD := Lib.hid hd
  clear h hd hget
  go_enter Tryz.func99, Tryz.ntmps99
  go_wp2_with fail
  refine (many4 _).mono ?_
  rintro e w' ⟨rfl, rfl⟩
  go_wp2_with fail
  go_loopw [5, 12] (fun v i wr => ∃ (k : Nat) (dk : DR) (S' : Nat → Prop) (ov' : Value) (ys : List Int), k ≤ 2 ∧ i = .int .i64 k ∧ ys.length = k ∧ (∀ y ∈ ys, 0 ≤ y ∧ y < 16) ∧
      (∀ j, d.hears (k + j) 4 0 = dk.hears j 4 (ys.foldl (fun a x => a * 16 + x) 0)) ∧ DriveIs wr p b dk S' ov' ∧ Step (Feet S p ov) (Feet S' p ov') w wr ∧ dk.Live (n + k) ∧ dk.out = d.out ∧
      wr.ownsRow 0 3 1 v k (ys.map (.int .i64)) ∧ (∀ q, v.ownBlock = some q → w.heap.size ≤ q ∧ ¬ Feet S' p ov' q)) (fun _ i _ => 2 - (intOf i).toNat)
  case atStart => exact ⟨0, d, S, ov, [], Nat.zero_le _, rfl, rfl, by simp, fun j => by rw [Nat.zero_add]; rfl, H.out, Step.refl _ _, HD.out.more (by omega), rfl, World.ownsRow_nil _ _ _ _, by simp [Value.ownBlock]⟩
  case round =>
    obtain ⟨k, dk, S', ov', ys, hk, rfl, hyl, hyb, hh, hdr, hst, hlv, hout, hrow, hfar⟩ := hrel
    by_cases hlt : k < 2
    · have HDR := Lib.hid hdr
      have HST := Lib.hid hst
      have HLV := Lib.hid hlv
      have HH := Lib.hid hh
      have HY := Lib.hid hyb
      have HR := Lib.hid hrow
      have HF := Lib.hid hfar
      clear hdr hst hlv hh hyb hrow hfar
      have hl1 := HLV.out.n1
      go_wp2_with fail
      by_cases hg : 0 ≤ dk.most ∧ dk.most ≤ dk.n
      · have hfin : d.get 4 = (dk, false) := by
          rw [HG.out]
          have e := HH.out (2 - k)
          rw [show k + (2 - k) = 2 by omega] at e
          rw [e, show 2 - k = (2 - k - 1) + 1 by omega]
          simp only [DR.hears, tick_stop hg.1 hg.2]
        have FIN := Lib.hid hfin
        clear hfin
        refine (dclock_stop HDR.out hg.1 hg.2 _).mono ?_
        rintro e w2 ⟨rfl, S2, ov2, h2, s2⟩
        have H2 := Lib.hid h2
        have K2 := Lib.hid s2
        clear h2 s2
        go_wp2_with fail
        go_ret
        rw [FIN.out]
        exact ⟨rfl, S2, ov2, H2.out, HST.out.trans K2.out⟩
      · have htk := tick_goes hg 15
        obtain ⟨hl2, y0, y1, _, _⟩ := HLV.out.tick htk
        have TK := Lib.hid htk
        have HL2 := Lib.hid hl2
        clear htk hl2
        refine (dclock_goes HDR.out hg HLV.out.n0 (by omega) HLV.out.chip (by omega) HLV.out.sel 15 (by decide) (by decide)).mono ?_
        rintro e w2 ⟨rfl, S2, ov2, h2, s2⟩
        have H2 := Lib.hid h2
        have K2 := Lib.hid s2
        clear h2 s2
        have hrow2 : w2.ownsRow 0 3 1 u5 k (ys.map (.int .i64)) := ownsRow_keep HR.out K2.out.toKept (fun q hq => (HF.out q hq).2)
        have hfar2 : ∀ q, u5.ownBlock = some q → w.heap.size ≤ q ∧ ¬ Feet S2 p ov2 q := fun q hq => ⟨(HF.out q hq).1, fun e => by
          rcases K2.out.sub q e with e | e
          · exact (HF.out q hq).2 e
          · have := (HR.out.lt q hq).2; omega⟩
        have hst2 := HST.out.trans K2.out
        have hhn : ∀ j, d.hears (k + 1 + j) 4 0 = DR.hears { dk with chip := (dk.chip.clock 15).1, n := dk.n + 1 } j 4 ((ys ++ [(dk.chip.clock 15).2]).foldl (fun a x => a * 16 + x) 0) := by
          intro j
          rw [show k + 1 + j = k + (j + 1) by omega, HH.out (j + 1)]
          simp only [DR.hears, TK.out, List.foldl_append, List.foldl_cons, List.foldl_nil]
          rfl
        have hyn : ∀ y ∈ ys ++ [(dk.chip.clock 15).2], 0 ≤ y ∧ y < 16 := by
          intro y hy
          rcases List.mem_append.1 hy with hy | hy
          · exact HY.out y hy
          · simp only [List.mem_singleton] at hy; subst hy; exact ⟨y0, y1⟩
        generalize (dk.chip.clock 15).2 = y at *
        have HN := Lib.hid hhn
        have HYN := Lib.hid hyn
        clear hhn hyn
        go_wp2_with (at_builtin; refine wpList_append_lies _ rfl _ _ _ rfl 0 3 i0 _ 1 8 und_ints hi0 hz0 hz1 hz2 rfl (by omega) u5 k _ rfl (ownsRow_keep hrow2 ((Kept.refl (fun _ => False) _).alloc _) (fun _ _ hh => hh)) ⟨w2.heap.size, 0, none⟩ 1 1 [.int .i64 _] rfl rfl (World.news_of_block (cs := #[.int .i64 _]) (t := 3) (fr := (0, 0)) (heap_alloc_new _ _)) (by simp [Value.oneCell']) (by omega) (by simp [maxLen]; omega) (by omega) (by simp) (w2.heap.size + 1) (by simp) ?_; intro gg cap w3 hown1 hgrow hat hlt3)
        have h3 := H2.out.far (R := fun q => u5.ownBlock = some q) (((Kept.refl _ w2).alloc _).grown hgrow (fun q hq => .inl hq)) (fun q hq => (hfar2 q hq).2)
        have hs3 : Step (Feet S p ov) (Feet S2 p ov2) w w3 := ⟨(hst2.toKept.alloc _).grown hgrow (fun q hq => .inr (hfar2 q hq).1), hst2.sub⟩
        have hf3 : ∀ q, (Value.slice (some ⟨gg, 0, none⟩) (k + 1) cap).ownBlock = some q → w.heap.size ≤ q ∧ ¬ Feet S2 p ov2 q := by
          intro q hq
          simp only [Value.ownBlock, Option.some.injEq] at hq
          subst hq
          rcases hat with e | e
          · exact hfar2 _ e
          · have := hst2.toKept.size
            exact ⟨by omega, fun e' => by have := H2.out.feet_lt e'; omega⟩
        refine ⟨⟨k + 1, _, S2, ov2, ys ++ [y], by omega, by go_num, by simp [hyl], HYN.out, HN.out, h3, hs3, HL2.out.more (by simp; omega), hout, ?_, hf3⟩, by simp [intOf]; omega⟩
        skip
        simpa using hown1
    · have hke : k = 2 := by omega
      subst hke
      obtain ⟨g, cap, rfl, _, hgl⟩ := hrow.form (by decide)
      have hcells : ∀ j, j < 2 → wr.cell? ⟨g, j, none⟩ = some (.int .i64 (ys.getD j 0)) := by
        intro j hj
        have := hrow.cells (g := g) rfl j (.int .i64 (ys.getD j 0)) (by simp [List.getD, show j < ys.length by omega])
        have ha : (⟨g, 0, none⟩ : Addr).add j = ⟨g, j, none⟩ := by unfold Addr.add; split <;> simp_all
        rw [ha] at this
        exact this
      have HIN := Lib.hid (In4_calls ys hyb hyl g cap wr hcells)
      have hfin : d.get 4 = ({ dk with out := dk.out ++ [ys.foldl (fun a x => a * 16 + x) 0] }, true) := by
        have e := hh 0
        rw [HG.out, show 2 = 2 + 0 from rfl, e]
        rfl
      have FIN := Lib.hid hfin
      generalize ys.foldl (fun a x => a * 16 + x) 0 = R at *
      have p1 : wr.cell? ⟨p, 1, none⟩ = some ov' := (blk_cell hdr.blk).trans rfl
      have plt := hdr.lt
      have pf : wr.frozen? ⟨p, 1, none⟩ = false := blk_free hdr.blk
      have hoo := hdr.out
      have hone := hdr.out_ne
      have holn : dk.out.length < 1000000 := by rw [hout]; exact hol
      have HDR := Lib.hid hdr
      have HST := Lib.hid hst
      clear hdr hst hlv hh hyb hrow hfar hcells hfin hout
      go_wp2_with fail
      refine HIN.out.mono ?_
      rintro e w' ⟨rfl, rfl⟩
      go_wp2_with (at_builtin; refine wpList_append_lies _ rfl _ _ _ rfl 0 3 i0 _ 1 8 und_ints hi0 hz0 hz1 hz2 rfl (by omega) ov' dk.out.length _ rfl (ownsRow_keep hoo ((Kept.refl (fun _ => False) _).alloc _) (fun _ _ hh => hh)) ⟨wr.heap.size, 0, none⟩ 1 1 [.int .i64 _] rfl rfl (World.news_of_block (cs := #[.int .i64 _]) (t := 3) (fr := (0, 0)) (heap_alloc_new _ _)) (by simp [Value.oneCell']) (by omega) (by simp [maxLen]; omega) (by omega) (by simp) (wr.heap.size + 1) (by simp) ?_; intro gg cap w3 hown1 hgrow hat hlt3; have q1 := hgrow.cell_far ⟨p, 1, none⟩ (by simp; omega) (fun e => hone p e.symm rfl); have q2 := hgrow.frozen_far ⟨p, 1, none⟩ (by simp; omega) (fun e => hone p e.symm rfl); rw [World.cell?_alloc_lt _ _ _ (by exact plt), p1] at q1; obtain ⟨h4, s4⟩ := HDR.out.more R hown1 hgrow hat; have H4 := Lib.hid h4; have S4 := Lib.hid s4; clear h4 s4)
      go_ret
      rw [FIN.out]
      exact ⟨rfl, S', _, H4.out, HST.out.trans S4.out⟩

set_option maxRecDepth 100000 in
set_option maxHeartbeats 4000000 in
theorem get1_calls (h : DriveIs w p b d S ov) {n : Int} (hd : d.Live n) (hn : n + 8 < 1000000) (hol : d.out.length < 1000000) :
    Calls Tryz.prog 99 #[.pointer (some ⟨p, 0, none⟩), .int .i64 1] w (Drove p b (d.get 1).1 S ov (.bool (d.get 1).2) w) := by
  obtain ⟨i0, hi0, hz0, hz1, hz2⟩ := info_parts info_int
  have hget : d.get 1 = match d.hears 8 1 0 with | (d', none) => (d', false) | (d', some b) => ({ d' with out := d'.out ++ [b] }, true) := rfl
  have HG := Lib.hid hget
  have H := Lib.hid h
  have HD := Lib.hid hd
  clear h hd hget
  go_enter Tryz.func99, Tryz.ntmps99
  go_wp2_with fail
  refine (many1 _).mono ?_
  rintro e w' ⟨rfl, rfl⟩
  go_wp2_with fail
  go_loopw [5, 12] (fun v i wr => ∃ (k : Nat) (dk : DR) (S' : Nat → Prop) (ov' : Value) (ys : List Int), k ≤ 8 ∧ i = .int .i64 k ∧ ys.length = k ∧ (∀ y ∈ ys, 0 ≤ y ∧ y < 2) ∧
      (∀ j, d.hears (k + j) 1 0 = dk.hears j 1 (ys.foldl (fun a x => a * 2 + x) 0)) ∧ DriveIs wr p b dk S' ov' ∧ Step (Feet S p ov) (Feet S' p ov') w wr ∧ dk.Live (n + k) ∧ dk.out = d.out ∧
      wr.ownsRow 0 3 1 v k (ys.map (.int .i64)) ∧ (∀ q, v.ownBlock = some q → w.heap.size ≤ q ∧ ¬ Feet S' p ov' q)) (fun _ i _ => 8 - (intOf i).toNat)
  case atStart => exact ⟨0, d, S, ov, [], Nat.zero_le _, rfl, rfl, by simp, fun j => by rw [Nat.zero_add]; rfl, H.out, Step.refl _ _, HD.out.more (by omega), rfl, World.ownsRow_nil _ _ _ _, by simp [Value.ownBlock]⟩
  case round =>
    obtain ⟨k, dk, S', ov', ys, hk, rfl, hyl, hyb, hh, hdr, hst, hlv, hout, hrow, hfar⟩ := hrel
    by_cases hlt : k < 8
    · have HDR := Lib.hid hdr
      have HST := Lib.hid hst
      have HLV := Lib.hid hlv
      have HH := Lib.hid hh
      have HY := Lib.hid hyb
      have HR := Lib.hid hrow
      have HF := Lib.hid hfar
      clear hdr hst hlv hh hyb hrow hfar
      have hl1 := HLV.out.n1
      go_wp2_with fail
      by_cases hg : 0 ≤ dk.most ∧ dk.most ≤ dk.n
      · have hfin : d.get 1 = (dk, false) := by
          rw [HG.out]
          have e := HH.out (8 - k)
          rw [show k + (8 - k) = 8 by omega] at e
          rw [e, show 8 - k = (8 - k - 1) + 1 by omega]
          simp only [DR.hears, tick_stop hg.1 hg.2]
        have FIN := Lib.hid hfin
        clear hfin
        refine (dclock_stop HDR.out hg.1 hg.2 _).mono ?_
        rintro e w2 ⟨rfl, S2, ov2, h2, s2⟩
        have H2 := Lib.hid h2
        have K2 := Lib.hid s2
        clear h2 s2
        go_wp2_with fail
        go_ret
        rw [FIN.out]
        exact ⟨rfl, S2, ov2, H2.out, HST.out.trans K2.out⟩
      · have htk := tick_goes hg 15
        obtain ⟨hl2, y0, y1, _, _⟩ := HLV.out.tick htk
        have TK := Lib.hid htk
        have HL2 := Lib.hid hl2
        clear htk hl2
        refine (dclock_goes HDR.out hg HLV.out.n0 (by omega) HLV.out.chip (by omega) HLV.out.sel 15 (by decide) (by decide)).mono ?_
        rintro e w2 ⟨rfl, S2, ov2, h2, s2⟩
        have H2 := Lib.hid h2
        have K2 := Lib.hid s2
        clear h2 s2
        have hrow2 : w2.ownsRow 0 3 1 u5 k (ys.map (.int .i64)) := ownsRow_keep HR.out K2.out.toKept (fun q hq => (HF.out q hq).2)
        have hfar2 : ∀ q, u5.ownBlock = some q → w.heap.size ≤ q ∧ ¬ Feet S2 p ov2 q := fun q hq => ⟨(HF.out q hq).1, fun e => by
          rcases K2.out.sub q e with e | e
          · exact (HF.out q hq).2 e
          · have := (HR.out.lt q hq).2; omega⟩
        have hst2 := HST.out.trans K2.out
        have hhn : ∀ j, d.hears (k + 1 + j) 1 0 = DR.hears { dk with chip := (dk.chip.clock 15).1, n := dk.n + 1 } j 1 ((ys ++ [(dk.chip.clock 15).2 / 2 % 2]).foldl (fun a x => a * 2 + x) 0) := by
          intro j
          rw [show k + 1 + j = k + (j + 1) by omega, HH.out (j + 1)]
          simp only [DR.hears, TK.out, List.foldl_append, List.foldl_cons, List.foldl_nil]
          rfl
        have hyn : ∀ y ∈ ys ++ [(dk.chip.clock 15).2 / 2 % 2], 0 ≤ y ∧ y < 2 := by
          intro y hy
          rcases List.mem_append.1 hy with hy | hy
          · exact HY.out y hy
          · simp only [List.mem_singleton] at hy; subst hy; omega
        generalize (dk.chip.clock 15).2 = y at *
        have HN := Lib.hid hhn
        have HYN := Lib.hid hyn
        clear hhn hyn
        go_wp2_with (at_builtin; refine wpList_append_lies _ rfl _ _ _ rfl 0 3 i0 _ 1 8 und_ints hi0 hz0 hz1 hz2 rfl (by omega) u5 k _ rfl (ownsRow_keep hrow2 ((Kept.refl (fun _ => False) _).alloc _) (fun _ _ hh => hh)) ⟨w2.heap.size, 0, none⟩ 1 1 [.int .i64 _] rfl rfl (World.news_of_block (cs := #[.int .i64 _]) (t := 3) (fr := (0, 0)) (heap_alloc_new _ _)) (by simp [Value.oneCell']) (by omega) (by simp [maxLen]; omega) (by omega) (by simp) (w2.heap.size + 1) (by simp) ?_; intro gg cap w3 hown1 hgrow hat hlt3)
        have h3 := H2.out.far (R := fun q => u5.ownBlock = some q) (((Kept.refl _ w2).alloc _).grown hgrow (fun q hq => .inl hq)) (fun q hq => (hfar2 q hq).2)
        have hs3 : Step (Feet S p ov) (Feet S2 p ov2) w w3 := ⟨(hst2.toKept.alloc _).grown hgrow (fun q hq => .inr (hfar2 q hq).1), hst2.sub⟩
        have hf3 : ∀ q, (Value.slice (some ⟨gg, 0, none⟩) (k + 1) cap).ownBlock = some q → w.heap.size ≤ q ∧ ¬ Feet S2 p ov2 q := by
          intro q hq
          simp only [Value.ownBlock, Option.some.injEq] at hq
          subst hq
          rcases hat with e | e
          · exact hfar2 _ e
          · have := hst2.toKept.size
            exact ⟨by omega, fun e' => by have := H2.out.feet_lt e'; omega⟩
        refine ⟨⟨k + 1, _, S2, ov2, ys ++ [y / 2 % 2], by omega, by go_num, by simp [hyl], HYN.out, HN.out, h3, hs3, HL2.out.more (by simp; omega), hout, ?_, hf3⟩, by simp [intOf]; omega⟩
        rw [i64_and_mask 1 1 (by decide) (by decide) (by omega) (by omega)] at hown1
        simpa using hown1
    · have hke : k = 8 := by omega
      subst hke
      obtain ⟨g, cap, rfl, _, hgl⟩ := hrow.form (by decide)
      have hcells : ∀ j, j < 8 → wr.cell? ⟨g, j, none⟩ = some (.int .i64 (ys.getD j 0)) := by
        intro j hj
        have := hrow.cells (g := g) rfl j (.int .i64 (ys.getD j 0)) (by simp [List.getD, show j < ys.length by omega])
        have ha : (⟨g, 0, none⟩ : Addr).add j = ⟨g, j, none⟩ := by unfold Addr.add; split <;> simp_all
        rw [ha] at this
        exact this
      have HIN := Lib.hid (In1_calls ys hyb hyl g cap wr hcells)
      have hfin : d.get 1 = ({ dk with out := dk.out ++ [ys.foldl (fun a x => a * 2 + x) 0] }, true) := by
        have e := hh 0
        rw [HG.out, show 8 = 8 + 0 from rfl, e]
        rfl
      have FIN := Lib.hid hfin
      generalize ys.foldl (fun a x => a * 2 + x) 0 = R at *
      have p1 : wr.cell? ⟨p, 1, none⟩ = some ov' := (blk_cell hdr.blk).trans rfl
      have plt := hdr.lt
      have pf : wr.frozen? ⟨p, 1, none⟩ = false := blk_free hdr.blk
      have hoo := hdr.out
      have hone := hdr.out_ne
      have holn : dk.out.length < 1000000 := by rw [hout]; exact hol
      have HDR := Lib.hid hdr
      have HST := Lib.hid hst
      clear hdr hst hlv hh hyb hrow hfar hcells hfin hout
      go_wp2_with fail
      refine HIN.out.mono ?_
      rintro e w' ⟨rfl, rfl⟩
      go_wp2_with (at_builtin; refine wpList_append_lies _ rfl _ _ _ rfl 0 3 i0 _ 1 8 und_ints hi0 hz0 hz1 hz2 rfl (by omega) ov' dk.out.length _ rfl (ownsRow_keep hoo ((Kept.refl (fun _ => False) _).alloc _) (fun _ _ hh => hh)) ⟨wr.heap.size, 0, none⟩ 1 1 [.int .i64 _] rfl rfl (World.news_of_block (cs := #[.int .i64 _]) (t := 3) (fr := (0, 0)) (heap_alloc_new _ _)) (by simp [Value.oneCell']) (by omega) (by simp [maxLen]; omega) (by omega) (by simp) (wr.heap.size + 1) (by simp) ?_; intro gg cap w3 hown1 hgrow hat hlt3; have q1 := hgrow.cell_far ⟨p, 1, none⟩ (by simp; omega) (fun e => hone p e.symm rfl); have q2 := hgrow.frozen_far ⟨p, 1, none⟩ (by simp; omega) (fun e => hone p e.symm rfl); rw [World.cell?_alloc_lt _ _ _ (by exact plt), p1] at q1; obtain ⟨h4, s4⟩ := HDR.out.more R hown1 hgrow hat; have H4 := Lib.hid h4; have S4 := Lib.hid s4; clear h4 s4)
      go_ret
      rw [FIN.out]
      exact ⟨rfl, S', _, H4.out, HST.out.trans S4.out⟩

end
end Go.Proofs.YtefoldehejbiiaaGreat
