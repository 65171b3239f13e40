/-
  Walks: a byte is put, is got, on as many lanes as there may be; what stands in memory for a phase.
  Walks: a phase is driven: bytes that go.
  Walks: a phase is driven: clocks of nothing; bytes that come; all phases.
  Walks: is there one of a sort among numbers?; may a phase be?
-/
import Derived.Test.YtefoldehejbiiaaGreatM26
import Derived.Test.YtefoldehejbiiaaGreatM27

set_option linter.unusedSimpArgs false
set_option linter.unusedVariables false
namespace Go.Proofs.YtefoldehejbiiaaGreat
open Go.RowKit Lich

section
variable {w : World} {p b : Nat} {d : DR} {S : Nat → Prop} {ov : Value}

theorem put_calls (h : DriveIs w p b d S ov) {n : Int} (hd : d.Live n) (hn : n + 8 < 1000000) (v : Int) (v0 : 0 ≤ v) (v1 : v < 256) {l : Int} (hl : l = 1 ∨ l = 4) :
    Calls Tryz.prog 97 #[.pointer (some ⟨p, 0, none⟩), .int .i64 v, .int .i64 l] w (Drove p b (d.put v l).1 S ov (.bool (d.put v l).2) w) := by
  rcases hl with rfl | rfl
  · exact put1_calls h hd hn v v0 v1
  · exact put4_calls h hd hn v v0 v1

theorem get_calls (h : DriveIs w p b d S ov) {n : Int} (hd : d.Live n) (hn : n + 8 < 1000000) (hol : d.out.length < 1000000) {l : Int} (hl : l = 1 ∨ l = 4) :
    Calls Tryz.prog 99 #[.pointer (some ⟨p, 0, none⟩), .int .i64 l] w (Drove p b (d.get l).1 S ov (.bool (d.get l).2) w) := by
  rcases hl with rfl | rfl
  · exact get1_calls h hd hn hol
  · exact get4_calls h hd hn hol

/-- A phase stands at ⟨q, o⟩; its bytes lie behind v; all of it outside of F. -/
structure PhaseIs (w : World) (q o : Nat) (ph : Phase) (F : Nat → Prop) : Prop where
  c0 : w.cell? ⟨q, o, none⟩ = some (.int .i64 ph.lanes)
  c1 : ∃ v, w.cell? ⟨q, o + 1, none⟩ = some v ∧ ((v = .slice none 0 0 ∧ ph.bytes = []) ∨ ∃ g off cap, ph.bytes ≠ [] ∧ v = .slice (some ⟨g, off, none⟩) ph.bytes.length cap ∧ g < w.heap.size ∧ ¬ F g ∧ ∀ k, k < ph.bytes.length → w.cell? ⟨g, off + k, none⟩ = some (.int .i64 (ph.bytes.getD k 0)))
  c2 : w.cell? ⟨q, o + 2, none⟩ = some (.int .i64 ph.clocks)
  c3 : w.cell? ⟨q, o + 3, none⟩ = some (.int .i64 ph.read)
  lt : q < w.heap.size
  far : ¬ F q

theorem PhaseIs.keep {q o : Nat} {ph : Phase} {F : Nat → Prop} {w' : World} (h : PhaseIs w q o ph F) (hk : Kept F w w') : PhaseIs w' q o ph F := by
  have hc : ∀ g i, g < w.heap.size → ¬ F g → w'.cell? ⟨g, i, none⟩ = w.cell? ⟨g, i, none⟩ := fun g i hg hf => World.cell?_of_block (hk.block g hg hf)
  obtain ⟨v, hv, hb⟩ := h.c1
  refine ⟨by rw [hc q _ h.lt h.far]; exact h.c0, ⟨v, by rw [hc q _ h.lt h.far]; exact hv, ?_⟩, by rw [hc q _ h.lt h.far]; exact h.c2, by rw [hc q _ h.lt h.far]; exact h.c3, Nat.lt_of_lt_of_le h.lt hk.size, h.far⟩
  rcases hb with e | ⟨g, off, cap, hne, e, h1, h2, h3⟩
  · exact .inl e
  · exact .inr ⟨g, off, cap, hne, e, Nat.lt_of_lt_of_le h1 hk.size, h2, fun k hk' => by rw [hc g _ h1 h2]; exact h3 k hk'⟩
end
end Go.Proofs.YtefoldehejbiiaaGreat

namespace Go.Proofs.YtefoldehejbiiaaGreat
open Go.RowKit Lich

section
variable {w : World} {p b : Nat} {d : DR} {S : Nat → Prop} {ov : Value}

set_option maxRecDepth 100000 in
set_option maxHeartbeats 4000000 in
theorem phase_bytes (h : DriveIs w p b d S ov) {n : Int} (hd : d.Live n) (q o : Nat) (ph : Phase) (hp : PhaseIs w q o ph (Feet S p ov)) (hl : ph.lanes = 1 ∨ ph.lanes = 4) (hb : ∀ x ∈ ph.bytes, 0 ≤ x ∧ x < 256) (hn : n + 8 * ph.bytes.length + 8 < 1000000) (hc0 : ph.clocks = 0) (hr0 : ph.read = 0) (hne : ph.bytes ≠ []) :
    Calls Tryz.prog 83 #[.pointer (some ⟨p, 0, none⟩), .pointer (some ⟨q, o, none⟩)] w (Drove p b (d.phase ph).1 S ov (.bool (d.phase ph).2) w) := by
  have hph : d.phase ph = d.puts ph.bytes ph.lanes := by
    unfold DR.phase
    rw [hc0, hr0]
    rcases d.puts ph.bytes ph.lanes with ⟨d1, t⟩
    cases t <;> rfl
  rw [hph]
  obtain ⟨v, hv, hvb⟩ := hp.c1
  rcases hvb with ⟨_, e⟩ | ⟨g, off, cap, _, rfl, hgl, hgf, hcells⟩
  · exact absurd e hne
  have p0 := hp.c0
  have p2 := hp.c2
  have p3 := hp.c3
  rw [hc0] at p2
  rw [hr0] at p3
  generalize ph.lanes = l at *
  generalize ph.bytes = ys at *
  have hkeep : ∀ w', Kept (Feet S p ov) w w' → w'.cell? ⟨q, o, none⟩ = some (.int .i64 l) ∧ w'.cell? ⟨q, o + 2, none⟩ = some (.int .i64 0) ∧ w'.cell? ⟨q, o + 3, none⟩ = some (.int .i64 0) ∧ ∀ k, k < ys.length → w'.cell? ⟨g, off + k, none⟩ = some (.int .i64 (ys.getD k 0)) := by
    intro w' hk
    have hc : ∀ g i, g < w.heap.size → ¬ Feet S p ov g → w'.cell? ⟨g, i, none⟩ = w.cell? ⟨g, i, none⟩ := fun g i hg hf => World.cell?_of_block (hk.block g hg hf)
    exact ⟨by rw [hc q _ hp.lt hp.far]; exact p0, by rw [hc q _ hp.lt hp.far]; exact p2, by rw [hc q _ hp.lt hp.far]; exact p3, fun k hk' => by rw [hc g _ hgl hgf]; exact hcells k hk'⟩
  have HK := Lib.hid hkeep
  have H := Lib.hid h
  have HD := Lib.hid hd
  have HB := Lib.hid hb
  clear hkeep h hd hb hp hph hcells hc0 hr0
  go_enter Tryz.func83, Tryz.ntmps83
  go_wp2_with fail
  go_loopw [14] (fun i wr => ∃ (k : Nat) (dk : DR) (S' : Nat → Prop) (ov' : Value), k ≤ ys.length ∧ i = .int .i64 k ∧ d.puts (ys.take k) l = (dk, true) ∧ DriveIs wr p b dk S' ov' ∧ Step (Feet S p ov) (Feet S' p ov') w wr ∧ dk.Live (n + 8 * k)) (fun i _ => ys.length - (intOf i).toNat)
  case atStart => exact ⟨0, d, S, ov, Nat.zero_le _, rfl, rfl, H.out, Step.refl _ _, HD.out.more (by simp)⟩
  case round =>
    obtain ⟨k, dk, S', ov', hk, rfl, hs, hdr, hst, hlv⟩ := hrel
    obtain ⟨z0, z2, z3, zc⟩ := HK.out wr hst.toKept
    have HDR := Lib.hid hdr
    have HST := Lib.hid hst
    have HLV := Lib.hid hlv
    have HS := Lib.hid hs
    clear hdr hst hlv hs
    by_cases hlt : k < ys.length
    · have ck := zc k hlt
      have hkb : k < 1000000 := by have h1 := HD.out.n0; have h2 := HD.out.n1; omega
      have hby := HB.out (ys[k]'hlt) (List.getElem_mem _)
      have hyk : ys.getD k 0 = ys[k]'hlt := by simp [List.getD, hlt]
      rw [← hyk] at hby
      have HN := Lib.hid (DR.puts_next (l := l) hlt HS.out)
      generalize ys.getD k 0 = y at *
      obtain ⟨hl2, _, _⟩ := DR.put_live HLV.out y l
      have HL2 := Lib.hid hl2
      clear hl2 zc hyk
      go_wp2_with fail
      refine (put_calls HDR.out HLV.out (by omega) y hby.1 hby.2 hl).mono ?_
      rintro e w2 ⟨rfl, S2, ov2, h2, s2⟩
      have H2 := Lib.hid h2
      have K2 := Lib.hid s2
      clear h2 s2
      rcases hpt : dk.put y l with ⟨d2, t⟩
      have HPT := Lib.hid hpt
      cases t
      · have hfin : d.puts ys l = (d2, false) := DR.puts_stop (k := k + 1) (by rw [HN.out, HPT.out])
        have FIN := Lib.hid hfin
        rw [hpt] at H2
        clear hpt hfin
        go_wp2_with fail
        go_ret
        rw [FIN.out]
        exact ⟨rfl, S2, ov2, H2.out, HST.out.trans K2.out⟩
      · rw [hpt] at H2 HL2
        clear hpt
        go_wp2_with fail
        exact ⟨⟨k + 1, d2, S2, ov2, by omega, by go_num, by rw [HN.out, HPT.out], H2.out, HST.out.trans K2.out, HL2.out.more (by simp; omega)⟩, by simp [intOf]; omega⟩
    · have hke : k = ys.length := by omega
      have hfin : d.puts ys l = (dk, true) := by have := HS.out; rw [List.take_of_length_le (by omega)] at this; exact this
      have FIN := Lib.hid hfin
      clear hfin
      go_wp2_with fail
      go_loopw [31] (fun i w' => i = .int .i64 0 ∧ w' = wr) (fun _ _ => 0)
      case atStart => exact ⟨rfl, rfl⟩
      case round =>
        obtain ⟨rfl, rfl⟩ := hrel
        go_wp2_with fail
        go_loopw [45] (fun i w' => i = .int .i64 0 ∧ w' = wr) (fun _ _ => 0)
        case atStart => exact ⟨rfl, rfl⟩
        case round =>
          obtain ⟨rfl, rfl⟩ := hrel
          go_wp2_with fail
          go_ret
          rw [FIN.out]
          exact ⟨rfl, S', ov', HDR.out, HST.out⟩
end
end Go.Proofs.YtefoldehejbiiaaGreat

namespace Go.Proofs.YtefoldehejbiiaaGreat
open Go.RowKit Lich

section
variable {w : World} {p b : Nat} {d : DR} {S : Nat → Prop} {ov : Value}

set_option maxRecDepth 100000 in
set_option maxHeartbeats 4000000 in
theorem phase_clocks (h : DriveIs w p b d S ov) {n : Int} (hd : d.Live n) (q o : Nat) (ph : Phase) (hp : PhaseIs w q o ph (Feet S p ov)) (hb0 : ph.bytes = []) (m : Nat) (hm : ph.clocks = m) (hn : n + m + 8 < 1000000) (hr0 : ph.read = 0) :
    Calls Tryz.prog 83 #[.pointer (some ⟨p, 0, none⟩), .pointer (some ⟨q, o, none⟩)] w (Drove p b (d.phase ph).1 S ov (.bool (d.phase ph).2) w) := by
  have hph : d.phase ph = d.sends (List.replicate m 15) := by
    unfold DR.phase
    rw [hb0, hr0, hm]
    simp only [DR.puts, Int.toNat_natCast]
    rcases d.sends (List.replicate m 15) with ⟨d1, t⟩
    cases t <;> rfl
  rw [hph]
  obtain ⟨v, hv, hvb⟩ := hp.c1
  rcases hvb with ⟨rfl, _⟩ | ⟨g, off, cap, e, _⟩
  case inr => exact absurd hb0 e
  have p0 := hp.c0
  have p2 := hp.c2
  have p3 := hp.c3
  rw [hm] at p2
  rw [hr0] at p3
  have hlen : (List.replicate m (15 : Int)).length = m := by simp
  have hval : ∀ k, k < m → (List.replicate m (15 : Int)).getD k 0 = 15 := by
    intro k hk
    simp [List.getD, hk]
  generalize ph.lanes = l at *
  generalize List.replicate m (15 : Int) = ys at *
  have hkeep : ∀ w', Kept (Feet S p ov) w w' → w'.cell? ⟨q, o, none⟩ = some (.int .i64 l) ∧ w'.cell? ⟨q, o + 3, none⟩ = some (.int .i64 0) := by
    intro w' hk
    have hc : ∀ g i, g < w.heap.size → ¬ Feet S p ov g → w'.cell? ⟨g, i, none⟩ = w.cell? ⟨g, i, none⟩ := fun g i hg hf => World.cell?_of_block (hk.block g hg hf)
    exact ⟨by rw [hc q _ hp.lt hp.far]; exact p0, by rw [hc q _ hp.lt hp.far]; exact p3⟩
  have HK := Lib.hid hkeep
  have H := Lib.hid h
  have HD := Lib.hid hd
  have HV := Lib.hid hval
  clear hkeep h hd hp hph hr0 hval hm
  go_enter Tryz.func83, Tryz.ntmps83
  go_wp2_with fail
  go_loopw [14] (fun i w' => i = .int .i64 0 ∧ w = w') (fun _ _ => 0)
  case atStart => exact ⟨rfl, rfl⟩
  case round =>
    obtain ⟨rfl, rfl⟩ := hrel
    go_wp2_with fail
    go_loopw [31] (fun i wr => ∃ (k : Nat) (dk : DR) (S' : Nat → Prop) (ov' : Value), k ≤ m ∧ i = .int .i64 k ∧ d.sends (ys.take k) = (dk, true) ∧ DriveIs wr p b dk S' ov' ∧ Step (Feet S p ov) (Feet S' p ov') w wr ∧ dk.Live (n + k)) (fun i _ => m - (intOf i).toNat)
    case atStart => exact ⟨0, d, S, ov, Nat.zero_le _, rfl, rfl, H.out, Step.refl _ _, HD.out.more (by simp)⟩
    case round =>
      obtain ⟨k, dk, S', ov', hk, rfl, hs, hdr, hst, hlv⟩ := hrel
      obtain ⟨z0, z3⟩ := HK.out wr hst.toKept
      have hkb : k < 1000000 := by have h1 := HD.out.n0; have h2 := HD.out.n1; omega
      have HDR := Lib.hid hdr
      have HST := Lib.hid hst
      have HLV := Lib.hid hlv
      have HS := Lib.hid hs
      clear hdr hst hlv hs
      by_cases hlt : k < m
      · have HN := Lib.hid (DR.sends_next (k := k) (by omega) HS.out)
        rw [HV.out k hlt] at HN
        have hl1 := HLV.out.n1
        by_cases hg : 0 ≤ dk.most ∧ dk.most ≤ dk.n
        · have hfin : d.sends ys = (dk, false) := DR.sends_stop (k := k + 1) (by rw [HN.out, tick_stop hg.1 hg.2])
          have FIN := Lib.hid hfin
          clear hfin
          go_wp2_with fail
          refine (dclock_stop HDR.out hg.1 hg.2 _).mono ?_
          rintro e w2 ⟨rfl, S2, ov2, h2, s2⟩
          have H2 := Lib.hid h2
          have K2 := Lib.hid s2
          clear h2 s2
          go_wp2_with fail
          go_ret
          rw [FIN.out]
          exact ⟨rfl, S2, ov2, H2.out, HST.out.trans K2.out⟩
        · have TK := Lib.hid (tick_goes hg 15)
          go_wp2_with fail
          refine (dclock_goes HDR.out hg HLV.out.n0 (by omega) HLV.out.chip (by omega) HLV.out.sel 15 (by decide) (by decide)).mono ?_
          rintro e w2 ⟨rfl, S2, ov2, h2, s2⟩
          have H2 := Lib.hid h2
          have K2 := Lib.hid s2
          clear h2 s2
          go_wp2_with fail
          refine ⟨⟨k + 1, _, S2, ov2, by omega, by go_num, by rw [HN.out, TK.out], H2.out, HST.out.trans K2.out, ?_⟩, by simp [intOf]; omega⟩
          have := (HLV.out.tick TK.out).1
          exact this.more (by simp; omega)
      · have hke : k = m := by omega
        have hfin : d.sends ys = (dk, true) := by have := HS.out; rw [List.take_of_length_le (by omega)] at this; exact this
        have FIN := Lib.hid hfin
        clear hfin
        go_wp2_with fail
        go_loopw [45] (fun i w' => i = .int .i64 0 ∧ w' = wr) (fun _ _ => 0)
        case atStart => exact ⟨rfl, rfl⟩
        case round =>
          obtain ⟨rfl, rfl⟩ := hrel
          go_wp2_with fail
          go_ret
          rw [FIN.out]
          exact ⟨rfl, S', ov', HDR.out, HST.out⟩

set_option maxRecDepth 100000 in
set_option maxHeartbeats 4000000 in
theorem phase_reads (h : DriveIs w p b d S ov) {n : Int} (hd : d.Live n) (q o : Nat) (ph : Phase) (hp : PhaseIs w q o ph (Feet S p ov)) (hb0 : ph.bytes = []) (hl : ph.lanes = 1 ∨ ph.lanes = 4) (m : Nat) (hm : ph.read = m) (hn : n + 8 * m + 8 < 1000000) (hc0 : ph.clocks = 0) (hol : d.out.length + m < 1000000) :
    Calls Tryz.prog 83 #[.pointer (some ⟨p, 0, none⟩), .pointer (some ⟨q, o, none⟩)] w (Drove p b (d.phase ph).1 S ov (.bool (d.phase ph).2) w) := by
  have hph : d.phase ph = d.gets m ph.lanes := by
    unfold DR.phase
    rw [hb0, hc0, hm]
    simp only [DR.puts, DR.sends, Int.toNat_natCast, Int.toNat_zero, List.replicate_zero]
  rw [hph]
  obtain ⟨v, hv, hvb⟩ := hp.c1
  rcases hvb with ⟨rfl, _⟩ | ⟨g, off, cap, e, _⟩
  case inr => exact absurd hb0 e
  have p0 := hp.c0
  have p2 := hp.c2
  have p3 := hp.c3
  rw [hc0] at p2
  rw [hm] at p3
  generalize ph.lanes = l at *
  have hkeep : ∀ w', Kept (Feet S p ov) w w' → w'.cell? ⟨q, o, none⟩ = some (.int .i64 l) := by
    intro w' hk
    have hc : ∀ g i, g < w.heap.size → ¬ Feet S p ov g → w'.cell? ⟨g, i, none⟩ = w.cell? ⟨g, i, none⟩ := fun g i hg hf => World.cell?_of_block (hk.block g hg hf)
    rw [hc q _ hp.lt hp.far]; exact p0
  have HK := Lib.hid hkeep
  have H := Lib.hid h
  have HD := Lib.hid hd
  clear hkeep h hd hp hph hc0 hm
  go_enter Tryz.func83, Tryz.ntmps83
  go_wp2_with fail
  go_loopw [14] (fun i w' => i = .int .i64 0 ∧ w = w') (fun _ _ => 0)
  case atStart => exact ⟨rfl, rfl⟩
  case round =>
    obtain ⟨rfl, rfl⟩ := hrel
    go_wp2_with fail
    go_loopw [31] (fun i w' => i = .int .i64 0 ∧ w = w') (fun _ _ => 0)
    case atStart => exact ⟨rfl, rfl⟩
    case round =>
      obtain ⟨rfl, rfl⟩ := hrel
      go_wp2_with fail
      go_loopw [45] (fun i wr => ∃ (k : Nat) (dk : DR) (S' : Nat → Prop) (ov' : Value), k ≤ m ∧ i = .int .i64 k ∧ d.gets k l = (dk, true) ∧ DriveIs wr p b dk S' ov' ∧ Step (Feet S p ov) (Feet S' p ov') w wr ∧ dk.Live (n + 8 * k) ∧ dk.out.length ≤ d.out.length + k) (fun i _ => m - (intOf i).toNat)
      case atStart => exact ⟨0, d, S, ov, Nat.zero_le _, rfl, rfl, H.out, Step.refl _ _, HD.out.more (by simp), by simp⟩
      case round =>
        obtain ⟨k, dk, S', ov', hk, rfl, hs, hdr, hst, hlv, hlo⟩ := hrel
        have z0 := HK.out wr hst.toKept
        have hkb : k < 1000000 := by have h1 := HD.out.n0; have h2 := HD.out.n1; omega
        have HDR := Lib.hid hdr
        have HST := Lib.hid hst
        have HLV := Lib.hid hlv
        have HS := Lib.hid hs
        have HLO := Lib.hid hlo
        clear hdr hst hlv hs hlo
        by_cases hlt : k < m
        · have HN := Lib.hid (DR.gets_next HS.out)
          obtain ⟨hl2, hlo2, _⟩ := DR.get_live HLV.out hl
          have HL2 := Lib.hid hl2
          have HLO2 := Lib.hid hlo2
          clear hl2 hlo2
          go_wp2_with fail
          refine (get_calls HDR.out HLV.out (by omega) (by have := HLO.out; omega) hl).mono ?_
          rintro e w2 ⟨rfl, S2, ov2, h2, s2⟩
          have H2 := Lib.hid h2
          have K2 := Lib.hid s2
          clear h2 s2
          rcases hpt : dk.get l with ⟨d2, t⟩
          have HPT := Lib.hid hpt
          cases t
          · have hfin : d.gets m l = (d2, false) := DR.gets_stop (k := k + 1) (by omega) (by rw [HN.out, HPT.out])
            have FIN := Lib.hid hfin
            rw [hpt] at H2
            clear hpt hfin
            go_wp2_with fail
            go_ret
            rw [FIN.out]
            exact ⟨rfl, S2, ov2, H2.out, HST.out.trans K2.out⟩
          · rw [hpt] at H2 HL2 HLO2
            clear hpt
            go_wp2_with fail
            exact ⟨⟨k + 1, d2, S2, ov2, by omega, by go_num, by rw [HN.out, HPT.out], H2.out, HST.out.trans K2.out, HL2.out.more (by simp; omega), by have e1 := HLO.out; have e2 : d2.out.length ≤ dk.out.length + 1 := HLO2.out; omega⟩, by simp [intOf]; omega⟩
        · have hke : k = m := by omega
          subst hke
          have FIN := Lib.hid HS.out
          go_wp2_with fail
          go_ret
          rw [FIN.out]
          exact ⟨rfl, S', ov', HDR.out, HST.out⟩
end
end Go.Proofs.YtefoldehejbiiaaGreat

namespace Go.Proofs.YtefoldehejbiiaaGreat
open Go.RowKit Lich

/-- A row of whole numbers that is read: its value, where it lies. -/
def RowIs (w : World) (v : Value) (xs : List Int) : Prop :=
  (v = .slice none 0 0 ∧ xs = []) ∨
  ∃ g off cap, v = .slice (some ⟨g, off, none⟩) xs.length cap ∧ g < w.heap.size ∧ ∀ k, k < xs.length → w.cell? ⟨g, off + k, none⟩ = some (.int .i64 (xs.getD k 0))

theorem RowIs.keep {R : Nat → Prop} {w w' : World} {v : Value} {xs : List Int} (h : RowIs w v xs) (hk : Kept R w w') (hd : ∀ k, v.ownBlock = some k → ¬ R k) : RowIs w' v xs := by
  rcases h with h | ⟨g, off, cap, rfl, hg, hc⟩
  · exact .inl h
  · exact .inr ⟨g, off, cap, rfl, Nat.lt_of_lt_of_le hg hk.size, fun k hk' => by rw [World.cell?_of_block (hk.block g hg (hd g rfl))]; exact hc k hk'⟩

theorem RowIs.below {w w' : World} {v : Value} {xs : List Int} (h : RowIs w v xs) (hb : Below w.heap.size w w') : RowIs w' v xs :=
  h.keep (R := fun _ => False) (Kept.of_below hb) (fun _ _ e => e)

theorem RowIs.len {w : World} {v : Value} {xs : List Int} (h : RowIs w v xs) : ∃ a cap, v = .slice a xs.length cap := by
  rcases h with ⟨rfl, rfl⟩ | ⟨g, off, cap, rfl, _⟩
  · exact ⟨none, 0, rfl⟩
  · exact ⟨_, _, rfl⟩

def idxOf (P : Int → Bool) (xs : List Int) : Int := if xs.any P then (xs.findIdx P : Int) else -1
theorem idxOf_hit (P : Int → Bool) (xs : List Int) (k : Nat) (h0 : ∀ j, j < k → P (xs.getD j 0) = false) (hk : k < xs.length) (h1 : P (xs.getD k 0) = true) : idxOf P xs = k := by
  have e1 : xs.any P = true := List.any_eq_true.2 ⟨xs.getD k 0, by simp [List.getD, hk], h1⟩
  unfold idxOf
  rw [if_pos e1]
  have : xs.findIdx P = k := by
    rw [List.findIdx_eq (by exact hk)]
    refine ⟨by simpa [List.getD, hk] using h1, fun j hj => ?_⟩
    have := h0 j hj
    simpa [List.getD, show j < xs.length by omega] using this
  rw [this]
theorem idxOf_none (P : Int → Bool) (xs : List Int) (h0 : ∀ j, j < xs.length → P (xs.getD j 0) = false) : idxOf P xs = -1 := by
  have e1 : xs.any P = false := by
    rw [List.any_eq_false]
    intro x hx
    obtain ⟨j, hj, rfl⟩ := List.mem_iff_getElem.1 hx
    have := h0 j hj
    simpa [List.getD, hj] using this
  unfold idxOf
  rw [e1]; rfl
theorem idxOf_any (P : Int → Bool) (xs : List Int) : decide (0 ≤ idxOf P xs) = xs.any P := by
  unfold idxOf
  cases xs.any P <;> simp

def notByte (b : Int) : Bool := !(decide (0 ≤ b) && decide (b < 256))
def badBusy (n : Int) : Bool := decide (n < 1) || decide (400 < n)

theorem mayBad_calls (x : Int) (w : World) : Calls Tryz.prog 112 #[.int .i64 x] w fun e w' => e = .returned (.bool (notByte x)) ∧ w = w' := by
  go_enter Tryz.func112, Tryz.ntmps112
  go_wp2_with fail
  refine (byte_calls x w).mono ?_
  rintro e w' ⟨rfl, rfl⟩
  go_wp2_with fail
  go_ret
  exact ⟨ret_bool (by simp [notByte]), rfl⟩

theorem cmdBad_calls (x : Int) (w : World) : Calls Tryz.prog 66 #[.int .i64 x] w fun e w' => e = .returned (.bool (notByte x)) ∧ w = w' := by
  go_enter Tryz.func66, Tryz.ntmps66
  go_wp2_with fail
  refine (byte_calls x w).mono ?_
  rintro e w' ⟨rfl, rfl⟩
  go_wp2_with fail
  go_ret
  exact ⟨ret_bool (by simp [notByte]), rfl⟩

theorem nextBad_calls (x : Int) (w : World) : Calls Tryz.prog 55 #[.int .i64 x] w fun e w' => e = .returned (.bool (badBusy x)) ∧ w = w' := by
  by_cases h1 : x < 1
  · have b1 : decide (x < 1) = true := by simp [h1]
    go_enter Tryz.func55, Tryz.ntmps55
    go_wp2
    go_ret
    exact ⟨ret_bool (by simp [badBusy]; omega), rfl⟩
  · have b1 : decide (x < 1) = false := by simp [h1]
    go_enter Tryz.func55, Tryz.ntmps55
    go_wp2
    go_ret
    exact ⟨ret_bool (by simp [badBusy]; omega), rfl⟩

set_option maxRecDepth 100000 in
theorem indexFunc_mayBad (xs : List Int) (hn : xs.length < 1000000) (v : Value) (w : World) (hv : RowIs w v xs) :
    Calls Tryz.prog 74 #[v, .func (.func 112) #[] #[]] w fun e w' => e = .returned (.int .i64 (idxOf notByte xs)) ∧ w = w' := by
  rcases hv with ⟨rfl, rfl⟩ | ⟨g, off, cap, rfl, hgl, hc⟩
  · go_enter Tryz.func74, Tryz.ntmps74
    go_wp2_with fail
    go_loopw [5, 8] (fun _ i wr => i = .int .i64 0 ∧ w = wr) (fun _ _ _ => 0)
    case atStart => exact ⟨rfl, rfl⟩
    case round =>
      obtain ⟨rfl, rfl⟩ := hrel
      go_wp2_with fail
      go_ret
      exact ⟨rfl, rfl⟩
  · have HA := Lib.hid (idxOf_hit notByte xs)
    have HN := Lib.hid (idxOf_none notByte xs)
    have HC := Lib.hid hc
    clear hc
    generalize idxOf notByte xs = R at *
    go_enter Tryz.func74, Tryz.ntmps74
    go_wp2_with fail
    go_loopw [5, 8] (fun _ i wr => ∃ k : Nat, k ≤ xs.length ∧ i = .int .i64 k ∧ (∀ j, j < k → notByte (xs.getD j 0) = false) ∧ w = wr) (fun _ i _ => xs.length - (intOf i).toNat)
    case atStart => exact ⟨0, Nat.zero_le _, rfl, by simp, rfl⟩
    case round =>
      obtain ⟨k, hk, rfl, h0, rfl⟩ := hrel
      have H0 := Lib.hid h0
      clear h0
      by_cases hlt : k < xs.length
      · have ck := HC.out k hlt
        have HP := Lib.hid (HA.out k H0.out hlt)
        have hs : notByte (xs.getD k 0) = false → ∀ j, j < k + 1 → notByte (xs.getD j 0) = false := fun hp j hj => by
          rcases Nat.lt_or_ge j k with h | h
          · exact H0.out j h
          · rw [show j = k by omega]; exact hp
        have HS := Lib.hid hs
        clear hs
        generalize xs.getD k 0 = x at *
        go_wp2_with fail
        refine (mayBad_calls x w).mono ?_
        rintro e w' ⟨rfl, rfl⟩
        cases hp : notByte x
        · have HQ := Lib.hid (HS.out hp)
          clear hp
          go_wp2_with fail
          exact ⟨⟨k + 1, by omega, by go_num, HQ.out, trivial⟩, by simp [intOf]; omega⟩
        · have HQ := Lib.hid (HP.out hp)
          clear hp
          go_wp2_with fail
          go_ret
          exact ⟨ret_int HQ.out.symm, rfl⟩
      · have hke : k = xs.length := by omega
        have HQ := Lib.hid (HN.out (fun j hj => H0.out j (by omega)))
        go_wp2_with fail
        go_ret
        exact ⟨ret_int HQ.out.symm, rfl⟩

theorem containsFunc_mayBad (xs : List Int) (hn : xs.length < 1000000) (v : Value) (w : World) (hv : RowIs w v xs) :
    Calls Tryz.prog 56 #[v, .func (.func 112) #[] #[]] w fun e w' => e = .returned (.bool (xs.any notByte)) ∧ w = w' := by
  have HI := Lib.hid (indexFunc_mayBad xs hn v w hv)
  clear hv
  have hr := idxOf_any notByte xs
  generalize idxOf notByte xs = R at *
  go_enter Tryz.func56, Tryz.ntmps56
  go_wp2_with fail
  refine HI.out.mono ?_
  rintro e w' ⟨rfl, rfl⟩
  go_wp2_with fail
  go_ret
  exact ⟨rfl, rfl⟩

set_option maxRecDepth 100000 in
theorem indexFunc_cmdBad (xs : List Int) (hn : xs.length < 1000000) (v : Value) (w : World) (hv : RowIs w v xs) :
    Calls Tryz.prog 74 #[v, .func (.func 66) #[] #[]] w fun e w' => e = .returned (.int .i64 (idxOf notByte xs)) ∧ w = w' := by
  rcases hv with ⟨rfl, rfl⟩ | ⟨g, off, cap, rfl, hgl, hc⟩
  · go_enter Tryz.func74, Tryz.ntmps74
    go_wp2_with fail
    go_loopw [5, 8] (fun _ i wr => i = .int .i64 0 ∧ w = wr) (fun _ _ _ => 0)
    case atStart => exact ⟨rfl, rfl⟩
    case round =>
      obtain ⟨rfl, rfl⟩ := hrel
      go_wp2_with fail
      go_ret
      exact ⟨rfl, rfl⟩
  · have HA := Lib.hid (idxOf_hit notByte xs)
    have HN := Lib.hid (idxOf_none notByte xs)
    have HC := Lib.hid hc
    clear hc
    generalize idxOf notByte xs = R at *
    go_enter Tryz.func74, Tryz.ntmps74
    go_wp2_with fail
    go_loopw [5, 8] (fun _ i wr => ∃ k : Nat, k ≤ xs.length ∧ i = .int .i64 k ∧ (∀ j, j < k → notByte (xs.getD j 0) = false) ∧ w = wr) (fun _ i _ => xs.length - (intOf i).toNat)
    case atStart => exact ⟨0, Nat.zero_le _, rfl, by simp, rfl⟩
    case round =>
      obtain ⟨k, hk, rfl, h0, rfl⟩ := hrel
      have H0 := Lib.hid h0
      clear h0
      by_cases hlt : k < xs.length
      · have ck := HC.out k hlt
        have HP := Lib.hid (HA.out k H0.out hlt)
        have hs : notByte (xs.getD k 0) = false → ∀ j, j < k + 1 → notByte (xs.getD j 0) = false := fun hp j hj => by
          rcases Nat.lt_or_ge j k with h | h
          · exact H0.out j h
          · rw [show j = k by omega]; exact hp
        have HS := Lib.hid hs
        clear hs
        generalize xs.getD k 0 = x at *
        go_wp2_with fail
        refine (cmdBad_calls x w).mono ?_
        rintro e w' ⟨rfl, rfl⟩
        cases hp : notByte x
        · have HQ := Lib.hid (HS.out hp)
          clear hp
          go_wp2_with fail
          exact ⟨⟨k + 1, by omega, by go_num, HQ.out, trivial⟩, by simp [intOf]; omega⟩
        · have HQ := Lib.hid (HP.out hp)
          clear hp
          go_wp2_with fail
          go_ret
          exact ⟨ret_int HQ.out.symm, rfl⟩
      · have hke : k = xs.length := by omega
        have HQ := Lib.hid (HN.out (fun j hj => H0.out j (by omega)))
        go_wp2_with fail
        go_ret
        exact ⟨ret_int HQ.out.symm, rfl⟩

theorem containsFunc_cmdBad (xs : List Int) (hn : xs.length < 1000000) (v : Value) (w : World) (hv : RowIs w v xs) :
    Calls Tryz.prog 56 #[v, .func (.func 66) #[] #[]] w fun e w' => e = .returned (.bool (xs.any notByte)) ∧ w = w' := by
  have HI := Lib.hid (indexFunc_cmdBad xs hn v w hv)
  clear hv
  have hr := idxOf_any notByte xs
  generalize idxOf notByte xs = R at *
  go_enter Tryz.func56, Tryz.ntmps56
  go_wp2_with fail
  refine HI.out.mono ?_
  rintro e w' ⟨rfl, rfl⟩
  go_wp2_with fail
  go_ret
  exact ⟨rfl, rfl⟩

set_option maxRecDepth 100000 in
theorem indexFunc_nextBad (xs : List Int) (hn : xs.length < 1000000) (v : Value) (w : World) (hv : RowIs w v xs) :
    Calls Tryz.prog 74 #[v, .func (.func 55) #[] #[]] w fun e w' => e = .returned (.int .i64 (idxOf badBusy xs)) ∧ w = w' := by
  rcases hv with ⟨rfl, rfl⟩ | ⟨g, off, cap, rfl, hgl, hc⟩
  · go_enter Tryz.func74, Tryz.ntmps74
    go_wp2_with fail
    go_loopw [5, 8] (fun _ i wr => i = .int .i64 0 ∧ w = wr) (fun _ _ _ => 0)
    case atStart => exact ⟨rfl, rfl⟩
    case round =>
      obtain ⟨rfl, rfl⟩ := hrel
      go_wp2_with fail
      go_ret
      exact ⟨rfl, rfl⟩
  · have HA := Lib.hid (idxOf_hit badBusy xs)
    have HN := Lib.hid (idxOf_none badBusy xs)
    have HC := Lib.hid hc
    clear hc
    generalize idxOf badBusy xs = R at *
    go_enter Tryz.func74, Tryz.ntmps74
    go_wp2_with fail
    go_loopw [5, 8] (fun _ i wr => ∃ k : Nat, k ≤ xs.length ∧ i = .int .i64 k ∧ (∀ j, j < k → badBusy (xs.getD j 0) = false) ∧ w = wr) (fun _ i _ => xs.length - (intOf i).toNat)
    case atStart => exact ⟨0, Nat.zero_le _, rfl, by simp, rfl⟩
    case round =>
      obtain ⟨k, hk, rfl, h0, rfl⟩ := hrel
      have H0 := Lib.hid h0
      clear h0
      by_cases hlt : k < xs.length
      · have ck := HC.out k hlt
        have HP := Lib.hid (HA.out k H0.out hlt)
        have hs : badBusy (xs.getD k 0) = false → ∀ j, j < k + 1 → badBusy (xs.getD j 0) = false := fun hp j hj => by
          rcases Nat.lt_or_ge j k with h | h
          · exact H0.out j h
          · rw [show j = k by omega]; exact hp
        have HS := Lib.hid hs
        clear hs
        generalize xs.getD k 0 = x at *
        go_wp2_with fail
        refine (nextBad_calls x w).mono ?_
        rintro e w' ⟨rfl, rfl⟩
        cases hp : badBusy x
        · have HQ := Lib.hid (HS.out hp)
          clear hp
          go_wp2_with fail
          exact ⟨⟨k + 1, by omega, by go_num, HQ.out, trivial⟩, by simp [intOf]; omega⟩
        · have HQ := Lib.hid (HP.out hp)
          clear hp
          go_wp2_with fail
          go_ret
          exact ⟨ret_int HQ.out.symm, rfl⟩
      · have hke : k = xs.length := by omega
        have HQ := Lib.hid (HN.out (fun j hj => H0.out j (by omega)))
        go_wp2_with fail
        go_ret
        exact ⟨ret_int HQ.out.symm, rfl⟩

theorem containsFunc_nextBad (xs : List Int) (hn : xs.length < 1000000) (v : Value) (w : World) (hv : RowIs w v xs) :
    Calls Tryz.prog 56 #[v, .func (.func 55) #[] #[]] w fun e w' => e = .returned (.bool (xs.any badBusy)) ∧ w = w' := by
  have HI := Lib.hid (indexFunc_nextBad xs hn v w hv)
  clear hv
  have hr := idxOf_any badBusy xs
  generalize idxOf badBusy xs = R at *
  go_enter Tryz.func56, Tryz.ntmps56
  go_wp2_with fail
  refine HI.out.mono ?_
  rintro e w' ⟨rfl, rfl⟩
  go_wp2_with fail
  go_ret
  exact ⟨rfl, rfl⟩

theorem maySome_calls (x y : Int) (w : World) : Calls Tryz.prog 111 #[.int .i64 x, .int .i64 y] w fun e w' => e = .returned (.bool (decide (1 ≤ x) && decide (x ≤ y))) ∧ w = w' := by
  by_cases h1 : 1 ≤ x
  · have b1 : decide (1 ≤ x) = true := by simp [h1]
    go_enter Tryz.func111, Tryz.ntmps111
    go_wp2
    go_ret
    exact ⟨ret_bool (by simp [b1]), rfl⟩
  · have b1 : decide (1 ≤ x) = false := by simp; omega
    go_enter Tryz.func111, Tryz.ntmps111
    go_wp2
    go_ret
    exact ⟨ret_bool (by simp [b1]), rfl⟩
end Go.Proofs.YtefoldehejbiiaaGreat
