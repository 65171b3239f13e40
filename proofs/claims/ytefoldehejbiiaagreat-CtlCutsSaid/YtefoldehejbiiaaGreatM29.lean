/-
  Walks: may a phase be?; how many clocks phases take (of phases that may be).
-/
import Derived.Test.YtefoldehejbiiaaGreatM28

namespace Go.Proofs.YtefoldehejbiiaaGreat
open Go.RowKit Lich

def phVal (ph : Phase) (v : Value) : Value := .agg #[.int .i64 ph.lanes, v, .int .i64 ph.clocks, .int .i64 ph.read]

theorem Phase.ok_bytes {ph : Phase} (h : ph.okB = true) (hb : ph.bytes ≠ []) : (ph.lanes = 1 ∨ ph.lanes = 4) ∧ ph.bytes.length ≤ 512 ∧ (∀ x ∈ ph.bytes, 0 ≤ x ∧ x < 256) ∧ ph.clocks = 0 ∧ ph.read = 0 := by
  unfold Phase.okB at h
  rw [if_pos hb] at h
  simp only [Bool.and_eq_true, decide_eq_true_eq, List.all_eq_true, Bool.decide_or, Bool.or_eq_true] at h
  obtain ⟨⟨⟨⟨h1, h2⟩, h3⟩, h4⟩, h5⟩ := h
  exact ⟨h1, h2, fun x hx => by simpa using h3 x hx, h4, h5⟩
theorem Phase.ok_read {ph : Phase} (h : ph.okB = true) (hb : ph.bytes = []) (hr : ph.read ≠ 0) : (ph.lanes = 1 ∨ ph.lanes = 4) ∧ 1 ≤ ph.read ∧ ph.read ≤ 512 ∧ ph.clocks = 0 := by
  unfold Phase.okB at h
  rw [if_neg (by simp [hb]), if_pos hr] at h
  simp only [Bool.and_eq_true, decide_eq_true_eq, Bool.decide_or, Bool.or_eq_true] at h
  obtain ⟨⟨h1, h2⟩, h4⟩ := h
  exact ⟨h1, by simpa using h2.1, by simpa using h2.2, h4⟩
theorem Phase.ok_clocks {ph : Phase} (h : ph.okB = true) (hb : ph.bytes = []) (hr : ph.read = 0) : ph.lanes = 0 ∧ 1 ≤ ph.clocks ∧ ph.clocks ≤ 400 := by
  unfold Phase.okB at h
  rw [if_neg (by simp [hb]), if_neg (by simp [hr])] at h
  simp only [Bool.and_eq_true, decide_eq_true_eq, Bool.decide_and] at h
  exact ⟨h.1, h.2.1, h.2.2⟩

set_option maxRecDepth 100000 in
set_option maxHeartbeats 1000000 in
theorem may_calls (ph : Phase) (v : Value) (w : World) (hv : RowIs w v ph.bytes) (hok : ph.okB = true) :
    Calls Tryz.prog 94 #[phVal ph v] w fun e w' => e = .returned (.bool true) ∧ Below w.heap.size w w' := by
  by_cases hb : ph.bytes = []
  · obtain ⟨a, cap, hvv⟩ := hv.len
    rw [hb] at hvv
    subst hvv
    by_cases hr : ph.read = 0
    · obtain ⟨h0, h1, h2⟩ := Phase.ok_clocks hok hb hr
      unfold phVal
      rw [h0, hr]
      have e1 : (decide (1 ≤ ph.clocks) && decide (ph.clocks ≤ 400)) = true := by simp [h1, h2]
      generalize ph.clocks = n at *
      clear hok hv hb hr h0
      have E1 := Lib.hid e1
      clear e1 h1 h2
      go_enter Tryz.func94, Tryz.ntmps94
      go_wp2_with fail
      refine (maySome_calls n 400 _).mono ?_
      rintro e w' ⟨rfl, rfl⟩
      rw [E1.out]
      go_wp2_with fail
      go_ret
      exact ⟨rfl, below_new (Below.refl _ w) _⟩
    · obtain ⟨h0, h1, h2, h3⟩ := Phase.ok_read hok hb hr
      unfold phVal
      rw [h3]
      have e1 : (decide (1 ≤ ph.read) && decide (ph.read ≤ 512)) = true := by simp [h1, h2]
      have e2 : (ph.read == 0) = false := by simp [hr]
      generalize ph.read = n at *
      generalize ph.lanes = l at *
      clear hok hv hb hr h3 h1 h2
      have E1 := Lib.hid e1
      clear e1
      rcases h0 with rfl | rfl
      all_goals
        go_enter Tryz.func94, Tryz.ntmps94
        go_wp2_with fail
        refine (lanes_calls _ _).mono ?_
        rintro e w' ⟨rfl, rfl⟩
        go_wp2_with fail
        refine (maySome_calls n 512 _).mono ?_
        rintro e w' ⟨rfl, rfl⟩
        rw [E1.out]
        go_wp2_with fail
        go_ret
        exact ⟨rfl, below_new (Below.refl _ w) _⟩
  · obtain ⟨h0, h1, h2, h3, h4⟩ := Phase.ok_bytes hok hb
    obtain ⟨a, cap, hvv⟩ := hv.len
    unfold phVal
    rw [h3, h4]
    have hlen : 0 < ph.bytes.length := List.length_pos_iff.2 hb
    have e1 : (decide ((1 : Int) ≤ (ph.bytes.length : Int)) && decide ((ph.bytes.length : Int) ≤ 512)) = true := by simp; omega
    have e2 : decide (0 < ph.bytes.length) = true := by simp [hlen]
    have e3 : ph.bytes.any notByte = false := by
      rw [List.any_eq_false]
      intro x hx
      have := h2 x hx
      simp [notByte, this.1, this.2]
    subst hvv
    have hcf := fun u (hu : Below w.heap.size w u) => containsFunc_mayBad ph.bytes (by omega) (.slice a ph.bytes.length cap) u (hv.below hu)
    rw [e3] at hcf
    have HCF := Lib.hid hcf
    clear hcf h2 hok hv hb h3 h4 e3
    generalize ph.bytes.length = n at *
    generalize ph.lanes = l at *
    have E1 := Lib.hid e1
    clear e1 h1
    rcases h0 with rfl | rfl
    all_goals
      go_enter Tryz.func94, Tryz.ntmps94
      go_wp2_with fail
      refine (lanes_calls _ _).mono ?_
      rintro e w' ⟨rfl, rfl⟩
      go_wp2_with fail
      refine (maySome_calls n 512 _).mono ?_
      rintro e w' ⟨rfl, rfl⟩
      rw [E1.out]
      go_wp2_with fail
      refine (HCF.out _ (below_new (Below.refl _ w) _)).mono ?_
      rintro e w' ⟨rfl, rfl⟩
      go_wp2_with fail
      go_ret
      exact ⟨rfl, below_new (Below.refl _ w) _⟩

/-- Phases stand in a row; all of it outside of F. -/
def PhasesIs (w : World) (v : Value) (ps : List Phase) (F : Nat → Prop) : Prop :=
  ∃ q o cap, v = .slice (some ⟨q, o, none⟩) ps.length cap ∧ ∀ i, i < ps.length → PhaseIs w q (o + i * 4) (ps.getD i {}) F

theorem PhaseIs.row {w : World} {q o : Nat} {ph : Phase} {F : Nat → Prop} (h : PhaseIs w q o ph F) : ∃ v, w.cell? ⟨q, o + 1, none⟩ = some v ∧ RowIs w v ph.bytes := by
  obtain ⟨v, hv, hb⟩ := h.c1
  refine ⟨v, hv, ?_⟩
  rcases hb with e | ⟨g, off, cap, _, e, h1, _, h2⟩
  · exact .inl e
  · exact .inr ⟨g, off, cap, e, h1, h2⟩

theorem Phase.ok_bound {ph : Phase} (h : ph.okB = true) : ph.bytes.length ≤ 512 ∧ 0 ≤ ph.read ∧ ph.read ≤ 512 ∧ 0 ≤ ph.clocks ∧ ph.clocks ≤ 400 ∧ ((ph.lanes = 1 ∨ ph.lanes = 4) ∨ ph.lanes = 0) := by
  by_cases hb : ph.bytes = []
  · by_cases hr : ph.read = 0
    · have := Phase.ok_clocks h hb hr
      simp only [hb, hr]
      refine ⟨by simp, by omega, by omega, by omega, by omega, by omega⟩
    · have := Phase.ok_read h hb hr
      simp only [hb]
      refine ⟨by simp, by omega, by omega, by omega, by omega, by omega⟩
  · have := Phase.ok_bytes h hb
    obtain ⟨h1, h2, _, h3, h4⟩ := this
    exact ⟨h2, by omega, by omega, by omega, by omega, .inl h1⟩

set_option maxRecDepth 100000 in
set_option maxHeartbeats 4000000 in
theorem clocks_calls (ps : List Phase) (v : Value) (F : Nat → Prop) (w : World) (hv : PhasesIs w v ps F) (hok : ps.all Phase.okB = true) (hlen : ps.length ≤ 100) :
    Calls Tryz.prog 81 #[v] w fun e w' => (∃ n, e = .returned (.tuple #[.int .i64 n, .int .i64 0])) ∧ Below w.heap.size w w' := by
  obtain ⟨q, o, cap, rfl, hph⟩ := hv
  have HPH := Lib.hid hph
  have HOK := Lib.hid hok
  clear hph hok
  go_enter Tryz.func81, Tryz.ntmps81
  go_wp2_with fail
  go_loopw [4, 6, 9] (fun t _ i wr => ∃ (k : Nat) (n : Int), k ≤ ps.length ∧ i = .int .i64 k ∧ t = .int .i64 n ∧ Below w.heap.size w wr) (fun _ _ i _ => ps.length - (intOf i).toNat)
  case atStart => exact ⟨0, 0, Nat.zero_le _, rfl, rfl, Below.refl _ w⟩
  case round =>
    obtain ⟨k, n, hk, rfl, rfl, hb⟩ := hrel
    by_cases hlt : k < ps.length
    · have hpk := HPH.out k hlt
      have hokk : (ps.getD k {}).okB = true := List.all_eq_true.1 HOK.out _ (by simp [List.getD, hlt])
      generalize ps.getD k {} = ph at *
      have hkeep : ∀ i, wr.cell? ⟨q, i, none⟩ = w.cell? ⟨q, i, none⟩ := fun i => World.cell?_of_block (hb.block q hpk.lt)
      obtain ⟨bv, hbv, hrow⟩ := hpk.row
      have c0 := (hkeep _).trans hpk.c0
      have c1 := (hkeep _).trans hbv
      have c2 := (hkeep _).trans hpk.c2
      have c3 := (hkeep _).trans hpk.c3
      have hmay := fun u (hu : Below w.heap.size w u) => may_calls ph bv u (hrow.below hu) hokk
      unfold phVal at hmay
      have hbd := Phase.ok_bound hokk
      obtain ⟨a, bc, rfl⟩ := hrow.len
      have HM := Lib.hid hmay
      clear hmay hkeep hpk hbv hrow hokk
      generalize ph.bytes.length = bl at *
      generalize ph.lanes = l at *
      generalize ph.clocks = cl at *
      generalize ph.read = rd at *
      have HB := Lib.hid hb
      clear hb
      rcases hbd.2.2.2.2.2 with h14 | h0
      · have hl0 : decide (0 < l) = true := by simp; omega
        go_wp2_with fail
        refine (HM.out _ (below_new HB.out _)).mono ?_
        rintro e w1 ⟨rfl, hb1⟩
        have d0 : w1.cell? ⟨wr.heap.size, 0, none⟩ = some (.int .i64 l) := by rw [World.cell?_of_block (hb1.block _ (by simp))]; exact (blk_cell (blk_new _ _ _ rfl)).trans rfl
        have d1 : w1.cell? ⟨wr.heap.size, 1, none⟩ = some (.slice a bl bc) := by rw [World.cell?_of_block (hb1.block _ (by simp))]; exact (blk_cell (blk_new _ _ _ rfl)).trans rfl
        have d2 : w1.cell? ⟨wr.heap.size, 2, none⟩ = some (.int .i64 cl) := by rw [World.cell?_of_block (hb1.block _ (by simp))]; exact (blk_cell (blk_new _ _ _ rfl)).trans rfl
        have d3 : w1.cell? ⟨wr.heap.size, 3, none⟩ = some (.int .i64 rd) := by rw [World.cell?_of_block (hb1.block _ (by simp))]; exact (blk_cell (blk_new _ _ _ rfl)).trans rfl
        have hb2 : Below w.heap.size w w1 := (below_new HB.out _).trans (hb1.mono (by have := HB.out.size; simp; omega))
        have HB2 := Lib.hid hb2
        clear hb1 hb2 c0 c1 c2 c3
        generalize wr.heap.size = g at *
        go_wp2_with fail
        go_quiet ((go_at_call 95; exact quiet_eq (many_calls h14 _)))
        go_wp2_with fail
        exact ⟨⟨k + 1, _, by omega, by go_num, rfl, below_drewN HB2.out _⟩, by simp [intOf]; omega⟩
      · subst h0
        go_wp2_with fail
        refine (HM.out _ (below_new HB.out _)).mono ?_
        rintro e w1 ⟨rfl, hb1⟩
        have d0 : w1.cell? ⟨wr.heap.size, 0, none⟩ = some (.int .i64 0) := by rw [World.cell?_of_block (hb1.block _ (by simp))]; exact (blk_cell (blk_new _ _ _ rfl)).trans rfl
        have d2 : w1.cell? ⟨wr.heap.size, 2, none⟩ = some (.int .i64 cl) := by rw [World.cell?_of_block (hb1.block _ (by simp))]; exact (blk_cell (blk_new _ _ _ rfl)).trans rfl
        have hb2 : Below w.heap.size w w1 := (below_new HB.out _).trans (hb1.mono (by have := HB.out.size; simp; omega))
        have HB2 := Lib.hid hb2
        clear hb1 hb2 c0 c1 c2 c3
        generalize wr.heap.size = g at *
        go_wp2_with fail
        exact ⟨⟨k + 1, _, by omega, by go_num, rfl, HB2.out⟩, by simp [intOf]; omega⟩
    · have hke : k = ps.length := by omega
      have HB := Lib.hid hb
      clear hb
      go_wp2_with fail
      go_ret2
      exact ⟨⟨_, rfl⟩, HB.out⟩
end Go.Proofs.YtefoldehejbiiaaGreat
