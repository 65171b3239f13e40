/-
  A drive that has room is whole and takes its time; one that has none stops at its bound. No program.
-/
import Derived.Test.YtefoldehejbiiaaGreatM36

namespace Lich

theorem DR.tick_n {d d' : DR} {x y : Int} (h : d.tick x = some (d', y)) : d'.n = d.n + 1 ∧ d'.most = d.most := by
  unfold DR.tick at h
  split at h
  · simp at h
  · simp only [Option.some.injEq, Prod.mk.injEq] at h
    obtain ⟨rfl, rfl⟩ := h
    exact ⟨rfl, rfl⟩

theorem DR.sends_n (xs : List Int) : ∀ d : DR, (d.sends xs).2 = true → (d.sends xs).1.n = d.n + xs.length := by
  induction xs with
  | nil => intro d _; simp [DR.sends]
  | cons x xs ih =>
    intro d h
    rw [DR.sends] at h ⊢
    cases ht : d.tick x with
    | none => rw [ht] at h; simp at h
    | some r =>
      obtain ⟨d', y⟩ := r
      rw [ht] at h
      simp only at h ⊢
      rw [ih d' h, (DR.tick_n ht).1]
      simp; omega

theorem DR.hears_n (lanes : Int) (k : Nat) : ∀ (d : DR) (acc : Int) (v : Int), (d.hears k lanes acc).2 = some v → (d.hears k lanes acc).1.n = d.n + k := by
  induction k with
  | zero => intro d acc v _; simp [DR.hears]
  | succ k ih =>
    intro d acc v h
    rw [DR.hears] at h ⊢
    cases ht : d.tick 15 with
    | none => rw [ht] at h; simp at h
    | some r =>
      obtain ⟨d', y⟩ := r
      rw [ht] at h
      simp only at h ⊢
      rw [ih d' _ v h, (DR.tick_n ht).1]
      omega

theorem DR.puts_n {lanes : Int} (hl : lanes = 1 ∨ lanes = 4) (bs : List Int) : ∀ d : DR, (d.puts bs lanes).2 = true → (d.puts bs lanes).1.n = d.n + bs.length * (8 / lanes) := by
  induction bs with
  | nil => intro d _; simp [DR.puts]
  | cons b bs ih =>
    intro d h
    have hw := wires_length hl b
    have hm : ((bs.length : Int) + 1) * (8 / lanes) = bs.length * (8 / lanes) + 8 / lanes := by rw [Int.add_mul]; omega
    rw [DR.puts] at h ⊢
    rcases hq : d.put b lanes with ⟨d', t⟩
    rw [hq] at h
    cases t
    · simp at h
    · simp only at h ⊢
      have hs := DR.sends_n (wires b lanes) d
      unfold DR.put at hq
      rw [hq] at hs
      rw [ih d' h, hs rfl]
      simp only [List.length_cons, Int.natCast_add, Int.cast_ofNat_Int, hm]
      omega

theorem DR.gets_n {lanes : Int} (hl : lanes = 1 ∨ lanes = 4) (k : Nat) : ∀ d : DR, (d.gets k lanes).2 = true → (d.gets k lanes).1.n = d.n + k * (8 / lanes) := by
  induction k with
  | zero => intro d _; simp [DR.gets]
  | succ k ih =>
    intro d h
    have h8 : 0 ≤ 8 / lanes := by rcases hl with rfl | rfl <;> decide
    have ht : ((8 / lanes).toNat : Int) = 8 / lanes := Int.toNat_of_nonneg h8
    have hm : ((k : Int) + 1) * (8 / lanes) = k * (8 / lanes) + 8 / lanes := by rw [Int.add_mul]; omega
    rw [DR.gets] at h ⊢
    rcases hq : d.get lanes with ⟨d', t⟩
    rw [hq] at h
    cases t
    · simp at h
    · simp only at h ⊢
      have hn : d'.n = d.n + 8 / lanes := by
        unfold DR.get at hq
        rcases hh : d.hears (8 / lanes).toNat lanes 0 with ⟨d1, v⟩
        rw [hh] at hq
        cases v with
        | none => simp at hq
        | some v =>
          simp only [Prod.mk.injEq] at hq
          have := DR.hears_n lanes (8 / lanes).toNat d 0 v (by rw [hh])
          rw [hh, ht] at this
          rw [← hq.1]
          exact this
      rw [ih d' h, hn]
      simp only [Int.natCast_add, Int.cast_ofNat_Int, hm]
      omega

theorem DR.phase_n {d : DR} {p : Phase} (hok : p.okB = true) (h : (d.phase p).2 = true) : (d.phase p).1.n = d.n + p.time := by
  have hn := Phase.ok_nonneg hok
  have hc : (p.clocks.toNat : Int) = p.clocks := Int.toNat_of_nonneg hn.1
  have hr : (p.read.toNat : Int) = p.read := Int.toNat_of_nonneg hn.2
  unfold DR.phase at h ⊢
  rcases h1 : d.puts p.bytes p.lanes with ⟨d1, t1⟩
  rw [h1] at h
  cases t1
  · simp at h
  simp only at h ⊢
  rcases h2 : d1.sends (List.replicate p.clocks.toNat 15) with ⟨d2, t2⟩
  rw [h2] at h
  cases t2
  · simp at h
  simp only at h ⊢
  have e2 := DR.sends_n (List.replicate p.clocks.toNat 15) d1 (by rw [h2])
  rw [h2, List.length_replicate, hc] at e2
  simp only at e2
  rcases Phase.ok_lanes hok with hl | ⟨h0, hb, hrd⟩
  · have hpos : 0 < p.lanes := by omega
    have e1 := DR.puts_n hl p.bytes d (by rw [h1])
    rw [h1] at e1
    simp only at e1
    rw [DR.gets_n hl _ d2 h, e2, e1, hr]
    unfold Phase.time
    rw [if_pos hpos, Int.add_mul]
    omega
  · rw [hrd] at h ⊢
    rw [hb] at h1
    simp only [DR.puts, Prod.mk.injEq] at h1
    obtain ⟨rfl, _⟩ := h1
    simp only [Int.toNat_zero, DR.gets]
    rw [e2]
    unfold Phase.time
    rw [h0]
    simp

theorem DR.phases_n (ps : List Phase) : ∀ d : DR, ps.all Phase.okB = true → (d.phases ps).2 = true → (d.phases ps).1.n = d.n + timeOf ps := by
  induction ps with
  | nil => intro d _ _; simp [DR.phases, timeOf]
  | cons p ps ih =>
    intro d hok h
    simp only [List.all_cons, Bool.and_eq_true] at hok
    have ht : timeOf (p :: ps) = p.time + timeOf ps := by simp [timeOf]
    rw [DR.phases] at h ⊢
    rcases h1 : d.phase p with ⟨d1, t1⟩
    rw [h1] at h
    cases t1
    · simp at h
    simp only at h ⊢
    have e1 := DR.phase_n (d := d) hok.1 (by rw [h1])
    rw [h1] at e1
    simp only at e1
    rw [ih d1 hok.2 h, e1, ht]
    omega

theorem driveOn_room {c : Chip} {ps : List Phase} {most : Int} (hok : ps.all Phase.okB = true) (hs : c.sel = false) (hr : most < 0 ∨ timeOf ps ≤ most) :
    driveOn c ps most = some ((c.select.runPhases ps).1.deselect, (c.select.runPhases ps).2, timeOf ps, true) := by
  unfold driveOn
  rw [if_neg (by rw [hok, hs]; simp), DR.phases_room ps _ hok (by unfold DR.room; simp only; omega)]
  simp

theorem driveOn_cut {c : Chip} {ps : List Phase} {most : Int} (hf : c.Fine) (hok : ps.all Phase.okB = true) (hlen : ps.length ≤ 20) (hs : c.sel = false) (h0 : 0 ≤ most) (h1 : most < timeOf ps) :
    ∃ c' xs, driveOn c ps most = some (c', xs, most, false) := by
  obtain ⟨c', xs, n, t, hd⟩ := driveOn_drives hf hs hok hlen most
  cases t
  · obtain ⟨_, rfl⟩ := hd.cut rfl
    exact ⟨c', xs, hd.eq⟩
  · exfalso
    have he := hd.eq
    unfold driveOn at he
    rw [if_neg (by rw [hok, hs]; simp)] at he
    have hn := DR.phases_n ps { chip := c.select, most := most } hok
    rcases hq : DR.phases { chip := c.select, most := most } ps with ⟨d, t⟩
    rw [hq] at he hn
    cases t
    · simp at he
    · simp only [Option.some.injEq, Prod.mk.injEq] at he
      have := hn rfl
      have := hd.lim h0
      simp only at *
      omega

/-- A drive with room for it. -/
theorem Ctl.drive_room {k : Ctl} {ps : List Phase} (hok : ps.all Phase.okB = true) (hs : k.chip.sel = false) (hr : k.left < 0 ∨ timeOf ps ≤ k.left) :
    k.drive ps = ({ k with chip := (k.chip.select.runPhases ps).1.deselect, clocks := k.clocks + timeOf ps, left := if 0 ≤ k.left then k.left - timeOf ps else k.left }, (k.chip.select.runPhases ps).2, 0) := by
  unfold Ctl.drive
  rw [driveOn_room hok hs hr]
  simp

/-- A drive without room: power is gone at the bound. -/
theorem Ctl.drive_cut {k : Ctl} {ps : List Phase} (hf : k.chip.Fine) (hok : ps.all Phase.okB = true) (hlen : ps.length ≤ 20) (hs : k.chip.sel = false) (h0 : 0 ≤ k.left) (h1 : k.left < timeOf ps) :
    ∃ c', k.drive ps = ({ k with chip := c', clocks := k.clocks + k.left, left := 0, lost := true }, [], 1101) := by
  obtain ⟨c', xs, hd⟩ := driveOn_cut hf hok hlen hs h0 h1
  refine ⟨c', ?_⟩
  unfold Ctl.drive
  rw [hd]
  simp [h0]
end Lich
