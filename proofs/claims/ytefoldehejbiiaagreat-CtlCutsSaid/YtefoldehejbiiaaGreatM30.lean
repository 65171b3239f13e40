/-
  What holds of a drive through phases, one behind the other. No program.
-/
import Derived.Test.YtefoldehejbiiaaGreatM27

namespace Lich

theorem DR.puts_live (l : Int) (bs : List Int) : ∀ {d : DR} {n : Int}, d.Live n → (d.puts bs l).1.Live (n + 8 * bs.length) ∧ (d.puts bs l).1.out = d.out ∧ (d.puts bs l).1.most = d.most := by
  induction bs with
  | nil => intro d n h; exact ⟨h.more (by simp), rfl, rfl⟩
  | cons b bs ih =>
    intro d n h
    obtain ⟨h1, h2, h3⟩ := DR.put_live h b l
    simp only [DR.puts]
    rcases hp : d.put b l with ⟨d', t⟩
    rw [hp] at h1 h2 h3
    cases t
    · exact ⟨h1.more (by simp; omega), h2, h3⟩
    · obtain ⟨i1, i2, i3⟩ := ih h1
      exact ⟨i1.more (by simp; omega), i2.trans h2, i3.trans h3⟩

theorem DR.gets_live {l : Int} (hl : l = 1 ∨ l = 4) (k : Nat) : ∀ {d : DR} {n : Int}, d.Live n → (d.gets k l).1.Live (n + 8 * k) ∧ (d.gets k l).1.out.length ≤ d.out.length + k ∧ (d.gets k l).1.most = d.most := by
  induction k with
  | zero => intro d n h; exact ⟨h.more (by simp), by simp [DR.gets], rfl⟩
  | succ k ih =>
    intro d n h
    obtain ⟨h1, h2, h3⟩ := DR.get_live h hl
    simp only [DR.gets]
    rcases hp : d.get l with ⟨d', t⟩
    rw [hp] at h1 h2 h3
    cases t
    · exact ⟨h1.more (by simp; omega), by simp only at *; omega, h3⟩
    · obtain ⟨i1, i2, i3⟩ := ih h1
      exact ⟨i1.more (by simp; omega), by simp only at *; omega, i3.trans h3⟩

/-- A phase that may be, through a drive. -/
theorem DR.phase_live {d : DR} {n : Int} (h : d.Live n) (ph : Phase) (hl : (ph.lanes = 1 ∨ ph.lanes = 4) ∨ ph.read = 0) (hb : ph.bytes.length ≤ 512) (hr : 0 ≤ ph.read ∧ ph.read ≤ 512) (hc : 0 ≤ ph.clocks ∧ ph.clocks ≤ 400) :
    (d.phase ph).1.Live (n + 10000) ∧ (d.phase ph).1.out.length ≤ d.out.length + 512 ∧ (d.phase ph).1.most = d.most := by
  obtain ⟨h1, h2, h3⟩ := DR.puts_live ph.lanes ph.bytes h
  unfold DR.phase
  rcases hp : d.puts ph.bytes ph.lanes with ⟨d1, t⟩
  rw [hp] at h1 h2 h3
  simp only at h1 h2 h3
  cases t
  · exact ⟨h1.more (by omega), by simp only; rw [h2]; omega, h3⟩
  simp only
  obtain ⟨i1, i2, i3⟩ := DR.sends_live (List.replicate ph.clocks.toNat 15) h1
  rcases hp : d1.sends (List.replicate ph.clocks.toNat 15) with ⟨d2, t⟩
  rw [hp] at i1 i2 i3
  simp only [List.length_replicate] at i1 i2 i3
  cases t
  · exact ⟨i1.more (by omega), by simp only; rw [i2, h2]; omega, i3.trans h3⟩
  simp only
  rcases hl with hl | hl
  · obtain ⟨j1, j2, j3⟩ := DR.gets_live hl ph.read.toNat i1
    exact ⟨j1.more (by omega), by rw [i2, h2] at j2; omega, j3.trans (i3.trans h3)⟩
  · rw [hl]
    exact ⟨i1.more (by omega), by show d2.out.length ≤ _; rw [i2, h2]; omega, i3.trans h3⟩

theorem DR.phases_append (xs ys : List Phase) : ∀ d : DR, d.phases (xs ++ ys) = match d.phases xs with | (d', true) => d'.phases ys | (d', false) => (d', false) := by
  induction xs with
  | nil => intro d; rfl
  | cons x xs ih =>
    intro d
    simp only [List.cons_append, DR.phases]
    rcases hp : d.phase x with ⟨d', t⟩
    cases t
    · rfl
    · exact ih d'
theorem DR.phases_next {d dk : DR} {ps : List Phase} {k : Nat} (hk : k < ps.length) (h : d.phases (ps.take k) = (dk, true)) : d.phases (ps.take (k + 1)) = dk.phase (ps.getD k {}) := by
  rw [List.take_succ_eq_append_getElem hk, DR.phases_append, h]
  simp only [DR.phases, List.getD, List.getElem?_eq_getElem hk, Option.getD_some]
  rcases dk.phase ps[k] with ⟨d', t⟩
  cases t <;> rfl
theorem DR.phases_stop {d dk : DR} {ps : List Phase} {k : Nat} (h : d.phases (ps.take k) = (dk, false)) : d.phases ps = (dk, false) := by
  have e := DR.phases_append (ps.take k) (ps.drop k) d
  rw [List.take_append_drop, h] at e
  exact e
theorem Chip.select_sel (c : Chip) : c.select.sel = true := by
  unfold Chip.select
  simp only
  split
  · rw [(Chip.begins_beside _ _).sel]
  · rfl
theorem DR.Live.fresh {c : Chip} (hf : c.Fine) (most : Int) : DR.Live { chip := c.select, most := most } 0 := ⟨Chip.Live.select hf, Chip.select_sel c, Int.le_refl 0, Int.le_refl 0⟩
end Lich
