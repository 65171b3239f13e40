/-
  What holds of phases that are driven. No program.
-/
import Derived.Test.YtefoldehejbiiaaGreatM19
import Derived.Test.YtefoldehejbiiaaGreatM11

namespace Lich

theorem Chip.clock_sel' (c : Chip) (x : Int) : (c.clock x).1.sel = c.sel := by
  unfold Chip.clock
  split
  · rw [(Chip.step_beside _ _).sel, Chip.pass_sel]
  · exact Chip.pass_sel c

theorem Chip.step_said {c : Chip} {n : Int} (h : c.cmd.Ok n) (x : Int) : 0 ≤ (c.step x).2 ∧ (c.step x).2 < 16 := by
  have h15 : (0 : Int) ≤ 15 ∧ (15 : Int) < 16 := by decide
  unfold Chip.step
  simp only
  by_cases e0 : c.cmd.stage = 0
  · rw [if_pos e0]; exact h15
  rw [if_neg e0]
  by_cases e2 : c.cmd.stage = 2
  · rw [if_pos e2]; exact h15
  rw [if_neg e2]
  by_cases e3 : c.cmd.stage = 3
  · rw [if_pos e3]; exact h15
  rw [if_neg e3]
  by_cases e4 : c.cmd.stage = 4
  · rw [if_pos e4]; exact h15
  rw [if_neg e4]
  by_cases e5 : c.cmd.stage = 5
  · rw [if_pos e5]; exact h15
  rw [if_neg e5]
  by_cases h6 : c.cmd.stage = 6
  case neg =>
    rw [if_neg h6]
    split <;> exact h15
  rw [if_pos h6]
  unfold Chip.says
  simp only
  rcases h.s6 h6 with ⟨e, _⟩ | ⟨e, _⟩
  · rw [if_neg (by omega), e]
    show 0 ≤ _ % (16 : Int) ∧ _ % (16 : Int) < 16
    omega
  · rw [if_pos e, e]
    show 0 ≤ 13 + 2 * (_ % (2 : Int)) ∧ 13 + 2 * (_ % (2 : Int)) < 16
    omega

theorem Chip.clock_said {c : Chip} {n : Int} (h : c.Live n) (x : Int) : 0 ≤ (c.clock x).2 ∧ (c.clock x).2 < 16 := by
  unfold Chip.clock
  split
  · exact Chip.step_said h.pass.cmd x
  · show (0 : Int) ≤ 15 ∧ (15 : Int) < 16; decide

structure DR.Live (d : DR) (n : Int) : Prop where
  chip : d.chip.Live n
  sel : d.chip.sel = true
  n0 : 0 ≤ d.n
  n1 : d.n ≤ n

theorem DR.Live.more {d : DR} {n k : Int} (h : d.Live n) (hk : n ≤ k) : d.Live k := ⟨h.chip.more hk, h.sel, h.n0, by have := h.n1; omega⟩

theorem DR.Live.tick {d d' : DR} {n x y : Int} (h : d.Live n) (ht : d.tick x = some (d', y)) : d'.Live (n + 1) ∧ 0 ≤ y ∧ y < 16 ∧ d'.out = d.out ∧ d'.most = d.most := by
  unfold DR.tick at ht
  split at ht
  · cases ht
  · simp only [Option.some.injEq, Prod.mk.injEq] at ht
    obtain ⟨rfl, rfl⟩ := ht
    have h1 := h.n0
    have h2 := h.n1
    exact ⟨⟨h.chip.clock x, by rw [← h.sel]; exact Chip.clock_sel' _ _, by show 0 ≤ d.n + 1; omega, by show d.n + 1 ≤ n + 1; omega⟩, (Chip.clock_said h.chip x).1, (Chip.clock_said h.chip x).2, rfl, rfl⟩

theorem DR.sends_append (xs ys : List Int) : ∀ d : DR, d.sends (xs ++ ys) = match d.sends xs with | (d', true) => d'.sends ys | (d', false) => (d', false) := by
  induction xs with
  | nil => intro d; rfl
  | cons x xs ih =>
    intro d
    simp only [List.cons_append, DR.sends]
    cases ht : d.tick x with
    | none => rfl
    | some q => obtain ⟨d', y⟩ := q; exact ih d'

/-- One more of what is sent. -/
theorem DR.sends_next {d dk : DR} {ys : List Int} {k : Nat} (hk : k < ys.length) (h : d.sends (ys.take k) = (dk, true)) :
    d.sends (ys.take (k + 1)) = match dk.tick (ys.getD k 0) with | none => (dk, false) | some (d', _) => (d', true) := by
  rw [List.take_succ_eq_append_getElem hk, DR.sends_append, h]
  simp only [DR.sends, List.getD, List.getElem?_eq_getElem hk, Option.getD_some]
  cases dk.tick ys[k] with
  | none => rfl
  | some q => rfl

theorem DR.sends_stop {d dk : DR} {ys : List Int} {k : Nat} (h : d.sends (ys.take k) = (dk, false)) : d.sends ys = (dk, false) := by
  have e := DR.sends_append (ys.take k) (ys.drop k) d
  rw [List.take_append_drop, h] at e
  exact e
end Lich
