/-

-/
import Derived.Test.YtefoldehejbiiaaGreatM13

namespace Lich

theorem Chip.byteAt_cmd (c : Chip) (m : Cmd) (i : Int) (ho : m.op = c.cmd.op) (ha : m.addr = c.cmd.addr) : ({ c with cmd := m } : Chip).byteAt i = c.byteAt i := by
  unfold Chip.byteAt
  simp only [ho, ha]
  rfl

/-- The bytes that a chip tells from here on. -/
def Chip.says' (c : Chip) (k l : Nat) : List Int := (List.range k).map fun i => (c.ticks (i * (8 / l) + 1)).byteAt (c.cmd.told + (i : Int))

theorem Chip.getAll_spec (l : Nat) (hl : l = 1 ∨ l = 4) (k : Nat) : ∀ (c : Chip), c.sel = true → c.cmd.stage = 6 → c.cmd.left = 0 → c.cmd.op.data = (l : Int) →
    ∃ nw : Int, c.getAll k l = ({ c.ticks (k * (8 / l)) with cmd := { c.cmd with now := nw, told := c.cmd.told + k } }, c.says' k l) := by
  induction k with
  | zero =>
    intro c hs h6 hl0 hd
    refine ⟨c.cmd.now, ?_⟩
    simp [Chip.getAll, Chip.says', Chip.ticks]
  | succ k ih =>
    intro c hs h6 hl0 hd
    have hh : c.hear (8 / (l : Int)).toNat (l : Int) 0 = (c.told1 (8 / l), c.pass.byteAt c.cmd.told) := by
      rcases hl with rfl | rfl
      · exact Chip.hear_one hs h6 hl0 hd
      · exact Chip.hear_four hs h6 hl0 hd
    have hk := Chip.ticks_cmd (8 / l) c
    rw [Chip.getAll, hh]
    simp only
    obtain ⟨nw, hn⟩ := ih (c.told1 (8 / l)) (by simpa [Chip.told1, hk] using hs) (by simpa [Chip.told1] using h6) (by simp [Chip.told1]) (by simpa [Chip.told1] using hd)
    rw [hn]
    refine ⟨nw, Prod.ext ?_ ?_⟩
    · simp only [Chip.told1, Chip.ticks_with]
      rw [← Chip.ticks_add, show 8 / l + k * (8 / l) = (k + 1) * (8 / l) from by rw [Nat.add_mul, Nat.one_mul, Nat.add_comm]]
      have e : c.cmd.told + 1 + (k : Int) = c.cmd.told + ((k + 1 : Nat) : Int) := by omega
      rw [e]
      rw [hl0]
    · simp only
      rw [Chip.says', Chip.says', List.range_succ_eq_map, List.map_cons, List.map_map]
      refine List.cons_eq_cons.2 ⟨?_, ?_⟩
      · simp [Chip.ticks]
      · refine List.map_congr_left fun i _ => ?_
        simp only [Chip.told1, Function.comp, Chip.ticks_with]
        rw [Chip.byteAt_cmd _ _ _ (by simp [(Chip.ticks_cmd _ _).1]) (by simp [(Chip.ticks_cmd _ _).1])]
        rw [← Chip.ticks_add, show 8 / l + (i * (8 / l) + 1) = (i + 1) * (8 / l) + 1 from by rw [Nat.add_mul, Nat.one_mul]; omega]
        congr 1
        omega

end Lich
