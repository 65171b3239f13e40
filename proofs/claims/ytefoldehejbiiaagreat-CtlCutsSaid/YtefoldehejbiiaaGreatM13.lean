/-

-/
import Derived.Test.YtefoldehejbiiaaGreatM12

namespace Lich

theorem first_bd (a b c : Bool) : 0 ≤ first a b c ∧ first a b c < 256 := by cases a <;> cases b <;> cases c <;> decide
theorem second_bd (a b : Bool) : 0 ≤ second a b ∧ second a b < 256 := by cases a <;> cases b <;> decide

theorem u8_bd (x : UInt8) : (0 : Int) ≤ (x.toNat : Int) ∧ (x.toNat : Int) < 256 := by have := x.toNat_lt; omega

theorem Chip.byteAt_bd (c : Chip) (i : Int) : 0 ≤ c.byteAt i ∧ c.byteAt i < 256 := by
  unfold Chip.byteAt Chip.st1 Chip.st2
  split
  · repeat' split
    all_goals decide
  · split
    · exact first_bd _ _ _
    · split
      · exact second_bd _ _
      · split <;> exact u8_bd _


def outOf (l bits : Int) : Int := if l = 1 then 13 + 2 * bits else bits

theorem Chip.hear_fresh {c : Chip} (hs : c.sel = true) (h6 : c.cmd.stage = 6) (hl : c.cmd.left = 0) :
    c.clock 15 = ({ c.pass with cmd := { c.cmd with now := c.pass.byteAt c.cmd.told, left := 8 / c.cmd.op.data - 1, told := c.cmd.told + 1 } },
      outOf c.cmd.op.data (c.pass.byteAt c.cmd.told / 2 ^ ((8 / c.cmd.op.data - 1) * c.cmd.op.data).toNat % 2 ^ c.cmd.op.data.toNat)) := by
  have hp := c.pass_cmd
  rw [Chip.clock_sel hs]
  unfold Chip.step
  simp only [hp.1, h6]
  simp only [show ¬ (6 : Int) = 0 from by decide, show ¬ (6 : Int) = 2 from by decide, show ¬ (6 : Int) = 3 from by decide, show ¬ (6 : Int) = 4 from by decide, show ¬ (6 : Int) = 5 from by decide, ↓reduceIte]
  unfold Chip.says outOf
  simp only [hp.1, hl, ↓reduceIte]
  congr 2
  rw [← h6]

theorem Chip.hear_on {c : Chip} (hs : c.sel = true) (h6 : c.cmd.stage = 6) (hl : ¬ c.cmd.left = 0) :
    c.clock 15 = ({ c.pass with cmd := { c.cmd with left := c.cmd.left - 1 } }, outOf c.cmd.op.data (c.cmd.now / 2 ^ ((c.cmd.left - 1) * c.cmd.op.data).toNat % 2 ^ c.cmd.op.data.toNat)) := by
  have hp := c.pass_cmd
  rw [Chip.clock_sel hs]
  unfold Chip.step
  simp only [hp.1, h6]
  simp only [show ¬ (6 : Int) = 0 from by decide, show ¬ (6 : Int) = 2 from by decide, show ¬ (6 : Int) = 3 from by decide, show ¬ (6 : Int) = 4 from by decide, show ¬ (6 : Int) = 5 from by decide, ↓reduceIte]
  unfold Chip.says outOf
  simp [hp, hl, h6]

/-- The chip behind a byte that was told. -/
def Chip.told1 (c : Chip) (k : Nat) : Chip :=
  { c.ticks k with cmd := { c.cmd with now := c.pass.byteAt c.cmd.told, left := 0, told := c.cmd.told + 1 } }

theorem Chip.hear_four {c : Chip} (hs : c.sel = true) (h6 : c.cmd.stage = 6) (hl : c.cmd.left = 0) (hd : c.cmd.op.data = 4) :
    c.hear 2 4 0 = (c.told1 2, c.pass.byteAt c.cmd.told) := by
  have hp := c.pass_cmd
  have hb := c.pass.byteAt_bd c.cmd.told
  have e1 := Chip.hear_fresh hs h6 hl
  rw [hd] at e1
  rw [Chip.hear, e1]
  simp only
  rw [Chip.hear, Chip.hear_on (by simpa [hp] using hs) (by simpa using h6) (by simp)]
  simp only [Chip.hear, Chip.told1, Chip.ticks, Chip.pass_with, hd, outOf, show ¬ (4 : Int) = 1 from by decide, ↓reduceIte]
  refine Prod.ext rfl ?_
  simp only [show ((8 / 4 - 1 : Int) * 4).toNat = 4 from by decide, show ((8 / 4 - 1 - 1 : Int) * 4).toNat = 0 from by decide, show (4 : Int).toNat = 4 from by decide]
  omega

theorem Chip.pass_sel (c : Chip) : c.pass.sel = c.sel := c.pass_cmd.2.1

theorem Chip.hear_one {c : Chip} (hs : c.sel = true) (h6 : c.cmd.stage = 6) (hl : c.cmd.left = 0) (hd : c.cmd.op.data = 1) :
    c.hear 8 1 0 = (c.told1 8, c.pass.byteAt c.cmd.told) := by
  have hp := c.pass_cmd
  have hb := c.pass.byteAt_bd c.cmd.told
  have e1 := Chip.hear_fresh hs h6 hl
  rw [hd] at e1
  rw [Chip.hear, e1]
  simp only
  iterate 7
    rw [Chip.hear, Chip.hear_on (by simpa [Chip.pass_sel] using hs) (by simpa using h6) (by simp)]
    simp only [Chip.pass_with]
  simp only [Chip.hear, Chip.told1, Chip.ticks, hd, outOf, ↓reduceIte]
  refine Prod.ext rfl ?_
  generalize c.pass.byteAt c.cmd.told = b at hb ⊢
  simp only [show ((8 / 1 - 1 : Int) * 1).toNat = 7 from by decide, show ((8 / 1 - 1 - 1 : Int) * 1).toNat = 6 from by decide, show ((8 / 1 - 1 - 1 - 1 : Int) * 1).toNat = 5 from by decide,
    show ((8 / 1 - 1 - 1 - 1 - 1 : Int) * 1).toNat = 4 from by decide, show ((8 / 1 - 1 - 1 - 1 - 1 - 1 : Int) * 1).toNat = 3 from by decide, show ((8 / 1 - 1 - 1 - 1 - 1 - 1 - 1 : Int) * 1).toNat = 2 from by decide,
    show ((8 / 1 - 1 - 1 - 1 - 1 - 1 - 1 - 1 : Int) * 1).toNat = 1 from by decide, show ((8 / 1 - 1 - 1 - 1 - 1 - 1 - 1 - 1 - 1 : Int) * 1).toNat = 0 from by decide, show (1 : Int).toNat = 1 from by decide]
  have e : ∀ x : Int, (13 + 2 * (x % 2 ^ 1)) / 2 % 2 = x % 2 := fun x => by omega
  simp only [e]
  have p7 : (2 : Int) ^ 7 = 128 := by decide
  have p6 : (2 : Int) ^ 6 = 64 := by decide
  have p5 : (2 : Int) ^ 5 = 32 := by decide
  have p4 : (2 : Int) ^ 4 = 16 := by decide
  have p3 : (2 : Int) ^ 3 = 8 := by decide
  have p2 : (2 : Int) ^ 2 = 4 := by decide
  have p1 : (2 : Int) ^ 1 = 2 := by decide
  have p0 : (2 : Int) ^ 0 = 1 := by decide
  simp only [p7, p6, p5, p4, p3, p2, p1, p0, Int.ediv_one]
  have h7 : b / 128 % 2 = b / 128 := by omega
  have h6 : b / 64 % 2 = b / 64 - 2 * (b / 128) := by omega
  have h5 : b / 32 % 2 = b / 32 - 2 * (b / 64) := by omega
  have h4 : b / 16 % 2 = b / 16 - 2 * (b / 32) := by omega
  have h3 : b / 8 % 2 = b / 8 - 2 * (b / 16) := by omega
  have h2 : b / 4 % 2 = b / 4 - 2 * (b / 8) := by omega
  have h1 : b / 2 % 2 = b / 2 - 2 * (b / 4) := by omega
  rw [h7, h6, h5, h4, h3, h2, h1]
  generalize b / 128 = x7, b / 64 = x6, b / 32 = x5, b / 16 = x4, b / 8 = x3, b / 4 = x2
  omega

end Lich
