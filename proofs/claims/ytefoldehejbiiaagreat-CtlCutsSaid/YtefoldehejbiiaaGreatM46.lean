/-
  What the awake laws ask of a controller, reckoned. No program.
-/
import Derived.Test.YtefoldehejbiiaaGreatM36

namespace Lich
def awCells : List UInt8 := (List.range 4096).map fun i => [120, 121, 122].getD (i % 3) 0
def awA : Ctl := Ctl.new { cells := awCells }
def awB : Ctl := (awA.run 3 4 [] 2).1
def awC : Ctl := (awB.write 0 159).1
def awD : Ctl := (awC.write 2 2).1
def awE : Ctl := awD.go.1
def awF : Ctl := (awE.read 4).1
def awG : Ctl := (awF.cut 5).1
def awH : Ctl := (awG.run 159 0 [] 1).1
set_option maxRecDepth 100000
theorem aw1 : awA.run 3 4 [] 2 = (awB, [121, 122], 0) := Prod.ext rfl (by decide +kernel)
theorem aw2 : awB.run 0 0 [] 0 = (awB, [], 1100) := by
  have hl : awB.lost = false := by decide +kernel
  exact Ctl.run_none hl (by decide)
theorem aw3 : awB.write 0 159 = (awC, 0) := Prod.ext rfl (by decide +kernel)
theorem aw4 : awC.write 2 2 = (awD, 0) := Prod.ext rfl (by decide +kernel)
theorem aw5 : awD.go = (awE, 0) := Prod.ext rfl (by decide +kernel)
theorem aw5l : (awD.run (awD.regs.getD 0 0) (awD.regs.getD 1 0) awD.out (awD.regs.getD 2 0)).2.1.length < 1000000 := by decide +kernel
theorem aw6 : awE.read 3 = (awE, 2, 0) := by
  have hl : awE.lost = false := by decide +kernel
  have hi : awE.inn.length = 2 := by decide +kernel
  unfold Ctl.read
  rw [if_neg (by simp [hl]), if_neg (by decide), if_pos rfl, hi]
  rfl
theorem aw7 : awE.read 4 = (awF, 239, 0) := Prod.ext rfl (by decide +kernel)
theorem aw8 : awF.cut 5 = (awG, 0) := Prod.ext rfl (by decide +kernel)
theorem aw9 : awG.run 159 0 [] 1 = (awH, [], 1101) := Prod.ext rfl (by decide +kernel)
theorem aw10 : awH.lost = true := by decide +kernel
theorem aw11 : awH.write 4 1 = (awH, 1101) := by unfold Ctl.write; rw [if_pos aw10]
theorem aw12 : awH.clocks = 77 := by decide +kernel
theorem aw13 : awA.clocks = 0 ∧ awB.clocks = 48 ∧ awC.clocks = 48 ∧ awD.clocks = 48 ∧ awE.clocks = 72 ∧ awF.clocks = 72 ∧ awG.clocks = 72 := by decide +kernel
end Lich
