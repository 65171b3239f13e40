/-
  What holds of a controller at all times; what driving comes to. No program.
-/
import Derived.Test.YtefoldehejbiiaaGreatM30

namespace Lich

theorem Chip.starts_sel (c : Chip) (j : Job) : (c.starts j).sel = c.sel := by
  unfold Chip.starts
  split
  · rfl
  · split
    · rfl
    · simp only
      split <;> rfl

theorem Chip.ends_sel (c : Chip) : c.ends.sel = c.sel := by
  unfold Chip.ends
  simp only
  repeat' split
  all_goals first | rfl | exact Chip.starts_sel _ _

theorem Chip.deselect_sel (c : Chip) : c.deselect.sel = false := Chip.ends_sel _

theorem DR.phases_live (ps : List Phase) : ∀ {d : DR} {n : Int}, d.Live n → (∀ p ∈ ps, ((p.lanes = 1 ∨ p.lanes = 4) ∨ p.read = 0) ∧ p.bytes.length ≤ 512 ∧ (0 ≤ p.read ∧ p.read ≤ 512) ∧ (0 ≤ p.clocks ∧ p.clocks ≤ 400)) →
    (d.phases ps).1.Live (n + 10000 * ps.length) ∧ (d.phases ps).1.out.length ≤ d.out.length + 512 * ps.length ∧ (d.phases ps).1.most = d.most := by
  induction ps with
  | nil => intro d n h _; exact ⟨h.more (by simp), by simp [DR.phases], rfl⟩
  | cons p ps ih =>
    intro d n h hp
    obtain ⟨a1, a2, a3, a4⟩ := hp p (List.mem_cons_self ..)
    obtain ⟨h1, h2, h3⟩ := DR.phase_live h p a1 a2 a3 a4
    have e1 : (ps.length + 1 : Nat) = (p :: ps).length := rfl
    rcases hq : d.phase p with ⟨d', t⟩
    rw [hq] at h1 h2 h3
    replace h2 : d'.out.length ≤ d.out.length + 512 := h2
    replace h1 : d'.Live (n + 10000) := h1
    cases t
    · have e : d.phases (p :: ps) = (d', false) := by simp only [DR.phases]; rw [hq]
      rw [e, ← e1]
      exact ⟨h1.more (by omega), Nat.le_trans h2 (by omega), h3⟩
    · have e : d.phases (p :: ps) = d'.phases ps := by simp only [DR.phases]; rw [hq]
      obtain ⟨i1, i2, i3⟩ := ih h1 (fun q hq => hp q (List.mem_cons_of_mem _ hq))
      rw [e, ← e1]
      exact ⟨i1.more (by omega), Nat.le_trans i2 (by omega), i3.trans h3⟩

theorem Phase.ok_shape {p : Phase} (h : p.okB = true) : ((p.lanes = 1 ∨ p.lanes = 4) ∨ p.read = 0) ∧ p.bytes.length ≤ 512 ∧ (0 ≤ p.read ∧ p.read ≤ 512) ∧ (0 ≤ p.clocks ∧ p.clocks ≤ 400) := by
  unfold Phase.okB at h
  split at h
  · simp only [Bool.and_eq_true, decide_eq_true_eq, Bool.decide_or, Bool.or_eq_true] at h
    obtain ⟨⟨⟨⟨h1, h2⟩, _⟩, h4⟩, h5⟩ := h
    exact ⟨.inl h1, h2, by omega, by omega⟩
  · rename_i hb
    have hb0 : p.bytes.length = 0 := by simpa using hb
    split at h
    · simp only [Bool.and_eq_true, decide_eq_true_eq, Bool.decide_or, Bool.or_eq_true, Bool.decide_and] at h
      obtain ⟨⟨h1, h2⟩, h4⟩ := h
      exact ⟨.inl h1, by omega, by omega, by omega⟩
    · rename_i hr
      simp only [Bool.and_eq_true, decide_eq_true_eq, Bool.decide_and] at h
      exact ⟨.inr (by omega), by omega, by omega, by omega⟩

/-- What driving phases that may be comes to. -/
structure Drives (c : Chip) (ps : List Phase) (most : Int) (c' : Chip) (xs : List Int) (n : Int) (t : Bool) : Prop where
  eq : driveOn c ps most = some (c', xs, n, t)
  fine : c'.Fine
  sel : t = true → c'.sel = false
  n0 : 0 ≤ n
  n1 : n ≤ 200000
  lim : 0 ≤ most → n ≤ most
  cut : t = false → 0 ≤ most ∧ n = most
  len : xs.length ≤ 20000

theorem driveOn_drives {c : Chip} (hf : c.Fine) (hsel : c.sel = false) {ps : List Phase} (hok : ps.all Phase.okB = true) (hlen : ps.length ≤ 20) (most : Int) : ∃ c' xs n t, Drives c ps most c' xs n t := by
  have hl := DR.Live.fresh hf most
  obtain ⟨h1, h2, h3⟩ := DR.phases_live ps hl (fun p hp => Phase.ok_shape (List.all_eq_true.1 hok p hp))
  have hw := DR.phases_went ps { chip := c.select, most := most }
  have he : driveOn c ps most = match DR.phases { chip := c.select, most := most } ps with
      | (d, false) => some (d.chip, d.out, d.n, false)
      | (d, true) => some (d.chip.deselect, d.out, d.n, true) := by
    unfold driveOn
    rw [if_neg (by rw [hok, hsel]; simp)]
    rcases DR.phases { chip := c.select, most := most } ps with ⟨d, t⟩
    cases t <;> rfl
  rcases hd : DR.phases { chip := c.select, most := most } ps with ⟨d, t⟩
  rw [hd] at h1 h2 h3 hw he
  simp only [List.length_nil, Nat.zero_add] at h2
  have hn0 : 0 ≤ d.n := h1.n0
  have hn1 : d.n ≤ 0 + 10000 * ps.length := h1.n1
  have hwm := hw.bound
  cases t
  · exact ⟨_, _, _, _, he, h1.chip.toFine, by simp, hn0, by omega, fun h => hwm h h, fun _ => ⟨(hw.cut rfl).1, (hw.cut rfl).2 (hw.cut rfl).1⟩, by omega⟩
  · exact ⟨_, _, _, _, he, h1.chip.deselect.toFine, fun _ => Chip.deselect_sel _, hn0, by omega, fun h => hwm h h, by simp, by omega⟩

structure Ctl.Fine (k : Ctl) : Prop where
  chip : k.chip.Fine
  sel : k.lost = false → k.chip.sel = false
  regs : k.regs.length = 3
  reg : ∀ x ∈ k.regs, 0 ≤ x ∧ x < 4096
  len : 0 ≤ k.regs.getD 2 0 ∧ k.regs.getD 2 0 ≤ 16
  out : k.out.length ≤ 16
  outB : ∀ x ∈ k.out, 0 ≤ x ∧ x < 256
  inn : k.inn.length ≤ 16
  clocks : 0 ≤ k.clocks
  left : k.left < 9223372036854775808

def Ctl.cut (k : Ctl) (n : Int) : Ctl × Int := if n < 0 then (k, 1100) else ({ k with left := n }, 0)
def regMay (r x : Int) : Bool := if r = 0 ∨ r = 1 then decide (0 ≤ x) && decide (x < 4096) else if r = 2 then decide (0 ≤ x) && decide (x ≤ 16) else decide (r = 4) && (decide (0 ≤ x) && decide (x < 256))
def Ctl.write (k : Ctl) (r x : Int) : Ctl × Int :=
  if k.lost = true then (k, 1101)
  else if regMay r x = false then (k, 1100)
  else if r = 4 then (if k.out.length = 16 then (k, 801) else ({ k with out := k.out ++ [x] }, 0))
  else ({ k with regs := k.regs.set r.toNat x }, 0)
def Ctl.read (k : Ctl) (r : Int) : Ctl × Int × Int :=
  if k.lost = true then (k, 0, 1101)
  else if r = 0 ∨ r = 1 ∨ r = 2 then (k, k.regs.getD r.toNat 0, 0)
  else if r = 3 then (k, k.inn.length, 0)
  else if r = 4 then ({ k with inn := k.inn.tail }, k.inn.headD 0, if k.inn = [] then 800 else 0)
  else (k, 0, 1100)
def Ctl.go (k : Ctl) : Ctl × Int :=
  if k.lost = true then (k, 1101)
  else if 16 - (k.inn.length : Int) < k.regs.getD 2 0 then (k, 801)
  else
    let r := k.run (k.regs.getD 0 0) (k.regs.getD 1 0) k.out (k.regs.getD 2 0)
    let k1 := if r.2.2 = 1101 then r.1 else { r.1 with out := [] }
    ({ k1 with inn := (k1.inn ++ r.2.1).take 16 }, r.2.2)

def Ctl.new (c : Chip) : Ctl := { chip := c }

/-- The last drive of a command. -/
def Ctl.fin (b : Int) (data : List Int) (k : Ctl) (ps : List Phase) : Ctl × List Int × Int :=
  (if (k.drive ps).2.2 = 0 then { (k.drive ps).1 with goes := b = 235 ∧ data.headD 0 = 160 } else (k.drive ps).1, (k.drive ps).2.1, (k.drive ps).2.2)

section
variable {k : Ctl} {b at_ : Int} {data : List Int} {read : Int} {o : OpD} {ps : List Phase}
theorem Ctl.run_lost (h : k.lost = true) : k.run b at_ data read = (k, [], 1101) := by unfold Ctl.run; rw [if_pos h]
theorem Ctl.run_none (h : k.lost = false) (ho : opOf b = none) : k.run b at_ data read = (k, [], 1100) := by
  unfold Ctl.run; rw [if_neg (by simp [h]), ho]
theorem Ctl.run_bad (h : k.lost = false) (ho : opOf b = some o) (hc : commandOf o at_ data read = none) : k.run b at_ data read = (k, [], 1100) := by
  unfold Ctl.run; rw [if_neg (by simp [h]), ho]; simp only [hc]
theorem Ctl.run_tail (h : k.lost = false) (ho : opOf b = some o) (hc : commandOf o at_ data read = some ps) (hg : k.goes = true) (hb : b = 235) : k.run b at_ data read = k.fin b data ps.tail := by
  unfold Ctl.run; rw [if_neg (by simp [h]), ho]; simp only [hc]
  rw [if_pos ⟨hg, hb⟩]
  rfl
theorem Ctl.run_plain (h : k.lost = false) (ho : opOf b = some o) (hc : commandOf o at_ data read = some ps) (hg : k.goes = false) : k.run b at_ data read = k.fin b data ps := by
  unfold Ctl.run; rw [if_neg (by simp [h]), ho]; simp only [hc]
  rw [if_neg (by simp [hg]), if_neg (by simp [hg])]
  rfl
theorem Ctl.run_leave (h : k.lost = false) (ho : opOf b = some o) (hc : commandOf o at_ data read = some ps) (hg : k.goes = true) (hb : b ≠ 235) :
    k.run b at_ data read = if (k.drive leaving).2.2 = 0 then Ctl.fin b data { (k.drive leaving).1 with goes := false } ps else ((k.drive leaving).1, [], (k.drive leaving).2.2) := by
  unfold Ctl.run; rw [if_neg (by simp [h]), ho]; simp only [hc]
  rw [if_neg (by simp [hb]), if_pos hg]
  rfl
end

theorem Ctl.drive_regs (k : Ctl) (ps : List Phase) : (k.drive ps).1.regs = k.regs ∧ (k.drive ps).1.out = k.out ∧ (k.drive ps).1.inn = k.inn ∧ (k.drive ps).1.goes = k.goes := by
  unfold Ctl.drive
  split
  · exact ⟨rfl, rfl, rfl, rfl⟩
  · simp only
    split <;> exact ⟨rfl, rfl, rfl, rfl⟩
theorem Ctl.fin_regs (k : Ctl) (b : Int) (data : List Int) (ps : List Phase) : (k.fin b data ps).1.regs = k.regs ∧ (k.fin b data ps).1.out = k.out ∧ (k.fin b data ps).1.inn = k.inn := by
  obtain ⟨h1, h2, h3, _⟩ := Ctl.drive_regs k ps
  unfold Ctl.fin
  simp only
  split <;> exact ⟨h1, h2, h3⟩
theorem Ctl.run_regs (k : Ctl) (b at_ : Int) (data : List Int) (read : Int) : (k.run b at_ data read).1.regs = k.regs ∧ (k.run b at_ data read).1.out = k.out ∧ (k.run b at_ data read).1.inn = k.inn := by
  cases hl : k.lost
  case true => rw [Ctl.run_lost hl]; exact ⟨rfl, rfl, rfl⟩
  cases ho : opOf b with
  | none => rw [Ctl.run_none hl ho]; exact ⟨rfl, rfl, rfl⟩
  | some o =>
    cases hc : commandOf o at_ data read with
    | none => rw [Ctl.run_bad hl ho hc]; exact ⟨rfl, rfl, rfl⟩
    | some ps =>
      cases hg : k.goes
      case false => rw [Ctl.run_plain hl ho hc hg]; exact Ctl.fin_regs _ _ _ _
      case true =>
        by_cases hb : b = 235
        · rw [Ctl.run_tail hl ho hc hg hb]; exact Ctl.fin_regs _ _ _ _
        · rw [Ctl.run_leave hl ho hc hg hb]
          obtain ⟨h1, h2, h3, _⟩ := Ctl.drive_regs k leaving
          split
          · obtain ⟨g1, g2, g3⟩ := Ctl.fin_regs { (k.drive leaving).1 with goes := false } b data ps
            exact ⟨g1.trans h1, g2.trans h2, g3.trans h3⟩
          · exact ⟨h1, h2, h3⟩

theorem push_take (a : List Int) (b : Int) : (if (a.take 16).length = 16 then a.take 16 else a.take 16 ++ [b]) = (a ++ [b]).take 16 := by
  by_cases h : 16 ≤ a.length
  · rw [if_pos (by simp; omega), List.take_append_of_le_length h]
  · rw [if_neg (by simp; omega), List.take_of_length_le (by omega), List.take_of_length_le (by simp; omega)]
end Lich
