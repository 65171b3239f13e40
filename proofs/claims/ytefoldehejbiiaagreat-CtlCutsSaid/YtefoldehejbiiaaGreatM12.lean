/-

-/
import Derived.Test.YtefoldehejbiiaaGreatM11

namespace Lich

def Chip.ticks (c : Chip) : Nat → Chip
  | 0 => c
  | n + 1 => c.pass.ticks n

theorem Chip.ticks_add (n m : Nat) : ∀ c : Chip, c.ticks (n + m) = (c.ticks n).ticks m := by
  induction n with
  | zero => intro c; simp [Chip.ticks]
  | succ n ih => intro c; rw [show n + 1 + m = (n + m) + 1 from by omega, Chip.ticks, Chip.ticks, ih]

theorem Chip.ticks_succ (c : Chip) (n : Nat) : c.ticks (n + 1) = (c.ticks n).pass := by rw [Chip.ticks_add]; rfl

theorem Chip.pass_cmd (c : Chip) : c.pass.cmd = c.cmd ∧ c.pass.sel = c.sel ∧ c.pass.goes = c.goes ∧ c.pass.quad = c.quad ∧ c.pass.prot = c.prot ∧ c.pass.wipes = c.wipes ∧ c.pass.busy = c.busy := by
  unfold Chip.pass
  split
  · simp
  · split
    · simp
    · split <;> simp

theorem Chip.pass_with (c : Chip) (m : Cmd) : ({ c with cmd := m } : Chip).pass = { c.pass with cmd := m } := by
  unfold Chip.pass
  simp only
  split
  · rfl
  · split
    · rfl
    · split <;> rfl

theorem Chip.ticks_cmd (n : Nat) : ∀ c : Chip, (c.ticks n).cmd = c.cmd ∧ (c.ticks n).sel = c.sel ∧ (c.ticks n).goes = c.goes ∧ (c.ticks n).quad = c.quad ∧ (c.ticks n).prot = c.prot ∧ (c.ticks n).wipes = c.wipes ∧ (c.ticks n).busy = c.busy := by
  induction n with
  | zero => intro c; simp [Chip.ticks]
  | succ n ih =>
    intro c
    have h := c.pass_cmd
    have k := ih c.pass
    simp only [Chip.ticks]
    simp [k, h]

theorem Chip.ticks_with (n : Nat) : ∀ (c : Chip) (m : Cmd), ({ c with cmd := m } : Chip).ticks n = { c.ticks n with cmd := m } := by
  induction n with
  | zero => intro c m; rfl
  | succ n ih => intro c m; rw [Chip.ticks, Chip.pass_with, ih]; rfl

theorem Chip.ticks_put (n : Nat) (c : Chip) (m : Cmd) : ({ c with cmd := m } : Chip).ticks n = { c.ticks n with cmd := m } := Chip.ticks_with n c m

theorem Chip.ticks_none (n : Nat) : ∀ c : Chip, c.job = none → c.ticks n = c := by
  induction n with
  | zero => intro c _; rfl
  | succ n ih => intro c h; rw [Chip.ticks, Chip.pass_none h, ih c h]

/-- The number of bits that came. -/
def bitsVal (k : Nat) (acc : Int) (xs : List Int) : Int := xs.foldl (fun a x => a * 2 ^ k + x % 2 ^ k) acc

theorem bitsVal_one (acc b : Int) (h0 : 0 ≤ b) (h1 : b < 256) : bitsVal 1 acc (wires b 1) = acc * 256 + b := by
  have h7 : b / 128 % 2 = b / 128 := by omega
  have h6 : b / 64 % 2 = b / 64 - 2 * (b / 128) := by omega
  have h5 : b / 32 % 2 = b / 32 - 2 * (b / 64) := by omega
  have h4 : b / 16 % 2 = b / 16 - 2 * (b / 32) := by omega
  have h3 : b / 8 % 2 = b / 8 - 2 * (b / 16) := by omega
  have h2 : b / 4 % 2 = b / 4 - 2 * (b / 8) := by omega
  have h1 : b / 2 % 2 = b / 2 - 2 * (b / 4) := by omega
  have e : ∀ x : Int, (14 + x % 2) % 2 ^ 1 = x % 2 := fun x => by omega
  simp only [bitsVal, wires, bitsOf, ↓reduceIte, List.map_cons, List.map_nil, List.foldl_cons, List.foldl_nil, e]
  rw [h7, h6, h5, h4, h3, h2, h1]
  generalize b / 128 = x7, b / 64 = x6, b / 32 = x5, b / 16 = x4, b / 8 = x3, b / 4 = x2
  omega

theorem bitsVal_four (acc b : Int) (h0 : 0 ≤ b) (h1 : b < 256) : bitsVal 4 acc (wires b 4) = acc * 256 + b := by
  simp only [bitsVal, wires, show ¬ ((4 : Int) = 1) from by decide, ↓reduceIte, List.foldl_cons, List.foldl_nil]
  omega

theorem bitsVal_append (k : Nat) (acc : Int) (xs ys : List Int) : bitsVal k acc (xs ++ ys) = bitsVal k (bitsVal k acc xs) ys := by simp [bitsVal]

theorem Chip.clock_sel {c : Chip} (h : c.sel = true) (x : Int) : c.clock x = c.pass.step x := by
  unfold Chip.clock
  rw [c.pass_cmd.2.1, h]; rfl

/-- The byte of a command comes. -/
theorem Chip.take0 (xs : List Int) : ∀ (c : Chip), c.sel = true → c.cmd.stage = 0 → c.cmd.left = xs.length → xs ≠ [] →
    c.sendAll xs = ({ c.ticks xs.length with cmd := { c.cmd with got := bitsVal 1 c.cmd.got xs, left := 0 } } : Chip).begins (bitsVal 1 c.cmd.got xs) := by
  induction xs with
  | nil => intro c _ _ _ h; simp at h
  | cons x xs ih =>
    intro c hs h0 hl _
    have hp := c.pass_cmd
    simp only [List.length_cons, Int.natCast_add, Int.cast_ofNat_Int] at hl
    have e1 : (c.clock x).1 = if c.cmd.left - 1 = 0 then ({ c.pass with cmd := { c.cmd with got := c.cmd.got * 2 + x % 2, left := c.cmd.left - 1 } } : Chip).begins (c.cmd.got * 2 + x % 2) else { c.pass with cmd := { c.cmd with got := c.cmd.got * 2 + x % 2, left := c.cmd.left - 1 } } := by
      rw [Chip.clock_sel hs]; unfold Chip.step; simp only [hp.1, h0, ↓reduceIte]
    cases xs with
    | nil =>
      have : c.cmd.left - 1 = 0 := by simp at hl; omega
      simp only [Chip.sendAll, List.foldl_cons, List.foldl_nil, e1, this, ↓reduceIte]
      simp [bitsVal, Chip.ticks]
    | cons y ys =>
      have hne : ¬ c.cmd.left - 1 = 0 := by simp at hl; omega
      have e2 : c.sendAll (x :: y :: ys) = ((c.clock x).1).sendAll (y :: ys) := rfl
      rw [e2, e1, if_neg hne, ih _ (by simpa [hp] using hs) (by simpa using h0) (by simp at hl ⊢; omega) (by simp)]
      simp only [Chip.ticks_put]
      rfl

/-- A part that gathers bits: an address (2), mode bits (3), a byte of data (5). -/
def Cmd.lanesAt (m : Cmd) : Int := if m.stage = 5 then m.op.data else m.op.addr
def Cmd.takes (m : Cmd) (g : Int) : Cmd :=
  let m' := { m with got := g, left := 0 }
  if m.stage = 2 then { m' with addr := g % 4096 }.behind
  else if m.stage = 3 then { m' with mode := g, moded := true }.behind
  else { m' with data := m'.data ++ [g] }.behind

theorem Chip.take1 (xs : List Int) : ∀ (c : Chip), c.sel = true → (c.cmd.stage = 2 ∨ c.cmd.stage = 3 ∨ c.cmd.stage = 5) → c.cmd.left = xs.length → xs ≠ [] →
    c.sendAll xs = { c.ticks xs.length with cmd := c.cmd.takes (bitsVal c.cmd.lanesAt.toNat c.cmd.got xs) } := by
  induction xs with
  | nil => intro c _ _ _ h; simp at h
  | cons x xs ih =>
    intro c hs h0 hl _
    have hp := c.pass_cmd
    simp only [List.length_cons, Int.natCast_add, Int.cast_ofNat_Int] at hl
    have e1 : (c.clock x).1 = if c.cmd.left - 1 = 0 then { c.pass with cmd := c.cmd.takes (c.cmd.got * 2 ^ c.cmd.lanesAt.toNat + x % 2 ^ c.cmd.lanesAt.toNat) } else { c.pass with cmd := { c.cmd with got := c.cmd.got * 2 ^ c.cmd.lanesAt.toNat + x % 2 ^ c.cmd.lanesAt.toNat, left := c.cmd.left - 1 } } := by
      rw [Chip.clock_sel hs]
      unfold Chip.step Cmd.takes Cmd.lanesAt
      rcases h0 with h0 | h0 | h0 <;> simp only [hp.1, h0] <;> by_cases hz : c.cmd.left - 1 = 0 <;> simp [hz]
    cases xs with
    | nil =>
      have : c.cmd.left - 1 = 0 := by simp at hl; omega
      simp only [Chip.sendAll, List.foldl_cons, List.foldl_nil, e1, this, ↓reduceIte]
      simp [bitsVal, Chip.ticks]
    | cons y ys =>
      have hne : ¬ c.cmd.left - 1 = 0 := by simp at hl; omega
      have e2 : c.sendAll (x :: y :: ys) = ((c.clock x).1).sendAll (y :: ys) := rfl
      rw [e2, e1, if_neg hne, ih _ (by simpa [hp] using hs) (by simpa using h0) (by simp at hl ⊢; omega) (by simp)]
      simp only [Chip.ticks_put]
      rfl

/-- Clocks of nothing pass. -/
theorem Chip.take4 (n : Nat) : ∀ (c : Chip), c.sel = true → c.cmd.stage = 4 → c.cmd.left = n + 1 →
    c.sendAll (List.replicate (n + 1) 15) = { c.ticks (n + 1) with cmd := { c.cmd with left := 0 }.behind } := by
  induction n with
  | zero =>
    intro c hs h0 hl
    have hp := c.pass_cmd
    simp only [List.replicate, Chip.sendAll, List.foldl_cons, List.foldl_nil]
    rw [Chip.clock_sel hs]
    unfold Chip.step
    simp [hp.1, h0, hl, Chip.ticks]
  | succ n ih =>
    intro c hs h0 hl
    have hp := c.pass_cmd
    have e1 : (c.clock 15).1 = { c.pass with cmd := { c.cmd with left := c.cmd.left - 1 } } := by
      rw [Chip.clock_sel hs]; unfold Chip.step
      have : ¬ c.cmd.left - 1 = 0 := by omega
      simp [hp.1, h0, this]
    have e2 : c.sendAll (List.replicate (n + 1 + 1) 15) = ((c.clock 15).1).sendAll (List.replicate (n + 1) 15) := rfl
    rw [e2, e1, ih _ (by simpa [hp] using hs) (by simpa using h0) (by simp only; omega)]
    simp only [Chip.ticks_put]
    rfl

end Lich
