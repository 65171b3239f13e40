/-
  Phases on the wires, and the controller, as plain functions: no program, no memory.
-/
import Derived.Test.YtefoldehejbiiaaGreatM01

namespace Lich

structure Phase where
  lanes : Int := 0
  bytes : List Int := []
  clocks : Int := 0
  read : Int := 0

def Phase.okB (p : Phase) : Bool :=
  if p.bytes ≠ [] then (p.lanes = 1 ∨ p.lanes = 4) && p.bytes.length ≤ 512 && p.bytes.all (fun b => 0 ≤ b ∧ b < 256) && p.clocks = 0 && p.read = 0
  else if p.read ≠ 0 then (p.lanes = 1 ∨ p.lanes = 4) && (1 ≤ p.read ∧ p.read ≤ 512) && p.clocks = 0
  else p.lanes = 0 && (1 ≤ p.clocks ∧ p.clocks ≤ 400)

def Phase.time (p : Phase) : Int := p.clocks + if 0 < p.lanes then (p.bytes.length + p.read) * (8 / p.lanes) else 0

structure DR where
  chip : Chip
  out : List Int := []
  n : Int := 0
  most : Int

def DR.tick (d : DR) (x : Int) : Option (DR × Int) :=
  if 0 ≤ d.most ∧ d.most ≤ d.n then none
  else some ({ d with chip := (d.chip.clock x).1, n := d.n + 1 }, (d.chip.clock x).2)

/-- Clocks, one behind the other; what was said is passed over. -/
def DR.sends : DR → List Int → DR × Bool
  | d, [] => (d, true)
  | d, x :: xs => match d.tick x with
    | none => (d, false)
    | some (d', _) => d'.sends xs

def bitsOf (b : Int) : List Int := [b / 128 % 2, b / 64 % 2, b / 32 % 2, b / 16 % 2, b / 8 % 2, b / 4 % 2, b / 2 % 2, b % 2]
def laneOut (b lanes : Int) : List Int := if lanes = 1 then bitsOf b else [b / 16 % 16, b % 16]
def wires (b lanes : Int) : List Int := if lanes = 1 then (bitsOf b).map (14 + ·) else [b / 16 % 16, b % 16]

def DR.put (d : DR) (b lanes : Int) : DR × Bool := d.sends (wires b lanes)

def DR.puts : DR → List Int → Int → DR × Bool
  | d, [], _ => (d, true)
  | d, b :: bs, lanes => match d.put b lanes with
    | (d', true) => d'.puts bs lanes
    | (d', false) => (d', false)

/-- So many clocks; what is said is gathered (of one lane its own bit). -/
def DR.hears : DR → Nat → Int → Int → DR × Option Int
  | d, 0, _, acc => (d, some acc)
  | d, k + 1, lanes, acc => match d.tick 15 with
    | none => (d, none)
    | some (d', x) => d'.hears k lanes (if lanes = 1 then acc * 2 + x / 2 % 2 else acc * 16 + x)

def DR.get (d : DR) (lanes : Int) : DR × Bool :=
  match d.hears (8 / lanes).toNat lanes 0 with
  | (d', none) => (d', false)
  | (d', some b) => ({ d' with out := d'.out ++ [b] }, true)

def DR.gets : DR → Nat → Int → DR × Bool
  | d, 0, _ => (d, true)
  | d, k + 1, lanes => match d.get lanes with
    | (d', true) => d'.gets k lanes
    | (d', false) => (d', false)

def DR.phase (d : DR) (p : Phase) : DR × Bool :=
  match d.puts p.bytes p.lanes with
  | (d1, false) => (d1, false)
  | (d1, true) => match d1.sends (List.replicate p.clocks.toNat 15) with
    | (d2, false) => (d2, false)
    | (d2, true) => d2.gets p.read.toNat p.lanes

def DR.phases : DR → List Phase → DR × Bool
  | d, [] => (d, true)
  | d, p :: ps => match d.phase p with
    | (d', false) => (d', false)
    | (d', true) => d'.phases ps

/-- Phases on a chip: what was read, how many clocks, whole?; none: they may not be. -/
def driveOn (c : Chip) (ps : List Phase) (most : Int) : Option (Chip × List Int × Int × Bool) :=
  if ps.all Phase.okB = false ∨ c.sel = true then none
  else match DR.phases { chip := c.select, most := most } ps with
    | (d, false) => some (d.chip, d.out, d.n, false)
    | (d, true) => some (d.chip.deselect, d.out, d.n, true)

def commandOf (o : OpD) (at_ : Int) (data : List Int) (read : Int) : Option (List Phase) :=
  if opOf o.byte = some o ∧ 0 ≤ at_ ∧ at_ < 4096 ∧ ¬ (o.addr = 0 ∧ at_ ≠ 0) ∧ data.length ≤ 512 ∧ data.all (fun b => 0 ≤ b ∧ b < 256) = true ∧ 0 ≤ read ∧ read ≤ 512 ∧
    (if o.data = 0 then data = [] ∧ read = 0 else if o.inn = true then read = 0 else if o.mode = true then data.length = 1 else data = []) then
    some ([{ lanes := 1, bytes := [o.byte] }]
      ++ (if 0 < o.addr then [{ lanes := o.addr, bytes := [at_ / 65536, at_ / 256 % 256, at_ % 256] }] else [])
      ++ (if o.mode = true then [{ lanes := o.addr, bytes := data }] else [])
      ++ (if 0 < o.dummy then [{ clocks := o.dummy }] else [])
      ++ (if o.inn = true ∧ data ≠ [] then [{ lanes := o.data, bytes := data }] else [])
      ++ (if 0 < read then [{ lanes := o.data, read := read }] else []))
  else none

structure Ctl where
  regs : List Int := [0, 0, 0]
  out : List Int := []
  inn : List Int := []
  clocks : Int := 0
  goes : Bool := false
  left : Int := -1
  lost : Bool := false
  chip : Chip

def leaving : List Phase := [{ lanes := 4, bytes := [0, 0, 0, 0] }]

/-- Phases, within the bound. -/
def Ctl.drive (k : Ctl) (ps : List Phase) : Ctl × List Int × Int :=
  match driveOn k.chip ps k.left with
  | none => (k, [], 1000)
  | some (c, xs, n, whole) =>
    let k' := { k with chip := c, clocks := k.clocks + n, left := if 0 ≤ k.left then k.left - n else k.left }
    if whole = true then (k', xs, 0) else ({ k' with lost := true }, [], 1101)

def Ctl.run (k : Ctl) (b at_ : Int) (data : List Int) (read : Int) : Ctl × List Int × Int :=
  if k.lost = true then (k, [], 1101)
  else match opOf b with
  | none => (k, [], 1100)
  | some o => match commandOf o at_ data read with
    | none => (k, [], 1100)
    | some ps =>
      let fin := fun (k : Ctl) (ps : List Phase) =>
        match k.drive ps with
        | (k', xs, e) => (if e = 0 then { k' with goes := b = 235 ∧ data.headD 0 = 160 } else k', xs, e)
      if k.goes = true ∧ b = 235 then fin k ps.tail
      else if k.goes = true then
        match k.drive leaving with
        | (k1, _, e) => if e = 0 then fin { k1 with goes := false } ps else (k1, [], e)
      else fin k ps

end Lich
