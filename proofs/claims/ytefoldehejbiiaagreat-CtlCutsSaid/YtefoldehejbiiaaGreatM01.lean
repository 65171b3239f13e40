/-
  The chip, the wires and the controller as plain functions over numbers and lists: no program, no memory.
-/
import Derived.RowKit

namespace Lich
open Go.RowKit (wrap64)

structure OpD where
  byte : Int := 0
  addr : Int := 0
  mode : Bool := false
  dummy : Int := 0
  data : Int := 0
  inn : Bool := false
  deriving DecidableEq

def opOf (b : Int) : Option OpD :=
  if b = 4 ∨ b = 6 ∨ b = 117 ∨ b = 122 then some { byte := b }
  else if b = 2 then some { byte := 2, addr := 1, data := 1, inn := true }
  else if b = 1 then some { byte := 1, data := 1, inn := true }
  else if b = 3 then some { byte := 3, addr := 1, data := 1 }
  else if b = 5 ∨ b = 53 ∨ b = 159 then some { byte := b, data := 1 }
  else if b = 32 then some { byte := 32, addr := 1 }
  else if b = 90 then some { byte := 90, addr := 1, dummy := 8, data := 1 }
  else if b = 107 then some { byte := 107, addr := 1, dummy := 8, data := 4 }
  else if b = 235 then some { byte := 235, addr := 4, mode := true, dummy := 4, data := 4 }
  else none

structure Cmd where
  op : OpD := {}
  stage : Int := 0
  left : Int := 0
  got : Int := 0
  addr : Int := 0
  mode : Int := 0
  moded : Bool := false
  data : List Int := []
  told : Int := 0
  now : Int := 0
  beyond : Bool := false

structure Job where
  sector : Int
  page : Int
  data : List UInt8
  left : Int
  susp : Bool

structure Chip where
  cells : List UInt8
  prot : Bool := false
  quad : Bool := false
  wipes : List Int := [0, 0, 0, 0, 0, 0, 0, 0]
  sel : Bool := false
  en : Bool := false
  goes : Bool := false
  job : Option Job := none
  busy : List Int := []
  cmd : Cmd := {}

/-- A mask's byte, over and over. -/
def masked (mask : List UInt8) (i : Nat) : UInt8 := if mask = [] then 0 else mask.getD (i % mask.length) 0

/-- Some bytes are turned. -/
def turned (a : List UInt8) (at_ n : Nat) (f : Nat → UInt8 → UInt8) : List UInt8 :=
  a.mapIdx fun i x => if at_ ≤ i ∧ i < at_ + n then f (i - at_) x else x

def progCut (a : List UInt8) (at_ : Nat) (data mask : List UInt8) : List UInt8 :=
  turned a at_ data.length fun i old => old &&& ~~~(masked mask i &&& ~~~(data.getD i 0))

def eraseCut (a : List UInt8) (sector : Nat) (mask : List UInt8) : List UInt8 :=
  turned a (sector * 512) 512 fun i old => old ||| masked mask i

def Job.cells (j : Job) (a mask : List UInt8) : List UInt8 :=
  if j.sector = -1 then progCut a j.page.toNat j.data mask else eraseCut a j.sector.toNat mask

def Chip.works (c : Chip) : Bool := match c.job with | none => false | some j => !j.susp
def Chip.susp (c : Chip) : Bool := match c.job with | none => false | some j => j.susp

def Chip.pass (c : Chip) : Chip :=
  match c.job with
  | none => c
  | some j =>
    if j.susp = true then c
    else if j.left - 1 ≤ 0 then { c with cells := j.cells c.cells [255], job := none, en := false }
    else { c with job := some { j with left := j.left - 1 } }

def first (busy en prot : Bool) : Int := (if busy then 1 else 0) + (if en then 2 else 0) + (if prot then 4 else 0)
def second (quad susp : Bool) : Int := (if quad then 2 else 0) + (if susp then 128 else 0)
def Chip.st1 (c : Chip) : Int := first c.works c.en c.prot
def Chip.st2 (c : Chip) : Int := second c.quad c.susp

def Chip.takes (c : Chip) (b : Int) : Bool :=
  if b = 5 ∨ b = 53 ∨ b = 117 then true
  else if b = 107 ∨ b = 235 then c.quad && !c.works
  else if b = 1 ∨ b = 2 ∨ b = 32 then c.job.isNone
  else !c.works

def Cmd.enter (m : Cmd) (stage clocks : Int) : Cmd := { m with stage := stage, left := clocks, got := 0 }

def Cmd.behind (m : Cmd) : Cmd :=
  if m.op.mode = true ∧ m.moded = false then m.enter 3 (8 / m.op.addr)
  else if 0 < m.op.dummy ∧ m.stage ≠ 4 then m.enter 4 m.op.dummy
  else if m.op.data = 0 then m.enter 7 0
  else if m.op.inn = true then m.enter 5 (8 / m.op.data)
  else m.enter 6 0

/-- What stands behind a command's byte. -/
def Chip.begins (c : Chip) (b : Int) : Chip :=
  match opOf b with
  | none => { c with cmd := { c.cmd with op := {} }.enter 1 0 }
  | some o =>
    if c.takes b = false then { c with cmd := { c.cmd with op := o }.enter 1 0 }
    else if 0 < o.addr then { c with cmd := { c.cmd with op := o }.enter 2 (24 / o.addr) }
    else { c with cmd := { c.cmd with op := o }.behind }

/-- The table that a chip tells of itself. -/
def table : List UInt8 := [83, 70, 68, 80, 6, 1, 0, 255, 0, 16, 0, 0, 0, 2, 0, 0, 32, 0, 0, 0, 255, 255, 255, 255, 255, 255, 255, 255, 255, 255, 255, 255]

def Chip.byteAt (c : Chip) (i : Int) : Int :=
  if c.cmd.op.byte = 159 then (if i % 3 = 0 then 239 else if i % 3 = 1 then 64 else 12)
  else if c.cmd.op.byte = 5 then c.st1
  else if c.cmd.op.byte = 53 then c.st2
  else if c.cmd.op.byte = 90 then ((table.getD ((c.cmd.addr + i) % 32).toNat 0).toNat : Int)
  else ((c.cells.getD ((c.cmd.addr + i) % 4096).toNat 0).toNat : Int)

/-- The next bits of what comes: the chip behind it; what is said. -/
def Chip.says (c : Chip) : Chip × Int :=
  let fresh := c.cmd.left = 0
  let now := if fresh then c.byteAt c.cmd.told else c.cmd.now
  let left := (if fresh then 8 / c.cmd.op.data else c.cmd.left) - 1
  let told := if fresh then c.cmd.told + 1 else c.cmd.told
  let bits := now / 2 ^ (left * c.cmd.op.data).toNat % 2 ^ c.cmd.op.data.toNat
  ({ c with cmd := { c.cmd with now := now, left := left, told := told } }, if c.cmd.op.data = 1 then 13 + 2 * bits else bits)

/-- A clock of a command. -/
def Chip.step (c : Chip) (inp : Int) : Chip × Int :=
  let m := c.cmd
  if m.stage = 0 then
    let g := m.got * 2 + inp % 2
    let c' := { c with cmd := { m with got := g, left := m.left - 1 } }
    (if m.left - 1 = 0 then c'.begins g else c', 15)
  else if m.stage = 2 then
    let g := m.got * 2 ^ m.op.addr.toNat + inp % 2 ^ m.op.addr.toNat
    let m' := { m with got := g, left := m.left - 1 }
    ({ c with cmd := if m.left - 1 = 0 then { m' with addr := g % 4096 }.behind else m' }, 15)
  else if m.stage = 3 then
    let g := m.got * 2 ^ m.op.addr.toNat + inp % 2 ^ m.op.addr.toNat
    let m' := { m with got := g, left := m.left - 1 }
    ({ c with cmd := if m.left - 1 = 0 then { m' with mode := g, moded := true }.behind else m' }, 15)
  else if m.stage = 4 then
    let m' := { m with left := m.left - 1 }
    ({ c with cmd := if m.left - 1 = 0 then m'.behind else m' }, 15)
  else if m.stage = 5 then
    let g := m.got * 2 ^ m.op.data.toNat + inp % 2 ^ m.op.data.toNat
    let m' := { m with got := g, left := m.left - 1 }
    ({ c with cmd := if m.left - 1 = 0 then { m' with data := m'.data ++ [g] }.behind else m' }, 15)
  else if m.stage = 6 then c.says
  else if m.stage = 7 then ({ c with cmd := { m with beyond := true } }, 15)
  else (c, 15)

def Chip.clock (c : Chip) (inp : Int) : Chip × Int :=
  if c.pass.sel = true then c.pass.step inp else (c.pass, 15)

def Cmd.whole (m : Cmd) : Bool :=
  if m.op.inn = true then m.stage = 5 ∧ m.left = 8 / m.op.data
  else if m.op.data = 0 then m.stage = 7 ∧ m.beyond = false
  else true

/-- The bytes of a page that data tell. -/
def pageOf (addr : Int) (data : List Int) : List UInt8 :=
  data.zipIdx.foldl (fun out (b, i) => out.set ((addr + (i : Int)) % 32).toNat (UInt8.ofInt b)) (List.replicate 32 255)

def Chip.starts (c : Chip) (j : Job) : Chip :=
  if c.en = false then c
  else if c.prot = true ∧ c.cmd.addr < 2048 then { c with en := false }
  else
    let wipes := if j.sector = -1 then c.wipes else c.wipes.set j.sector.toNat (wrap64 (c.wipes.getD j.sector.toNat 0 + 1))
    match c.busy with
    | [] => { c with job := some { j with left := 8 }, wipes := wipes }
    | b :: rest => { c with job := some { j with left := b }, busy := rest, wipes := wipes }

def Chip.ends (c : Chip) : Chip :=
  let m := c.cmd
  if m.stage = 0 ∨ m.stage = 1 ∨ m.whole = false then c
  else if m.op.byte = 6 then { c with en := true }
  else if m.op.byte = 4 then { c with en := false }
  else if m.op.byte = 117 then
    match c.job with
    | some j => if j.sector ≠ -1 then { c with job := some { j with susp := true } } else c
    | none => c
  else if m.op.byte = 122 then
    match c.job with
    | some j => { c with job := some { j with susp := false } }
    | none => c
  else if m.op.byte = 1 then
    match c.en, m.data with
    | true, [x, y] => { c with prot := x / 4 % 2 = 1, quad := y / 2 % 2 = 1, en := false }
    | _, _ => c
  else if m.op.byte = 2 then
    if m.data = [] then c else c.starts { sector := -1, page := m.addr - m.addr % 32, data := pageOf m.addr m.data, left := 0, susp := false }
  else if m.op.byte = 32 then c.starts { sector := m.addr / 512, page := 0, data := [], left := 0, susp := false }
  else if m.op.byte = 235 then { c with goes := m.moded && m.mode = 160 }
  else c

def Chip.select (c : Chip) : Chip :=
  let c1 := { c with sel := true, cmd := { left := 8 } }
  if c.goes = true then c1.begins 235 else c1

def Chip.deselect (c : Chip) : Chip := Chip.ends { c with sel := false }

def Chip.loss (c : Chip) (mask : List UInt8) : Chip :=
  { cells := match c.job with | none => c.cells | some j => j.cells c.cells mask, prot := c.prot, quad := c.quad, wipes := c.wipes }

def Job.Ok (j : Job) : Prop := (j.sector = -1 ∧ 0 ≤ j.page ∧ j.page + j.data.length ≤ 4096) ∨ (0 ≤ j.sector ∧ j.sector < 8)

end Lich
