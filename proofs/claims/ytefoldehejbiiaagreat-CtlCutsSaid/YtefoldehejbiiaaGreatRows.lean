/-
  No cell of these rows narrows 'for every input' (looked for: loops, veiled, ifaces, maps, wideKeys, modest, calm, conditions, laid).
  DERIVED. THE GIVEN ROWS OF THIS SEAT. 7 by the template 'for every input the law returns true; each argument reads behind the call as it read before'; 0 by the template 'total and deterministic' (their statements: YtefoldehejbiiaaGreatTotals.lean).
  GIVEN WITH THE SEED: the statements are not yours to turn. If you find one false, say at which input.
  Laid BY PROGRAM, IN A SANDBOX (cutbox-rows.mjs): the forced cells as the released guide's own fill.sh prints them over the translation 359d72ab797d4ac5… (all of the seat's roots in one cut). By AI agents, Wed Nov 11 2026. No macro, syntax, notation, axiom, sorry.
-/
import Derived.Test.YtefoldehejbiiaaGreatChecked
import GoSem.Claim
import GoSem.ClaimJoined
import GoSem.ClaimMapViews
import Derived.JoinedTies
import Derived.KernelRfl
namespace Go.Proofs.YtefoldehejbiiaaGreat
/- THE CELL 'sum', in the pinned program and in every row, IS THE sha256 OF THE DUMP (.gsa) THAT YtefoldehejbiiaaGreatProg.lean LOADS. Nothing in Lean hashes anything: it is a label: what it is worth is what the hold of that sum in a sandbox is worth. -/
noncomputable def Tryz.pinned : Pinned := { name := "ytefoldehejbiiaagreat", sum := "359d72ab797d4ac5a8840d173fde4a695b17943a941875c47d330b0fd5d205ca", checked := Tryz.checked }
namespace Rows
def none {H : Type} : Left H := { results := [], args := [] }

/-- 'lichenlaw11.CtlForms': WHATEVER THE INPUT: true; the input reads as it did. -/
def ctlFormsSpec : ChangeSpec := { name := "ctlForms", fn := fun _ => fun
  | [d1, d2] => { results := [.lit (.bool true)], args := [d1, d2] }
  | _ => none }
def ctlFormsRow : OpenClaim := { program := "ytefoldehejbiiaagreat", sum := "359d72ab797d4ac5a8840d173fde4a695b17943a941875c47d330b0fd5d205ca", func := "lichen/lichenlaw11.CtlForms", spec := "ctlForms", inPlace := ["sync/atomic.LoadUint32", "(*internal/sync.Mutex).Lock", "internal/race.Disable", "sync/atomic.CompareAndSwapInt32", "internal/race.Enable", "internal/race.Acquire", "(*internal/sync.Mutex).lockSlow", "internal/sync.runtime_canSpin", "internal/sync.runtime_doSpin", "internal/sync.throw", "internal/sync.runtime_nanotime", "internal/sync.runtime_SemacquireMutex", "sync/atomic.AddInt32", "(*internal/sync.Mutex).Unlock", "internal/race.ReleaseMerge", "(*internal/sync.Mutex).unlockSlow", "internal/sync.fatal", "internal/sync.runtime_Semrelease", "sync/atomic.StoreUint32", "internal/abi.NoEscape", "internal/bytealg.MakeNoZero"], unfollowed := true, recurses := true, apart := false }
def CtlFormsSaid : Prop := ctlFormsRow.holds Tryz.pinned (OpenSpec.ofChange ctlFormsSpec)

/-- ITS FALSE NEIGHBOUR: 'it returns false'. Refute it at one input. -/
def ctlFormsWrong : ChangeSpec := { name := "ctlForms", fn := fun _ => fun
  | [d1, d2] => { results := [.lit (.bool false)], args := [d1, d2] }
  | _ => none }
def CtlFormsWrongFalsely : Prop := ctlFormsRow.holds Tryz.pinned (OpenSpec.ofChange ctlFormsWrong)

/-- 'lichenlaw11.CtlGoes': WHATEVER THE INPUT: true; the input reads as it did. -/
def ctlGoesSpec : ChangeSpec := { name := "ctlGoes", fn := fun _ => fun
  | [d1, d2, d3, d4] => { results := [.lit (.bool true)], args := [d1, d2, d3, d4] }
  | _ => none }
def ctlGoesRow : OpenClaim := { program := "ytefoldehejbiiaagreat", sum := "359d72ab797d4ac5a8840d173fde4a695b17943a941875c47d330b0fd5d205ca", func := "lichen/lichenlaw11.CtlGoes", spec := "ctlGoes", inPlace := ["sync/atomic.LoadUint32", "(*internal/sync.Mutex).Lock", "internal/race.Disable", "sync/atomic.CompareAndSwapInt32", "internal/race.Enable", "internal/race.Acquire", "(*internal/sync.Mutex).lockSlow", "internal/sync.runtime_canSpin", "internal/sync.runtime_doSpin", "internal/sync.throw", "internal/sync.runtime_nanotime", "internal/sync.runtime_SemacquireMutex", "sync/atomic.AddInt32", "(*internal/sync.Mutex).Unlock", "internal/race.ReleaseMerge", "(*internal/sync.Mutex).unlockSlow", "internal/sync.fatal", "internal/sync.runtime_Semrelease", "sync/atomic.StoreUint32", "internal/abi.NoEscape", "internal/bytealg.MakeNoZero"], unfollowed := true, recurses := true, apart := false }
def CtlGoesSaid : Prop := ctlGoesRow.holds Tryz.pinned (OpenSpec.ofChange ctlGoesSpec)

/-- ITS FALSE NEIGHBOUR: 'it returns false'. Refute it at one input. -/
def ctlGoesWrong : ChangeSpec := { name := "ctlGoes", fn := fun _ => fun
  | [d1, d2, d3, d4] => { results := [.lit (.bool false)], args := [d1, d2, d3, d4] }
  | _ => none }
def CtlGoesWrongFalsely : Prop := ctlGoesRow.holds Tryz.pinned (OpenSpec.ofChange ctlGoesWrong)

/-- 'lichenlaw11.CtlCuts': WHATEVER THE INPUT: true; the input reads as it did. -/
def ctlCutsSpec : ChangeSpec := { name := "ctlCuts", fn := fun _ => fun
  | [d1, d2] => { results := [.lit (.bool true)], args := [d1, d2] }
  | _ => none }
def ctlCutsRow : OpenClaim := { program := "ytefoldehejbiiaagreat", sum := "359d72ab797d4ac5a8840d173fde4a695b17943a941875c47d330b0fd5d205ca", func := "lichen/lichenlaw11.CtlCuts", spec := "ctlCuts", inPlace := ["sync/atomic.LoadUint32", "(*internal/sync.Mutex).Lock", "internal/race.Disable", "sync/atomic.CompareAndSwapInt32", "internal/race.Enable", "internal/race.Acquire", "(*internal/sync.Mutex).lockSlow", "internal/sync.runtime_canSpin", "internal/sync.runtime_doSpin", "internal/sync.throw", "internal/sync.runtime_nanotime", "internal/sync.runtime_SemacquireMutex", "sync/atomic.AddInt32", "(*internal/sync.Mutex).Unlock", "internal/race.ReleaseMerge", "(*internal/sync.Mutex).unlockSlow", "internal/sync.fatal", "internal/sync.runtime_Semrelease", "sync/atomic.StoreUint32", "internal/abi.NoEscape", "internal/bytealg.MakeNoZero"], unfollowed := true, recurses := true, apart := false }
def CtlCutsSaid : Prop := ctlCutsRow.holds Tryz.pinned (OpenSpec.ofChange ctlCutsSpec)

/-- ITS FALSE NEIGHBOUR: 'it returns false'. Refute it at one input. -/
def ctlCutsWrong : ChangeSpec := { name := "ctlCuts", fn := fun _ => fun
  | [d1, d2] => { results := [.lit (.bool false)], args := [d1, d2] }
  | _ => none }
def CtlCutsWrongFalsely : Prop := ctlCutsRow.holds Tryz.pinned (OpenSpec.ofChange ctlCutsWrong)

/-- 'lichenlaw11.CtlExit': WHATEVER THE INPUT: true; the input reads as it did. -/
def ctlExitSpec : ChangeSpec := { name := "ctlExit", fn := fun _ => fun
  | [d1, d2] => { results := [.lit (.bool true)], args := [d1, d2] }
  | _ => none }
def ctlExitRow : OpenClaim := { program := "ytefoldehejbiiaagreat", sum := "359d72ab797d4ac5a8840d173fde4a695b17943a941875c47d330b0fd5d205ca", func := "lichen/lichenlaw11.CtlExit", spec := "ctlExit", inPlace := ["sync/atomic.LoadUint32", "(*internal/sync.Mutex).Lock", "internal/race.Disable", "sync/atomic.CompareAndSwapInt32", "internal/race.Enable", "internal/race.Acquire", "(*internal/sync.Mutex).lockSlow", "internal/sync.runtime_canSpin", "internal/sync.runtime_doSpin", "internal/sync.throw", "internal/sync.runtime_nanotime", "internal/sync.runtime_SemacquireMutex", "sync/atomic.AddInt32", "(*internal/sync.Mutex).Unlock", "internal/race.ReleaseMerge", "(*internal/sync.Mutex).unlockSlow", "internal/sync.fatal", "internal/sync.runtime_Semrelease", "sync/atomic.StoreUint32", "internal/abi.NoEscape", "internal/bytealg.MakeNoZero"], unfollowed := true, recurses := true, apart := false }
def CtlExitSaid : Prop := ctlExitRow.holds Tryz.pinned (OpenSpec.ofChange ctlExitSpec)

/-- ITS FALSE NEIGHBOUR: 'it returns false'. Refute it at one input. -/
def ctlExitWrong : ChangeSpec := { name := "ctlExit", fn := fun _ => fun
  | [d1, d2] => { results := [.lit (.bool false)], args := [d1, d2] }
  | _ => none }
def CtlExitWrongFalsely : Prop := ctlExitRow.holds Tryz.pinned (OpenSpec.ofChange ctlExitWrong)

/-- 'lichenlaw11.CtlSaves': WHATEVER THE INPUT: true; the input reads as it did. -/
def ctlSavesSpec : ChangeSpec := { name := "ctlSaves", fn := fun _ => fun
  | [d1, d2] => { results := [.lit (.bool true)], args := [d1, d2] }
  | _ => none }
def ctlSavesRow : OpenClaim := { program := "ytefoldehejbiiaagreat", sum := "359d72ab797d4ac5a8840d173fde4a695b17943a941875c47d330b0fd5d205ca", func := "lichen/lichenlaw11.CtlSaves", spec := "ctlSaves", inPlace := ["sync/atomic.LoadUint32", "(*internal/sync.Mutex).Lock", "internal/race.Disable", "sync/atomic.CompareAndSwapInt32", "internal/race.Enable", "internal/race.Acquire", "(*internal/sync.Mutex).lockSlow", "internal/sync.runtime_canSpin", "internal/sync.runtime_doSpin", "internal/sync.throw", "internal/sync.runtime_nanotime", "internal/sync.runtime_SemacquireMutex", "sync/atomic.AddInt32", "(*internal/sync.Mutex).Unlock", "internal/race.ReleaseMerge", "(*internal/sync.Mutex).unlockSlow", "internal/sync.fatal", "internal/sync.runtime_Semrelease", "sync/atomic.StoreUint32", "internal/abi.NoEscape", "internal/bytealg.MakeNoZero"], unfollowed := true, recurses := true, apart := false }
def CtlSavesSaid : Prop := ctlSavesRow.holds Tryz.pinned (OpenSpec.ofChange ctlSavesSpec)

/-- ITS FALSE NEIGHBOUR: 'it returns false'. Refute it at one input. -/
def ctlSavesWrong : ChangeSpec := { name := "ctlSaves", fn := fun _ => fun
  | [d1, d2] => { results := [.lit (.bool false)], args := [d1, d2] }
  | _ => none }
def CtlSavesWrongFalsely : Prop := ctlSavesRow.holds Tryz.pinned (OpenSpec.ofChange ctlSavesWrong)

/-- 'lichenlaw11.CtlModes': WHATEVER THE INPUT: true; the input reads as it did. -/
def ctlModesSpec : ChangeSpec := { name := "ctlModes", fn := fun _ => fun
  | [d1, d2, d3, d4] => { results := [.lit (.bool true)], args := [d1, d2, d3, d4] }
  | _ => none }
def ctlModesRow : OpenClaim := { program := "ytefoldehejbiiaagreat", sum := "359d72ab797d4ac5a8840d173fde4a695b17943a941875c47d330b0fd5d205ca", func := "lichen/lichenlaw11.CtlModes", spec := "ctlModes", inPlace := ["sync/atomic.LoadUint32", "(*internal/sync.Mutex).Lock", "internal/race.Disable", "sync/atomic.CompareAndSwapInt32", "internal/race.Enable", "internal/race.Acquire", "(*internal/sync.Mutex).lockSlow", "internal/sync.runtime_canSpin", "internal/sync.runtime_doSpin", "internal/sync.throw", "internal/sync.runtime_nanotime", "internal/sync.runtime_SemacquireMutex", "sync/atomic.AddInt32", "(*internal/sync.Mutex).Unlock", "internal/race.ReleaseMerge", "(*internal/sync.Mutex).unlockSlow", "internal/sync.fatal", "internal/sync.runtime_Semrelease", "sync/atomic.StoreUint32", "internal/abi.NoEscape", "internal/bytealg.MakeNoZero"], unfollowed := true, recurses := true, apart := false }
def CtlModesSaid : Prop := ctlModesRow.holds Tryz.pinned (OpenSpec.ofChange ctlModesSpec)

/-- ITS FALSE NEIGHBOUR: 'it returns false'. Refute it at one input. -/
def ctlModesWrong : ChangeSpec := { name := "ctlModes", fn := fun _ => fun
  | [d1, d2, d3, d4] => { results := [.lit (.bool false)], args := [d1, d2, d3, d4] }
  | _ => none }
def CtlModesWrongFalsely : Prop := ctlModesRow.holds Tryz.pinned (OpenSpec.ofChange ctlModesWrong)

/-- 'lichenlaw11.Ctls': WHATEVER THE INPUT: true; the input reads as it did. -/
def ctlsSpec : ChangeSpec := { name := "ctls", fn := fun _ => fun
  | [d1, d2] => { results := [.lit (.bool true)], args := [d1, d2] }
  | _ => none }
def ctlsRow : OpenClaim := { program := "ytefoldehejbiiaagreat", sum := "359d72ab797d4ac5a8840d173fde4a695b17943a941875c47d330b0fd5d205ca", func := "lichen/lichenlaw11.Ctls", spec := "ctls", inPlace := ["sync/atomic.LoadUint32", "(*internal/sync.Mutex).Lock", "internal/race.Disable", "sync/atomic.CompareAndSwapInt32", "internal/race.Enable", "internal/race.Acquire", "(*internal/sync.Mutex).lockSlow", "internal/sync.runtime_canSpin", "internal/sync.runtime_doSpin", "internal/sync.throw", "internal/sync.runtime_nanotime", "internal/sync.runtime_SemacquireMutex", "sync/atomic.AddInt32", "(*internal/sync.Mutex).Unlock", "internal/race.ReleaseMerge", "(*internal/sync.Mutex).unlockSlow", "internal/sync.fatal", "internal/sync.runtime_Semrelease", "sync/atomic.StoreUint32", "internal/abi.NoEscape", "internal/bytealg.MakeNoZero"], unfollowed := true, recurses := true, apart := false }
def CtlsSaid : Prop := ctlsRow.holds Tryz.pinned (OpenSpec.ofChange ctlsSpec)

/-- ITS FALSE NEIGHBOUR: 'it returns false'. Refute it at one input. -/
def ctlsWrong : ChangeSpec := { name := "ctls", fn := fun _ => fun
  | [d1, d2] => { results := [.lit (.bool false)], args := [d1, d2] }
  | _ => none }
def CtlsWrongFalsely : Prop := ctlsRow.holds Tryz.pinned (OpenSpec.ofChange ctlsWrong)

/- THE SECOND FORM. 'bulk': how many values and letters a reading holds, each counted each time it is reached (what is shared counts as often as it is met; a slice's spare places count too). A statement '..UptoSaid' is the law's where the arguments, and the package variables that the reading takes, are together of bulk at most 1048576: NARROWER than '..Said'. Prove '..Said' where nothing that the law and all that it calls make is longer than what came in: it says more and counts as full. Else prove '..UptoSaid'. A law counts once. -/
mutual
def uptoBulk {H : Type} : DataW H → Nat
  | .lit (.string bytes) => bytes.length + 1
  | .lit _ => 1
  | .nil => 1
  | .ptr d => uptoBulk d + 1
  | .slice elems spare => uptoBulkAll elems + uptoBulkAll spare + 1
  | .agg parts => uptoBulkAll parts + 1
  | .iface _ d => uptoBulk d + 1
  | .map entries => uptoBulkEntries entries + 1
  | .held _ => 1
def uptoBulkAll {H : Type} : List (DataW H) → Nat
  | [] => 0
  | d :: r => uptoBulk d + uptoBulkAll r
def uptoBulkEntries {H : Type} : List (Lit × DataW H) → Nat
  | [] => 0
  | x :: r => uptoBulkEntry x + uptoBulkEntries r
def uptoBulkEntry {H : Type} : Lit × DataW H → Nat
  | (.string bytes, d) => bytes.length + uptoBulk d + 1
  | (_, d) => uptoBulk d + 1
 end
def uptoSmall : (H : Type) → List (DataW H) → Bool := fun _ ds => decide (uptoBulkAll ds ≤ 1048576)
def OpenSpec.upto (s : _root_.Go.ChangeSpec) : _root_.Go.OpenSpec := { _root_.Go.OpenSpec.ofChange s with cond := some uptoSmall }

/-- 'lichenlaw11.CtlForms', WHERE WHAT IT READS IS OF BULK AT MOST 1048576: true; the input reads as it did. -/
def ctlFormsUptoRow : OpenClaim := { program := "ytefoldehejbiiaagreat", sum := "359d72ab797d4ac5a8840d173fde4a695b17943a941875c47d330b0fd5d205ca", func := "lichen/lichenlaw11.CtlForms", spec := "ctlForms", inPlace := ["sync/atomic.LoadUint32", "(*internal/sync.Mutex).Lock", "internal/race.Disable", "sync/atomic.CompareAndSwapInt32", "internal/race.Enable", "internal/race.Acquire", "(*internal/sync.Mutex).lockSlow", "internal/sync.runtime_canSpin", "internal/sync.runtime_doSpin", "internal/sync.throw", "internal/sync.runtime_nanotime", "internal/sync.runtime_SemacquireMutex", "sync/atomic.AddInt32", "(*internal/sync.Mutex).Unlock", "internal/race.ReleaseMerge", "(*internal/sync.Mutex).unlockSlow", "internal/sync.fatal", "internal/sync.runtime_Semrelease", "sync/atomic.StoreUint32", "internal/abi.NoEscape", "internal/bytealg.MakeNoZero"], unfollowed := true, recurses := true, apart := false, narrowed := true }
def CtlFormsUptoSaid : Prop := ctlFormsUptoRow.holds Tryz.pinned (OpenSpec.upto ctlFormsSpec)

/-- 'lichenlaw11.CtlGoes', WHERE WHAT IT READS IS OF BULK AT MOST 1048576: true; the input reads as it did. -/
def ctlGoesUptoRow : OpenClaim := { program := "ytefoldehejbiiaagreat", sum := "359d72ab797d4ac5a8840d173fde4a695b17943a941875c47d330b0fd5d205ca", func := "lichen/lichenlaw11.CtlGoes", spec := "ctlGoes", inPlace := ["sync/atomic.LoadUint32", "(*internal/sync.Mutex).Lock", "internal/race.Disable", "sync/atomic.CompareAndSwapInt32", "internal/race.Enable", "internal/race.Acquire", "(*internal/sync.Mutex).lockSlow", "internal/sync.runtime_canSpin", "internal/sync.runtime_doSpin", "internal/sync.throw", "internal/sync.runtime_nanotime", "internal/sync.runtime_SemacquireMutex", "sync/atomic.AddInt32", "(*internal/sync.Mutex).Unlock", "internal/race.ReleaseMerge", "(*internal/sync.Mutex).unlockSlow", "internal/sync.fatal", "internal/sync.runtime_Semrelease", "sync/atomic.StoreUint32", "internal/abi.NoEscape", "internal/bytealg.MakeNoZero"], unfollowed := true, recurses := true, apart := false, narrowed := true }
def CtlGoesUptoSaid : Prop := ctlGoesUptoRow.holds Tryz.pinned (OpenSpec.upto ctlGoesSpec)

/-- 'lichenlaw11.CtlCuts', WHERE WHAT IT READS IS OF BULK AT MOST 1048576: true; the input reads as it did. -/
def ctlCutsUptoRow : OpenClaim := { program := "ytefoldehejbiiaagreat", sum := "359d72ab797d4ac5a8840d173fde4a695b17943a941875c47d330b0fd5d205ca", func := "lichen/lichenlaw11.CtlCuts", spec := "ctlCuts", inPlace := ["sync/atomic.LoadUint32", "(*internal/sync.Mutex).Lock", "internal/race.Disable", "sync/atomic.CompareAndSwapInt32", "internal/race.Enable", "internal/race.Acquire", "(*internal/sync.Mutex).lockSlow", "internal/sync.runtime_canSpin", "internal/sync.runtime_doSpin", "internal/sync.throw", "internal/sync.runtime_nanotime", "internal/sync.runtime_SemacquireMutex", "sync/atomic.AddInt32", "(*internal/sync.Mutex).Unlock", "internal/race.ReleaseMerge", "(*internal/sync.Mutex).unlockSlow", "internal/sync.fatal", "internal/sync.runtime_Semrelease", "sync/atomic.StoreUint32", "internal/abi.NoEscape", "internal/bytealg.MakeNoZero"], unfollowed := true, recurses := true, apart := false, narrowed := true }
def CtlCutsUptoSaid : Prop := ctlCutsUptoRow.holds Tryz.pinned (OpenSpec.upto ctlCutsSpec)

/-- 'lichenlaw11.CtlExit', WHERE WHAT IT READS IS OF BULK AT MOST 1048576: true; the input reads as it did. -/
def ctlExitUptoRow : OpenClaim := { program := "ytefoldehejbiiaagreat", sum := "359d72ab797d4ac5a8840d173fde4a695b17943a941875c47d330b0fd5d205ca", func := "lichen/lichenlaw11.CtlExit", spec := "ctlExit", inPlace := ["sync/atomic.LoadUint32", "(*internal/sync.Mutex).Lock", "internal/race.Disable", "sync/atomic.CompareAndSwapInt32", "internal/race.Enable", "internal/race.Acquire", "(*internal/sync.Mutex).lockSlow", "internal/sync.runtime_canSpin", "internal/sync.runtime_doSpin", "internal/sync.throw", "internal/sync.runtime_nanotime", "internal/sync.runtime_SemacquireMutex", "sync/atomic.AddInt32", "(*internal/sync.Mutex).Unlock", "internal/race.ReleaseMerge", "(*internal/sync.Mutex).unlockSlow", "internal/sync.fatal", "internal/sync.runtime_Semrelease", "sync/atomic.StoreUint32", "internal/abi.NoEscape", "internal/bytealg.MakeNoZero"], unfollowed := true, recurses := true, apart := false, narrowed := true }
def CtlExitUptoSaid : Prop := ctlExitUptoRow.holds Tryz.pinned (OpenSpec.upto ctlExitSpec)

/-- 'lichenlaw11.CtlSaves', WHERE WHAT IT READS IS OF BULK AT MOST 1048576: true; the input reads as it did. -/
def ctlSavesUptoRow : OpenClaim := { program := "ytefoldehejbiiaagreat", sum := "359d72ab797d4ac5a8840d173fde4a695b17943a941875c47d330b0fd5d205ca", func := "lichen/lichenlaw11.CtlSaves", spec := "ctlSaves", inPlace := ["sync/atomic.LoadUint32", "(*internal/sync.Mutex).Lock", "internal/race.Disable", "sync/atomic.CompareAndSwapInt32", "internal/race.Enable", "internal/race.Acquire", "(*internal/sync.Mutex).lockSlow", "internal/sync.runtime_canSpin", "internal/sync.runtime_doSpin", "internal/sync.throw", "internal/sync.runtime_nanotime", "internal/sync.runtime_SemacquireMutex", "sync/atomic.AddInt32", "(*internal/sync.Mutex).Unlock", "internal/race.ReleaseMerge", "(*internal/sync.Mutex).unlockSlow", "internal/sync.fatal", "internal/sync.runtime_Semrelease", "sync/atomic.StoreUint32", "internal/abi.NoEscape", "internal/bytealg.MakeNoZero"], unfollowed := true, recurses := true, apart := false, narrowed := true }
def CtlSavesUptoSaid : Prop := ctlSavesUptoRow.holds Tryz.pinned (OpenSpec.upto ctlSavesSpec)

/-- 'lichenlaw11.CtlModes', WHERE WHAT IT READS IS OF BULK AT MOST 1048576: true; the input reads as it did. -/
def ctlModesUptoRow : OpenClaim := { program := "ytefoldehejbiiaagreat", sum := "359d72ab797d4ac5a8840d173fde4a695b17943a941875c47d330b0fd5d205ca", func := "lichen/lichenlaw11.CtlModes", spec := "ctlModes", inPlace := ["sync/atomic.LoadUint32", "(*internal/sync.Mutex).Lock", "internal/race.Disable", "sync/atomic.CompareAndSwapInt32", "internal/race.Enable", "internal/race.Acquire", "(*internal/sync.Mutex).lockSlow", "internal/sync.runtime_canSpin", "internal/sync.runtime_doSpin", "internal/sync.throw", "internal/sync.runtime_nanotime", "internal/sync.runtime_SemacquireMutex", "sync/atomic.AddInt32", "(*internal/sync.Mutex).Unlock", "internal/race.ReleaseMerge", "(*internal/sync.Mutex).unlockSlow", "internal/sync.fatal", "internal/sync.runtime_Semrelease", "sync/atomic.StoreUint32", "internal/abi.NoEscape", "internal/bytealg.MakeNoZero"], unfollowed := true, recurses := true, apart := false, narrowed := true }
def CtlModesUptoSaid : Prop := ctlModesUptoRow.holds Tryz.pinned (OpenSpec.upto ctlModesSpec)

/-- 'lichenlaw11.Ctls', WHERE WHAT IT READS IS OF BULK AT MOST 1048576: true; the input reads as it did. -/
def ctlsUptoRow : OpenClaim := { program := "ytefoldehejbiiaagreat", sum := "359d72ab797d4ac5a8840d173fde4a695b17943a941875c47d330b0fd5d205ca", func := "lichen/lichenlaw11.Ctls", spec := "ctls", inPlace := ["sync/atomic.LoadUint32", "(*internal/sync.Mutex).Lock", "internal/race.Disable", "sync/atomic.CompareAndSwapInt32", "internal/race.Enable", "internal/race.Acquire", "(*internal/sync.Mutex).lockSlow", "internal/sync.runtime_canSpin", "internal/sync.runtime_doSpin", "internal/sync.throw", "internal/sync.runtime_nanotime", "internal/sync.runtime_SemacquireMutex", "sync/atomic.AddInt32", "(*internal/sync.Mutex).Unlock", "internal/race.ReleaseMerge", "(*internal/sync.Mutex).unlockSlow", "internal/sync.fatal", "internal/sync.runtime_Semrelease", "sync/atomic.StoreUint32", "internal/abi.NoEscape", "internal/bytealg.MakeNoZero"], unfollowed := true, recurses := true, apart := false, narrowed := true }
def CtlsUptoSaid : Prop := ctlsUptoRow.holds Tryz.pinned (OpenSpec.upto ctlsSpec)

end Rows
end Go.Proofs.YtefoldehejbiiaaGreat
