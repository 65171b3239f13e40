/-
  Walks: may a command have so many data?; a command that may not be.
-/
import Derived.Test.YtefoldehejbiiaaGreatM33

namespace Go.Proofs.YtefoldehejbiiaaGreat
open Go.RowKit Lich

def fitsB (o : OpD) (n : Nat) (read : Int) : Bool := if o.data = 0 then n = 0 ∧ read = 0 else if o.inn = true then read = 0 else if o.mode = true then n = 1 else n = 0

theorem fits_op (o : OpD) (n : Nat) (read : Int) (g : Nat) (w : World) (hg : w.heap[g]? = some (.cells (opArr o) 94 (0, 0))) :
    Calls Tryz.prog 67 #[.pointer (some ⟨g, 0, none⟩), .int .i64 n, .int .i64 read] w fun e w' => e = .returned (.bool (fitsB o n read)) ∧ w = w' := by
  obtain ⟨g0, g1, g2, g3, g4, g5⟩ := six_cells (a0 := .int .i64 o.byte) hg
  obtain ⟨y0, y1, y2, y3, y4, y5⟩ := o
  simp only at g0 g1 g2 g3 g4 g5
  clear hg
  by_cases h0 : y4 = 0
  · subst h0
    by_cases hn : n = 0
    · subst hn
      go_enter Tryz.func67, Tryz.ntmps67
      go_wp2_with fail
      go_ret
      exact ⟨ret_bool (by simp [fitsB, Bool.beq_eq_decide_eq]), rfl⟩
    · have hn' : ((n : Int) == 0) = false := by simp; omega
      go_enter Tryz.func67, Tryz.ntmps67
      go_wp2_with fail
      go_ret
      exact ⟨ret_bool (by simp [fitsB, hn]), rfl⟩
  · have h0' : (y4 == 0) = false := by simp [h0]
    cases y5
    · cases y2
      · go_enter Tryz.func67, Tryz.ntmps67
        go_wp2_with fail
        go_ret
        exact ⟨ret_bool (by simp [fitsB, h0, Bool.beq_eq_decide_eq]), rfl⟩
      · go_enter Tryz.func67, Tryz.ntmps67
        go_wp2_with fail
        go_ret
        exact ⟨ret_bool (by simp [fitsB, h0, Bool.beq_eq_decide_eq]; omega), rfl⟩
    · go_enter Tryz.func67, Tryz.ntmps67
      go_wp2_with fail
      go_ret
      exact ⟨ret_bool (by simp [fitsB, h0, Bool.beq_eq_decide_eq]), rfl⟩

def cmdPhases (o : OpD) (at_ : Int) (data : List Int) (read : Int) : List Phase :=
  [{ lanes := 1, bytes := [o.byte] }]
      ++ (if 0 < o.addr then [{ lanes := o.addr, bytes := [at_ / 65536, at_ / 256 % 256, at_ % 256] }] else [])
      ++ (if o.mode = true then [{ lanes := o.addr, bytes := data }] else [])
      ++ (if 0 < o.dummy then [{ clocks := o.dummy }] else [])
      ++ (if o.inn = true ∧ data ≠ [] then [{ lanes := o.data, bytes := data }] else [])
      ++ (if 0 < read then [{ lanes := o.data, read := read }] else [])

theorem cmdPhases_out {o : OpD} {at_ : Int} {data : List Int} {read : Int} (h : ¬ (o.inn = true ∧ data ≠ [])) : cmdPhases o at_ data read =
  [{ lanes := 1, bytes := [o.byte] }]
      ++ (if 0 < o.addr then [{ lanes := o.addr, bytes := [at_ / 65536, at_ / 256 % 256, at_ % 256] }] else [])
      ++ (if o.mode = true then [{ lanes := o.addr, bytes := data }] else [])
      ++ (if 0 < o.dummy then [{ clocks := o.dummy }] else [])
      ++ (if 0 < read then [{ lanes := o.data, read := read }] else []) := by
  unfold cmdPhases
  rw [if_neg (c := o.inn = true ∧ data ≠ []) h, List.append_nil]

theorem cmdPhases_inn {o : OpD} {at_ : Int} {data : List Int} {read : Int} (h1 : o.inn = true) (h2 : data ≠ []) : cmdPhases o at_ data read =
  [{ lanes := 1, bytes := [o.byte] }]
      ++ (if 0 < o.addr then [{ lanes := o.addr, bytes := [at_ / 65536, at_ / 256 % 256, at_ % 256] }] else [])
      ++ (if o.mode = true then [{ lanes := o.addr, bytes := data }] else [])
      ++ (if 0 < o.dummy then [{ clocks := o.dummy }] else [])
      ++ (if data ≠ [] then [{ lanes := o.data, bytes := data }] else [])
      ++ (if 0 < read then [{ lanes := o.data, read := read }] else []) := by
  unfold cmdPhases
  rw [if_pos (c := o.inn = true ∧ data ≠ []) ⟨h1, h2⟩, if_pos (c := data ≠ []) h2]

/-- May a command be so? -/
structure CmdOk (o : OpD) (at_ : Int) (data : List Int) (read : Int) : Prop where
  a0 : 0 ≤ at_
  a1 : at_ < 4096
  a2 : ¬ (o.addr = 0 ∧ at_ ≠ 0)
  d0 : data.length ≤ 512
  d1 : data.any notByte = false
  r0 : 0 ≤ read
  r1 : read ≤ 512
  f : fitsB o data.length read = true

theorem all_notByte (data : List Int) : data.all (fun b => decide (0 ≤ b ∧ b < 256)) = !data.any notByte := by
  induction data with
  | nil => rfl
  | cons x xs ih => rw [List.all_cons, List.any_cons, ih]; simp [notByte, Bool.not_or]

theorem fitsB_eq (o : OpD) (data : List Int) (read : Int) : (fitsB o data.length read = true) = (if o.data = 0 then data = [] ∧ read = 0 else if o.inn = true then read = 0 else if o.mode = true then data.length = 1 else data = []) := by
  unfold fitsB
  split
  · simp
  · split
    · simp
    · split <;> simp

theorem commandOf_good {o : OpD} (ho : opOf o.byte = some o) {at_ : Int} {data : List Int} {read : Int} (h : CmdOk o at_ data read) : commandOf o at_ data read = some (cmdPhases o at_ data read) := by
  unfold commandOf
  rw [if_pos]
  · rfl
  · refine ⟨ho, h.a0, h.a1, h.a2, h.d0, by rw [all_notByte, h.d1]; rfl, h.r0, h.r1, ?_⟩
    have := fitsB_eq o data read
    rw [← this]
    exact h.f

theorem commandOf_bad {o : OpD} {at_ : Int} {data : List Int} {read : Int} (h : ¬ CmdOk o at_ data read) : commandOf o at_ data read = none := by
  unfold commandOf
  rw [if_neg]
  rintro ⟨_, h0, h1, h2, h3, h4, h5, h6, h7⟩
  refine h ⟨h0, h1, h2, h3, ?_, h5, h6, ?_⟩
  · rw [all_notByte] at h4
    simpa using h4
  · rw [fitsB_eq]; exact h7

set_option maxRecDepth 100000 in
set_option maxHeartbeats 2000000 in
/-- No command: the walk ends at once. -/
theorem command_none (at_ : Int) (dv : Value) (read : Int) (w : World) :
    Calls Tryz.prog 45 #[opVal {}, .int .i64 at_, dv, .int .i64 read] w fun e w' => e = .returned (.tuple #[.slice none 0 0, .int .i64 900]) ∧ Below w.heap.size w w' := by
  have hc := opOf_calls 0 (w.alloc (.cells #[.int .i64 0, .int .i64 0, .bool false, .int .i64 0, .int .i64 0, .bool false] 94))
  rw [show opOf 0 = none from by decide] at hc
  simp only [Option.getD_none, Option.isSome_none, Bool.false_eq_true, ↓reduceIte, opVal] at hc ⊢
  have HC := Lib.hid hc
  clear hc
  go_enter Tryz.func45, Tryz.ntmps45
  go_wp2_with fail
  refine HC.out.mono ?_
  rintro e w1 ⟨rfl, hb⟩
  have hB : Below w.heap.size w w1 := (below_new (Below.refl _ w) _).trans (hb.mono (by simp))
  have HB := Lib.hid hB
  clear hb hB
  go_wp2_with fail
  go_ret2
  exact ⟨rfl, below_new HB.out _⟩
end Go.Proofs.YtefoldehejbiiaaGreat
