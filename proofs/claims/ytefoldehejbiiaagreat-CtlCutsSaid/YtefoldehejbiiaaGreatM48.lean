/-
  Walks: a controller that is none; masks of whole numbers.
-/
import Derived.Test.YtefoldehejbiiaaGreatM47

namespace Go.Proofs.YtefoldehejbiiaaGreat
open Go.RowKit Lich

theorem i64_and_some (x : Int) (m : Nat) (hm : m < 4611686018427387904) : ∃ n : Nat, n ≤ m ∧ bits .and .i64 x (m : Int) = n := by
  refine ⟨(BitVec.ofInt 64 x).toNat &&& m, Nat.and_le_right, ?_⟩
  have hx : (BitVec.ofInt 64 x).toNat &&& m ≤ m := Nat.and_le_right
  show IntKind.i64.wrap ((BitVec.ofInt 64 x &&& BitVec.ofInt 64 (m : Int)).toNat : Int) = _
  rw [BitVec.toNat_and, ofInt_i64 m hm, IntKind.wrap_i64]
  omega

theorem run_none (w : World) (bb at_ : Int) (dv : Value) (read : Int) : Calls Tryz.prog 17 #[.pointer none, .int .i64 bb, .int .i64 at_, dv, .int .i64 read] w fun e w' => e = .returned (.tuple #[.slice none 0 0, .int .i64 1]) ∧ w = w' := by
  go_enter Tryz.func17, Tryz.ntmps17
  go_wp2_with fail
  refine (state_none w).mono ?_
  rintro e w' ⟨rfl, rfl⟩
  go_wp2_with fail
  go_ret2
  exact ⟨rfl, rfl⟩

theorem read_none (w : World) (r : Int) : Calls Tryz.prog 15 #[.pointer none, .int .i64 r] w fun e w' => e = .returned (.tuple #[.int .i64 0, .int .i64 1]) ∧ w = w' := by
  go_enter Tryz.func15, Tryz.ntmps15
  go_wp2_with fail
  refine (state_none w).mono ?_
  rintro e w' ⟨rfl, rfl⟩
  go_wp2_with fail
  go_ret2
  exact ⟨rfl, rfl⟩

theorem write_none (w : World) (r x : Int) : Calls Tryz.prog 14 #[.pointer none, .int .i64 r, .int .i64 x] w fun e w' => e = .returned (.int .i64 1) ∧ w = w' := by
  go_enter Tryz.func14, Tryz.ntmps14
  go_wp2_with fail
  refine (state_none w).mono ?_
  rintro e w' ⟨rfl, rfl⟩
  go_wp2_with fail
  go_ret
  exact ⟨rfl, rfl⟩

theorem cut_none (w : World) (n : Int) : Calls Tryz.prog 16 #[.pointer none, .int .i64 n] w fun e w' => e = .returned (.int .i64 1) ∧ w = w' := by
  go_enter Tryz.func16, Tryz.ntmps16
  go_wp2_with fail
  go_ret
  exact ⟨rfl, rfl⟩

theorem clocks_none (w : World) : Calls Tryz.prog 19 #[.pointer none] w fun e w' => e = .returned (.int .i64 0) ∧ w = w' := by
  go_enter Tryz.func19, Tryz.ntmps19
  go_wp2_with fail
  go_ret
  exact ⟨rfl, rfl⟩

theorem lost_none (w : World) : Calls Tryz.prog 20 #[.pointer none] w fun e w' => e = .returned (.bool false) ∧ w = w' := by
  go_enter Tryz.func20, Tryz.ntmps20
  go_wp2_with fail
  go_ret
  exact ⟨rfl, rfl⟩

/-- A new controller, of which so many numbers are queued. -/
def forms (c : Chip) (n : Nat) : Ctl := { Ctl.new c with out := (List.range n).map fun i : Nat => (i : Int) }
theorem forms_fine {c : Chip} (hc : c.Fine) (hs : c.sel = false) {n : Nat} (hn : n ≤ 16) : (forms c n).Fine := by
  have h := Ctl.new_fine hc hs
  refine ⟨h.chip, h.sel, h.regs, h.reg, h.len, ?_, ?_, h.inn, h.clocks, h.left⟩
  · show ((List.range n).map fun i : Nat => (i : Int)).length ≤ 16
    rw [List.length_map, List.length_range]; exact hn
  · intro x hx
    obtain ⟨i, hi, rfl⟩ := List.mem_map.1 (show x ∈ (List.range n).map fun i : Nat => (i : Int) from hx)
    have := List.mem_range.1 hi
    omega
theorem forms_len (c : Chip) (n : Nat) : (forms c n).out.length = n := by
  show ((List.range n).map fun i : Nat => (i : Int)).length = n
  rw [List.length_map, List.length_range]
theorem forms_push (c : Chip) {n : Nat} (hn : n < 16) : (forms c n).write 4 (n : Int) = (forms c (n + 1), 0) := by
  unfold Ctl.write
  have hl : (forms c n).lost = false := rfl
  have hm : regMay 4 (n : Int) = true := by unfold regMay; rw [if_neg (by omega), if_neg (by omega)]; simp; omega
  rw [if_neg (by rw [hl]; simp), if_neg (by rw [hm]; simp), if_pos rfl, if_neg (by rw [forms_len]; omega)]
  refine Prod.ext ?_ rfl
  show ({ Ctl.new c with out := (List.range n).map (fun i : Nat => (i : Int)) ++ [(n : Int)] } : Ctl) = { Ctl.new c with out := (List.range (n + 1)).map fun i : Nat => (i : Int) }
  rw [List.range_succ, List.map_append]
  rfl
theorem forms_full (c : Chip) : (forms c 16).write 4 1 = (forms c 16, 801) := by
  unfold Ctl.write
  have hl : (forms c 16).lost = false := rfl
  rw [if_neg (by rw [hl]; simp), if_neg (by decide), if_pos rfl, if_pos (forms_len c 16)]
theorem forms_len2 (c : Chip) (n : Nat) : (forms c n).read 2 = (forms c n, 0, 0) := rfl
theorem forms_bad (c : Chip) (r x : Int) (h : regMay r x = false) : (forms c 0).write r x = (forms c 0, 1100) := by
  unfold Ctl.write
  have hl : (forms c 0).lost = false := rfl
  rw [if_neg (by rw [hl]; simp), if_pos h]
theorem forms_noreg (c : Chip) (r : Int) (h : r < 0 ∨ 4 < r) : (forms c 0).read r = (forms c 0, 0, 1100) := by
  unfold Ctl.read
  have hl : (forms c 0).lost = false := rfl
  rw [if_neg (by rw [hl]; simp), if_neg (by omega), if_neg (by omega), if_neg (by omega)]
theorem forms_pop (c : Chip) : (forms c 0).read 4 = (forms c 0, 0, 800) := rfl
theorem forms_cut (c : Chip) (n : Int) (h : n < 0) : (forms c 0).cut n = (forms c 0, 1100) := by unfold Ctl.cut; rw [if_pos h]
theorem opOf_big {n : Int} (h : 256 ≤ n) : opOf n = none := by
  cases e : opOf n with
  | none => rfl
  | some o => have := opOf_range e; omega
theorem forms_run (c : Chip) (b at_ : Int) (data : List Int) (read : Int) (h : 256 ≤ b) : (forms c 0).run b at_ data read = (forms c 0, [], 1100) := Ctl.run_none rfl (opOf_big h)
theorem forms_far (c : Chip) (at_ : Int) (h : 4096 ≤ at_) : (forms c 0).run 3 at_ [] 1 = (forms c 0, [], 1100) :=
  Ctl.run_bad (o := { byte := 3, addr := 1, data := 1 }) rfl (by decide) (commandOf_bad (fun hc => by have := hc.a1; omega))
theorem forms_go (c : Chip) : (forms c 0).go = (forms c 0, 1100) := by
  unfold Ctl.go
  have hl : (forms c 0).lost = false := rfl
  rw [if_neg (by rw [hl]; simp), if_neg (c := 16 - ((forms c 0).inn.length : Int) < (forms c 0).regs.getD 2 0) (show ¬ (16 - ((0 : Nat) : Int) < 0) from by decide)]
  have hr : (forms c 0).run ((forms c 0).regs.getD 0 0) ((forms c 0).regs.getD 1 0) (forms c 0).out ((forms c 0).regs.getD 2 0) = (forms c 0, [], 1100) := Ctl.run_none hl (show opOf 0 = none from by decide)
  simp only [hr]
  rw [if_neg (show ¬ ((1100 : Int) = 1101) from by decide)]
  rfl
end Go.Proofs.YtefoldehejbiiaaGreat
