/-
  Walks: a command that may not be so, though there is one.
-/
import Derived.Test.YtefoldehejbiiaaGreatM34
import Derived.Laws.StructEq

namespace Go.Proofs.YtefoldehejbiiaaGreat
open Go.RowKit Lich

/-- A command that is read out of its own bytes is itself. -/
theorem op_same (y0 y1 y3 y4 : Int) (y2 y5 : Bool) (w : World) :
    (binOp .neq 94 (.agg #[.int .i64 y0, .int .i64 y1, .bool y2, .int .i64 y3, .int .i64 y4, .bool y5]) (.agg #[.int .i64 y0, .int .i64 y1, .bool y2, .int .i64 y3, .int .i64 y4, .bool y5])).run Tryz.prog w = .ok (.bool false) w := by
  have u3 := Tryz.underlying3
  have a3 := Tryz.isAgg3
  have z3 := Tryz.sizeOf3
  have u4 := Tryz.underlying4
  have a4 := Tryz.isAgg4
  have z4 := Tryz.sizeOf4
  have hS : Tryz.prog.underlying 94 = some (.struct (Tryz.prog.fieldsOf 94)) := by kernel_rfl
  have hp : Tryz.prog.stoodInHeld 94 = false := by kernel_rfl
  rw [run_neq_struct, show (10000 : Nat) = 9999 + 1 from rfl, run_equalIn_agg w 9999 94 _ _ hS hp]
  simp only [Program.fieldsOf, Tryz.underlying94]
  go_simp

set_option maxRecDepth 100000 in
set_option maxHeartbeats 4000000 in
theorem command_bad_low (y0 y1 y3 y4 : Int) (y2 y5 : Bool) (ho : opOf y0 = some ⟨y0, y1, y2, y3, y4, y5⟩) (at_ : Int) (data : List Int) (dv : Value) (read : Int) (w : World) (hv : RowIs w dv data) (h0 : at_ < 0) :
    Calls Tryz.prog 45 #[.agg #[.int .i64 y0, .int .i64 y1, .bool y2, .int .i64 y3, .int .i64 y4, .bool y5], .int .i64 at_, dv, .int .i64 read] w fun e w' => e = .returned (.tuple #[.slice none 0 0, .int .i64 900]) ∧ Below w.heap.size w w' := by
  have hc := opOf_calls y0 (w.alloc (.cells #[.int .i64 y0, .int .i64 y1, .bool y2, .int .i64 y3, .int .i64 y4, .bool y5] 94))
  rw [ho] at hc
  simp only [Option.getD_some, Option.isSome_some, ↓reduceIte, opVal] at hc
  have HC := Lib.hid hc
  have hsame := op_same y0 y1 y3 y4 y2 y5
  have HV := Lib.hid hv
  obtain ⟨a, cap, rfl⟩ := hv.len
  clear hc hv ho
  have b0 : decide (at_ < 0) = true := by simp [h0]
  go_enter Tryz.func45, Tryz.ntmps45
  go_wp2_with fail
  refine HC.out.mono ?_
  rintro e w1 ⟨rfl, hb⟩
  obtain ⟨hr, r0, r1, r2, r3, r4, r5, rf⟩ := six_far hb
  have hB := (below_new (Below.refl _ w) _).trans (hb.mono (by simp))
  have HB := Lib.hid hB
  have HR := Lib.hid hr
  clear hb hB hr
  go_wp2_with fail
  go_ret2
  exact ⟨rfl, below_new HB.out _⟩

set_option maxRecDepth 100000 in
set_option maxHeartbeats 4000000 in
theorem command_bad_high (y0 y1 y3 y4 : Int) (y2 y5 : Bool) (ho : opOf y0 = some ⟨y0, y1, y2, y3, y4, y5⟩) (at_ : Int) (data : List Int) (dv : Value) (read : Int) (w : World) (hv : RowIs w dv data) (h0 : 4096 ≤ at_) :
    Calls Tryz.prog 45 #[.agg #[.int .i64 y0, .int .i64 y1, .bool y2, .int .i64 y3, .int .i64 y4, .bool y5], .int .i64 at_, dv, .int .i64 read] w fun e w' => e = .returned (.tuple #[.slice none 0 0, .int .i64 900]) ∧ Below w.heap.size w w' := by
  have hc := opOf_calls y0 (w.alloc (.cells #[.int .i64 y0, .int .i64 y1, .bool y2, .int .i64 y3, .int .i64 y4, .bool y5] 94))
  rw [ho] at hc
  simp only [Option.getD_some, Option.isSome_some, ↓reduceIte, opVal] at hc
  have HC := Lib.hid hc
  have hsame := op_same y0 y1 y3 y4 y2 y5
  have HV := Lib.hid hv
  obtain ⟨a, cap, rfl⟩ := hv.len
  clear hc hv ho
  have b0 : decide (at_ < 0) = false := by simp; omega
  have b1 : decide (4096 ≤ at_) = true := by simp [h0]
  go_enter Tryz.func45, Tryz.ntmps45
  go_wp2_with fail
  refine HC.out.mono ?_
  rintro e w1 ⟨rfl, hb⟩
  obtain ⟨hr, r0, r1, r2, r3, r4, r5, rf⟩ := six_far hb
  have hB := (below_new (Below.refl _ w) _).trans (hb.mono (by simp))
  have HB := Lib.hid hB
  have HR := Lib.hid hr
  clear hb hB hr
  go_wp2_with fail
  go_ret2
  exact ⟨rfl, below_new HB.out _⟩

set_option maxRecDepth 100000 in
set_option maxHeartbeats 4000000 in
theorem command_bad_addr (y0 y1 y3 y4 : Int) (y2 y5 : Bool) (ho : opOf y0 = some ⟨y0, y1, y2, y3, y4, y5⟩) (at_ : Int) (data : List Int) (dv : Value) (read : Int) (w : World) (hv : RowIs w dv data) (h0 : 0 ≤ at_) (h1 : at_ < 4096) (h2 : y1 = 0) (h3 : at_ ≠ 0) :
    Calls Tryz.prog 45 #[.agg #[.int .i64 y0, .int .i64 y1, .bool y2, .int .i64 y3, .int .i64 y4, .bool y5], .int .i64 at_, dv, .int .i64 read] w fun e w' => e = .returned (.tuple #[.slice none 0 0, .int .i64 900]) ∧ Below w.heap.size w w' := by
  have hc := opOf_calls y0 (w.alloc (.cells #[.int .i64 y0, .int .i64 y1, .bool y2, .int .i64 y3, .int .i64 y4, .bool y5] 94))
  rw [ho] at hc
  simp only [Option.getD_some, Option.isSome_some, ↓reduceIte, opVal] at hc
  have HC := Lib.hid hc
  have hsame := op_same y0 y1 y3 y4 y2 y5
  have HV := Lib.hid hv
  obtain ⟨a, cap, rfl⟩ := hv.len
  clear hc hv ho
  have b0 : decide (at_ < 0) = false := by simp; omega
  have b1 : decide (4096 ≤ at_) = false := by simp; omega
  subst h2
  have b2 : (at_ == 0) = false := by simp [h3]
  go_enter Tryz.func45, Tryz.ntmps45
  go_wp2_with fail
  refine HC.out.mono ?_
  rintro e w1 ⟨rfl, hb⟩
  obtain ⟨hr, r0, r1, r2, r3, r4, r5, rf⟩ := six_far hb
  have hB := (below_new (Below.refl _ w) _).trans (hb.mono (by simp))
  have HB := Lib.hid hB
  have HR := Lib.hid hr
  clear hb hB hr
  go_wp2_with fail
  go_ret2
  exact ⟨rfl, below_new HB.out _⟩

set_option maxRecDepth 100000 in
set_option maxHeartbeats 4000000 in
theorem command_bad_long (y0 y1 y3 y4 : Int) (y2 y5 : Bool) (ho : opOf y0 = some ⟨y0, y1, y2, y3, y4, y5⟩) (at_ : Int) (data : List Int) (dv : Value) (read : Int) (w : World) (hv : RowIs w dv data) (h0 : 0 ≤ at_) (h1 : at_ < 4096) (h2 : ¬ (y1 = 0 ∧ at_ ≠ 0)) (h3 : 512 < data.length) :
    Calls Tryz.prog 45 #[.agg #[.int .i64 y0, .int .i64 y1, .bool y2, .int .i64 y3, .int .i64 y4, .bool y5], .int .i64 at_, dv, .int .i64 read] w fun e w' => e = .returned (.tuple #[.slice none 0 0, .int .i64 900]) ∧ Below w.heap.size w w' := by
  have hc := opOf_calls y0 (w.alloc (.cells #[.int .i64 y0, .int .i64 y1, .bool y2, .int .i64 y3, .int .i64 y4, .bool y5] 94))
  rw [ho] at hc
  simp only [Option.getD_some, Option.isSome_some, ↓reduceIte, opVal] at hc
  have HC := Lib.hid hc
  have hsame := op_same y0 y1 y3 y4 y2 y5
  have HV := Lib.hid hv
  obtain ⟨a, cap, rfl⟩ := hv.len
  clear hc hv ho
  have b0 : decide (at_ < 0) = false := by simp; omega
  have b1 : decide (4096 ≤ at_) = false := by simp; omega
  have b3 : decide ((512 : Int) < (data.length : Int)) = true := by simp; omega
  by_cases h8 : y1 = 0
  · subst h8
    obtain rfl : at_ = 0 := by omega
    go_enter Tryz.func45, Tryz.ntmps45
    go_wp2_with fail
    refine HC.out.mono ?_
    rintro e w1 ⟨rfl, hb⟩
    obtain ⟨hr, r0, r1, r2, r3, r4, r5, rf⟩ := six_far hb
    have hB := (below_new (Below.refl _ w) _).trans (hb.mono (by simp))
    have HB := Lib.hid hB
    have HR := Lib.hid hr
    clear hb hB hr
    go_wp2_with fail
    go_ret2
    exact ⟨rfl, below_new HB.out _⟩
  · have b2 : (y1 == 0) = false := by simp [h8]
    go_enter Tryz.func45, Tryz.ntmps45
    go_wp2_with fail
    refine HC.out.mono ?_
    rintro e w1 ⟨rfl, hb⟩
    obtain ⟨hr, r0, r1, r2, r3, r4, r5, rf⟩ := six_far hb
    have hB := (below_new (Below.refl _ w) _).trans (hb.mono (by simp))
    have HB := Lib.hid hB
    have HR := Lib.hid hr
    clear hb hB hr
    go_wp2_with fail
    go_ret2
    exact ⟨rfl, below_new HB.out _⟩

set_option maxRecDepth 100000 in
set_option maxHeartbeats 4000000 in
theorem command_bad_any (y0 y1 y3 y4 : Int) (y2 y5 : Bool) (ho : opOf y0 = some ⟨y0, y1, y2, y3, y4, y5⟩) (at_ : Int) (data : List Int) (dv : Value) (read : Int) (w : World) (hv : RowIs w dv data) (h0 : 0 ≤ at_) (h1 : at_ < 4096) (h2 : ¬ (y1 = 0 ∧ at_ ≠ 0)) (h3 : data.length ≤ 512) (h4 : data.any notByte = true) :
    Calls Tryz.prog 45 #[.agg #[.int .i64 y0, .int .i64 y1, .bool y2, .int .i64 y3, .int .i64 y4, .bool y5], .int .i64 at_, dv, .int .i64 read] w fun e w' => e = .returned (.tuple #[.slice none 0 0, .int .i64 900]) ∧ Below w.heap.size w w' := by
  have hc := opOf_calls y0 (w.alloc (.cells #[.int .i64 y0, .int .i64 y1, .bool y2, .int .i64 y3, .int .i64 y4, .bool y5] 94))
  rw [ho] at hc
  simp only [Option.getD_some, Option.isSome_some, ↓reduceIte, opVal] at hc
  have HC := Lib.hid hc
  have hsame := op_same y0 y1 y3 y4 y2 y5
  have HV := Lib.hid hv
  obtain ⟨a, cap, rfl⟩ := hv.len
  clear hc hv ho
  have b0 : decide (at_ < 0) = false := by simp; omega
  have b1 : decide (4096 ≤ at_) = false := by simp; omega
  have b3 : decide ((512 : Int) < (data.length : Int)) = false := by simp; omega
  have HANY := Lib.hid h4
  clear h4
  by_cases h8 : y1 = 0
  · subst h8
    obtain rfl : at_ = 0 := by omega
    go_enter Tryz.func45, Tryz.ntmps45
    go_wp2_with fail
    refine HC.out.mono ?_
    rintro e w1 ⟨rfl, hb⟩
    obtain ⟨hr, r0, r1, r2, r3, r4, r5, rf⟩ := six_far hb
    have hB := (below_new (Below.refl _ w) _).trans (hb.mono (by simp))
    have HB := Lib.hid hB
    have HR := Lib.hid hr
    clear hb hB hr
    go_wp2_with fail
    refine (containsFunc_cmdBad data (by omega) _ _ (HV.out.below (below_new HB.out _))).mono ?_
    rintro e w2 ⟨rfl, rfl⟩
    rw [HANY.out]
    go_wp2_with fail
    go_ret2
    exact ⟨rfl, below_new HB.out _⟩
  · have b2 : (y1 == 0) = false := by simp [h8]
    go_enter Tryz.func45, Tryz.ntmps45
    go_wp2_with fail
    refine HC.out.mono ?_
    rintro e w1 ⟨rfl, hb⟩
    obtain ⟨hr, r0, r1, r2, r3, r4, r5, rf⟩ := six_far hb
    have hB := (below_new (Below.refl _ w) _).trans (hb.mono (by simp))
    have HB := Lib.hid hB
    have HR := Lib.hid hr
    clear hb hB hr
    go_wp2_with fail
    refine (containsFunc_cmdBad data (by omega) _ _ (HV.out.below (below_new HB.out _))).mono ?_
    rintro e w2 ⟨rfl, rfl⟩
    rw [HANY.out]
    go_wp2_with fail
    go_ret2
    exact ⟨rfl, below_new HB.out _⟩

set_option maxRecDepth 100000 in
set_option maxHeartbeats 4000000 in
theorem command_bad_rneg (y0 y1 y3 y4 : Int) (y2 y5 : Bool) (ho : opOf y0 = some ⟨y0, y1, y2, y3, y4, y5⟩) (at_ : Int) (data : List Int) (dv : Value) (read : Int) (w : World) (hv : RowIs w dv data) (h0 : 0 ≤ at_) (h1 : at_ < 4096) (h2 : ¬ (y1 = 0 ∧ at_ ≠ 0)) (h3 : data.length ≤ 512) (h4 : data.any notByte = false) (h5 : read < 0) :
    Calls Tryz.prog 45 #[.agg #[.int .i64 y0, .int .i64 y1, .bool y2, .int .i64 y3, .int .i64 y4, .bool y5], .int .i64 at_, dv, .int .i64 read] w fun e w' => e = .returned (.tuple #[.slice none 0 0, .int .i64 900]) ∧ Below w.heap.size w w' := by
  have hc := opOf_calls y0 (w.alloc (.cells #[.int .i64 y0, .int .i64 y1, .bool y2, .int .i64 y3, .int .i64 y4, .bool y5] 94))
  rw [ho] at hc
  simp only [Option.getD_some, Option.isSome_some, ↓reduceIte, opVal] at hc
  have HC := Lib.hid hc
  have hsame := op_same y0 y1 y3 y4 y2 y5
  have HV := Lib.hid hv
  obtain ⟨a, cap, rfl⟩ := hv.len
  clear hc hv ho
  have b0 : decide (at_ < 0) = false := by simp; omega
  have b1 : decide (4096 ≤ at_) = false := by simp; omega
  have b3 : decide ((512 : Int) < (data.length : Int)) = false := by simp; omega
  have HANY := Lib.hid h4
  clear h4
  have b5 : decide (read < 0) = true := by simp [h5]
  by_cases h8 : y1 = 0
  · subst h8
    obtain rfl : at_ = 0 := by omega
    go_enter Tryz.func45, Tryz.ntmps45
    go_wp2_with fail
    refine HC.out.mono ?_
    rintro e w1 ⟨rfl, hb⟩
    obtain ⟨hr, r0, r1, r2, r3, r4, r5, rf⟩ := six_far hb
    have hB := (below_new (Below.refl _ w) _).trans (hb.mono (by simp))
    have HB := Lib.hid hB
    have HR := Lib.hid hr
    clear hb hB hr
    go_wp2_with fail
    refine (containsFunc_cmdBad data (by omega) _ _ (HV.out.below (below_new HB.out _))).mono ?_
    rintro e w2 ⟨rfl, rfl⟩
    rw [HANY.out]
    go_wp2_with fail
    go_ret2
    exact ⟨rfl, below_new HB.out _⟩
  · have b2 : (y1 == 0) = false := by simp [h8]
    go_enter Tryz.func45, Tryz.ntmps45
    go_wp2_with fail
    refine HC.out.mono ?_
    rintro e w1 ⟨rfl, hb⟩
    obtain ⟨hr, r0, r1, r2, r3, r4, r5, rf⟩ := six_far hb
    have hB := (below_new (Below.refl _ w) _).trans (hb.mono (by simp))
    have HB := Lib.hid hB
    have HR := Lib.hid hr
    clear hb hB hr
    go_wp2_with fail
    refine (containsFunc_cmdBad data (by omega) _ _ (HV.out.below (below_new HB.out _))).mono ?_
    rintro e w2 ⟨rfl, rfl⟩
    rw [HANY.out]
    go_wp2_with fail
    go_ret2
    exact ⟨rfl, below_new HB.out _⟩

set_option maxRecDepth 100000 in
set_option maxHeartbeats 4000000 in
theorem command_bad_rbig (y0 y1 y3 y4 : Int) (y2 y5 : Bool) (ho : opOf y0 = some ⟨y0, y1, y2, y3, y4, y5⟩) (at_ : Int) (data : List Int) (dv : Value) (read : Int) (w : World) (hv : RowIs w dv data) (h0 : 0 ≤ at_) (h1 : at_ < 4096) (h2 : ¬ (y1 = 0 ∧ at_ ≠ 0)) (h3 : data.length ≤ 512) (h4 : data.any notByte = false) (h5 : 512 < read) :
    Calls Tryz.prog 45 #[.agg #[.int .i64 y0, .int .i64 y1, .bool y2, .int .i64 y3, .int .i64 y4, .bool y5], .int .i64 at_, dv, .int .i64 read] w fun e w' => e = .returned (.tuple #[.slice none 0 0, .int .i64 900]) ∧ Below w.heap.size w w' := by
  have hc := opOf_calls y0 (w.alloc (.cells #[.int .i64 y0, .int .i64 y1, .bool y2, .int .i64 y3, .int .i64 y4, .bool y5] 94))
  rw [ho] at hc
  simp only [Option.getD_some, Option.isSome_some, ↓reduceIte, opVal] at hc
  have HC := Lib.hid hc
  have hsame := op_same y0 y1 y3 y4 y2 y5
  have HV := Lib.hid hv
  obtain ⟨a, cap, rfl⟩ := hv.len
  clear hc hv ho
  have b0 : decide (at_ < 0) = false := by simp; omega
  have b1 : decide (4096 ≤ at_) = false := by simp; omega
  have b3 : decide ((512 : Int) < (data.length : Int)) = false := by simp; omega
  have HANY := Lib.hid h4
  clear h4
  have b5 : decide (read < 0) = false := by simp; omega
  have b6 : decide (512 < read) = true := by simp [h5]
  by_cases h8 : y1 = 0
  · subst h8
    obtain rfl : at_ = 0 := by omega
    go_enter Tryz.func45, Tryz.ntmps45
    go_wp2_with fail
    refine HC.out.mono ?_
    rintro e w1 ⟨rfl, hb⟩
    obtain ⟨hr, r0, r1, r2, r3, r4, r5, rf⟩ := six_far hb
    have hB := (below_new (Below.refl _ w) _).trans (hb.mono (by simp))
    have HB := Lib.hid hB
    have HR := Lib.hid hr
    clear hb hB hr
    go_wp2_with fail
    refine (containsFunc_cmdBad data (by omega) _ _ (HV.out.below (below_new HB.out _))).mono ?_
    rintro e w2 ⟨rfl, rfl⟩
    rw [HANY.out]
    go_wp2_with fail
    go_ret2
    exact ⟨rfl, below_new HB.out _⟩
  · have b2 : (y1 == 0) = false := by simp [h8]
    go_enter Tryz.func45, Tryz.ntmps45
    go_wp2_with fail
    refine HC.out.mono ?_
    rintro e w1 ⟨rfl, hb⟩
    obtain ⟨hr, r0, r1, r2, r3, r4, r5, rf⟩ := six_far hb
    have hB := (below_new (Below.refl _ w) _).trans (hb.mono (by simp))
    have HB := Lib.hid hB
    have HR := Lib.hid hr
    clear hb hB hr
    go_wp2_with fail
    refine (containsFunc_cmdBad data (by omega) _ _ (HV.out.below (below_new HB.out _))).mono ?_
    rintro e w2 ⟨rfl, rfl⟩
    rw [HANY.out]
    go_wp2_with fail
    go_ret2
    exact ⟨rfl, below_new HB.out _⟩

set_option maxRecDepth 100000 in
set_option maxHeartbeats 4000000 in
theorem command_bad_fits (y0 y1 y3 y4 : Int) (y2 y5 : Bool) (ho : opOf y0 = some ⟨y0, y1, y2, y3, y4, y5⟩) (at_ : Int) (data : List Int) (dv : Value) (read : Int) (w : World) (hv : RowIs w dv data) (h0 : 0 ≤ at_) (h1 : at_ < 4096) (h2 : ¬ (y1 = 0 ∧ at_ ≠ 0)) (h3 : data.length ≤ 512) (h4 : data.any notByte = false) (h5 : 0 ≤ read) (h6 : read ≤ 512) (h7 : fitsB ⟨y0, y1, y2, y3, y4, y5⟩ data.length read = false) :
    Calls Tryz.prog 45 #[.agg #[.int .i64 y0, .int .i64 y1, .bool y2, .int .i64 y3, .int .i64 y4, .bool y5], .int .i64 at_, dv, .int .i64 read] w fun e w' => e = .returned (.tuple #[.slice none 0 0, .int .i64 900]) ∧ Below w.heap.size w w' := by
  have hc := opOf_calls y0 (w.alloc (.cells #[.int .i64 y0, .int .i64 y1, .bool y2, .int .i64 y3, .int .i64 y4, .bool y5] 94))
  rw [ho] at hc
  simp only [Option.getD_some, Option.isSome_some, ↓reduceIte, opVal] at hc
  have HC := Lib.hid hc
  have hsame := op_same y0 y1 y3 y4 y2 y5
  have HV := Lib.hid hv
  obtain ⟨a, cap, rfl⟩ := hv.len
  clear hc hv ho
  have b0 : decide (at_ < 0) = false := by simp; omega
  have b1 : decide (4096 ≤ at_) = false := by simp; omega
  have b3 : decide ((512 : Int) < (data.length : Int)) = false := by simp; omega
  have HANY := Lib.hid h4
  clear h4
  have b5 : decide (read < 0) = false := by simp; omega
  have b6 : decide (512 < read) = false := by simp; omega
  have HF := Lib.hid h7
  clear h7
  by_cases h8 : y1 = 0
  · subst h8
    obtain rfl : at_ = 0 := by omega
    go_enter Tryz.func45, Tryz.ntmps45
    go_wp2_with fail
    refine HC.out.mono ?_
    rintro e w1 ⟨rfl, hb⟩
    obtain ⟨hr, r0, r1, r2, r3, r4, r5, rf⟩ := six_far hb
    have hB := (below_new (Below.refl _ w) _).trans (hb.mono (by simp))
    have HB := Lib.hid hB
    have HR := Lib.hid hr
    clear hb hB hr
    go_wp2_with fail
    refine (containsFunc_cmdBad data (by omega) _ _ (HV.out.below (below_new HB.out _))).mono ?_
    rintro e w2 ⟨rfl, rfl⟩
    rw [HANY.out]
    go_wp2_with fail
    refine (fits_op ⟨y0, 0, y2, y3, y4, y5⟩ data.length read w.heap.size _ (HR.out _)).mono ?_
    rintro e w2 ⟨rfl, rfl⟩
    rw [HF.out]
    go_wp2_with fail
    go_ret2
    exact ⟨rfl, below_new HB.out _⟩
  · have b2 : (y1 == 0) = false := by simp [h8]
    go_enter Tryz.func45, Tryz.ntmps45
    go_wp2_with fail
    refine HC.out.mono ?_
    rintro e w1 ⟨rfl, hb⟩
    obtain ⟨hr, r0, r1, r2, r3, r4, r5, rf⟩ := six_far hb
    have hB := (below_new (Below.refl _ w) _).trans (hb.mono (by simp))
    have HB := Lib.hid hB
    have HR := Lib.hid hr
    clear hb hB hr
    go_wp2_with fail
    refine (containsFunc_cmdBad data (by omega) _ _ (HV.out.below (below_new HB.out _))).mono ?_
    rintro e w2 ⟨rfl, rfl⟩
    rw [HANY.out]
    go_wp2_with fail
    refine (fits_op ⟨y0, y1, y2, y3, y4, y5⟩ data.length read w.heap.size _ (HR.out _)).mono ?_
    rintro e w2 ⟨rfl, rfl⟩
    rw [HF.out]
    go_wp2_with fail
    go_ret2
    exact ⟨rfl, below_new HB.out _⟩

theorem command_bad (o : OpD) (ho : opOf o.byte = some o) (at_ : Int) (data : List Int) (dv : Value) (read : Int) (w : World) (hv : RowIs w dv data) (hbad : ¬ CmdOk o at_ data read) :
    Calls Tryz.prog 45 #[opVal o, .int .i64 at_, dv, .int .i64 read] w fun e w' => e = .returned (.tuple #[.slice none 0 0, .int .i64 900]) ∧ Below w.heap.size w w' := by
  obtain ⟨y0, y1, y2, y3, y4, y5⟩ := o
  by_cases h0 : at_ < 0
  · exact command_bad_low y0 y1 y3 y4 y2 y5 ho at_ data dv read w hv h0
  by_cases h1 : 4096 ≤ at_
  · exact command_bad_high y0 y1 y3 y4 y2 y5 ho at_ data dv read w hv h1
  by_cases h2 : y1 = 0 ∧ at_ ≠ 0
  · exact command_bad_addr y0 y1 y3 y4 y2 y5 ho at_ data dv read w hv (by omega) (by omega) h2.1 h2.2
  by_cases h3 : 512 < data.length
  · exact command_bad_long y0 y1 y3 y4 y2 y5 ho at_ data dv read w hv (by omega) (by omega) h2 h3
  cases h4 : data.any notByte
  case true => exact command_bad_any y0 y1 y3 y4 y2 y5 ho at_ data dv read w hv (by omega) (by omega) h2 (by omega) h4
  by_cases h5 : read < 0
  · exact command_bad_rneg y0 y1 y3 y4 y2 y5 ho at_ data dv read w hv (by omega) (by omega) h2 (by omega) h4 h5
  by_cases h6 : 512 < read
  · exact command_bad_rbig y0 y1 y3 y4 y2 y5 ho at_ data dv read w hv (by omega) (by omega) h2 (by omega) h4 h6
  cases h7 : fitsB ⟨y0, y1, y2, y3, y4, y5⟩ data.length read
  case false => exact command_bad_fits y0 y1 y3 y4 y2 y5 ho at_ data dv read w hv (by omega) (by omega) h2 (by omega) h4 (by omega) (by omega) h7
  exact absurd ⟨by show 0 ≤ at_; omega, by show at_ < 4096; omega, h2, by omega, h4, by show 0 ≤ read; omega, by show read ≤ 512; omega, h7⟩ hbad
end Go.Proofs.YtefoldehejbiiaaGreat
