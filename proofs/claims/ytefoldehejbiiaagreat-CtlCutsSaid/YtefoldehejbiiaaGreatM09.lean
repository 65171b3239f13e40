/-
  Walks: the byte that comes.
  Walks: bits that come.
  Walks: the next bits of what comes, behind the first ones of a byte.
-/
import Derived.Test.YtefoldehejbiiaaGreatM06
import Derived.Test.YtefoldehejbiiaaGreatM08
import Derived.IntWalk
import Derived.Test.YtefoldehejbiiaaGreatM04
import Derived.StillTailTactics

namespace Go.Proofs.YtefoldehejbiiaaGreat
open Go.RowKit Lich

section
variable {w : World} {b : Nat} {c : Chip} {S : Nat → Prop} {md : Bool} {jv bv dv : Value}

/-- A chip that a call leaves as it is, and which hands back v. -/
def Stays (b : Nat) (c : Chip) (S : Nat → Prop) (jv bv dv : Value) (v : Value) (w : World) (e : Ending) (w' : World) : Prop :=
  e = .returned v ∧ ∃ md', ChipIs w' b c S md' jv bv dv ∧ Kept S w w'

theorem same_table {x : Same w b c S jv bv dv} : Calls Tryz.prog 169 #[.pointer (some ⟨b, 0, none⟩)] x.w' fun e w' => e = .returned (.string (S8 Lich.table)) ∧ ∃ y : Same w b c S jv bv dv, w' = y.w' :=
  (table_calls x.is).mono fun _ w' h => ⟨h.1, ⟨w', true, h.2.1, x.kept.trans (h.2.2.mono fun _ hk => by subst hk; exact x.is.own)⟩, rfl⟩

theorem wrap_small {n : Int} (h0 : 0 ≤ n) (h1 : n < 1000000000000) : IntKind.i64.wrap n = n := IntWalk.i64_in _ (by omega)

theorem status_stays (h : ChipIs w b c S md jv bv dv) :
    Calls Tryz.prog 58 #[.pointer (some ⟨b, 0, none⟩)] w fun e w' => e = .returned (.tuple #[.int .i64 c.st1, .int .i64 c.st2]) ∧ ChipIs w' b c S md jv bv dv ∧ Kept S w w' :=
  (status_calls h).mono fun _ w' hh => ⟨hh.1, h.ext ⟨w', hh.2⟩, Kept.of_below hh.2⟩

set_option maxRecDepth 100000 in
set_option maxHeartbeats 1000000 in
theorem byteAt_id0 (h : ChipIs w b c S md jv bv dv) (i : Int) (h0 : 0 ≤ i) (h1 : i < 100000000000) (hb : c.cmd.op.byte = 159) (hr : i % 3 = 0) :
    Calls Tryz.prog 160 #[.pointer (some ⟨b, 0, none⟩), .int .i64 i] w (Stays b c S jv bv dv (.int .i64 239) w) := by
  have hst := Lib.hid (status_stays h)
  have H := Lib.hid h
  have B := Lib.hid hb
  have i0 : ∀ w, (Instr.index 63 (.agg #[.int .i64 239, .int .i64 64, .int .i64 12]) (.int .i64 0)).run Tryz.prog w = .ok (.int .i64 239) w := fun _ => by kernel_rfl
  clear hb
  clear h
  go_enter Tryz.func160, Tryz.ntmps160
  go_wp2_with fail
  refine hst.out.mono ?_
  rintro e w1 ⟨rfl, h1', k1⟩
  have c20 := h1'.c20
  rw [B.out] at c20
  have H1 := Lib.hid h1'
  have K1 := Lib.hid k1
  clear h1' k1
  go_wp2_with fail
  go_ret
  exact ⟨rfl, md, H1.out, K1.out⟩


set_option maxRecDepth 100000 in
set_option maxHeartbeats 1000000 in
theorem byteAt_id1 (h : ChipIs w b c S md jv bv dv) (i : Int) (h0 : 0 ≤ i) (h1 : i < 100000000000) (hb : c.cmd.op.byte = 159) (hr : i % 3 = 1) :
    Calls Tryz.prog 160 #[.pointer (some ⟨b, 0, none⟩), .int .i64 i] w (Stays b c S jv bv dv (.int .i64 64) w) := by
  have hst := Lib.hid (status_stays h)
  have H := Lib.hid h
  have B := Lib.hid hb
  have i0 : ∀ w, (Instr.index 63 (.agg #[.int .i64 239, .int .i64 64, .int .i64 12]) (.int .i64 1)).run Tryz.prog w = .ok (.int .i64 64) w := fun _ => by kernel_rfl
  clear hb
  clear h
  go_enter Tryz.func160, Tryz.ntmps160
  go_wp2_with fail
  refine hst.out.mono ?_
  rintro e w1 ⟨rfl, h1', k1⟩
  have c20 := h1'.c20
  rw [B.out] at c20
  have H1 := Lib.hid h1'
  have K1 := Lib.hid k1
  clear h1' k1
  go_wp2_with fail
  go_ret
  exact ⟨rfl, md, H1.out, K1.out⟩


set_option maxRecDepth 100000 in
set_option maxHeartbeats 1000000 in
theorem byteAt_id2 (h : ChipIs w b c S md jv bv dv) (i : Int) (h0 : 0 ≤ i) (h1 : i < 100000000000) (hb : c.cmd.op.byte = 159) (hr : i % 3 = 2) :
    Calls Tryz.prog 160 #[.pointer (some ⟨b, 0, none⟩), .int .i64 i] w (Stays b c S jv bv dv (.int .i64 12) w) := by
  have hst := Lib.hid (status_stays h)
  have H := Lib.hid h
  have B := Lib.hid hb
  have i0 : ∀ w, (Instr.index 63 (.agg #[.int .i64 239, .int .i64 64, .int .i64 12]) (.int .i64 2)).run Tryz.prog w = .ok (.int .i64 12) w := fun _ => by kernel_rfl
  clear hb
  clear h
  go_enter Tryz.func160, Tryz.ntmps160
  go_wp2_with fail
  refine hst.out.mono ?_
  rintro e w1 ⟨rfl, h1', k1⟩
  have c20 := h1'.c20
  rw [B.out] at c20
  have H1 := Lib.hid h1'
  have K1 := Lib.hid k1
  clear h1' k1
  go_wp2_with fail
  go_ret
  exact ⟨rfl, md, H1.out, K1.out⟩


set_option maxRecDepth 100000 in
set_option maxHeartbeats 1000000 in
theorem byteAt_st1 (h : ChipIs w b c S md jv bv dv) (i : Int) (hb : c.cmd.op.byte = 5) :
    Calls Tryz.prog 160 #[.pointer (some ⟨b, 0, none⟩), .int .i64 i] w (Stays b c S jv bv dv (.int .i64 c.st1) w) := by
  have hst := Lib.hid (status_stays h)
  have H := Lib.hid h
  have B := Lib.hid hb
  clear hb
  clear h
  go_enter Tryz.func160, Tryz.ntmps160
  go_wp2_with fail
  refine hst.out.mono ?_
  rintro e w1 ⟨rfl, h1', k1⟩
  have c20 := h1'.c20
  rw [B.out] at c20
  have H1 := Lib.hid h1'
  have K1 := Lib.hid k1
  clear h1' k1
  go_wp2_with fail
  go_ret
  exact ⟨rfl, md, H1.out, K1.out⟩


set_option maxRecDepth 100000 in
set_option maxHeartbeats 1000000 in
theorem byteAt_st2 (h : ChipIs w b c S md jv bv dv) (i : Int) (hb : c.cmd.op.byte = 53) :
    Calls Tryz.prog 160 #[.pointer (some ⟨b, 0, none⟩), .int .i64 i] w (Stays b c S jv bv dv (.int .i64 c.st2) w) := by
  have hst := Lib.hid (status_stays h)
  have H := Lib.hid h
  have B := Lib.hid hb
  clear hb
  clear h
  go_enter Tryz.func160, Tryz.ntmps160
  go_wp2_with fail
  refine hst.out.mono ?_
  rintro e w1 ⟨rfl, h1', k1⟩
  have c20 := h1'.c20
  rw [B.out] at c20
  have H1 := Lib.hid h1'
  have K1 := Lib.hid k1
  clear h1' k1
  go_wp2_with fail
  go_ret
  exact ⟨rfl, md, H1.out, K1.out⟩


set_option maxRecDepth 100000 in
set_option maxHeartbeats 1000000 in
theorem byteAt_sfdp (h : ChipIs w b c S md jv bv dv) (i : Int) (h0 : 0 ≤ i) (h1 : i < 100000000000) (ha0 : 0 ≤ c.cmd.addr) (ha1 : c.cmd.addr < 4096) (hb : c.cmd.op.byte = 90) (k : Nat) (hk : (c.cmd.addr + i) % 32 = k) (hk32 : k < 32) :
    Calls Tryz.prog 160 #[.pointer (some ⟨b, 0, none⟩), .int .i64 i] w (Stays b c S jv bv dv (.int .i64 ((table.getD k 0).toNat : Int)) w) := by
  have hst := Lib.hid (status_stays h)
  have H := Lib.hid h
  have B := Lib.hid hb
  have e1 : IntKind.i64.wrap (c.cmd.addr + i) = c.cmd.addr + i := wrap_small (by omega) (by omega)
  have e2 : (c.cmd.addr + i).tmod 32 = (k : Int) := by rw [Int.tmod_eq_emod_of_nonneg (by omega)]; exact hk
  have t1 : (S8 Lich.table).size = 32 := S8_size _
  have t2 : ∀ hh, (S8 Lich.table)[k]'hh = Lich.table.getD k 0 := fun hh => by
    have := S8_get (l := Lich.table) (i := k) (by exact hk32)
    rw [getElem?_pos (S8 Lich.table) _ hh] at this; exact Option.some.inj this
  generalize Lich.table.getD k 0 = v at *
  clear hb hk
  clear h
  go_enter Tryz.func160, Tryz.ntmps160
  go_wp2_with fail
  refine hst.out.mono ?_
  rintro e w1 ⟨rfl, h1', k1⟩
  have c20 := h1'.c20
  rw [B.out] at c20
  have x0 : ∀ x : Same w1 b c S jv bv dv, x.w'.cell? ⟨b, 0, none⟩ = some (.string (S8 c.cells)) := fun x => x.is.c0
  have x29 : ∀ x : Same w1 b c S jv bv dv, x.w'.cell? ⟨b, 29, none⟩ = some (.int .i64 c.cmd.addr) := fun x => x.is.c29
  have : Nonempty (Same w1 b c S jv bv dv) := ⟨⟨w1, md, h1', Kept.refl _ _⟩⟩
  have H1 := Lib.hid h1'
  have K1 := Lib.hid k1
  clear h1' k1
  go_wp2_with fail
  refine wp_region_same H1.out (by kernel_rfl) (by kernel_rfl) ?_
  repeat (go_big_quiet_step ((go_at_call 169; exact same_table)))
  refine wpQuiet_nil ?_
  intro wx hx
  obtain ⟨x, rfl⟩ := hx
  go_wp2_with fail
  go_ret
  refine ⟨ret_int ?_, x.md, x.is, K1.out.trans x.kept⟩
  have := v.toNat_lt
  unfold wrap64
  omega


set_option maxRecDepth 100000 in
set_option maxHeartbeats 1000000 in
theorem byteAt_cell (h : ChipIs w b c S md jv bv dv) (i : Int) (h0 : 0 ≤ i) (h1 : i < 100000000000) (ha0 : 0 ≤ c.cmd.addr) (ha1 : c.cmd.addr < 4096) (hc : c.cells.length = 4096) (b1 : (c.cmd.op.byte == 159) = false) (b2 : (c.cmd.op.byte == 5) = false) (b3 : (c.cmd.op.byte == 53) = false) (b4 : (c.cmd.op.byte == 90) = false) (k : Nat) (hk : (c.cmd.addr + i) % 4096 = k) (hk32 : k < 4096) :
    Calls Tryz.prog 160 #[.pointer (some ⟨b, 0, none⟩), .int .i64 i] w (Stays b c S jv bv dv (.int .i64 ((c.cells.getD k 0).toNat : Int)) w) := by
  have hst := Lib.hid (status_stays h)
  have H := Lib.hid h
  have e1 : IntKind.i64.wrap (c.cmd.addr + i) = c.cmd.addr + i := wrap_small (by omega) (by omega)
  have e2 : (c.cmd.addr + i).tmod 4096 = (k : Int) := by rw [Int.tmod_eq_emod_of_nonneg (by omega)]; exact hk
  have t1 : (S8 c.cells).size = 4096 := by rw [S8_size]; exact hc
  have t2 : ∀ hh, (S8 c.cells)[k]'hh = c.cells.getD k 0 := fun hh => by
    have := S8_get (l := c.cells) (i := k) (by omega)
    rw [getElem?_pos (S8 c.cells) _ hh] at this; exact Option.some.inj this
  generalize c.cells.getD k 0 = v at *
  clear hk
  clear h
  go_enter Tryz.func160, Tryz.ntmps160
  go_wp2_with fail
  refine hst.out.mono ?_
  rintro e w1 ⟨rfl, h1', k1⟩
  have c20 := h1'.c20
  have x0 : ∀ x : Same w1 b c S jv bv dv, x.w'.cell? ⟨b, 0, none⟩ = some (.string (S8 c.cells)) := fun x => x.is.c0
  have x29 : ∀ x : Same w1 b c S jv bv dv, x.w'.cell? ⟨b, 29, none⟩ = some (.int .i64 c.cmd.addr) := fun x => x.is.c29
  have : Nonempty (Same w1 b c S jv bv dv) := ⟨⟨w1, md, h1', Kept.refl _ _⟩⟩
  have H1 := Lib.hid h1'
  have K1 := Lib.hid k1
  clear h1' k1
  go_wp2_with fail
  refine wp_region_same H1.out (by kernel_rfl) (by kernel_rfl) ?_
  repeat (go_big_quiet_step (fail))
  refine wpQuiet_nil ?_
  intro wx hx
  obtain ⟨x, rfl⟩ := hx
  go_wp2_with fail
  go_ret
  refine ⟨ret_int ?_, x.md, x.is, K1.out.trans x.kept⟩
  have := v.toNat_lt
  unfold wrap64
  omega


/-- The byte that comes: whichever command it is. -/
theorem byteAt_calls (h : ChipIs w b c S md jv bv dv) (i : Int) (h0 : 0 ≤ i) (h1 : i < 100000000000) (ha0 : 0 ≤ c.cmd.addr) (ha1 : c.cmd.addr < 4096) (hc : c.cells.length = 4096) :
    Calls Tryz.prog 160 #[.pointer (some ⟨b, 0, none⟩), .int .i64 i] w (Stays b c S jv bv dv (.int .i64 (c.byteAt i)) w) := by
  unfold Chip.byteAt
  by_cases b1 : c.cmd.op.byte = 159
  · rw [if_pos b1]
    by_cases r0 : i % 3 = 0
    · rw [if_pos r0]; exact byteAt_id0 h i h0 h1 b1 r0
    · rw [if_neg r0]
      by_cases r1 : i % 3 = 1
      · rw [if_pos r1]; exact byteAt_id1 h i h0 h1 b1 r1
      · rw [if_neg r1]; exact byteAt_id2 h i h0 h1 b1 (by omega)
  · rw [if_neg b1]
    by_cases b2 : c.cmd.op.byte = 5
    · rw [if_pos b2]; exact byteAt_st1 h i b2
    · rw [if_neg b2]
      by_cases b3 : c.cmd.op.byte = 53
      · rw [if_pos b3]; exact byteAt_st2 h i b3
      · rw [if_neg b3]
        by_cases b4 : c.cmd.op.byte = 90
        · rw [if_pos b4]; exact byteAt_sfdp h i h0 h1 ha0 ha1 b4 _ (by omega) (by omega)
        · rw [if_neg b4]; exact byteAt_cell h i h0 h1 ha0 ha1 hc (by simpa using b1) (by simpa using b2) (by simpa using b3) (by simpa using b4) _ (by omega) (by omega)
end
end Go.Proofs.YtefoldehejbiiaaGreat

namespace Go.Proofs.YtefoldehejbiiaaGreat
open Go.RowKit Lich

theorem ofInt_i64 (a : Nat) (h : a < 4611686018427387904) : (BitVec.ofInt 64 (a : Int)).toNat = a := by
  rw [BitVec.toNat_ofInt]; omega
theorem i64_or_nat (a b : Nat) (ha : a < 4611686018427387904) (hb : b < 4611686018427387904) : bits .or .i64 (a : Int) (b : Int) = ((a ||| b : Nat) : Int) := by
  have hx : a ||| b < 2 ^ 62 := Nat.or_lt_two_pow (by omega) (by omega)
  show IntKind.i64.wrap ((BitVec.ofInt 64 (a : Int) ||| BitVec.ofInt 64 (b : Int)).toNat : Int) = _
  rw [BitVec.toNat_or, ofInt_i64 a ha, ofInt_i64 b hb, IntKind.wrap_i64]
  omega
theorem i64_and_nat (a b : Nat) (ha : a < 4611686018427387904) (hb : b < 4611686018427387904) : bits .and .i64 (a : Int) (b : Int) = ((a &&& b : Nat) : Int) := by
  have hx : a &&& b ≤ a := Nat.and_le_left
  show IntKind.i64.wrap ((BitVec.ofInt 64 (a : Int) &&& BitVec.ofInt 64 (b : Int)).toNat : Int) = _
  rw [BitVec.toNat_and, ofInt_i64 a ha, ofInt_i64 b hb, IntKind.wrap_i64]
  omega
theorem i64_and_mask {x : Int} (k : Nat) (m : Int) (hm : m = 2 ^ k - 1) (hk : k ≤ 60) (h0 : 0 ≤ x) (h1 : x < 4611686018427387904) : bits .and .i64 x m = x % 2 ^ k := by
  obtain ⟨a, rfl⟩ := Int.eq_ofNat_of_zero_le h0
  have hp : (2 : Nat) ^ k ≤ 2 ^ 60 := Nat.pow_le_pow_right (by decide) hk
  have hpos : 0 < (2 : Nat) ^ k := Nat.two_pow_pos k
  have e : m = ((2 ^ k - 1 : Nat) : Int) := by rw [hm, Int.natCast_sub hpos]; simp
  rw [e, i64_and_nat _ _ (by omega) (by omega), Nat.and_two_pow_sub_one_eq_mod]
  simp
theorem i64_join {g x : Int} (k : Nat) (m : Int) (hm : m = 2 ^ k) (hk : k ≤ 20) (hg0 : 0 ≤ g) (hg1 : g < 1000000000000) (h0 : 0 ≤ x) (h1 : x < m) : bits .or .i64 (g * m) x = g * m + x := by
  obtain ⟨a, rfl⟩ := Int.eq_ofNat_of_zero_le hg0
  obtain ⟨b, rfl⟩ := Int.eq_ofNat_of_zero_le h0
  have hp : (2 : Nat) ^ k ≤ 2 ^ 20 := Nat.pow_le_pow_right (by decide) hk
  have e : m = ((2 ^ k : Nat) : Int) := by rw [hm]; simp
  have hb : b < 2 ^ k := by rw [e] at h1; exact Int.ofNat_lt.1 h1
  have hmul : a * 2 ^ k ≤ 1000000000000 * 2 ^ 20 := Nat.mul_le_mul (by omega) hp
  rw [e, ← Int.natCast_mul, i64_or_nat _ _ (by omega) (by omega), Nat.mul_comm a, ← Nat.two_pow_add_eq_or_of_lt hb]
  simp

section
variable {w : World} {b : Nat} {c : Chip} {S : Nat → Prop} {md : Bool} {jv bv dv : Value}

/-- What taking bits in has done. -/
def Takes (b : Nat) (c : Chip) (g : Int) (S : Nat → Prop) (md : Bool) (jv bv dv : Value) (w : World) (e : Ending) (w' : World) : Prop :=
  e = .returned (.bool (c.cmd.left - 1 == 0)) ∧ ChipIs w' b { c with cmd := { c.cmd with got := g, left := c.cmd.left - 1 } } S md jv bv dv ∧ Kept S w w'

theorem takes_fin (h : ChipIs w b c S md jv bv dv) {g : Int} {l : Int} (hl : l = c.cmd.left - 1) :
    Takes b c g S md jv bv dv w (.returned (.bool (c.cmd.left - 1 == 0))) ((w.setCell ⟨b, 28, none⟩ (.int .i64 g)).setCell ⟨b, 27, none⟩ (.int .i64 l)).drew := by
  subst hl
  refine ⟨rfl, ?_, ?_⟩
  · have h1 := h.set (c' := { c with cmd := { c.cmd with got := g } }) (i := 28) (v := .int .i64 g) rfl rfl rfl rfl
    have h2 := h1.set (c' := { c with cmd := { c.cmd with got := g, left := c.cmd.left - 1 } }) (i := 27) (v := .int .i64 (c.cmd.left - 1)) rfl rfl rfl rfl
    exact h2.drewN 1
  · exact (((Kept.refl S w).setCell (p := ⟨b, 28, none⟩) (.inl h.own) _).setCell (p := ⟨b, 27, none⟩) (.inl h.own) _).drew

set_option maxRecDepth 100000 in
set_option maxHeartbeats 1000000 in
theorem takesIn1 (h : ChipIs w b c S md jv bv dv) (x : Int) (h0 : 0 ≤ x) (h1 : x < 16) (hg0 : 0 ≤ c.cmd.got) (hg1 : c.cmd.got < 1000000000) (hl0 : 0 ≤ c.cmd.left) (hl1 : c.cmd.left < 1000) :
    Calls Tryz.prog 145 #[.pointer (some ⟨b, 20, none⟩), .int .i64 x, .int .i64 1] w (Takes b c (c.cmd.got * 2 + x % 2) S md jv bv dv w) := by
  have c27 := h.c27
  have c28 := h.c28
  have f28 := h.free 28
  have f27 := h.free 27
  have hv : bits .or .i64 (c.cmd.got * 2) (bits .and .i64 x 1) = c.cmd.got * 2 + x % 2 := by
    rw [i64_and_mask 1 1 (by decide) (by decide) h0 (by omega), i64_join 1 2 (by decide) (by decide) hg0 (by omega) (by omega) (by omega)]; rfl
  rw [← hv]
  have H := Lib.hid h
  clear h hv
  go_enter Tryz.func145, Tryz.ntmps145
  go_wp2_with fail
  go_still_tail 14, (by kernel_rfl)
  go_wp2_with fail
  go_ret
  exact takes_fin H.out rfl

set_option maxRecDepth 100000 in
set_option maxHeartbeats 1000000 in
theorem takesIn4 (h : ChipIs w b c S md jv bv dv) (x : Int) (h0 : 0 ≤ x) (h1 : x < 16) (hg0 : 0 ≤ c.cmd.got) (hg1 : c.cmd.got < 1000000000) (hl0 : 0 ≤ c.cmd.left) (hl1 : c.cmd.left < 1000) :
    Calls Tryz.prog 145 #[.pointer (some ⟨b, 20, none⟩), .int .i64 x, .int .i64 4] w (Takes b c (c.cmd.got * 16 + x % 16) S md jv bv dv w) := by
  have c27 := h.c27
  have c28 := h.c28
  have f28 := h.free 28
  have f27 := h.free 27
  have hv : bits .or .i64 (c.cmd.got * 16) (bits .and .i64 x 15) = c.cmd.got * 16 + x % 16 := by
    rw [i64_and_mask 4 15 (by decide) (by decide) h0 (by omega), i64_join 4 16 (by decide) (by decide) hg0 (by omega) (by omega) (by omega)]; rfl
  rw [← hv]
  have H := Lib.hid h
  clear h hv
  go_enter Tryz.func145, Tryz.ntmps145
  go_wp2_with fail
  go_still_tail 14, (by kernel_rfl)
  go_wp2_with fail
  go_ret
  exact takes_fin H.out rfl
end
end Go.Proofs.YtefoldehejbiiaaGreat

namespace Go.Proofs.YtefoldehejbiiaaGreat
open Go.RowKit Lich

section
variable {w : World} {b : Nat} {c : Chip} {S : Nat → Prop} {md : Bool} {jv bv dv : Value}

set_option maxRecDepth 100000 in
set_option maxHeartbeats 1000000 in
theorem says_on4 (h : ChipIs w b c S md jv bv dv) (hl : c.cmd.left = 1) (hd : c.cmd.op.data = 4) (n0 : 0 ≤ c.cmd.now) (n1 : c.cmd.now < 256) :
    Calls Tryz.prog 146 #[.pointer (some ⟨b, 0, none⟩)] w (Stays b { c with cmd := { c.cmd with left := 0 } } S jv bv dv (.int .i64 (c.cmd.now % 16)) w) := by
  have c24 := h.c24
  have c27 := h.c27
  have c34 := h.c34
  have hf := h.free
  rw [hl] at c27
  rw [hd] at c24
  have H := Lib.hid h
  clear h hl hd
  go_enter Tryz.func146, Tryz.ntmps146
  go_wp2_with fail
  go_quiet (fail)
  go_wp2_with fail
  go_ret
  exact ⟨ret_int (i64_and_mask 4 15 (by decide) (by decide) n0 (by omega)), md, (H.out.set (c' := { c with cmd := { c.cmd with left := 0 } }) (i := 27) (v := .int .i64 0) rfl rfl rfl rfl).drewN _, ((Kept.refl S w).setCell (p := ⟨b, 27, none⟩) (.inl H.out.own) _).drewN _⟩

theorem setLeft (h : ChipIs w b c S md jv bv dv) (l : Int) (n : Nat) : ChipIs ((w.setCell ⟨b, 27, none⟩ (.int .i64 l)).drewN n) b { c with cmd := { c.cmd with left := l } } S md jv bv dv :=
  (h.set (c' := { c with cmd := { c.cmd with left := l } }) (i := 27) (v := .int .i64 l) rfl rfl rfl rfl).drewN n

theorem or13 {x : Int} (h : x = 0 ∨ x = 1) : bits .or .i64 13 (x * 2) = 13 + 2 * x := by rcases h with rfl | rfl <;> decide

theorem said1 {x : Int} (h0 : 0 ≤ x) (h1 : x < 256) : bits .or .i64 13 (wrap64 (bits .and .i64 x 1 * 2)) = 13 + 2 * (x % 2) := by
  have e : bits .and .i64 x 1 = x % 2 := by rw [i64_and_mask 1 1 (by decide) (by decide) h0 (by omega)]; rfl
  have w : wrap64 (x % 2 * 2) = x % 2 * 2 := by unfold wrap64; omega
  rw [e, w, or13 (by omega)]

set_option maxRecDepth 100000 in
set_option maxHeartbeats 2000000 in
theorem says_on1 (h : ChipIs w b c S md jv bv dv) (j : Nat) (hj : j < 7) (hl : c.cmd.left = (j : Int) + 1) (hd : c.cmd.op.data = 1) (n0 : 0 ≤ c.cmd.now) (n1 : c.cmd.now < 256) :
    Calls Tryz.prog 146 #[.pointer (some ⟨b, 0, none⟩)] w (Stays b { c with cmd := { c.cmd with left := j } } S jv bv dv (.int .i64 (13 + 2 * (c.cmd.now / 2 ^ j % 2))) w) := by
  have c24 := h.c24
  have c27 := h.c27
  have c34 := h.c34
  have hf := h.free
  rw [hl] at c27
  rw [hd] at c24
  have H := Lib.hid h
  clear h hl hd
  obtain rfl | rfl | rfl | rfl | rfl | rfl | rfl : j = 0 ∨ j = 1 ∨ j = 2 ∨ j = 3 ∨ j = 4 ∨ j = 5 ∨ j = 6 := by omega
  all_goals
    go_enter Tryz.func146, Tryz.ntmps146
    go_wp2_with fail
    go_quiet (fail)
    go_wp2_with fail
    go_ret
    exact ⟨ret_int (by rw [said1 (by omega) (by omega)]; simp), md, setLeft H.out _ _, ((Kept.refl S w).setCell (p := ⟨b, 27, none⟩) (.inl H.out.own) _).drewN _⟩
end
end Go.Proofs.YtefoldehejbiiaaGreat
