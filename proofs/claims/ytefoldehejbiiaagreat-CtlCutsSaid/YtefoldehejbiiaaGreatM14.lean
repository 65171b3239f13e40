/-
  Walks: the first bits of a byte that comes.
  Walks: the first bit of a byte that comes on one wire, and the saying as a whole.
-/
import Derived.Test.YtefoldehejbiiaaGreatM09
import Derived.Test.YtefoldehejbiiaaGreatM04
import Derived.Test.YtefoldehejbiiaaGreatM13

namespace Go.Proofs.YtefoldehejbiiaaGreat
open Go.RowKit Lich

section
variable {w : World} {b : Nat} {c : Chip} {S : Nat → Prop} {md : Bool} {jv bv dv : Value}

theorem setSaid (h : ChipIs w b c S md jv bv dv) (v k t l : Int) :
    ChipIs ((((w.setCell ⟨b, 34, none⟩ (.int .i64 v)).setCell ⟨b, 27, none⟩ (.int .i64 k)).setCell ⟨b, 33, none⟩ (.int .i64 t)).setCell ⟨b, 27, none⟩ (.int .i64 l)) b { c with cmd := { c.cmd with now := v, left := l, told := t } } S md jv bv dv ∧
      Kept S w ((((w.setCell ⟨b, 34, none⟩ (.int .i64 v)).setCell ⟨b, 27, none⟩ (.int .i64 k)).setCell ⟨b, 33, none⟩ (.int .i64 t)).setCell ⟨b, 27, none⟩ (.int .i64 l)) := by
  constructor
  · have h0 := h.set (c' := { c with cmd := { c.cmd with now := v } }) (i := 34) (v := .int .i64 v) rfl rfl rfl rfl
    have h1 := h0.set (c' := { c with cmd := { c.cmd with now := v, left := k } }) (i := 27) (v := .int .i64 k) rfl rfl rfl rfl
    have h2 := h1.set (c' := { c with cmd := { c.cmd with now := v, left := k, told := t } }) (i := 33) (v := .int .i64 t) rfl rfl rfl rfl
    exact h2.set (c' := { c with cmd := { c.cmd with now := v, left := l, told := t } }) (i := 27) (v := .int .i64 l) rfl rfl rfl rfl
  · exact ((((Kept.refl S w).setCell (p := ⟨b, 34, none⟩) (.inl h.own) _).setCell (p := ⟨b, 27, none⟩) (.inl h.own) _).setCell (p := ⟨b, 33, none⟩) (.inl h.own) _).setCell (p := ⟨b, 27, none⟩) (.inl h.own) _

set_option maxRecDepth 100000 in
set_option maxHeartbeats 1000000 in
theorem says_fresh4 (h : ChipIs w b c S md jv bv dv) (hl : c.cmd.left = 0) (hd : c.cmd.op.data = 4) (t0 : 0 ≤ c.cmd.told) (t1 : c.cmd.told < 100000000000) (ha0 : 0 ≤ c.cmd.addr) (ha1 : c.cmd.addr < 4096) (hc : c.cells.length = 4096) :
    Calls Tryz.prog 146 #[.pointer (some ⟨b, 0, none⟩)] w (Stays b { c with cmd := { c.cmd with now := c.byteAt c.cmd.told, left := 1, told := c.cmd.told + 1 } } S jv bv dv (.int .i64 (c.byteAt c.cmd.told / 16 % 16)) w) := by
  have hby := Lib.hid (byteAt_calls (h.drewN 1) c.cmd.told t0 t1 ha0 ha1 hc)
  have hv := c.byteAt_bd c.cmd.told
  obtain ⟨v0, v1⟩ := hv
  have c24 := h.c24
  have c27 := h.c27
  have c33 := h.c33
  rw [hl] at c27
  rw [hd] at c24
  have H := Lib.hid h
  have D := Lib.hid hd
  clear h hl hd
  generalize c.byteAt c.cmd.told = v at *
  go_enter Tryz.func146, Tryz.ntmps146
  go_wp2_with fail
  go_region_with (first | (go_at_call 160; refine hby.out.mono ?_; rintro e w1 ⟨rfl, md1, h1, k1⟩; have z24 := h1.c24; rw [D.out] at z24; have z27 := h1.c27; have z33 := h1.c33; have z34 := h1.c34; have zf := h1.free; have H1 := Lib.hid h1; have K1 := Lib.hid k1; clear h1 k1) | (go_at_call 95; refine (many4 _).mono ?_; rintro e w' ⟨rfl, rfl⟩))
  all_goals
    go_wp2_with fail
    obtain ⟨h2, k2⟩ := setSaid H1.out v 2 (c.cmd.told + 1) 1
    generalize (((w1.setCell ⟨b, 34, none⟩ (.int .i64 v)).setCell ⟨b, 27, none⟩ (.int .i64 2)).setCell ⟨b, 33, none⟩ (.int .i64 (c.cmd.told + 1))).setCell ⟨b, 27, none⟩ (.int .i64 1) = w2 at *
    have y24 := h2.c24
    have y27 := h2.c27
    have y34 := h2.c34
    simp only at y24 y27 y34
    rw [D.out] at y24
    have H2 := Lib.hid h2
    have K2 := Lib.hid k2
    clear h2 k2 z24 z27 z33 z34 zf
    go_quiet (fail)
    go_wp2_with fail
    go_ret
    exact ⟨ret_int (i64_and_mask 4 15 (by decide) (by decide) (by omega) (by omega)), md1, H2.out.drewN _, (((Kept.refl S w).drewN 1).trans (K1.out.trans K2.out)).drewN _⟩
end
end Go.Proofs.YtefoldehejbiiaaGreat

namespace Go.Proofs.YtefoldehejbiiaaGreat
open Go.RowKit Lich

section
variable {w : World} {b : Nat} {c : Chip} {S : Nat → Prop} {md : Bool} {jv bv dv : Value}

set_option maxRecDepth 100000 in
set_option maxHeartbeats 1000000 in
theorem says_fresh1 (h : ChipIs w b c S md jv bv dv) (hl : c.cmd.left = 0) (hd : c.cmd.op.data = 1) (t0 : 0 ≤ c.cmd.told) (t1 : c.cmd.told < 100000000000) (ha0 : 0 ≤ c.cmd.addr) (ha1 : c.cmd.addr < 4096) (hc : c.cells.length = 4096) :
    Calls Tryz.prog 146 #[.pointer (some ⟨b, 0, none⟩)] w (Stays b { c with cmd := { c.cmd with now := c.byteAt c.cmd.told, left := 7, told := c.cmd.told + 1 } } S jv bv dv (.int .i64 (13 + 2 * (c.byteAt c.cmd.told / 128 % 2))) w) := by
  have hby := Lib.hid (byteAt_calls (h.drewN 1) c.cmd.told t0 t1 ha0 ha1 hc)
  have hv := c.byteAt_bd c.cmd.told
  obtain ⟨v0, v1⟩ := hv
  have c24 := h.c24
  have c27 := h.c27
  have c33 := h.c33
  rw [hl] at c27
  rw [hd] at c24
  have H := Lib.hid h
  have D := Lib.hid hd
  clear h hl hd
  generalize c.byteAt c.cmd.told = v at *
  go_enter Tryz.func146, Tryz.ntmps146
  go_wp2_with fail
  go_region_with (first | (go_at_call 160; refine hby.out.mono ?_; rintro e w1 ⟨rfl, md1, h1, k1⟩; have z24 := h1.c24; rw [D.out] at z24; have z27 := h1.c27; have z33 := h1.c33; have z34 := h1.c34; have zf := h1.free; have H1 := Lib.hid h1; have K1 := Lib.hid k1; clear h1 k1) | (go_at_call 95; refine (many1 _).mono ?_; rintro e w' ⟨rfl, rfl⟩))
  all_goals
    go_wp2_with fail
    obtain ⟨h2, k2⟩ := setSaid H1.out v 8 (c.cmd.told + 1) 7
    generalize (((w1.setCell ⟨b, 34, none⟩ (.int .i64 v)).setCell ⟨b, 27, none⟩ (.int .i64 8)).setCell ⟨b, 33, none⟩ (.int .i64 (c.cmd.told + 1))).setCell ⟨b, 27, none⟩ (.int .i64 7) = w2 at *
    have y24 := h2.c24
    have y27 := h2.c27
    have y34 := h2.c34
    simp only at y24 y27 y34
    rw [D.out] at y24
    have H2 := Lib.hid h2
    have K2 := Lib.hid k2
    clear h2 k2 z24 z27 z33 z34 zf
    go_quiet (fail)
    go_wp2_with fail
    go_ret
    exact ⟨ret_int (said1 (by omega) (by omega)), md1, H2.out.drewN _, (((Kept.refl S w).drewN 1).trans (K1.out.trans K2.out)).drewN _⟩
end
end Go.Proofs.YtefoldehejbiiaaGreat
