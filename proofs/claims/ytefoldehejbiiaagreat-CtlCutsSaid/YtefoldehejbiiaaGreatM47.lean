/-
  Walks: chapter 11's law that every program answers.
-/
import Derived.Test.YtefoldehejbiiaaGreatM45
import Derived.Test.YtefoldehejbiiaaGreatM46

namespace Go.Proofs.YtefoldehejbiiaaGreat
open Go.RowKit Lich

theorem aw_cells : twinCells [120, 121, 122] = awCells := by
  unfold twinCells awCells
  rw [if_neg (by decide)]
  rfl

theorem awA_fine : awA.Fine := Ctl.new_fine (Chip.Fine.fresh (by rw [← aw_cells]; exact twinCells_len _)) rfl
theorem awB_fine : awB.Fine := (Ctl.run_fine awA_fine 3 4 [] 2).1
theorem awC_fine : awC.Fine := (Ctl.write_fine awB_fine 0 159).1
theorem awD_fine : awD.Fine := (Ctl.write_fine awC_fine 2 2).1
theorem awE_fine : awE.Fine := (Ctl.go_fine awD_fine).1
theorem awF_fine : awF.Fine := (Ctl.read_fine awE_fine 4).1
theorem awG_fine : awG.Fine := (Ctl.cut_fine awF_fine 5 (by decide)).1
theorem awH_fine : awH.Fine := (Ctl.run_fine awG_fine 159 0 [] 1).1

theorem Below.of_kept {w w' : World} (h : Kept (fun _ => False) w w') : Below w.heap.size w w' := ⟨h.os, h.tape, h.output, h.size, fun k hk => h.block k hk (fun e => e)⟩

theorem nil_row (w : World) : RowIs w (.slice none 0 0) [] := .inl ⟨rfl, rfl⟩
theorem nil_far (S : Nat → Prop) : ∀ g, (Value.slice none 0 0).ownBlock = some g → ¬ S g := by simp [Value.ownBlock]

theorem go_none (w : World) : Calls Tryz.prog 18 #[.pointer none] w fun e w' => e = .returned (.int .i64 1) ∧ w = w' := by
  go_enter Tryz.func18, Tryz.ntmps18
  go_wp2_with fail
  refine (state_none w).mono ?_
  rintro e w' ⟨rfl, rfl⟩
  go_wp2_with fail
  go_ret
  exact ⟨rfl, rfl⟩

set_option maxRecDepth 100000 in
set_option maxHeartbeats 4000000 in
theorem awake_calls (w : World) : Calls Tryz.prog 10 #[] w fun e w' => e = .returned (.bool true) ∧ Below w.heap.size w w' := by
  go_enter Tryz.func10, Tryz.ntmps10
  go_wp2_with fail
  refine (twins_calls [120, 121, 122] (by decide) w).mono ?_
  rintro e w1 ⟨b, r, S1, rfl, hchip, hb1, hS1⟩
  rw [aw_cells] at hchip
  have HCH := Lib.hid hchip
  have HB1 := Lib.hid hb1
  have HS1 := Lib.hid hS1
  clear hchip hb1 hS1
  go_wp2_with fail
  refine (ctlNew_calls HCH.out).mono ?_
  rintro e w2 ⟨q, S2, rfl, hctl, hst, hq⟩
  have HC := Lib.hid (show CtlIs w2 q b awA S2 from hctl)
  have HB2 := Lib.hid (below_step HB1.out hst HS1.out HB1.out.size)
  have hS2 : ∀ j, S2 j → w.heap.size ≤ j := fun j hj => by
    rcases hst.sub j hj with e | e
    · exact HS1.out j e
    · exact Nat.le_trans HB1.out.size e
  have HS2 := Lib.hid hS2
  clear hctl hst hS2 hq
  go_wp2_with fail
  refine (ctlNew_none _).mono ?_
  rintro e w' ⟨rfl, rfl⟩
  go_wp2_with (go_at_call 13; refine (num_calls _ _).mono ?_; rintro e w' ⟨rfl, rfl⟩)
  have HR := Lib.hid (HC.out.run awA_fine (by rw [aw13.1]; decide) 3 4 [] _ 2 (nil_row _) (nil_far _))
  rw [aw1] at HR
  refine HR.out.mono ?_
  rintro e w3 ⟨xv3, S3, rfl, hrow3, hctl, hst, hfar3⟩
  clear HR
  have HC' := Lib.hid hctl
  clear HC
  have HC := HC'
  clear HC'
  have HST := Lib.hid (Step.refl S3 w3)
  have HBX := Lib.hid (below_step HB2.out hst HS2.out HB2.out.size)
  have hsx : ∀ j, S3 j → w.heap.size ≤ j := fun j hj => by
    rcases hst.sub j hj with e | e
    · exact HS2.out j e
    · exact Nat.le_trans HB2.out.size e
  have HSX := Lib.hid hsx
  have HROW := Lib.hid (RowIs.of_owns hrow3)
  have HFAR := Lib.hid (fun g hg => (hfar3 g hg).2)
  clear hrow3 hfar3 hst hctl hsx
  go_wp2_with (go_at_call 13; refine (num_calls _ _).mono ?_; rintro e w' ⟨rfl, rfl⟩)
  have HR := Lib.hid (HC.out.run awB_fine (by rw [aw13.2.1]; decide) 0 0 [] _ 0 (nil_row _) (nil_far _))
  rw [aw2] at HR
  refine HR.out.mono ?_
  rintro e w4 ⟨xv4, S4, rfl, hrow4, hctl, hst, hfar4⟩
  clear HR
  have HC' := Lib.hid hctl
  clear HC
  have HC := HC'
  clear HC'
  have HST' := Lib.hid (HST.out.trans hst)
  clear HST
  have HST := HST'
  clear HST' hst hctl
  clear hrow4 hfar4
  go_wp2_with (go_at_call 13; refine (num_calls _ _).mono ?_; rintro e w' ⟨rfl, rfl⟩)
  have HR := Lib.hid (HC.out.write awB_fine 0 159)
  rw [aw3] at HR
  refine HR.out.mono ?_
  rintro e w5 ⟨rfl, S5, hctl, hst⟩
  clear HR
  have HC' := Lib.hid hctl
  clear HC
  have HC := HC'
  clear HC'
  have HST' := Lib.hid (HST.out.trans hst)
  clear HST
  have HST := HST'
  clear HST' hst hctl
  go_wp2_with (go_at_call 13; refine (num_calls _ _).mono ?_; rintro e w' ⟨rfl, rfl⟩)
  have HR := Lib.hid (HC.out.write awC_fine 2 2)
  rw [aw4] at HR
  refine HR.out.mono ?_
  rintro e w6 ⟨rfl, S6, hctl, hst⟩
  clear HR
  have HC' := Lib.hid hctl
  clear HC
  have HC := HC'
  clear HC'
  have HST' := Lib.hid (HST.out.trans hst)
  clear HST
  have HST := HST'
  clear HST' hst hctl
  go_wp2_with (go_at_call 13; refine (num_calls _ _).mono ?_; rintro e w' ⟨rfl, rfl⟩)
  have HR := Lib.hid (HC.out.go awD_fine (by rw [aw13.2.2.2.1]; decide))
  rw [aw5] at HR
  refine HR.out.mono ?_
  rintro e w7 ⟨rfl, S7, hctl, hst⟩
  clear HR
  have HC' := Lib.hid hctl
  clear HC
  have HC := HC'
  clear HC'
  have HST' := Lib.hid (HST.out.trans hst)
  clear HST
  have HST := HST'
  clear HST' hst hctl
  go_wp2_with (go_at_call 13; refine (num_calls _ _).mono ?_; rintro e w' ⟨rfl, rfl⟩)
  have HR := Lib.hid (HC.out.read 3)
  rw [aw6] at HR
  refine HR.out.mono ?_
  rintro e w8 ⟨rfl, S8, hctl, hst⟩
  clear HR
  have HC' := Lib.hid hctl
  clear HC
  have HC := HC'
  clear HC'
  have HST' := Lib.hid (HST.out.trans hst)
  clear HST
  have HST := HST'
  clear HST' hst hctl
  go_wp2_with (go_at_call 13; refine (num_calls _ _).mono ?_; rintro e w' ⟨rfl, rfl⟩)
  have HR := Lib.hid (HC.out.read 4)
  rw [aw7] at HR
  refine HR.out.mono ?_
  rintro e w9 ⟨rfl, S9, hctl, hst⟩
  clear HR
  have HC' := Lib.hid hctl
  clear HC
  have HC := HC'
  clear HC'
  have HST' := Lib.hid (HST.out.trans hst)
  clear HST
  have HST := HST'
  clear HST' hst hctl
  go_wp2_with (go_at_call 13; refine (num_calls _ _).mono ?_; rintro e w' ⟨rfl, rfl⟩)
  have HR := Lib.hid (HC.out.cut 5)
  rw [aw8] at HR
  refine HR.out.mono ?_
  rintro e w10 ⟨rfl, S10, hctl, hst⟩
  clear HR
  have HC' := Lib.hid hctl
  clear HC
  have HC := HC'
  clear HC'
  have HST' := Lib.hid (HST.out.trans hst)
  clear HST
  have HST := HST'
  clear HST' hst hctl
  go_wp2_with (go_at_call 13; refine (num_calls _ _).mono ?_; rintro e w' ⟨rfl, rfl⟩)
  have HR := Lib.hid (HC.out.run awG_fine (by rw [aw13.2.2.2.2.2.2]; decide) 159 0 [] _ 1 (nil_row _) (nil_far _))
  rw [aw9] at HR
  refine HR.out.mono ?_
  rintro e w11 ⟨xv11, S11, rfl, hrow11, hctl, hst, hfar11⟩
  clear HR
  have HC' := Lib.hid hctl
  clear HC
  have HC := HC'
  clear HC'
  have HST' := Lib.hid (HST.out.trans hst)
  clear HST
  have HST := HST'
  clear HST' hst hctl
  clear hrow11 hfar11
  go_wp2_with (go_at_call 13; refine (num_calls _ _).mono ?_; rintro e w' ⟨rfl, rfl⟩)
  have HR := Lib.hid (HC.out.write awH_fine 4 1)
  rw [aw11] at HR
  refine HR.out.mono ?_
  rintro e w12 ⟨rfl, S12, hctl, hst⟩
  clear HR
  have HC' := Lib.hid hctl
  clear HC
  have HC := HC'
  clear HC'
  have HST' := Lib.hid (HST.out.trans hst)
  clear HST
  have HST := HST'
  clear HST' hst hctl
  go_wp2_with (go_at_call 13; refine (num_calls _ _).mono ?_; rintro e w' ⟨rfl, rfl⟩)
  have hx1 : RowIs (w12.alloc (.cells #[.int .i64 121, .int .i64 122] 3)) xv3 [121, 122] := (HROW.out.keep HST.out.toKept HFAR.out).below (below_new (Below.refl _ _) _)
  have hx2 : RowIs (w12.alloc (.cells #[.int .i64 121, .int .i64 122] 3)) (.slice (some ⟨w12.heap.size, 0, none⟩) 2 2) [121, 122] := RowIs.of_owns (World.ownsRow_lit (base := 0) (e := 3) (size := 1) w12 #[.int .i64 121, .int .i64 122] 2 (Nat.zero_le _) (by simp [maxLen]) rfl)
  refine (sameInts_calls [121, 122] [121, 122] (by decide) (by decide) _ _ _ hx1 hx2).mono ?_
  rintro e w13 ⟨rfl, n13, rfl⟩
  have hk13 : Kept (fun _ => False) w12 ((w12.alloc (.cells #[.int .i64 121, .int .i64 122] 3)).drewN n13) := ((Kept.refl _ w12).alloc _).drewN _
  have HC13 := Lib.hid (HC.out.keep hk13 (fun _ _ e => e))
  have HB13 := Lib.hid ((below_step HBX.out HST.out HSX.out HBX.out.size).trans (Below.mono (Below.of_kept hk13) (by have := HBX.out.size; have := HST.out.toKept.size; omega)))
  clear hx1 hx2 hk13 HST HROW HFAR
  generalize (w12.alloc (.cells #[.int .i64 121, .int .i64 122] 3)).drewN n13 = W at *
  rw [show decide ([121, 122] = ([121, 122] : List Int)) = true from by decide]
  have HLO := Lib.hid HC13.out.lost
  rw [aw10] at HLO
  have HCL := Lib.hid HC13.out.clocks
  rw [aw12] at HCL
  go_wp2_with (first
    | (go_at_call 13; refine (num_calls _ _).mono ?_; rintro e w' ⟨rfl, rfl⟩)
    | (go_at_call 20; refine HLO.out.mono ?_; rintro e w' ⟨rfl, rfl⟩)
    | (go_at_call 19; refine HCL.out.mono ?_; rintro e w' ⟨rfl, rfl⟩)
    | (go_at_call 18; refine (go_none _).mono ?_; rintro e w' ⟨rfl, rfl⟩))
  go_ret
  exact ⟨rfl, HB13.out⟩
end Go.Proofs.YtefoldehejbiiaaGreat
