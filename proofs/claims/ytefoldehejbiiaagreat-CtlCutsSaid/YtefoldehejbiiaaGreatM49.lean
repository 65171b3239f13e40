/-
  The walk of CtlForms: it returns true, whatever the input; only new blocks come.
-/
import Derived.Test.YtefoldehejbiiaaGreatM48

namespace Go.Proofs.YtefoldehejbiiaaGreat
open Go.RowKit Lich

/-- A new pair of a chip and its controller, and what they own. -/
def Pair (w0 : World) (q b : Nat) (k : Ctl) (S : Nat → Prop) (w : World) : Prop := CtlIs w q b k S ∧ Below w0.heap.size w0 w ∧ (∀ j, S j → w0.heap.size ≤ j)

theorem Pair.next {w0 w w' : World} {q b : Nat} {k k' : Ctl} {S S' : Nat → Prop} (h : Pair w0 q b k S w) (hc : CtlIs w' q b k' S') (hs : Step S S' w w') : Pair w0 q b k' S' w' :=
  ⟨hc, below_step h.2.1 hs h.2.2 h.2.1.size, fun j hj => (hs.sub j hj).elim (h.2.2 j) (fun e => Nat.le_trans h.2.1.size e)⟩
theorem Pair.beside {w0 w w' : World} {q b : Nat} {k : Ctl} {S : Nat → Prop} (h : Pair w0 q b k S w) (hk : Kept (fun _ => False) w w') : Pair w0 q b k S w' :=
  ⟨h.1.keep hk (fun _ _ e => e), h.2.1.trans (Below.mono (Below.of_kept hk) h.2.1.size), h.2.2⟩

theorem Pair.made {w0 w1 w2 : World} {q b : Nat} {c : Chip} {S1 S2 : Nat → Prop} (hb : Below w0.heap.size w0 w1) (hS : ∀ j, S1 j → w0.heap.size ≤ j) (hc : CtlIs w2 q b (Ctl.new c) S2) (hs : Step S1 S2 w1 w2) : Pair w0 q b (Ctl.new c) S2 w2 :=
  ⟨hc, below_step hb hs hS hb.size, fun j hj => (hs.sub j hj).elim (hS j) (fun e => Nat.le_trans hb.size e)⟩

/-- The registers and numbers that are tried, by turns. -/
def frReg (d : Int) : List Int := [-d, 4 + d, 3, 0, 1, 2, 4, 4]
def frVal (d : Int) : List Int := [0, 0, 0, -d, 4095 + d, 16 + d, 255 + d, -d]
theorem fr_bad (d : Int) (h1 : 1 ≤ d) (i : Nat) (hi : i < 8) : regMay ((frReg d).getD i 0) ((frVal d).getD i 0) = false := by
  obtain rfl | rfl | rfl | rfl | rfl | rfl | rfl | rfl : i = 0 ∨ i = 1 ∨ i = 2 ∨ i = 3 ∨ i = 4 ∨ i = 5 ∨ i = 6 ∨ i = 7 := by omega
  all_goals
    simp only [frReg, frVal, List.getD_cons_zero, List.getD_cons_succ]
    unfold regMay
    repeat' split
    all_goals first | omega | simp
    all_goals try omega

theorem noreg_calls {w : World} {q b : Nat} {c : Chip} {S : Nat → Prop} (h : CtlIs w q b (forms c 0) S) (y : Int) (hy : y < 0 ∨ 4 < y) :
    Calls Tryz.prog 15 #[.pointer (some ⟨q, 0, none⟩), .int .i64 y] w (CtlPost q b (forms c 0) S (.tuple #[.int .i64 0, .int .i64 1100]) w) := by
  have := h.read y
  rw [forms_noreg c y hy] at this
  exact this

set_option maxRecDepth 100000 in
set_option maxHeartbeats 8000000 in
theorem forms_walk (which x : Int) (w : World) : Calls Tryz.prog 3 #[.int .i64 which, .int .i64 x] w fun e w' => e = .returned (.bool true) ∧ Below w.heap.size w w' := by
  obtain ⟨n, hn, hx⟩ := i64_and_some x 1023 (by decide)
  obtain ⟨m, hm, hy⟩ := i64_and_some which 1 (by decide)
  rw [show ((1023 : Nat) : Int) = 1023 from rfl] at hx
  rw [show ((1 : Nat) : Int) = 1 from rfl] at hy
  obtain ⟨d, hd⟩ : ∃ d : Int, d = 1 + (n : Int) := ⟨_, rfl⟩
  have d1 : 1 ≤ d := by omega
  have d2 : d ≤ 1024 := by omega
  have hd' : (1 : Int) + (n : Int) = d := hd.symm
  clear hd
  have HFB := Lib.hid (fr_bad d d1)
  obtain ⟨i, hi8, hI⟩ : ∃ i : Nat, i < 8 ∧ wrap64 ((IntKind.u64.wrap which).tmod 8) = (i : Int) := by
    rw [IntKind.wrap_u64]
    have h0 : 0 ≤ which % 18446744073709551616 := Int.emod_nonneg _ (by decide)
    rw [Int.tmod_eq_emod_of_nonneg h0]
    refine ⟨((which % 18446744073709551616) % 8).toNat, by omega, ?_⟩
    unfold wrap64
    omega
  go_enter Tryz.func3, Tryz.ntmps3
  go_wp2_with fail
  refine (awake_calls w).mono ?_
  rintro e w1 ⟨rfl, hb1⟩
  have HB1 := Lib.hid hb1
  clear hb1
  go_wp2_with fail
  refine (twins_calls [97] (by decide) w1).mono ?_
  rintro e w2 ⟨b, r, S1, rfl, hchip, hb2, hS1⟩
  have HCH := Lib.hid hchip
  have HB2 := Lib.hid (HB1.out.trans (hb2.mono HB1.out.size))
  have HS1 := Lib.hid (fun j (hj : S1 j) => Nat.le_trans HB1.out.size (hS1 j hj))
  have hcf : Chip.Fine { cells := twinCells [97] } := Chip.Fine.fresh (twinCells_len _)
  clear hchip hb2 hS1
  have hsl : ({ cells := twinCells [97] } : Chip).sel = false := rfl
  generalize ({ cells := twinCells [97] } : Chip) = ch at *
  have HCF := Lib.hid hcf
  have HSL := Lib.hid hsl
  clear hcf hsl
  go_wp2_with fail
  refine (ctlNew_calls HCH.out).mono ?_
  rintro e w3 ⟨q, S2, rfl, hctl, hst, hq⟩
  have HP := Lib.hid (show Pair w q b (forms ch 0) S2 w3 from Pair.made HB2.out HS1.out hctl hst)
  clear hctl hst hq
  go_wp2_with (go_at_call 13; refine (num_calls _ _).mono ?_; rintro e w' ⟨rfl, rfl⟩)
  have hk0 : Kept (fun _ => False) w3 ((w3.alloc (.cells #[.int .i64 (-d), .int .i64 (4 + d), .int .i64 3, .int .i64 0, .int .i64 1, .int .i64 2, .int .i64 4, .int .i64 4] 3)).alloc (.cells #[.int .i64 0, .int .i64 0, .int .i64 0, .int .i64 (-d), .int .i64 (4095 + d), .int .i64 (16 + d), .int .i64 (255 + d), .int .i64 (-d)] 3)) := ((Kept.refl _ w3).alloc _).alloc _
  have hb0 : ((w3.alloc (.cells #[.int .i64 (-d), .int .i64 (4 + d), .int .i64 3, .int .i64 0, .int .i64 1, .int .i64 2, .int .i64 4, .int .i64 4] 3)).alloc (.cells #[.int .i64 0, .int .i64 0, .int .i64 0, .int .i64 (-d), .int .i64 (4095 + d), .int .i64 (16 + d), .int .i64 (255 + d), .int .i64 (-d)] 3)).heap[w3.heap.size]? = some (.cells ((frReg d).map (Value.int .i64)).toArray 3 (0, 0)) := blk_alloc (blk_new _ _ _ rfl) _
  have hb1' : ((w3.alloc (.cells #[.int .i64 (-d), .int .i64 (4 + d), .int .i64 3, .int .i64 0, .int .i64 1, .int .i64 2, .int .i64 4, .int .i64 4] 3)).alloc (.cells #[.int .i64 0, .int .i64 0, .int .i64 0, .int .i64 (-d), .int .i64 (4095 + d), .int .i64 (16 + d), .int .i64 (255 + d), .int .i64 (-d)] 3)).heap[w3.heap.size + 1]? = some (.cells ((frVal d).map (Value.int .i64)).toArray 3 (0, 0)) := blk_new _ _ _ (by simp)
  have hck : ∀ l : List Int, l.length = 8 → ((l.map (Value.int .i64)).toArray)[i]? = some (.int .i64 (l.getD i 0)) := fun l hl => by
    simp [List.getD, show i < l.length by omega]
  have ck1 := (blk_cell (i := i) hb0).trans (hck (frReg d) rfl)
  have ck2 := (blk_cell (i := i) hb1').trans (hck (frVal d) rfl)
  have HP4 := Lib.hid (HP.out.beside hk0)
  have hbad := HFB.out i hi8
  have i0 : (0 : Int) ≤ (i : Int) := by omega
  have i8 : (i : Int) < 8 := by omega
  clear hb0 hb1' hck hk0
  generalize (frReg d).getD i 0 = ri at *
  generalize (frVal d).getD i 0 = vi at *
  generalize w3.heap.size + 1 = g1 at *
  generalize w3.heap.size = g0 at *
  generalize ((w3.alloc (.cells #[.int .i64 (-d), .int .i64 (4 + d), .int .i64 3, .int .i64 0, .int .i64 1, .int .i64 2, .int .i64 4, .int .i64 4] 3)).alloc (.cells #[.int .i64 0, .int .i64 0, .int .i64 0, .int .i64 (-d), .int .i64 (4095 + d), .int .i64 (16 + d), .int .i64 (255 + d), .int .i64 (-d)] 3)) = w4 at *
  have HBAD := Lib.hid hbad
  clear hbad
  go_still_tail 9, (by kernel_rfl)
  go_wp2_with fail
  have HR := Lib.hid ((HP4.out.beside (Kept.refl _ w4).drew).1.write (forms_fine HCF.out HSL.out (by decide)) ri vi)
  rw [forms_bad _ _ _ HBAD.out] at HR
  refine HR.out.mono ?_
  rintro e w5 ⟨rfl, S5, hctl, hst⟩
  clear HR
  have HP5 := Lib.hid ((HP4.out.beside (Kept.refl _ w4).drew).next hctl hst)
  clear HP4 hctl hst
  have hyy : bits .and .i64 which 1 = 0 ∨ bits .and .i64 which 1 = 1 := by rw [hy]; omega
  clear hy
  obtain hy | hy := hyy
  all_goals
  go_wp2_with fail
  have HP5' := Lib.hid (HP5.out.beside ((Kept.refl _ w5).alloc (.cells #[.int .i64 (-d), .int .i64 (4 + d)] 3)))
  clear HP5
  generalize w5.alloc (.cells #[.int .i64 (-d), .int .i64 (4 + d)] 3) = w5' at *
  have HP5 := HP5'
  clear HP5'
  have HR := Lib.hid (noreg_calls HP5.out.1)
  refine (HR.out _ (by omega)).mono ?_
  rintro e w6 ⟨rfl, S6, hctl, hst⟩
  clear HR
  have HP6 := Lib.hid (HP5.out.next hctl hst)
  clear HP5 hctl hst
  go_wp2_with fail
  have HR := Lib.hid (HP6.out.1.read 4)
  rw [forms_pop] at HR
  refine HR.out.mono ?_
  rintro e w7 ⟨rfl, S7, hctl, hst⟩
  clear HR
  have HP7 := Lib.hid (HP6.out.next hctl hst)
  clear HP6 hctl hst
  go_wp2_with fail
  have HR := Lib.hid (HP7.out.1.cut (-d))
  rw [forms_cut _ _ (by omega)] at HR
  refine HR.out.mono ?_
  rintro e w8 ⟨rfl, S8, hctl, hst⟩
  clear HR
  have HP8 := Lib.hid (HP7.out.next hctl hst)
  clear HP7 hctl hst
  go_wp2_with fail
  have HR := Lib.hid (HP8.out.1.run (forms_fine HCF.out HSL.out (by decide)) (show (0 : Int) < 3000000000000000000 by decide) (255 + d) 0 [] _ 0 (nil_row _) (nil_far _))
  rw [forms_run _ _ _ _ _ (by omega)] at HR
  refine HR.out.mono ?_
  rintro e w9 ⟨xv9, S9, rfl, hrow, hctl, hst, hfar⟩
  clear hrow hfar
  clear HR
  have HP9 := Lib.hid (HP8.out.next hctl hst)
  clear HP8 hctl hst
  go_wp2_with fail
  have HR := Lib.hid (HP9.out.1.run (forms_fine HCF.out HSL.out (by decide)) (show (0 : Int) < 3000000000000000000 by decide) 3 (4095 + d) [] _ 1 (nil_row _) (nil_far _))
  rw [forms_far _ _ (by omega)] at HR
  refine HR.out.mono ?_
  rintro e w10 ⟨xv10, S10, rfl, hrow, hctl, hst, hfar⟩
  clear hrow hfar
  clear HR
  have HP10 := Lib.hid (HP9.out.next hctl hst)
  clear HP9 hctl hst
  go_wp2_with fail
  have HR := Lib.hid (HP10.out.1.go (forms_fine HCF.out HSL.out (by decide)) (show (0 : Int) < 3000000000000000000 by decide))
  rw [forms_go] at HR
  refine HR.out.mono ?_
  rintro e w11 ⟨rfl, S11, hctl, hst⟩
  clear HR
  have HP11 := Lib.hid (HP10.out.next hctl hst)
  clear HP10 hctl hst
  go_wp2_with fail
  go_loopw [24] (fun i wr => ∃ (k : Nat) (S : Nat → Prop), k ≤ 16 ∧ i = .int .i64 k ∧ Pair w q b (forms ch k) S wr) (fun i _ => 16 - (intOf i).toNat)
  case atStart => exact ⟨0, _, Nat.zero_le _, rfl, HP11.out⟩
  case round =>
    obtain ⟨k, S, hk, rfl, hp⟩ := hrel
    have HPL := Lib.hid hp
    clear hp HP11
    by_cases hlt : k < 16
    · have k0 : (0 : Int) ≤ (k : Int) := by omega
      have k1 : (k : Int) < 16 := by omega
      go_wp2_with fail
      have HR := Lib.hid (HPL.out.1.write (forms_fine HCF.out HSL.out (Nat.le_of_lt hlt)) 4 (k : Int))
      rw [forms_push _ hlt] at HR
      refine HR.out.mono ?_
      rintro e wn ⟨rfl, Sn, hctl, hst⟩
      clear HR
      have HPN := Lib.hid (HPL.out.next hctl hst)
      clear HPL hctl hst
      go_wp2_with fail
      exact ⟨⟨k + 1, Sn, by omega, by go_num, HPN.out⟩, by simp [intOf]; omega⟩
    · have hke : k = 16 := by omega
      subst hke
      go_wp2_with fail
      have HR := Lib.hid (HPL.out.1.write (forms_fine HCF.out HSL.out (by decide)) 4 1)
      rw [forms_full] at HR
      refine HR.out.mono ?_
      rintro e w12 ⟨rfl, S12, hctl, hst⟩
      clear HR
      have HP12 := Lib.hid (HPL.out.next hctl hst)
      clear HPL hctl hst
      go_wp2_with fail
      have HR := Lib.hid (HP12.out.1.read 2)
      rw [forms_len2] at HR
      refine HR.out.mono ?_
      rintro e w13 ⟨rfl, S13, hctl, hst⟩
      clear HR
      have HP13 := Lib.hid (HP12.out.next hctl hst)
      clear HP12 hctl hst
      go_wp2_with fail
      refine (run_none _ _ _ _ _).mono ?_
      rintro e w' ⟨rfl, rfl⟩
      go_wp2_with fail
      refine (read_none _ _).mono ?_
      rintro e w' ⟨rfl, rfl⟩
      have HLO := Lib.hid HP13.out.1.lost
      have HCL := Lib.hid HP13.out.1.clocks
      rw [show (forms ch 16).lost = false from rfl] at HLO
      rw [show (forms ch 16).clocks = 0 from rfl] at HCL
      go_wp2_with (first
        | (go_at_call 13; refine (num_calls _ _).mono ?_; rintro e w' ⟨rfl, rfl⟩)
        | (go_at_call 20; with_reducible refine (lost_none _).mono ?_; rintro e w' ⟨rfl, rfl⟩)
        | (go_at_call 20; with_reducible refine HLO.out.mono ?_; rintro e w' ⟨rfl, rfl⟩)
        | (go_at_call 19; with_reducible refine (clocks_none _).mono ?_; rintro e w' ⟨rfl, rfl⟩)
        | (go_at_call 19; with_reducible refine HCL.out.mono ?_; rintro e w' ⟨rfl, rfl⟩)
        | (go_at_call 14; with_reducible refine (write_none _ _ _).mono ?_; rintro e w' ⟨rfl, rfl⟩)
        | (go_at_call 16; with_reducible refine (cut_none _ _).mono ?_; rintro e w' ⟨rfl, rfl⟩))
      go_ret
      exact ⟨rfl, HP13.out.2.1⟩
end Go.Proofs.YtefoldehejbiiaaGreat
