/-
  A controller with a bound, of which only the number is asked: what fits is whole, what does not stops at the bound. No program.
  The walk of CtlCuts: it returns true, whatever the input; only new blocks come.
  Words for the rows: arguments read again where nothing that was there has turned; the end of a row whose new blocks may be frozen.
-/
import Derived.Test.YtefoldehejbiiaaGreatM53
import Derived.Test.YtefoldehejbiiaaGreatM45
import Derived.Test.YtefoldehejbiiaaGreatM49
import Derived.ProofKit
import Derived.WideKeyArgs
import Derived.OpenShut
import Derived.Below

namespace Lich
open Go.Proofs.YtefoldehejbiiaaGreat

def opId : OpD := { byte := 159, data := 1 }
theorem opId_is : opOf opId.byte = some opId := by decide
theorem opId_tells : opId.tells := ⟨rfl, rfl, .inl rfl⟩
theorem opId_time (r : Int) : opId.time r = 8 + 8 * r := by
  unfold OpD.time opId
  simp
  omega

/-- Such a controller: L clocks are left of n. -/
structure Cuts (n L : Int) (k : Ctl) : Prop where
  fine : k.Fine
  lost : k.lost = false
  goes : k.goes = false
  cgoes : k.chip.goes = false
  job : k.chip.job = none
  left : k.left = L
  clocks : k.clocks = n - L

theorem Cuts.whole {n L : Int} {k : Ctl} (h : Cuts n L k) {m : Nat} (hm : m ≤ 15) (h0 : 0 ≤ L) (h2 : 8 + 8 * (m : Int) ≤ L) :
    ∃ k' xs, k.run 159 0 [] m = (k', xs, 0) ∧ xs.length = m ∧ Cuts n (L - (8 + 8 * m)) k' := by
  obtain ⟨c', hr⟩ := Ctl.run_tells (k := k) (o := opId) h.lost (h.fine.sel h.lost) h.job h.goes h.cgoes opId_is opId_tells (by
    have hw : k.chip.works = false := by unfold Chip.works; rw [h.job]
    show k.chip.takes 159 = true
    unfold Chip.takes
    simp [hw]) (at_ := 0) (by decide) (by decide) (fun _ => rfl) (r := m) (by omega) (.inr (by rw [opId_time, h.left]; exact h2))
  have hf := (Ctl.run_fine h.fine 159 0 [] m).1
  have hr' : k.run 159 0 [] m = _ := hr
  rw [opId_time] at hr'
  rw [hr'] at hf
  refine ⟨_, _, hr', by simp, ⟨hf, h.lost, h.goes, h.cgoes, h.job, ?_, ?_⟩⟩
  · show (if 0 ≤ k.left then k.left - (8 + 8 * (m : Int)) else k.left) = _
    rw [h.left, if_pos h0]
  · show k.clocks + (8 + 8 * (m : Int)) = _
    rw [h.clocks]; omega

theorem Cuts.stop {n L : Int} {k : Ctl} (h : Cuts n L k) {m : Nat} (hm : m ≤ 15) (h0 : 0 ≤ L) (h2 : L < 8 + 8 * (m : Int)) :
    ∃ k', k.run 159 0 [] m = (k', [], 1101) ∧ k'.Fine ∧ k'.lost = true ∧ k'.clocks = n := by
  obtain ⟨c', hr⟩ := Ctl.run_tells_cut (k := k) (o := opId) h.fine h.lost h.goes opId_is opId_tells (at_ := 0) (by decide) (by decide) (fun _ => rfl) (r := m) (by omega) (by rw [h.left]; exact h0) (by rw [opId_time, h.left]; exact h2)
  have hf := (Ctl.run_fine h.fine 159 0 [] m).1
  have hr' : k.run 159 0 [] m = _ := hr
  rw [hr'] at hf
  refine ⟨_, hr', hf, rfl, ?_⟩
  show k.clocks + k.left = n
  rw [h.clocks, h.left]; omega

theorem Cuts.new {c : Chip} (hc : c.Fine) (hs : c.sel = false) (hg : c.goes = false) (hj : c.job = none) {n : Int} (h0 : 0 ≤ n) (h1 : n < 9223372036854775808) : (Ctl.new c).cut n = ((({ Ctl.new c with left := n } : Ctl)), 0) ∧ Cuts n n { Ctl.new c with left := n } := by
  have e : (Ctl.new c).cut n = ({ Ctl.new c with left := n }, 0) := by unfold Ctl.cut; rw [if_neg (by omega)]
  have hf := (Ctl.cut_fine (Ctl.new_fine hc hs) n h1).1
  rw [e] at hf
  exact ⟨e, hf, rfl, rfl, hg, hj, rfl, by show (0 : Int) = n - n; omega⟩
end Lich

namespace Go.Proofs.YtefoldehejbiiaaGreat
open Go.RowKit Lich

theorem RowIs.slice {w : World} {v : Value} {xs : List Int} (h : RowIs w v xs) : ∃ p cap, v = .slice p xs.length cap := by
  rcases h with ⟨rfl, rfl⟩ | ⟨g, o, cap, rfl, _⟩
  · exact ⟨none, 0, rfl⟩
  · exact ⟨_, cap, rfl⟩

theorem run_lost_calls {w : World} {q b : Nat} {k : Ctl} {S : Nat → Prop} (h : CtlIs w q b k S) (hf : k.Fine) (hl : k.lost = true) (hc : k.clocks < 3000000000000000000) (bb at_ read : Int) :
    Calls Tryz.prog 17 #[.pointer (some ⟨q, 0, none⟩), .int .i64 bb, .int .i64 at_, .slice none 0 0, .int .i64 read] w (CtlGave q b (k, [], 1101) S w) := by
  have := h.run hf hc bb at_ [] (.slice none 0 0) read (nil_row _) (nil_far _)
  rw [Ctl.run_lost hl] at this
  exact this

set_option maxRecDepth 100000 in
set_option maxHeartbeats 8000000 in
theorem cuts_walk (bound : Int) (rows : List Int) (p : Option Addr) (cap : Nat) (w : World) (hrow : ∀ j, j < rows.length → ∃ g o, p = some ⟨g, o, none⟩ ∧ g < w.heap.size ∧ w.cell? ⟨g, o + j, none⟩ = some (.int .i64 (rows.getD j 0))) : Calls Tryz.prog 5 #[.int .i64 bound, .slice p rows.length cap] w fun e w' => e = .returned (.bool true) ∧ Below w.heap.size w w' := by
  obtain ⟨n, hn, hx⟩ := i64_and_some bound 1023 (by decide)
  rw [show ((1023 : Nat) : Int) = 1023 from rfl] at hx
  have HROW := Lib.hid hrow
  clear hrow
  go_enter Tryz.func5, Tryz.ntmps5
  go_wp2_with fail
  refine (awake_calls w).mono ?_
  rintro e w1 ⟨rfl, hb1⟩
  have HB1 := Lib.hid hb1
  clear hb1
  go_wp2_with fail
  refine (twins_calls [97] (by decide) w1).mono ?_
  rintro e w2 ⟨b, r, S1, rfl, hchip, hb2, hS1⟩
  have HCH := Lib.hid hchip
  have HB2 := Lib.hid (HB1.out.trans (hb2.mono HB1.out.size))
  have HS1 := Lib.hid (fun j (hj : S1 j) => Nat.le_trans HB1.out.size (hS1 j hj))
  have hcut := Cuts.new (Chip.Fine.fresh (twinCells_len [97])) (c := { cells := twinCells [97] }) rfl rfl rfl (n := n) (by omega) (by omega)
  clear hchip hb2 hS1
  generalize ({ cells := twinCells [97] } : Chip) = ch at *
  have HCUT := Lib.hid hcut
  clear hcut
  go_wp2_with fail
  refine (ctlNew_calls HCH.out).mono ?_
  rintro e w3 ⟨q, S2, rfl, hctl, hst, hq⟩
  have HP := Lib.hid (show Pair w q b (Ctl.new ch) S2 w3 from Pair.made HB2.out HS1.out hctl hst)
  clear hctl hst hq
  go_wp2_with (go_at_call 13; refine (num_calls _ _).mono ?_; rintro e w' ⟨rfl, rfl⟩)
  have HR := Lib.hid (HP.out.1.cut n)
  rw [HCUT.out.1] at HR
  refine HR.out.mono ?_
  rintro e w4 ⟨rfl, S4, hctl, hst⟩
  clear HR
  have HP4 := Lib.hid (HP.out.next hctl hst)
  clear HP hctl hst
  have n0 : (0 : Int) ≤ (n : Int) := by omega
  have n1 : (n : Int) ≤ 1023 := by omega
  have hcell : ∀ wr : World, Below w.heap.size w wr → ∀ j, j < rows.length → ∃ g o, p = some ⟨g, o, none⟩ ∧ wr.cell? ⟨g, o + j, none⟩ = some (.int .i64 (rows.getD j 0)) := fun wr hb j hj => by
    obtain ⟨g, o, e, hg, hc⟩ := HROW.out j hj
    exact ⟨g, o, e, by rw [World.cell?_of_block (hb.block g hg)]; exact hc⟩
  have HCELL := Lib.hid hcell
  clear hcell
  have HCU := Lib.hid HCUT.out.2
  clear HCUT
  generalize ({ Ctl.new ch with left := (n : Int) } : Ctl) = k0 at *
  go_wp2_with fail
  go_loopw [9, 10] (fun l i wr => ∃ (j L : Nat) (k : Ctl) (S : Nat → Prop), i = .int .i64 j ∧ l = .int .i64 L ∧ j ≤ 30 ∧ L ≤ n ∧ Pair w q b k S wr ∧ Cuts n L k) (fun _ i _ => 30 - (intOf i).toNat)
  case atStart => exact ⟨0, n, _, _, rfl, rfl, by omega, Nat.le_refl _, HP4.out, HCU.out⟩
  case round =>
    obtain ⟨j, L, k, S, rfl, rfl, hj, hL, hp, hcu⟩ := hrel
    have HPL := Lib.hid hp
    have HCK := Lib.hid hcu
    clear hp hcu HP4 HCU
    have j0 : (0 : Int) ≤ (j : Int) := by omega
    have L0 : (0 : Int) ≤ (L : Int) := by omega
    have L1 : (L : Int) ≤ 1023 := by omega
    by_cases hlt : j < rows.length ∧ j < 30
    · obtain ⟨hlt1, hlt2⟩ := hlt
      obtain ⟨g, o, rfl, hc⟩ := HCELL.out wr HPL.out.2.1 j hlt1
      obtain ⟨m, hm, hm'⟩ := i64_and_some (rows.getD j 0) 15 (by decide)
      rw [show ((15 : Nat) : Int) = 15 from rfl] at hm'
      have j1 : (j : Int) < (rows.length : Int) := by omega
      have j2 : (j : Int) < 30 := by omega
      have m0 : (0 : Int) ≤ (m : Int) := by omega
      have m1 : (m : Int) ≤ 15 := by omega
      generalize rows.getD j 0 = x at *
      by_cases hroom : 8 + 8 * (m : Int) ≤ L
      · obtain ⟨k', xs, hr, hxl, hcu'⟩ := HCK.out.whole hm (by omega) hroom
        have HR := Lib.hid (HPL.out.1.run HCK.out.fine (by have := HCK.out.clocks; omega) 159 0 [] (.slice none 0 0) m (nil_row _) (nil_far _))
        rw [hr] at HR
        obtain ⟨L', hL'⟩ : ∃ L' : Nat, (L : Int) - (8 + 8 * m) = L' := ⟨((L : Int) - (8 + 8 * m)).toNat, by omega⟩
        rw [hL'] at hcu'
        have HCN := Lib.hid hcu'
        have HXL := Lib.hid hxl
        clear hcu' hr hxl
        go_wp2_with fail
        refine HR.out.mono ?_
        rintro e w5 ⟨xv, S5, rfl, hrow5, hctl, hst, hfar⟩
        obtain ⟨p5, c5, he⟩ := (RowIs.of_owns hrow5).slice
        rw [HXL.out] at he
        subst he
        have HPN := Lib.hid (HPL.out.next hctl hst)
        have HCL := Lib.hid HPN.out.1.clocks
        rw [HCN.out.clocks] at HCL
        clear hrow5 hfar hctl hst HR HXL
        go_wp2_with (first
          | (go_at_call 13; refine (num_calls _ _).mono ?_; rintro e w' ⟨rfl, rfl⟩)
          | (go_at_call 19; refine HCL.out.mono ?_; rintro e w' ⟨rfl, rfl⟩))
        exact ⟨⟨j + 1, L', k', S5, by go_num, rfl, by omega, by omega, HPN.out, HCN.out⟩, by simp [intOf]; omega⟩
      · obtain ⟨k', hr, hf, hl, hcl⟩ := HCK.out.stop hm (by omega) (by omega)
        have HR := Lib.hid (HPL.out.1.run HCK.out.fine (by have := HCK.out.clocks; omega) 159 0 [] (.slice none 0 0) m (nil_row _) (nil_far _))
        rw [hr] at HR
        have HF := Lib.hid hf
        have HL := Lib.hid hl
        have HCC := Lib.hid hcl
        clear hr hf hl hcl
        go_wp2_with fail
        refine HR.out.mono ?_
        rintro e w5 ⟨xv, S5, rfl, hrow5, hctl, hst, hfar⟩
        obtain ⟨p5, c5, rfl⟩ := (RowIs.of_owns hrow5).slice
        have HPN := Lib.hid (HPL.out.next hctl hst)
        clear hrow5 hfar hctl hst HR
        go_wp2_with fail
        refine (run_lost_calls HPN.out.1 HF.out HL.out (by have := HCC.out; omega) 159 0 1).mono ?_
        rintro e w6 ⟨xv6, S6, rfl, hrow6, hctl, hst, hfar⟩
        have HPM := Lib.hid (HPN.out.next hctl hst)
        have HCL := Lib.hid HPM.out.1.clocks
        rw [HCC.out] at HCL
        have HLO := Lib.hid HPM.out.1.lost
        rw [HL.out] at HLO
        clear hrow6 hfar hctl hst
        go_wp2_with (first
          | (go_at_call 13; refine (num_calls _ _).mono ?_; rintro e w' ⟨rfl, rfl⟩)
          | (go_at_call 20; refine HLO.out.mono ?_; rintro e w' ⟨rfl, rfl⟩)
          | (go_at_call 19; refine HCL.out.mono ?_; rintro e w' ⟨rfl, rfl⟩))
        go_ret
        exact ⟨rfl, HPM.out.2.1⟩
    · have HLO := Lib.hid HPL.out.1.lost
      rw [HCK.out.lost] at HLO
      by_cases hlen : j < rows.length
      · have hj30 : j = 30 := by omega
        subst hj30
        have j1 : ((30 : Nat) : Int) < (rows.length : Int) := by omega
        rw [show ((30 : Nat) : Int) = 30 from rfl] at *
        go_wp2_with (go_at_call 20; refine HLO.out.mono ?_; rintro e w' ⟨rfl, rfl⟩)
        go_ret
        exact ⟨rfl, HPL.out.2.1⟩
      · have j1 : ¬ (j : Int) < (rows.length : Int) := by omega
        go_wp2_with (go_at_call 20; refine HLO.out.mono ?_; rintro e w' ⟨rfl, rfl⟩)
        go_ret
        exact ⟨rfl, HPL.out.2.1⟩
end Go.Proofs.YtefoldehejbiiaaGreat

namespace Go.Proofs.YtefoldehejbiiaaGreat
open Go.ChangeShapes Go.WideShapes Go.ChangeAt Go.RowKit

section
variable {H : Type} {enc : TypeId × Value → H} {P : Program} {W W' : World}

theorem below_sameAt (hb : Below W.heap.size W W') {p : MemPlace} (hp : p.block < W.heap.size) : W.sameAt W' p := by
  cases p with
  | cell b off => exact World.cell?_of_block (hb.block b hp)
  | map b => exact hb.block b hp

theorem trodAll_again (hl : laidOutB P = true) (hb : Below W.heap.size W W') {sp : Nat → Bool} : ∀ {ts : List TypeId} {vs : List Value} {ds : List (DataW H)} {ps : List MemPlace}, (∀ t ∈ ts, P.readableRec t = true ∧ t < P.types.size) →
    DataW.TrodAll enc P W 0 (fun _ => true) true ts vs ds ps → (∀ p ∈ ps, p.block < W.heap.size) → (∀ p ∈ ps, sp p.block = true) → DataW.TrodAll enc P W' 0 sp true ts vs ds ps
  | [], [], [], _, _, h, _, _ => h
  | t :: _, _ :: _, _ :: _, _, hT, ⟨p, q, h1, h2, e⟩, hlt, hs =>
    ⟨p, q, WideElems.Trod_stays hl (hT t (List.mem_cons.2 (Or.inl rfl))).1 (hT t (List.mem_cons.2 (Or.inl rfl))).2 h1 (fun x hx => below_sameAt hb (hlt x (by rw [e]; exact List.mem_append_left _ hx))) (fun x hx => hs x (by rw [e]; exact List.mem_append_left _ hx)),
      trodAll_again hl hb (fun t ht => hT t (List.mem_cons.2 (Or.inr ht))) h2 (fun x hx => hlt x (by rw [e]; exact List.mem_append_right _ hx)) (fun x hx => hs x (by rw [e]; exact List.mem_append_right _ hx)), e⟩

/-- The row's end where no cell is written that was there before: its new blocks may be frozen. -/
theorem post_of_below {f : Func} {s : ChangeSpec} {apart fresh handsOn : Bool} {args : Array Value} {v : Value} {ds gs : List (DataW H)} {before pa pv : List MemPlace}
    (hW : DataW.Whole enc P f.params.toList s.vars apart W args.toList ds gs before)
    (hres : ∀ (b : Nat) (sp : Nat → Bool) (hd : Bool), DataW.TrodAll enc P W' b sp hd f.resultTypes.toList (v.resultList f.resultTypes.size) (s.fn H (ds ++ gs)).results [])
    (hargs : ∀ sp : Nat → Bool, (∀ p ∈ before, sp p.block = true) → DataW.TrodAll enc P W' 0 sp true f.params.toList args.toList (s.fn H (ds ++ gs)).args pa)
    (hvars : ∀ sp : Nat → Bool, (∀ p ∈ before, sp p.block = true) → DataW.TrodVars enc P W' sp s.vars (s.fn H (ds ++ gs)).vars pv)
    (hps : before = pa ++ pv) (hk : W.keptBut W' (· ∈ before)) : s.post enc P f apart fresh handsOn false W args v W' := by
  have hold : ∀ p ∈ before, (fun b => decide (b < W.heap.size)) p.block = true := fun p hp => by simpa using hW.lt p hp
  refine ⟨ds, gs, before, [], pa, pv, hW, hres _ _ _, hargs _ hold, hvars _ hold, World.keptBut_mono (fun p hp => ⟨hp, ?_⟩) hk, fun h => by cases h⟩
  rw [hps, List.mem_append] at hp
  exact Or.inr hp
end
end Go.Proofs.YtefoldehejbiiaaGreat
