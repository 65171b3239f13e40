/-
  Walks: a command as phases.
-/
import Derived.Test.YtefoldehejbiiaaGreatM40
import Derived.Deep.DeepCutAuto
import Derived.Deep.RegionHeld3

namespace Go.Proofs.YtefoldehejbiiaaGreat
open Go.RowKit Lich

theorem info_ph : (Tryz.prog.info? 116).map (fun i => (i.zero, i.size, i.bytes)) = some (some (.agg #[.int .i64 0, .slice none 0 0, .int .i64 0, .int .i64 0]), 4, 48) := by kernel_rfl
theorem und_phs : Tryz.prog.underlying 89 = some (.slice 116) := by kernel_rfl

theorem CmdOk.mode_data {y0 y1 y3 y4 : Int} {y5 : Bool} (ho : opOf y0 = some ⟨y0, y1, true, y3, y4, y5⟩) {at_ : Int} {data : List Int} {read : Int} (h : CmdOk ⟨y0, y1, true, y3, y4, y5⟩ at_ data read) : data ≠ [] := by
  have hf := h.f
  have h4 : y4 = 4 ∧ y5 = false := by
    unfold opOf at ho
    repeat' split at ho
    all_goals first
      | cases ho; done
      | (have e := Option.some.inj ho
         have hm := congrArg OpD.mode e
         have hd := congrArg OpD.data e
         have hi := congrArg OpD.inn e
         first
           | (simp at hm; done)
           | exact ⟨hd.symm, hi.symm⟩)
  obtain ⟨rfl, rfl⟩ := h4
  intro e
  subst e
  simp [fitsB] at hf

/-- The first phase. -/
theorem PhOwn.one {n0 : Nat} {w : World} (hn : n0 ≤ w.heap.size) (x : Int) :
    PhOwn n0 ((w.alloc (.cells #[.int .i64 x] 3)).alloc (.cells #[.int .i64 1, .slice (some ⟨w.heap.size, 0, none⟩) 1 1, .int .i64 0, .int .i64 0] 116)) (.slice (some ⟨w.heap.size + 1, 0, none⟩) 1 1) [{ lanes := 1, bytes := [x] }] [.slice (some ⟨w.heap.size, 0, none⟩) 1 1] := by
  have h1 := World.ownsRow_lit (base := n0) (e := 3) (size := 1) w #[.int .i64 x] 1 hn (by simp [maxLen]) rfl
  have h2 := World.ownsRow_lit (base := n0) (e := 116) (size := 4) (w.alloc (.cells #[.int .i64 x] 3)) #[.int .i64 1, .slice (some ⟨w.heap.size, 0, none⟩) 1 1, .int .i64 0, .int .i64 0] 1 (by simp; omega) (by simp [maxLen]) rfl
  rw [show (w.alloc (.cells #[.int .i64 x] 3)).heap.size = w.heap.size + 1 by simp] at h2
  refine ⟨rfl, h2, fun i hi => ?_⟩
  obtain rfl : i = 0 := by simp at hi; omega
  exact .inr ⟨by simp, h1.alloc _⟩

/-- Three bytes in a row of the call's own. -/
theorem ByteRow.three {n0 : Nat} {w : World} (hn : n0 ≤ w.heap.size) (x y z : Int) : ByteRow n0 (w.alloc (.cells #[.int .i64 x, .int .i64 y, .int .i64 z] 3)) (.slice (some ⟨w.heap.size, 0, none⟩) 3 3) [x, y, z] :=
  .inr ⟨by simp, World.ownsRow_lit (base := n0) (e := 3) (size := 1) w #[.int .i64 x, .int .i64 y, .int .i64 z] 3 hn (by simp [maxLen]) rfl⟩

theorem PhOwn.below' {n0 : Nat} {w w' : World} {v : Value} {ps : List Phase} {vs : List Value} (h : PhOwn n0 w v ps vs) (hb : Below w.drew.heap.size w.drew w') : PhOwn n0 w' v ps vs :=
  h.keep (R := fun _ => False) (Kept.of_below (w := w) ⟨hb.os, hb.tape, hb.output, hb.size, hb.block⟩) (fun _ e => e.elim)

theorem owns_blk' {w : World} {base : Nat} {e : TypeId} {size : Nat} {v : Value} {n : Nat} {xs : List Value} (h : w.ownsRow base e size v n xs) {k : Nat} (hk : v.ownBlock = some k) : ∃ cur, w.heap[k]? = some (.cells cur e (0, 0)) := by
  rcases h.2 with ⟨rfl, _⟩ | ⟨g, cap, cur, rfl, _, hh, _⟩
  · simp [Value.ownBlock] at hk
  · simp only [Value.ownBlock, Option.some.injEq] at hk; subst hk; exact ⟨cur, hh⟩

theorem PhOwn.alloc {n0 : Nat} {w : World} {v : Value} {ps : List Phase} {vs : List Value} (h : PhOwn n0 w v ps vs) (o : Obj) : PhOwn n0 (w.alloc o) v ps vs :=
  h.keep (R := fun _ => False) ((Kept.refl _ w).alloc o) (fun _ e => e.elim)

/-- A command's phases, laid in rows of the call's own. -/
def Commanded (ps : List Phase) (w : World) (e : Ending) (w' : World) : Prop := ∃ psv vs, e = .returned (.tuple #[psv, .int .i64 0]) ∧ PhOwn w.heap.size w' psv ps vs ∧ Below w.heap.size w w'

set_option maxRecDepth 100000 in
set_option maxHeartbeats 4000000 in
theorem command_good' (y0 y1 y3 y4 : Int) (y2 y5 : Bool) (ho : opOf y0 = some ⟨y0, y1, y2, y3, y4, y5⟩) (at_ : Int) (data : List Int) (dv : Value) (read : Int) (w : World) (hv : RowIs w dv data) (h : CmdOk ⟨y0, y1, y2, y3, y4, y5⟩ at_ data read) :
    Calls Tryz.prog 45 #[.agg #[.int .i64 y0, .int .i64 y1, .bool y2, .int .i64 y3, .int .i64 y4, .bool y5], .int .i64 at_, dv, .int .i64 read] w (Commanded (cmdPhases ⟨y0, y1, y2, y3, y4, y5⟩ at_ data read) w) := by
  have hc := opOf_calls y0 (w.alloc (.cells #[.int .i64 y0, .int .i64 y1, .bool y2, .int .i64 y3, .int .i64 y4, .bool y5] 94))
  rw [ho] at hc
  simp only [Option.getD_some, Option.isSome_some, ↓reduceIte, opVal] at hc
  have HC := Lib.hid hc
  have hsame := op_same y0 y1 y3 y4 y2 y5
  have HV := Lib.hid hv
  obtain ⟨a, cap, rfl⟩ := hv.len
  clear hc hv
  have b0 : decide (at_ < 0) = false := by have := h.a0; simp; omega
  have b1 : decide (4096 ≤ at_) = false := by have := h.a1; simp; omega
  have b3 : decide ((512 : Int) < (data.length : Int)) = false := by have := h.d0; simp; omega
  have HANY := Lib.hid h.d1
  have b5 : decide (read < 0) = false := by have := h.r0; simp; omega
  have b6 : decide (512 < read) = false := by have := h.r1; simp; omega
  have HF := Lib.hid h.f
  have HOK := Lib.hid h
  have HO := Lib.hid ho
  have hdl := h.d0
  have hb2 := Lib.hid h.a2
  clear h ho
  go_enter Tryz.func45, Tryz.ntmps45
  go_wp2_with fail
  refine HC.out.mono ?_
  rintro e w1 ⟨rfl, hb⟩
  obtain ⟨hr, r0, r1, r2, r3, r4, r5, rf⟩ := six_far hb
  have hB := (below_new (Below.refl _ w) _).trans (hb.mono (by simp))
  have HB := Lib.hid hB
  have HR := Lib.hid hr
  clear hb hB hr
  go_upto_region 3 with fail
  go_cut [68] (fun s68 wx => s68 = .bool false ∧ wx = w1.alloc (.cells #[.int .i64 y0, .int .i64 y1, .bool y2, .int .i64 y3, .int .i64 y4, .bool y5] 94))
  case first =>
    by_cases h8 : y1 = 0
    case pos =>
      subst h8
      obtain rfl : at_ = 0 := by
        by_cases h9 : at_ = 0
        · exact h9
        · exact absurd ⟨rfl, h9⟩ hb2.out
      go_wp2_with fail
      refine (containsFunc_cmdBad data (by omega) _ _ (HV.out.below (below_new HB.out _))).mono ?_
      rintro e w2 ⟨rfl, rfl⟩
      rw [HANY.out]
      go_wp2_with fail
      refine (fits_op ⟨y0, 0, y2, y3, y4, y5⟩ data.length read w.heap.size _ (HR.out _)).mono ?_
      rintro e w2 ⟨rfl, rfl⟩
      rw [HF.out]
      go_wp2_with fail
      go_meet
      exact ⟨rfl, rfl⟩
    case neg =>
      have b2 : (y1 == 0) = false := by simp [h8]
      go_wp2_with fail
      refine (containsFunc_cmdBad data (by omega) _ _ (HV.out.below (below_new HB.out _))).mono ?_
      rintro e w2 ⟨rfl, rfl⟩
      rw [HANY.out]
      go_wp2_with fail
      refine (fits_op ⟨y0, y1, y2, y3, y4, y5⟩ data.length read w.heap.size _ (HR.out _)).mono ?_
      rintro e w2 ⟨rfl, rfl⟩
      rw [HF.out]
      go_wp2_with fail
      go_meet
      exact ⟨rfl, rfl⟩
  obtain ⟨rfl, rfl⟩ := hcut
  have hr3 : ∀ o1 o2 o3, (((w1.alloc o1).alloc o2).alloc o3).heap[w.heap.size]? = some (.cells #[.int .i64 y0, .int .i64 y1, .bool y2, .int .i64 y3, .int .i64 y4, .bool y5] 94 (0, 0)) := fun o1 o2 o3 => blk_alloc (blk_alloc (HR.out o1) o2) o3
  have q1 : ∀ o1 o2 o3, (((w1.alloc o1).alloc o2).alloc o3).cell? ⟨w.heap.size, 1, none⟩ = some (.int .i64 y1) := fun o1 o2 o3 => (six_cells (hr3 o1 o2 o3)).2.1
  have HR3 := Lib.hid hr3
  clear hr3
  go_upto_if 76 with fail
  go_cut [13] (fun s13 wx => ∃ vs, PhOwn w.heap.size wx s13 ([{ lanes := 1, bytes := [y0] }] ++ (if 0 < y1 then [{ lanes := y1, bytes := [at_ / 65536, at_ / 256 % 256, at_ % 256] }] else [])) vs ∧ Below w.heap.size w wx ∧ wx.heap[w.heap.size]? = some (.cells #[.int .i64 y0, .int .i64 y1, .bool y2, .int .i64 y3, .int .i64 y4, .bool y5] 94 (0, 0)))
  case first =>
    obtain ⟨i0, hi0, hz0, hz1, hz2⟩ := info_parts info_ph
    have hown := PhOwn.one (n0 := w.heap.size) (w := w1.alloc (.cells #[.int .i64 y0, .int .i64 y1, .bool y2, .int .i64 y3, .int .i64 y4, .bool y5] 94)) (by have := HB.out.size; simp; omega) y0
    have hblk := HR3.out (.cells #[.int .i64 y0, .int .i64 y1, .bool y2, .int .i64 y3, .int .i64 y4, .bool y5] 94) (.cells #[.int .i64 y0] 3) (.cells #[.int .i64 1, .slice (some ⟨w1.heap.size + 1, 0, none⟩) 1 1, .int .i64 0, .int .i64 0] 116)
    have hbel := below_new (below_new (below_new HB.out (.cells #[.int .i64 y0, .int .i64 y1, .bool y2, .int .i64 y3, .int .i64 y4, .bool y5] 94)) (.cells #[.int .i64 y0] 3)) (.cells #[.int .i64 1, .slice (some ⟨w1.heap.size + 1, 0, none⟩) 1 1, .int .i64 0, .int .i64 0] 116)
    simp only [World.size_alloc] at hown
    generalize ((w1.alloc (.cells #[.int .i64 y0, .int .i64 y1, .bool y2, .int .i64 y3, .int .i64 y4, .bool y5] 94)).alloc (.cells #[.int .i64 y0] 3)).alloc (.cells #[.int .i64 1, .slice (some ⟨w1.heap.size + 1, 0, none⟩) 1 1, .int .i64 0, .int .i64 0] 116) = W at *
    generalize w1.heap.size + 1 + 1 = g0 at *
    have HOW := Lib.hid hown
    have HBL := Lib.hid hblk
    have HBE := Lib.hid hbel
    obtain ⟨_, q1', _, _, _, _⟩ := six_cells hblk
    have hsz := hbel.size
    clear hown hblk hbel q1 r0 r1 r2 r3 r4 r5 rf
    by_cases hp : 0 < y1
    · have bp : decide (0 < y1) = true := by simp [hp]
      have e1 : bits .and .i64 (at_ / 256) 255 = at_ / 256 % 256 := by
        have := i64_and_mask (x := at_ / 256) 8 255 (by decide) (by decide) (by have : 0 ≤ at_ := HOK.out.a0; omega) (by have : at_ < 4096 := HOK.out.a1; omega)
        simpa using this
      have e2 : bits .and .i64 at_ 255 = at_ % 256 := by
        have := i64_and_mask (x := at_) 8 255 (by decide) (by decide) HOK.out.a0 (by have : at_ < 4096 := HOK.out.a1; omega)
        simpa using this
      go_wp2_with (at_builtin; refine wpList_append_lies _ rfl _ _ _ rfl w.heap.size 116 i0 _ 4 48 und_phs hi0 hz0 hz1 hz2 rfl (by omega) (.slice (some ⟨g0, 0, none⟩) 1 1) 1 _ rfl ((HOW.out.alloc _).alloc _).row ⟨W.heap.size + 1, 0, none⟩ 1 1 [.int .i64 y1, .slice (some ⟨W.heap.size, 0, none⟩) 3 3, .int .i64 0, .int .i64 0] rfl rfl (World.news_of_block (cs := #[.int .i64 y1, .slice (some ⟨W.heap.size, 0, none⟩) 3 3, .int .i64 0, .int .i64 0]) (t := 116) (fr := (0, 0)) (blk_new _ _ _ (by simp))) (by simp [Value.oneCell']) (by omega) (by simp [maxLen]) (by omega) (by simp; omega) (W.heap.size + 1 + 1) (by simp) ?_; intro gg cp w3 hown1 hgrow hat hlt3)
      go_meet
      have hpush := (HOW.out.alloc (.cells #[.int .i64 (at_ / 65536), .int .i64 (at_ / 256 % 256), .int .i64 (at_ % 256)] 3)).push { lanes := y1, bytes := [at_ / 65536, at_ / 256 % 256, at_ % 256] } _ (ByteRow.three hsz _ _ _) _ hown1 hgrow
      refine ⟨_, by rw [if_pos hp]; exact hpush, below_grown (below_new (below_new HBE.out _) _) hgrow (fun k hk => (HOW.out.row.lt k hk).1), ?_⟩
      have hk : Kept (fun k => (Value.slice (some ⟨g0, 0, none⟩) 1 1).ownBlock = some k) W w3 := (((Kept.refl _ W).alloc _).alloc _).grown hgrow (fun k hk => .inl hk)
      refine blk_kept hk HBL.out (fun e => ?_)
      simp only [Value.ownBlock, Option.some.injEq] at e
      subst e
      obtain ⟨cur, hcur⟩ := owns_blk' HOW.out.row rfl
      exact blk_ne HBL.out hcur (by decide) rfl
    · have bp : decide (0 < y1) = false := by simp [hp]
      go_wp2_with fail
      go_meet
      exact ⟨_, by rw [if_neg (by omega)]; exact HOW.out, HBE.out, HBL.out⟩
  case rest =>
    obtain ⟨vs, HP, hbe, hbl⟩ := hcut
    obtain ⟨q0, q1, q2, q3, q4, q5⟩ := six_cells hbl
    have HPH := Lib.hid HP
    have HBE := Lib.hid hbe
    have HBL := Lib.hid hbl
    have hsz := hbe.size
    have hlt : w.heap.size < wc.heap.size := lt_of_block hbl
    have hfar : some w.heap.size ≠ u13.ownBlock := fun e => by
      obtain ⟨cur, hcur⟩ := owns_blk' HP.row e.symm
      exact blk_ne hbl hcur (by decide) rfl
    obtain ⟨P1, hP⟩ : ∃ ps, ps = ([{ lanes := 1, bytes := [y0] }] ++ (if 0 < y1 then [{ lanes := y1, bytes := [at_ / 65536, at_ / 256 % 256, at_ % 256] }] else []) : List Phase) := ⟨_, rfl⟩
    rw [← hP] at HPH
    have HLP1 := Lib.hid hP
    have hl : P1.length ≤ 2 := by rw [hP]; split <;> simp
    clear HP hbe hbl hP
    clear HR3 HR HB HC
    go_upto_if 92 with fail
    go_cut [13] (fun s13 wx => ∃ vs, PhOwn w.heap.size wx s13 (P1 ++ (if y2 = true then [{ lanes := y1, bytes := data }] else [])) vs ∧ Below w.heap.size w wx ∧ wx.heap[w.heap.size]? = some (.cells #[.int .i64 y0, .int .i64 y1, .bool y2, .int .i64 y3, .int .i64 y4, .bool y5] 94 (0, 0)))
    case first =>
      cases y2
      case false =>
        go_wp2_with fail
        go_meet
        exact ⟨_, by first | (rw [if_neg (by simp)]; simpa using HPH.out) | (simpa using HPH.out), HBE.out, HBL.out⟩
      case true =>
        have hne : data ≠ [] := CmdOk.mode_data HO.out HOK.out
        obtain ⟨i0, hi0, hz0, hz1, hz2⟩ := info_parts info_ph
        have hcl := fun u (hu : Below wc.heap.size wc u) => clone_some data hne (by omega) (.slice a data.length cap) u ((HV.out.below HBE.out).below hu)
        have HCL := Lib.hid hcl
        clear hcl
        go_wp2_with fail
        go_region_held3 (fun w' => w'.cell? ⟨w.heap.size, 1, none⟩ = some (.int .i64 y1))
          (first
            | go_keep
            | exact (World.cell?_of_block (hb4.block w.heap.size hlt)).trans q1
            | exact ((hgrow.cell_far ⟨w.heap.size, 1, none⟩ (by have h9 : wc.heap.size ≤ w4.heap.size := hb4.size; rw [World.size_alloc]; show w.heap.size < w4.heap.size + 1; omega) hfar).trans (World.cell?_alloc_lt _ _ _ (Nat.lt_of_lt_of_le hlt hb4.size))).trans ((World.cell?_of_block (hb4.block w.heap.size hlt)).trans q1))
          (first
            | (go_at_call 57; refine (HCL.out _ ?_).mono ?_; (exact (Below.refl _ wc).drew); rintro e w4 ⟨g4, c4, rfl, hown4, hb4⟩)
            | (refine step_append_lies _ (by rfl) _ _ _ (by rfl) w.heap.size 116 i0 _ 4 48 und_phs hi0 hz0 hz1 hz2 rfl (by omega) u13 P1.length _ (by rfl) ((HPH.out.below' hb4).alloc _).row ⟨w4.heap.size, 0, none⟩ 1 1 [.int .i64 y1, .slice (some ⟨g4, 0, none⟩) data.length c4, .int .i64 0, .int .i64 0] (by rfl) (by rfl) (World.news_of_block (cs := #[.int .i64 y1, .slice (some ⟨g4, 0, none⟩) data.length c4, .int .i64 0, .int .i64 0]) (t := 116) (fr := (0, 0)) (blk_new _ _ _ rfl)) (by simp [Value.oneCell']) (by omega) (by simp [maxLen]; omega) (by omega) (by have h9 : wc.heap.size ≤ w4.heap.size := hb4.size; rw [World.size_alloc]; omega) (w4.heap.size + 1) (by simp) ?_; intro gg cp w5 hown5 hgrow hat hlt5))
        go_wp2_with fail
        go_meet
        have hb5 : Below w.heap.size w w4 := HBE.out.trans (show Below w.heap.size wc w4 from ⟨hb4.os, hb4.tape, hb4.output, hb4.size, fun k hk => hb4.block k (Nat.lt_of_lt_of_le hk hsz)⟩)
        have hpush := (HPH.out.below' hb4).push { lanes := y1, bytes := data } _ (.inr ⟨hne, ownsRow_mono hown4 (show w.heap.size ≤ wc.heap.size from hsz)⟩) _ hown5 hgrow
        refine ⟨_, by first | (rw [if_pos rfl]; exact hpush) | (simp only [if_true]; exact hpush), below_grown (below_new hb5 _) hgrow (fun k hk => (HPH.out.row.lt k hk).1), ?_⟩
        exact blk_kept (((Kept.refl (fun k => u13.ownBlock = some k) w4).alloc _).grown hgrow (fun k hk => .inl hk)) (by rw [hb4.block w.heap.size hlt]; exact HBL.out) (fun e => hfar e.symm)
    case rest =>
      obtain ⟨vs, HP, hbe, hbl⟩ := hcut
      obtain ⟨q0, q1, q2, q3, q4, q5⟩ := six_cells hbl
      have HPH := Lib.hid HP
      have HBE := Lib.hid hbe
      have HBL := Lib.hid hbl
      have hsz := hbe.size
      have hlt : w.heap.size < wc.heap.size := lt_of_block hbl
      have hfar : some w.heap.size ≠ u13.ownBlock := fun e => by
        obtain ⟨cur, hcur⟩ := owns_blk' HP.row e.symm
        exact blk_ne hbl hcur (by decide) rfl
      obtain ⟨P2, hP⟩ : ∃ ps, ps = (P1 ++ (if y2 = true then [{ lanes := y1, bytes := data }] else []) : List Phase) := ⟨_, rfl⟩
      rw [← hP] at HPH
      have HLP2 := Lib.hid hP
      have hl : P2.length ≤ 3 := by rw [hP]; split <;> simp <;> omega
      clear HP hbe hbl hP
      go_upto_if 103 with fail
      go_cut [13] (fun s13 wx => ∃ vs, PhOwn w.heap.size wx s13 (P2 ++ (if 0 < y3 then [{ clocks := y3 }] else [])) vs ∧ Below w.heap.size w wx ∧ wx.heap[w.heap.size]? = some (.cells #[.int .i64 y0, .int .i64 y1, .bool y2, .int .i64 y3, .int .i64 y4, .bool y5] 94 (0, 0)))
      case first =>
        by_cases hp : 0 < y3
        case neg =>
          have bp : decide (0 < y3) = false := by simp [hp]
          go_wp2_with fail
          go_meet
          exact ⟨_, by first | (rw [if_neg (by omega)]; simpa using HPH.out) | (simpa using HPH.out), HBE.out, HBL.out⟩
        case pos =>
          have bp : decide (0 < y3) = true := by simp [hp]
          obtain ⟨i0, hi0, hz0, hz1, hz2⟩ := info_parts info_ph
          go_wp2_with (at_builtin; refine wpList_append_lies _ rfl _ _ _ rfl w.heap.size 116 i0 _ 4 48 und_phs hi0 hz0 hz1 hz2 rfl (by omega) u13 P2.length _ rfl (HPH.out.alloc _).row ⟨wc.heap.size, 0, none⟩ 1 1 [.int .i64 0, .slice none 0 0, .int .i64 y3, .int .i64 0] rfl rfl (World.news_of_block (cs := #[.int .i64 0, .slice none 0 0, .int .i64 y3, .int .i64 0]) (t := 116) (fr := (0, 0)) (blk_new _ _ _ rfl)) (by simp [Value.oneCell']) (by omega) (by simp [maxLen]; omega) (by omega) (by simp; omega) (wc.heap.size + 1) (by simp) ?_; intro gg cp w5 hown5 hgrow hat hlt5)
          go_meet
          have hpush := HPH.out.push { clocks := y3 } (.slice none 0 0) (.inl ⟨rfl, rfl⟩) _ hown5 hgrow
          refine ⟨_, by first | (rw [if_pos hp]; exact hpush) | (simp only [if_true]; exact hpush), below_grown (below_new HBE.out _) hgrow (fun k hk => (HPH.out.row.lt k hk).1), ?_⟩
          exact blk_kept (((Kept.refl (fun k => u13.ownBlock = some k) wc).alloc _).grown hgrow (fun k hk => .inl hk)) HBL.out (fun e => hfar e.symm)
      case rest =>
        obtain ⟨vs, HP, hbe, hbl⟩ := hcut
        obtain ⟨q0, q1, q2, q3, q4, q5⟩ := six_cells hbl
        have HPH := Lib.hid HP
        have HBE := Lib.hid hbe
        have HBL := Lib.hid hbl
        have hsz := hbe.size
        have hlt : w.heap.size < wc.heap.size := lt_of_block hbl
        have hfar : some w.heap.size ≠ u13.ownBlock := fun e => by
          obtain ⟨cur, hcur⟩ := owns_blk' HP.row e.symm
          exact blk_ne hbl hcur (by decide) rfl
        obtain ⟨P3, hP⟩ : ∃ ps, ps = (P2 ++ (if 0 < y3 then [{ clocks := y3 }] else []) : List Phase) := ⟨_, rfl⟩
        rw [← hP] at HPH
        have HLP3 := Lib.hid hP
        have hl : P3.length ≤ 4 := by rw [hP]; split <;> simp <;> omega
        clear HP hbe hbl hP
        cases y5
        case false =>
          go_upto_if 126 with fail
          go_cut [13] (fun s13 wx => ∃ vs, PhOwn w.heap.size wx s13 (P3 ++ (if 0 < read then [{ lanes := y4, read := read }] else [])) vs ∧ Below w.heap.size w wx ∧ wx.heap[w.heap.size]? = some (.cells #[.int .i64 y0, .int .i64 y1, .bool y2, .int .i64 y3, .int .i64 y4, .bool false] 94 (0, 0)))
          case first =>
            by_cases hp : 0 < read
            case neg =>
              have bp : decide (0 < read) = false := by simp [hp]
              go_wp2_with fail
              go_meet
              exact ⟨_, by first | (rw [if_neg (by omega)]; simpa using HPH.out) | (simpa using HPH.out), HBE.out, HBL.out⟩
            case pos =>
              have bp : decide (0 < read) = true := by simp [hp]
              obtain ⟨i0, hi0, hz0, hz1, hz2⟩ := info_parts info_ph
              go_wp2_with (at_builtin; refine wpList_append_lies _ rfl _ _ _ rfl w.heap.size 116 i0 _ 4 48 und_phs hi0 hz0 hz1 hz2 rfl (by omega) u13 P3.length _ rfl (HPH.out.alloc _).row ⟨wc.heap.size, 0, none⟩ 1 1 [.int .i64 y4, .slice none 0 0, .int .i64 0, .int .i64 read] rfl rfl (World.news_of_block (cs := #[.int .i64 y4, .slice none 0 0, .int .i64 0, .int .i64 read]) (t := 116) (fr := (0, 0)) (blk_new _ _ _ rfl)) (by simp [Value.oneCell']) (by omega) (by simp [maxLen]; omega) (by omega) (by simp; omega) (wc.heap.size + 1) (by simp) ?_; intro gg cp w5 hown5 hgrow hat hlt5)
              go_meet
              have hpush := HPH.out.push { lanes := y4, read := read } (.slice none 0 0) (.inl ⟨rfl, rfl⟩) _ hown5 hgrow
              refine ⟨_, by first | (rw [if_pos hp]; exact hpush) | (simp only [if_true]; exact hpush), below_grown (below_new HBE.out _) hgrow (fun k hk => (HPH.out.row.lt k hk).1), ?_⟩
              exact blk_kept (((Kept.refl (fun k => u13.ownBlock = some k) wc).alloc _).grown hgrow (fun k hk => .inl hk)) HBL.out (fun e => hfar e.symm)
          case rest =>
            obtain ⟨vs, HP, hbe, hbl⟩ := hcut
            have HPH := Lib.hid HP
            have HBE := Lib.hid hbe
            clear HP hbe hbl
            go_wp2_with fail
            go_ret2
            refine ⟨_, vs, rfl, ?_, HBE.out⟩
            have := HPH.out
            rw [HLP3.out, HLP2.out, HLP1.out] at this
            rw [cmdPhases_out (by simp)]
            exact this
        case true =>
          by_cases hne : data = []
          case pos =>
            have hd0 : data.length = 0 := by rw [hne]; rfl
            have bd : decide (0 < data.length) = false := by simp [hd0]
            have HNE := Lib.hid hne
            clear hd0 hne
            go_upto_if 126 with fail
            go_cut [13] (fun s13 wx => ∃ vs, PhOwn w.heap.size wx s13 (P3 ++ (if 0 < read then [{ lanes := y4, read := read }] else [])) vs ∧ Below w.heap.size w wx ∧ wx.heap[w.heap.size]? = some (.cells #[.int .i64 y0, .int .i64 y1, .bool y2, .int .i64 y3, .int .i64 y4, .bool true] 94 (0, 0)))
            case first =>
              by_cases hp : 0 < read
              case neg =>
                have bp : decide (0 < read) = false := by simp [hp]
                go_wp2_with fail
                go_meet
                exact ⟨_, by first | (rw [if_neg (by omega)]; simpa using HPH.out) | (simpa using HPH.out), HBE.out, HBL.out⟩
              case pos =>
                have bp : decide (0 < read) = true := by simp [hp]
                obtain ⟨i0, hi0, hz0, hz1, hz2⟩ := info_parts info_ph
                go_wp2_with (at_builtin; refine wpList_append_lies _ rfl _ _ _ rfl w.heap.size 116 i0 _ 4 48 und_phs hi0 hz0 hz1 hz2 rfl (by omega) u13 P3.length _ rfl (HPH.out.alloc _).row ⟨wc.heap.size, 0, none⟩ 1 1 [.int .i64 y4, .slice none 0 0, .int .i64 0, .int .i64 read] rfl rfl (World.news_of_block (cs := #[.int .i64 y4, .slice none 0 0, .int .i64 0, .int .i64 read]) (t := 116) (fr := (0, 0)) (blk_new _ _ _ rfl)) (by simp [Value.oneCell']) (by omega) (by simp [maxLen]; omega) (by omega) (by simp; omega) (wc.heap.size + 1) (by simp) ?_; intro gg cp w5 hown5 hgrow hat hlt5)
                go_meet
                have hpush := HPH.out.push { lanes := y4, read := read } (.slice none 0 0) (.inl ⟨rfl, rfl⟩) _ hown5 hgrow
                refine ⟨_, by first | (rw [if_pos hp]; exact hpush) | (simp only [if_true]; exact hpush), below_grown (below_new HBE.out _) hgrow (fun k hk => (HPH.out.row.lt k hk).1), ?_⟩
                exact blk_kept (((Kept.refl (fun k => u13.ownBlock = some k) wc).alloc _).grown hgrow (fun k hk => .inl hk)) HBL.out (fun e => hfar e.symm)
            case rest =>
              obtain ⟨vs, HP, hbe, hbl⟩ := hcut
              have HPH := Lib.hid HP
              have HBE := Lib.hid hbe
              clear HP hbe hbl
              go_wp2_with fail
              go_ret2
              refine ⟨_, vs, rfl, ?_, HBE.out⟩
              have := HPH.out
              rw [HLP3.out, HLP2.out, HLP1.out] at this
              rw [cmdPhases_out (by simp [HNE.out])]
              exact this
          case neg =>
            have hd0 : 0 < data.length := List.length_pos_iff.2 hne
            have bd : decide (0 < data.length) = true := by simp [hd0]
            go_upto_if 116 with fail
            go_cut [13] (fun s13 wx => ∃ vs, PhOwn w.heap.size wx s13 (P3 ++ (if data ≠ [] then [{ lanes := y4, bytes := data }] else [])) vs ∧ Below w.heap.size w wx ∧ wx.heap[w.heap.size]? = some (.cells #[.int .i64 y0, .int .i64 y1, .bool y2, .int .i64 y3, .int .i64 y4, .bool true] 94 (0, 0)))
            case first =>
              obtain ⟨i0, hi0, hz0, hz1, hz2⟩ := info_parts info_ph
              have hcl := fun u (hu : Below wc.heap.size wc u) => clone_some data hne (by omega) (.slice a data.length cap) u ((HV.out.below HBE.out).below hu)
              have HCL := Lib.hid hcl
              clear hcl
              go_wp2_with fail
              go_region_held3 (fun w' => w'.cell? ⟨w.heap.size, 4, none⟩ = some (.int .i64 y4))
                (first
                  | go_keep
                  | exact (World.cell?_of_block (hb4.block w.heap.size hlt)).trans q4
                  | exact ((hgrow.cell_far ⟨w.heap.size, 4, none⟩ (by have h9 : wc.heap.size ≤ w4.heap.size := hb4.size; rw [World.size_alloc]; show w.heap.size < w4.heap.size + 1; omega) hfar).trans (World.cell?_alloc_lt _ _ _ (Nat.lt_of_lt_of_le hlt hb4.size))).trans ((World.cell?_of_block (hb4.block w.heap.size hlt)).trans q4))
                (first
                  | (go_at_call 57; refine (HCL.out _ ?_).mono ?_; (exact (Below.refl _ wc).drew); rintro e w4 ⟨g4, c4, rfl, hown4, hb4⟩)
                  | (refine step_append_lies _ (by rfl) _ _ _ (by rfl) w.heap.size 116 i0 _ 4 48 und_phs hi0 hz0 hz1 hz2 rfl (by omega) u13 P3.length _ (by rfl) ((HPH.out.below' hb4).alloc _).row ⟨w4.heap.size, 0, none⟩ 1 1 [.int .i64 y4, .slice (some ⟨g4, 0, none⟩) data.length c4, .int .i64 0, .int .i64 0] (by rfl) (by rfl) (World.news_of_block (cs := #[.int .i64 y4, .slice (some ⟨g4, 0, none⟩) data.length c4, .int .i64 0, .int .i64 0]) (t := 116) (fr := (0, 0)) (blk_new _ _ _ rfl)) (by simp [Value.oneCell']) (by omega) (by simp [maxLen]; omega) (by omega) (by have h9 : wc.heap.size ≤ w4.heap.size := hb4.size; rw [World.size_alloc]; omega) (w4.heap.size + 1) (by simp) ?_; intro gg cp w5 hown5 hgrow hat hlt5))
              go_wp2_with fail
              go_meet
              have hb5 : Below w.heap.size w w4 := HBE.out.trans (show Below w.heap.size wc w4 from ⟨hb4.os, hb4.tape, hb4.output, hb4.size, fun k hk => hb4.block k (Nat.lt_of_lt_of_le hk hsz)⟩)
              have hpush := (HPH.out.below' hb4).push { lanes := y4, bytes := data } _ (.inr ⟨hne, ownsRow_mono hown4 (show w.heap.size ≤ wc.heap.size from hsz)⟩) _ hown5 hgrow
              refine ⟨_, by first | (rw [if_pos hne]; exact hpush) | (simp only [if_true]; exact hpush), below_grown (below_new hb5 _) hgrow (fun k hk => (HPH.out.row.lt k hk).1), ?_⟩
              exact blk_kept (((Kept.refl (fun k => u13.ownBlock = some k) w4).alloc _).grown hgrow (fun k hk => .inl hk)) (by rw [hb4.block w.heap.size hlt]; exact HBL.out) (fun e => hfar e.symm)
            case rest =>
              obtain ⟨vs, HP, hbe, hbl⟩ := hcut
              obtain ⟨q0, q1, q2, q3, q4, q5⟩ := six_cells hbl
              have HPH := Lib.hid HP
              have HBE := Lib.hid hbe
              have HBL := Lib.hid hbl
              have hsz := hbe.size
              have hlt : w.heap.size < wc.heap.size := lt_of_block hbl
              have hfar : some w.heap.size ≠ u13.ownBlock := fun e => by
                obtain ⟨cur, hcur⟩ := owns_blk' HP.row e.symm
                exact blk_ne hbl hcur (by decide) rfl
              obtain ⟨P4, hP⟩ : ∃ ps, ps = (P3 ++ (if data ≠ [] then [{ lanes := y4, bytes := data }] else []) : List Phase) := ⟨_, rfl⟩
              rw [← hP] at HPH
              have HLP4 := Lib.hid hP
              have hl : P4.length ≤ 5 := by rw [hP]; split <;> simp <;> omega
              clear HP hbe hbl hP
              go_upto_if 126 with fail
              go_cut [13] (fun s13 wx => ∃ vs, PhOwn w.heap.size wx s13 (P4 ++ (if 0 < read then [{ lanes := y4, read := read }] else [])) vs ∧ Below w.heap.size w wx ∧ wx.heap[w.heap.size]? = some (.cells #[.int .i64 y0, .int .i64 y1, .bool y2, .int .i64 y3, .int .i64 y4, .bool true] 94 (0, 0)))
              case first =>
                by_cases hp : 0 < read
                case neg =>
                  have bp : decide (0 < read) = false := by simp [hp]
                  go_wp2_with fail
                  go_meet
                  exact ⟨_, by first | (rw [if_neg (by omega)]; simpa using HPH.out) | (simpa using HPH.out), HBE.out, HBL.out⟩
                case pos =>
                  have bp : decide (0 < read) = true := by simp [hp]
                  obtain ⟨i0, hi0, hz0, hz1, hz2⟩ := info_parts info_ph
                  go_wp2_with (at_builtin; refine wpList_append_lies _ rfl _ _ _ rfl w.heap.size 116 i0 _ 4 48 und_phs hi0 hz0 hz1 hz2 rfl (by omega) u13 P4.length _ rfl (HPH.out.alloc _).row ⟨wc.heap.size, 0, none⟩ 1 1 [.int .i64 y4, .slice none 0 0, .int .i64 0, .int .i64 read] rfl rfl (World.news_of_block (cs := #[.int .i64 y4, .slice none 0 0, .int .i64 0, .int .i64 read]) (t := 116) (fr := (0, 0)) (blk_new _ _ _ rfl)) (by simp [Value.oneCell']) (by omega) (by simp [maxLen]; omega) (by omega) (by simp; omega) (wc.heap.size + 1) (by simp) ?_; intro gg cp w5 hown5 hgrow hat hlt5)
                  go_meet
                  have hpush := HPH.out.push { lanes := y4, read := read } (.slice none 0 0) (.inl ⟨rfl, rfl⟩) _ hown5 hgrow
                  refine ⟨_, by first | (rw [if_pos hp]; exact hpush) | (simp only [if_true]; exact hpush), below_grown (below_new HBE.out _) hgrow (fun k hk => (HPH.out.row.lt k hk).1), ?_⟩
                  exact blk_kept (((Kept.refl (fun k => u13.ownBlock = some k) wc).alloc _).grown hgrow (fun k hk => .inl hk)) HBL.out (fun e => hfar e.symm)
              case rest =>
                obtain ⟨vs, HP, hbe, hbl⟩ := hcut
                have HPH := Lib.hid HP
                have HBE := Lib.hid hbe
                clear HP hbe hbl
                go_wp2_with fail
                go_ret2
                refine ⟨_, vs, rfl, ?_, HBE.out⟩
                have := HPH.out
                rw [HLP4.out, HLP3.out, HLP2.out, HLP1.out] at this
                rw [cmdPhases_inn rfl hne]
                exact this
end Go.Proofs.YtefoldehejbiiaaGreat
