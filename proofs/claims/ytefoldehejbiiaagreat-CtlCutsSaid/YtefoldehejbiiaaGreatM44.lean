/-
  Walks: a controller runs what its registers tell.
-/
import Derived.Test.YtefoldehejbiiaaGreatM43

namespace Go.Proofs.YtefoldehejbiiaaGreat
open Go.RowKit Lich

section
variable {w : World} {q b fo fi : Nat} {k : Ctl} {md : Bool} {lv : Value} {gl gb : Nat} {Sc : Nat → Prop}

theorem RowIs.of_owns {base : Nat} {v : Value} {xs : List Int} (h : w.ownsRow base 3 1 v xs.length (xs.map (.int .i64))) : RowIs w v xs := by
  cases xs with
  | nil =>
    rcases h.2 with ⟨e, _⟩ | ⟨g, cap, cur, e, _, hb, _⟩
    · exact .inl ⟨e, rfl⟩
    · exact .inr ⟨g, 0, cap, e, lt_of_block hb, fun k hk => by simp at hk⟩
  | cons x xs =>
    obtain ⟨g, cap, rfl, _, hg⟩ := h.form (by simp)
    refine .inr ⟨g, 0, cap, rfl, hg, fun k hk => ?_⟩
    have := h.cells (g := g) rfl k _ (map_getD hk)
    have ha : (⟨g, 0, none⟩ : Addr).add k = ⟨g, k, none⟩ := by unfold Addr.add; split <;> simp_all
    rw [ha] at this
    rw [Nat.zero_add]
    exact this

/-- A queue that is new in the place of the one that goes. -/
theorem CtlMem.newOut (h : CtlMem w q b fo fi k md lv gl gb Sc) : CtlMem ((w.alloc (.cells (FifoBlk ring0 0 0) 126)).setCell ⟨q, 4, none⟩ (.pointer (some ⟨w.heap.size, 0, none⟩))) q b w.heap.size fi { k with out := [] } md lv gl gb Sc ∧
    Step (CtlFeet q fo fi md gl gb Sc) (CtlFeet q w.heap.size fi md gl gb Sc) w ((w.alloc (.cells (FifoBlk ring0 0 0) 126)).setCell ⟨q, 4, none⟩ (.pointer (some ⟨w.heap.size, 0, none⟩))) := by
  have hql := lt_of_block h.blk
  have hk : Kept (fun j => j = q) w ((w.alloc (.cells (FifoBlk ring0 0 0) 126)).setCell ⟨q, 4, none⟩ (.pointer (some ⟨w.heap.size, 0, none⟩))) := ((Kept.refl (fun j => j = q) w).alloc _).setCell (p := ⟨q, 4, none⟩) (.inl rfl) _
  have hne : w.heap.size ≠ q := by omega
  refine ⟨⟨?_, h.chip.keep hk (fun j hj e => h.qS (e ▸ hj)), ?_, h.inn.keep hk h.q_inn, ?_, h.leave.keep hk (fun hm => ?_), h.qS, fun e => ?_, h.iS, h.lS, fun j hj => Nat.lt_of_lt_of_le (h.low j hj) hk.size⟩, hk.mono fun j hj => .inl hj, fun j hj => ?_⟩
  · rw [blk_set (blk_alloc h.blk _)]; rfl
  · exact (FifoIs.new w).keep (R := fun j => j = q) ((Kept.refl (fun j => j = q) _).setCell (p := ⟨q, 4, none⟩) (.inl rfl) _) hne
  · have := h.inn.lt; omega
  · obtain ⟨_, h1, h2⟩ := h.leaves hm
    exact ⟨blk_ne h1 h.blk (by decide), blk_ne h2 h.blk (by decide)⟩
  · have := h.low _ e; omega
  · rcases hj with e | e | e | e | e
    · exact .inl (.inl e)
    · exact .inr (by omega)
    · exact .inl (.inr (.inr (.inl e)))
    · exact .inl (.inr (.inr (.inr (.inl e))))
    · exact .inl (.inr (.inr (.inr (.inr e))))

def QMid (q b fo fi : Nat) (k : Ctl) (md : Bool) (lv : Value) (gl gb : Nat) (Sc : Nat → Prop) (w : World) (e : Ending) (w1 : World) : Prop :=
  ∃ v, e = .returned v ∧ CtlMem w1 q b fo fi k md lv gl gb Sc ∧ RowIs w1 v k.out ∧ (∀ g, v.ownBlock = some g → ¬ CtlFeet q fo fi md gl gb Sc g) ∧ Step (CtlFeet q fo fi md gl gb Sc) (CtlFeet q fo fi md gl gb Sc) w w1

theorem queued_mid (h : CtlMem w q b fo fi k md lv gl gb Sc) (hl : k.out.length ≤ 16) :
    Calls Tryz.prog 48 #[.pointer (some ⟨q, 0, none⟩)] w.drew (QMid q b fo fi k md lv gl gb Sc w) := by
  refine (queued_calls h.drew hl).mono ?_
  rintro e w1 ⟨v, rfl, hrow, hf, hk⟩
  refine ⟨v, rfl, h.drew.setOut hf hk, RowIs.of_owns hrow, fun g hg e => ?_, Step.trans (Step.of_kept (Kept.refl _ w).drew) (Step.of_kept (hk.mono fun j hj => .inr (.inl hj)))⟩
  have h1 := (hrow.lt g hg).1
  have h2 := h.feet_lt e
  have h3 : w.drew.heap.size = w.heap.size := rfl
  omega

set_option maxRecDepth 100000 in
set_option maxHeartbeats 4000000 in
theorem ctlGo_gone (h : CtlMem w q b fo fi k md lv gl gb Sc) (hk : k.Fine) (hc1 : k.clocks < 3000000000000000000) (hl : k.lost = false) (hroom : ¬ 16 - (k.inn.length : Int) < k.regs.getD 2 0) {k1 : Ctl} {xs : List Int} {en : Int} (hrun : k.run (k.regs.getD 0 0) (k.regs.getD 1 0) k.out (k.regs.getD 2 0) = (k1, xs, en)) (hen : en = 1101) (hxl : xs.length < 1000000) :
    Calls Tryz.prog 18 #[.pointer (some ⟨q, 0, none⟩)] w (CtlPost q b ({ k1 with inn := (k1.inn ++ xs).take 16 }) (CtlFeet q fo fi md gl gb Sc) (.int .i64 en) w) := by
  have c9 : w.cell? ⟨q, 9, none⟩ = some (.bool false) := by rw [← hl]; exact h.cell rfl
  have c1 : w.cell? ⟨q, 1, none⟩ = some (.int .i64 (k.regs.getD 0 0)) := h.cell rfl
  have c2 : w.cell? ⟨q, 2, none⟩ = some (.int .i64 (k.regs.getD 1 0)) := h.cell rfl
  have c3 : w.cell? ⟨q, 3, none⟩ = some (.int .i64 (k.regs.getD 2 0)) := h.cell rfl
  have c5 : w.cell? ⟨q, 5, none⟩ = some (.pointer (some ⟨fi, 0, none⟩)) := h.cell rfl
  have hil := hk.inn
  have bl : decide (16 - (k.inn.length : Int) < k.regs.getD 2 0) = false := decide_eq_false hroom
  have HL := Lib.hid (fifoLen_calls h.inn)
  have HQ := Lib.hid (queued_mid h hk.out)
  have hregs := Ctl.run_regs k (k.regs.getD 0 0) (k.regs.getD 1 0) k.out (k.regs.getD 2 0)
  have hrn : ∀ w1 v, CtlMem w1 q b fo fi k md lv gl gb Sc → RowIs w1 v k.out → (∀ g, v.ownBlock = some g → ¬ CtlFeet q fo fi md gl gb Sc g) → Calls Tryz.prog 17 #[.pointer (some ⟨q, 0, none⟩), .int .i64 (k.regs.getD 0 0), .int .i64 (k.regs.getD 1 0), v, .int .i64 (k.regs.getD 2 0)] w1 (CtlGave q b (k1, xs, en) (CtlFeet q fo fi md gl gb Sc) w1) := fun w1 v h1 h2 h3 => by
    rw [← hrun]; exact ctlRun_calls h1 hk hc1 _ _ k.out v _ h2 h3
  rw [hrun] at hregs
  simp only at hregs
  have H := Lib.hid h
  have HRN := Lib.hid hrn
  have HRG := Lib.hid hregs
  have HEN := Lib.hid hen
  have hfl := h.feet_lt (j := fo) (.inr (.inl rfl))
  have hlow := fun j (hj : CtlFeet q fo fi md gl gb Sc j) => h.feet_lt hj
  have HLOW := Lib.hid hlow
  have hql := lt_of_block h.blk
  have ben : (en != 1101) = false := by simp [hen]
  generalize hr0 : k.regs.getD 0 0 = r0 at *
  generalize hr1 : k.regs.getD 1 0 = r1 at *
  generalize hr2 : k.regs.getD 2 0 = r2 at *
  have HR0 := Lib.hid hr0
  have HR1 := Lib.hid hr1
  clear h hk hrun hrn hregs hl hen hroom hlow hr0 hr1 hr2 hc1
  go_enter Tryz.func18, Tryz.ntmps18
  go_wp2_with fail
  refine (state_ok c9).mono ?_
  rintro e w' ⟨rfl, rfl⟩
  go_wp2_with fail
  refine HL.out.mono ?_
  rintro e w' ⟨rfl, rfl⟩
  go_wp2_with fail
  go_region_held3 (fun w' => w'.cell? ⟨q, 1, none⟩ = some (.int .i64 r0) ∧ w'.cell? ⟨q, 2, none⟩ = some (.int .i64 r1))
    (first
      | go_keep
      | exact ⟨hm1.cell (congrArg (fun x => some (Value.int .i64 x)) HR0.out), hm1.cell (congrArg (fun x => some (Value.int .i64 x)) HR1.out)⟩
      | exact ⟨hm2.cell (congrArg (fun x => some (Value.int .i64 x)) ((congrArg (fun l => List.getD l 0 0) HRG.out.1).trans HR0.out)), hm2.cell (congrArg (fun x => some (Value.int .i64 x)) ((congrArg (fun l => List.getD l 1 0) HRG.out.1).trans HR1.out))⟩)
    (first
      | (go_at_call 48; refine HQ.out.mono ?_; rintro e w1 ⟨v, rfl, hm1, hrow1, hfar1, hst1⟩)
      | (go_at_call 17; refine (HRN.out w1 v hm1 hrow1 hfar1).mono ?_; rintro e w2 ⟨xv, S2, rfl, hrow2, ⟨fo2, fi2, md2, lv2, gl2, gb2, Sc2, hm2, rfl⟩, hst2, hfar2⟩))
  have HST := Lib.hid (hst1.trans hst2)
  have HM2 := Lib.hid hm2
  have HROW := Lib.hid (RowIs.of_owns hrow2)
  have HFAR := Lib.hid (fun g hg => (hfar2 g hg).2)
  have HF2 := Lib.hid hm2.free
  have e4 : w2.cell? ⟨q, 4, none⟩ = some (.pointer (some ⟨fo2, 0, none⟩)) := hm2.cell rfl
  have e5 : w2.cell? ⟨q, 5, none⟩ = some (.pointer (some ⟨fi2, 0, none⟩)) := hm2.cell rfl
  have efr := hm2.free
  clear hm1 hrow1 hfar1 hst1 hrow2 hm2 hst2 hfar2
  rcases HROW.out with ⟨rfl, rfl⟩ | ⟨g, off, cap, rfl, hgl, hcells⟩
  · go_wp2_with fail
    go_loopw [8, 53] (fun _ i wr => i = .int .i64 0 ∧ w2 = wr) (fun _ _ _ => 0)
    case atStart => exact ⟨rfl, rfl⟩
    case round =>
      obtain ⟨rfl, rfl⟩ := hrel
      go_wp2_with fail
      go_ret
      have hfin := HM2.out
      have hinn : (k1.inn ++ ([] : List Int)).take 16 = k1.inn := by
        rw [List.append_nil]
        obtain ⟨_, _, _, _, h3, _, _⟩ := hfin.inn
        exact List.take_of_length_le h3
      rw [hinn]
      exact hfin.post HST.out _
  · have hq5 : ∀ wr, Kept (fun j => j = fi2) w2 wr → wr.cell? ⟨q, 5, none⟩ = some (.pointer (some ⟨fi2, 0, none⟩)) := fun wr hk => by
      rw [World.cell?_of_block (hk.block q (lt_of_block HM2.out.blk) (fun e => HM2.out.q_inn e.symm))]; exact HM2.out.cell rfl
    have hce : ∀ wr, Kept (fun j => j = fi2) w2 wr → ∀ j, j < xs.length → wr.cell? ⟨g, off + j, none⟩ = some (.int .i64 (xs.getD j 0)) := fun wr hk j hj => by
      rw [World.cell?_of_block (hk.block g hgl (fun e => HFAR.out g rfl (.inr (.inr (.inl e)))))]
      exact hcells j hj
    have HQ5 := Lib.hid hq5
    have HCE := Lib.hid hce
    clear hq5 hce hcells
    go_wp2_with fail
    go_loopw [8, 53] (fun _ i wr => ∃ j : Nat, j ≤ xs.length ∧ i = .int .i64 j ∧ FifoIs wr fi2 ((k1.inn ++ xs.take j).take 16) ∧ Kept (fun j => j = fi2) w2 wr) (fun _ i _ => xs.length - (intOf i).toNat)
    case atStart =>
      refine ⟨0, Nat.zero_le _, rfl, ?_, Kept.refl _ _⟩
      have hf := HM2.out.inn
      obtain ⟨_, _, _, _, h3, _, _⟩ := HM2.out.inn
      rw [List.take_zero, List.append_nil, List.take_of_length_le h3]
      exact hf
    case round =>
      obtain ⟨j, hj, rfl, hf, hk⟩ := hrel
      by_cases hlt : j < xs.length
      · have cq := HQ5.out wr hk
        have ce := HCE.out wr hk j hlt
        have hp := fifoPush_calls hf (xs.getD j 0)
        unfold Pushed at hp
        have hpt := push_take (k1.inn ++ xs.take j) (xs.getD j 0)
        have htk : k1.inn ++ xs.take j ++ [xs.getD j 0] = k1.inn ++ xs.take (j + 1) := by
          have h2 : xs.getD j 0 = xs[j] := by simp [List.getD, hlt]
          rw [List.append_assoc, List.take_succ_eq_append_getElem hlt, h2]
        rw [htk] at hpt
        rw [hpt] at hp
        generalize (if ((k1.inn ++ xs.take j).take 16).length = 16 then (801 : Int) else 0) = pe at *
        have HP := Lib.hid hp
        have HK := Lib.hid hk
        clear hp hk hf hpt htk
        generalize xs.getD j 0 = x at *
        go_wp2_with fail
        refine HP.out.mono ?_
        rintro e w5 ⟨rfl, hf5, hk5⟩
        have HF5 := Lib.hid hf5
        have HK5 := Lib.hid (HK.out.trans hk5)
        clear hf5 hk5
        go_wp2_with fail
        exact ⟨⟨j + 1, by omega, by go_num, HF5.out, HK5.out⟩, by simp [intOf]; omega⟩
      · have hje : j = xs.length := by omega
        subst hje
        rw [List.take_of_length_le (Nat.le_refl xs.length)] at hf
        have HF := Lib.hid hf
        have HK := Lib.hid hk
        clear hf hk
        go_wp2_with fail
        go_ret
        exact (HM2.out.setInn HF.out HK.out).post (HST.out.trans (Step.of_kept (HK.out.mono fun j hj => .inr (.inr (.inl hj))))) _

set_option maxRecDepth 100000 in
set_option maxHeartbeats 4000000 in
theorem ctlGo_done (h : CtlMem w q b fo fi k md lv gl gb Sc) (hk : k.Fine) (hc1 : k.clocks < 3000000000000000000) (hl : k.lost = false) (hroom : ¬ 16 - (k.inn.length : Int) < k.regs.getD 2 0) {k1 : Ctl} {xs : List Int} {en : Int} (hrun : k.run (k.regs.getD 0 0) (k.regs.getD 1 0) k.out (k.regs.getD 2 0) = (k1, xs, en)) (hen : ¬ en = 1101) (hxl : xs.length < 1000000) :
    Calls Tryz.prog 18 #[.pointer (some ⟨q, 0, none⟩)] w (CtlPost q b ({ k1 with out := [], inn := (k1.inn ++ xs).take 16 }) (CtlFeet q fo fi md gl gb Sc) (.int .i64 en) w) := by
  have c9 : w.cell? ⟨q, 9, none⟩ = some (.bool false) := by rw [← hl]; exact h.cell rfl
  have c1 : w.cell? ⟨q, 1, none⟩ = some (.int .i64 (k.regs.getD 0 0)) := h.cell rfl
  have c2 : w.cell? ⟨q, 2, none⟩ = some (.int .i64 (k.regs.getD 1 0)) := h.cell rfl
  have c3 : w.cell? ⟨q, 3, none⟩ = some (.int .i64 (k.regs.getD 2 0)) := h.cell rfl
  have c5 : w.cell? ⟨q, 5, none⟩ = some (.pointer (some ⟨fi, 0, none⟩)) := h.cell rfl
  have hil := hk.inn
  have bl : decide (16 - (k.inn.length : Int) < k.regs.getD 2 0) = false := decide_eq_false hroom
  have HL := Lib.hid (fifoLen_calls h.inn)
  have HQ := Lib.hid (queued_mid h hk.out)
  have hregs := Ctl.run_regs k (k.regs.getD 0 0) (k.regs.getD 1 0) k.out (k.regs.getD 2 0)
  have hrn : ∀ w1 v, CtlMem w1 q b fo fi k md lv gl gb Sc → RowIs w1 v k.out → (∀ g, v.ownBlock = some g → ¬ CtlFeet q fo fi md gl gb Sc g) → Calls Tryz.prog 17 #[.pointer (some ⟨q, 0, none⟩), .int .i64 (k.regs.getD 0 0), .int .i64 (k.regs.getD 1 0), v, .int .i64 (k.regs.getD 2 0)] w1 (CtlGave q b (k1, xs, en) (CtlFeet q fo fi md gl gb Sc) w1) := fun w1 v h1 h2 h3 => by
    rw [← hrun]; exact ctlRun_calls h1 hk hc1 _ _ k.out v _ h2 h3
  rw [hrun] at hregs
  simp only at hregs
  have H := Lib.hid h
  have HRN := Lib.hid hrn
  have HRG := Lib.hid hregs
  have HEN := Lib.hid hen
  have hfl := h.feet_lt (j := fo) (.inr (.inl rfl))
  have hlow := fun j (hj : CtlFeet q fo fi md gl gb Sc j) => h.feet_lt hj
  have HLOW := Lib.hid hlow
  have hql := lt_of_block h.blk
  have ben : (en != 1101) = true := by simp [hen]
  generalize hr0 : k.regs.getD 0 0 = r0 at *
  generalize hr1 : k.regs.getD 1 0 = r1 at *
  generalize hr2 : k.regs.getD 2 0 = r2 at *
  have HR0 := Lib.hid hr0
  have HR1 := Lib.hid hr1
  clear h hk hrun hrn hregs hl hen hroom hlow hr0 hr1 hr2 hc1
  go_enter Tryz.func18, Tryz.ntmps18
  go_wp2_with fail
  refine (state_ok c9).mono ?_
  rintro e w' ⟨rfl, rfl⟩
  go_wp2_with fail
  refine HL.out.mono ?_
  rintro e w' ⟨rfl, rfl⟩
  go_wp2_with fail
  go_region_held3 (fun w' => w'.cell? ⟨q, 1, none⟩ = some (.int .i64 r0) ∧ w'.cell? ⟨q, 2, none⟩ = some (.int .i64 r1))
    (first
      | go_keep
      | exact ⟨hm1.cell (congrArg (fun x => some (Value.int .i64 x)) HR0.out), hm1.cell (congrArg (fun x => some (Value.int .i64 x)) HR1.out)⟩
      | exact ⟨hm2.cell (congrArg (fun x => some (Value.int .i64 x)) ((congrArg (fun l => List.getD l 0 0) HRG.out.1).trans HR0.out)), hm2.cell (congrArg (fun x => some (Value.int .i64 x)) ((congrArg (fun l => List.getD l 1 0) HRG.out.1).trans HR1.out))⟩)
    (first
      | (go_at_call 48; refine HQ.out.mono ?_; rintro e w1 ⟨v, rfl, hm1, hrow1, hfar1, hst1⟩)
      | (go_at_call 17; refine (HRN.out w1 v hm1 hrow1 hfar1).mono ?_; rintro e w2 ⟨xv, S2, rfl, hrow2, ⟨fo2, fi2, md2, lv2, gl2, gb2, Sc2, hm2, rfl⟩, hst2, hfar2⟩))
  have HST := Lib.hid (hst1.trans hst2)
  have HM2 := Lib.hid hm2
  have HROW := Lib.hid (RowIs.of_owns hrow2)
  have HFAR := Lib.hid (fun g hg => (hfar2 g hg).2)
  have HF2 := Lib.hid hm2.free
  have e4 : w2.cell? ⟨q, 4, none⟩ = some (.pointer (some ⟨fo2, 0, none⟩)) := hm2.cell rfl
  have e5 : w2.cell? ⟨q, 5, none⟩ = some (.pointer (some ⟨fi2, 0, none⟩)) := hm2.cell rfl
  have efr := hm2.free
  clear hm1 hrow1 hfar1 hst1 hrow2 hm2 hst2 hfar2
  go_wp2_with fail
  refine (fifoNew_calls w2).mono ?_
  rintro e w3 ⟨rfl, rfl⟩
  have hq4 : ∀ o, (w2.alloc o).cell? ⟨q, 4, none⟩ = some (.pointer (some ⟨fo2, 0, none⟩)) := fun o => by rw [World.cell?_alloc_lt _ _ _ (lt_of_block HM2.out.blk)]; exact e4
  have hq4f : ∀ o, (w2.alloc o).frozen? ⟨q, 4, none⟩ = false := fun o => blk_free (blk_alloc HM2.out.blk o)
  obtain ⟨hm3, hs3⟩ := HM2.out.newOut
  have hk3 : Kept (fun j => j = q) w2 ((w2.alloc (.cells (FifoBlk ring0 0 0) 126)).setCell ⟨q, 4, none⟩ (.pointer (some ⟨w2.heap.size, 0, none⟩))) := ((Kept.refl (fun j => j = q) w2).alloc _).setCell (p := ⟨q, 4, none⟩) (.inl rfl) _
  have HM3 := Lib.hid hm3
  have HS3 := Lib.hid (HST.out.trans hs3)
  have HK3 := Lib.hid hk3
  clear hm3 hs3 hk3
  rcases HROW.out with ⟨rfl, rfl⟩ | ⟨g, off, cap, rfl, hgl, hcells⟩
  · go_wp2_with fail
    go_loopw [8, 53] (fun _ i wr => i = .int .i64 0 ∧ ((w2.alloc (.cells (FifoBlk ring0 0 0) 126)).setCell ⟨q, 4, none⟩ (.pointer (some ⟨w2.heap.size, 0, none⟩))) = wr) (fun _ _ _ => 0)
    case atStart => exact ⟨rfl, rfl⟩
    case round =>
      obtain ⟨rfl, rfl⟩ := hrel
      go_wp2_with fail
      go_ret
      have hfin := HM3.out
      have hinn : (k1.inn ++ ([] : List Int)).take 16 = k1.inn := by
        rw [List.append_nil]
        obtain ⟨_, _, _, _, h3, _, _⟩ := hfin.inn
        exact List.take_of_length_le h3
      rw [hinn]
      exact hfin.post HS3.out _
  · have hq5 : ∀ wr, Kept (fun j => j = fi2) ((w2.alloc (.cells (FifoBlk ring0 0 0) 126)).setCell ⟨q, 4, none⟩ (.pointer (some ⟨w2.heap.size, 0, none⟩))) wr → wr.cell? ⟨q, 5, none⟩ = some (.pointer (some ⟨fi2, 0, none⟩)) := fun wr hk => by
      rw [World.cell?_of_block (hk.block q (lt_of_block HM3.out.blk) (fun e => HM3.out.q_inn e.symm))]; exact HM3.out.cell rfl
    have hce : ∀ wr, Kept (fun j => j = fi2) ((w2.alloc (.cells (FifoBlk ring0 0 0) 126)).setCell ⟨q, 4, none⟩ (.pointer (some ⟨w2.heap.size, 0, none⟩))) wr → ∀ j, j < xs.length → wr.cell? ⟨g, off + j, none⟩ = some (.int .i64 (xs.getD j 0)) := fun wr hk j hj => by
      rw [World.cell?_of_block (hk.block g (Nat.lt_of_lt_of_le hgl HK3.out.size) (fun e => HFAR.out g rfl (.inr (.inr (.inl e)))))]
      exact (World.cell?_of_block (HK3.out.block g hgl (fun e => HFAR.out g rfl (.inl e)))).trans (hcells j hj)
    have HQ5 := Lib.hid hq5
    have HCE := Lib.hid hce
    clear hq5 hce hcells
    go_wp2_with fail
    go_loopw [8, 53] (fun _ i wr => ∃ j : Nat, j ≤ xs.length ∧ i = .int .i64 j ∧ FifoIs wr fi2 ((k1.inn ++ xs.take j).take 16) ∧ Kept (fun j => j = fi2) ((w2.alloc (.cells (FifoBlk ring0 0 0) 126)).setCell ⟨q, 4, none⟩ (.pointer (some ⟨w2.heap.size, 0, none⟩))) wr) (fun _ i _ => xs.length - (intOf i).toNat)
    case atStart =>
      refine ⟨0, Nat.zero_le _, rfl, ?_, Kept.refl _ _⟩
      have hf := HM3.out.inn
      obtain ⟨_, _, _, _, h3, _, _⟩ := HM3.out.inn
      rw [List.take_zero, List.append_nil, List.take_of_length_le h3]
      exact hf
    case round =>
      obtain ⟨j, hj, rfl, hf, hk⟩ := hrel
      by_cases hlt : j < xs.length
      · have cq := HQ5.out wr hk
        have ce := HCE.out wr hk j hlt
        have hp := fifoPush_calls hf (xs.getD j 0)
        unfold Pushed at hp
        have hpt := push_take (k1.inn ++ xs.take j) (xs.getD j 0)
        have htk : k1.inn ++ xs.take j ++ [xs.getD j 0] = k1.inn ++ xs.take (j + 1) := by
          have h2 : xs.getD j 0 = xs[j] := by simp [List.getD, hlt]
          rw [List.append_assoc, List.take_succ_eq_append_getElem hlt, h2]
        rw [htk] at hpt
        rw [hpt] at hp
        generalize (if ((k1.inn ++ xs.take j).take 16).length = 16 then (801 : Int) else 0) = pe at *
        have HP := Lib.hid hp
        have HK := Lib.hid hk
        clear hp hk hf hpt htk
        generalize xs.getD j 0 = x at *
        go_wp2_with fail
        refine HP.out.mono ?_
        rintro e w5 ⟨rfl, hf5, hk5⟩
        have HF5 := Lib.hid hf5
        have HK5 := Lib.hid (HK.out.trans hk5)
        clear hf5 hk5
        go_wp2_with fail
        exact ⟨⟨j + 1, by omega, by go_num, HF5.out, HK5.out⟩, by simp [intOf]; omega⟩
      · have hje : j = xs.length := by omega
        subst hje
        rw [List.take_of_length_le (Nat.le_refl xs.length)] at hf
        have HF := Lib.hid hf
        have HK := Lib.hid hk
        clear hf hk
        go_wp2_with fail
        go_ret
        exact (HM3.out.setInn HF.out HK.out).post (HS3.out.trans (Step.of_kept (HK.out.mono fun j hj => .inr (.inr (.inl hj))))) _

set_option maxRecDepth 100000 in
theorem ctlGo_calls (h : CtlMem w q b fo fi k md lv gl gb Sc) (hk : k.Fine) (hc1 : k.clocks < 3000000000000000000) (hxl : (k.run (k.regs.getD 0 0) (k.regs.getD 1 0) k.out (k.regs.getD 2 0)).2.1.length < 1000000) :
    Calls Tryz.prog 18 #[.pointer (some ⟨q, 0, none⟩)] w (CtlPost q b (k.go).1 (CtlFeet q fo fi md gl gb Sc) (.int .i64 (k.go).2) w) := by
  have c9 : w.cell? ⟨q, 9, none⟩ = some (.bool k.lost) := h.cell rfl
  cases hl : k.lost
  case true =>
    rw [hl] at c9
    have e : k.go = (k, 1101) := by unfold Ctl.go; rw [if_pos hl]
    rw [e]
    have H := Lib.hid (h.same (.int .i64 1101))
    clear h e hl hk hc1 hxl
    go_enter Tryz.func18, Tryz.ntmps18
    go_wp2_with fail
    refine (state_lost c9).mono ?_
    rintro e w' ⟨rfl, rfl⟩
    go_wp2_with fail
    go_ret
    exact H.out
  by_cases hr : 16 - (k.inn.length : Int) < k.regs.getD 2 0
  · rw [hl] at c9
    have e : k.go = (k, 801) := by unfold Ctl.go; rw [if_neg (by simp [hl]), if_pos hr]
    rw [e]
    have c3 : w.cell? ⟨q, 3, none⟩ = some (.int .i64 (k.regs.getD 2 0)) := h.cell rfl
    have c5 : w.cell? ⟨q, 5, none⟩ = some (.pointer (some ⟨fi, 0, none⟩)) := h.cell rfl
    have bl : decide (16 - (k.inn.length : Int) < k.regs.getD 2 0) = true := decide_eq_true hr
    have hil := hk.inn
    have HL := Lib.hid (fifoLen_calls h.inn)
    have H := Lib.hid (h.same (.int .i64 801))
    clear h e hl hk hc1 hxl hr
    generalize k.regs.getD 2 0 = r2 at *
    go_enter Tryz.func18, Tryz.ntmps18
    go_wp2_with fail
    refine (state_ok c9).mono ?_
    rintro e w' ⟨rfl, rfl⟩
    go_wp2_with fail
    refine HL.out.mono ?_
    rintro e w' ⟨rfl, rfl⟩
    go_wp2_with fail
    go_ret
    exact H.out
  · rcases hrun : k.run (k.regs.getD 0 0) (k.regs.getD 1 0) k.out (k.regs.getD 2 0) with ⟨k1, xs, en⟩
    have hg : k.go = ({ (if en = 1101 then k1 else { k1 with out := [] }) with inn := ((if en = 1101 then k1 else { k1 with out := [] }).inn ++ xs).take 16 }, en) := by
      unfold Ctl.go
      rw [if_neg (by simp [hl]), if_neg hr]
      simp only [hrun]
    rw [hg]
    rw [hrun] at hxl
    by_cases hen : en = 1101
    · simp only [if_pos hen]
      exact ctlGo_gone h hk hc1 hl hr hrun hen hxl
    · simp only [if_neg hen]
      exact ctlGo_done h hk hc1 hl hr hrun hen hxl
end
end Go.Proofs.YtefoldehejbiiaaGreat
