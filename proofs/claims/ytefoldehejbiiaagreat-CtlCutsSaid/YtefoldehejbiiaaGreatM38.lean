/-
  Walks: a controller's registers are written, are read; a new controller.
-/
import Derived.Test.YtefoldehejbiiaaGreatM37

namespace Go.Proofs.YtefoldehejbiiaaGreat
open Go.RowKit Lich

section
variable {w : World} {q b fo fi : Nat} {k : Ctl} {md : Bool} {lv : Value} {gl gb : Nat} {Sc : Nat → Prop}

theorem FifoIs.ne_leave {f : Nat} {xs : List Int} (h : FifoIs w f xs) {g : Nat} {cs : Array Value} {t : TypeId} {fr : Nat × Nat} (hb : w.heap[g]? = some (.cells cs t fr)) (ht : t ≠ 126) : g ≠ f := by
  obtain ⟨ds, hf⟩ := h.blk
  exact blk_ne hb hf ht

theorem CtlMem.setOut {w' : World} {xs : List Int} (h : CtlMem w q b fo fi k md lv gl gb Sc) (hp : FifoIs w' fo xs) (hk : Kept (fun j => j = fo) w w') : CtlMem w' q b fo fi { k with out := xs } md lv gl gb Sc :=
  ⟨blk_kept hk h.blk (fun e => h.q_out e.symm), h.chip.keep hk (fun j hj e => h.oS (e ▸ hj)), hp, h.inn.keep hk (fun e => h.ne e.symm), h.ne,
    h.leave.keep hk (fun hm => by obtain ⟨_, h1, h2⟩ := h.leaves hm; exact ⟨h.out.ne_leave h1 (by decide), h.out.ne_leave h2 (by decide)⟩), h.qS, h.oS, h.iS, h.lS, fun j hj => Nat.lt_of_lt_of_le (h.low j hj) hk.size⟩
theorem CtlMem.setInn {w' : World} {xs : List Int} (h : CtlMem w q b fo fi k md lv gl gb Sc) (hp : FifoIs w' fi xs) (hk : Kept (fun j => j = fi) w w') : CtlMem w' q b fo fi { k with inn := xs } md lv gl gb Sc :=
  ⟨blk_kept hk h.blk (fun e => h.q_inn e.symm), h.chip.keep hk (fun j hj e => h.iS (e ▸ hj)), h.out.keep hk h.ne, hp, h.ne,
    h.leave.keep hk (fun hm => by obtain ⟨_, h1, h2⟩ := h.leaves hm; exact ⟨h.inn.ne_leave h1 (by decide), h.inn.ne_leave h2 (by decide)⟩), h.qS, h.oS, h.iS, h.lS, fun j hj => Nat.lt_of_lt_of_le (h.low j hj) hk.size⟩

theorem getD_set0 (l : List Int) (x : Int) (h : l.length = 3) : (l.set 0 x).getD 0 0 = x ∧ (l.set 0 x).getD 1 0 = l.getD 1 0 ∧ (l.set 0 x).getD 2 0 = l.getD 2 0 := by
  match l, h with
  | [a, b, c], _ => exact ⟨rfl, rfl, rfl⟩
theorem getD_set1 (l : List Int) (x : Int) (h : l.length = 3) : (l.set 1 x).getD 0 0 = l.getD 0 0 ∧ (l.set 1 x).getD 1 0 = x ∧ (l.set 1 x).getD 2 0 = l.getD 2 0 := by
  match l, h with
  | [a, b, c], _ => exact ⟨rfl, rfl, rfl⟩
theorem getD_set2 (l : List Int) (x : Int) (h : l.length = 3) : (l.set 2 x).getD 0 0 = l.getD 0 0 ∧ (l.set 2 x).getD 1 0 = l.getD 1 0 ∧ (l.set 2 x).getD 2 0 = x := by
  match l, h with
  | [a, b, c], _ => exact ⟨rfl, rfl, rfl⟩

set_option maxRecDepth 100000 in
theorem ctlWrite_0 (h : CtlMem w q b fo fi k md lv gl gb Sc) (hr : k.regs.length = 3) (hl : k.lost = false) (x : Int) (hm : regMay 0 x = true) :
    Calls Tryz.prog 14 #[.pointer (some ⟨q, 0, none⟩), .int .i64 0, .int .i64 x] w (CtlPost q b { k with regs := k.regs.set 0 x } (CtlFeet q fo fi md gl gb Sc) (.int .i64 0) w) := by
  have c9 : w.cell? ⟨q, 9, none⟩ = some (.bool false) := by rw [← hl]; exact h.cell rfl
  have cr : w.cell? ⟨q, 1, none⟩ = some (.int .i64 (k.regs.getD 0 0)) := h.cell rfl
  have hf := h.free
  obtain ⟨e0, e1, e2⟩ := getD_set0 k.regs x hr
  have h2 := h.set (k' := { k with regs := k.regs.set 0 x }) (i := 1) (v := .int .i64 x) (by
    unfold CtlBlk
    simp only [e0, e1, e2]
    rfl) rfl rfl rfl
  have H := Lib.hid (h2.post (CtlMem.stepSet (CtlFeet q fo fi md gl gb Sc) (.inl rfl) 1 (.int .i64 x)) (.int .i64 0))
  have HM := Lib.hid hm
  clear h h2 e0 e1 e2 hr hm
  go_enter Tryz.func14, Tryz.ntmps14
  go_wp2_with fail
  refine (state_ok c9).mono ?_
  rintro e w' ⟨rfl, rfl⟩
  go_wp2_with fail
  refine (reg_calls 0 x w).mono ?_
  rintro e w' ⟨rfl, rfl⟩
  rw [HM.out]
  go_wp2_with fail
  go_ret
  exact H.out

set_option maxRecDepth 100000 in
theorem ctlWrite_1 (h : CtlMem w q b fo fi k md lv gl gb Sc) (hr : k.regs.length = 3) (hl : k.lost = false) (x : Int) (hm : regMay 1 x = true) :
    Calls Tryz.prog 14 #[.pointer (some ⟨q, 0, none⟩), .int .i64 1, .int .i64 x] w (CtlPost q b { k with regs := k.regs.set 1 x } (CtlFeet q fo fi md gl gb Sc) (.int .i64 0) w) := by
  have c9 : w.cell? ⟨q, 9, none⟩ = some (.bool false) := by rw [← hl]; exact h.cell rfl
  have cr : w.cell? ⟨q, 2, none⟩ = some (.int .i64 (k.regs.getD 1 0)) := h.cell rfl
  have hf := h.free
  obtain ⟨e0, e1, e2⟩ := getD_set1 k.regs x hr
  have h2 := h.set (k' := { k with regs := k.regs.set 1 x }) (i := 2) (v := .int .i64 x) (by
    unfold CtlBlk
    simp only [e0, e1, e2]
    rfl) rfl rfl rfl
  have H := Lib.hid (h2.post (CtlMem.stepSet (CtlFeet q fo fi md gl gb Sc) (.inl rfl) 2 (.int .i64 x)) (.int .i64 0))
  have HM := Lib.hid hm
  clear h h2 e0 e1 e2 hr hm
  go_enter Tryz.func14, Tryz.ntmps14
  go_wp2_with fail
  refine (state_ok c9).mono ?_
  rintro e w' ⟨rfl, rfl⟩
  go_wp2_with fail
  refine (reg_calls 1 x w).mono ?_
  rintro e w' ⟨rfl, rfl⟩
  rw [HM.out]
  go_wp2_with fail
  go_ret
  exact H.out

set_option maxRecDepth 100000 in
theorem ctlWrite_2 (h : CtlMem w q b fo fi k md lv gl gb Sc) (hr : k.regs.length = 3) (hl : k.lost = false) (x : Int) (hm : regMay 2 x = true) :
    Calls Tryz.prog 14 #[.pointer (some ⟨q, 0, none⟩), .int .i64 2, .int .i64 x] w (CtlPost q b { k with regs := k.regs.set 2 x } (CtlFeet q fo fi md gl gb Sc) (.int .i64 0) w) := by
  have c9 : w.cell? ⟨q, 9, none⟩ = some (.bool false) := by rw [← hl]; exact h.cell rfl
  have cr : w.cell? ⟨q, 3, none⟩ = some (.int .i64 (k.regs.getD 2 0)) := h.cell rfl
  have hf := h.free
  obtain ⟨e0, e1, e2⟩ := getD_set2 k.regs x hr
  have h2 := h.set (k' := { k with regs := k.regs.set 2 x }) (i := 3) (v := .int .i64 x) (by
    unfold CtlBlk
    simp only [e0, e1, e2]
    rfl) rfl rfl rfl
  have H := Lib.hid (h2.post (CtlMem.stepSet (CtlFeet q fo fi md gl gb Sc) (.inl rfl) 3 (.int .i64 x)) (.int .i64 0))
  have HM := Lib.hid hm
  clear h h2 e0 e1 e2 hr hm
  go_enter Tryz.func14, Tryz.ntmps14
  go_wp2_with fail
  refine (state_ok c9).mono ?_
  rintro e w' ⟨rfl, rfl⟩
  go_wp2_with fail
  refine (reg_calls 2 x w).mono ?_
  rintro e w' ⟨rfl, rfl⟩
  rw [HM.out]
  go_wp2_with fail
  go_ret
  exact H.out

set_option maxRecDepth 100000 in
theorem ctlWrite_calls (h : CtlMem w q b fo fi k md lv gl gb Sc) (hr : k.regs.length = 3) (r x : Int) :
    Calls Tryz.prog 14 #[.pointer (some ⟨q, 0, none⟩), .int .i64 r, .int .i64 x] w (CtlPost q b (k.write r x).1 (CtlFeet q fo fi md gl gb Sc) (.int .i64 (k.write r x).2) w) := by
  have c9 : w.cell? ⟨q, 9, none⟩ = some (.bool k.lost) := h.cell rfl
  cases hl : k.lost
  case true =>
    rw [hl] at c9
    have e : k.write r x = (k, 1101) := by unfold Ctl.write; rw [if_pos hl]
    rw [e]
    have H := Lib.hid (h.same (.int .i64 1101))
    clear h e hl hr
    go_enter Tryz.func14, Tryz.ntmps14
    go_wp2_with fail
    refine (state_lost c9).mono ?_
    rintro e w' ⟨rfl, rfl⟩
    go_wp2_with fail
    go_ret
    exact H.out
  rw [hl] at c9
  cases hm : regMay r x
  case false =>
    have e : k.write r x = (k, 1100) := by unfold Ctl.write; rw [if_neg (by simp [hl]), if_pos hm]
    rw [e]
    have H := Lib.hid (h.same (.int .i64 1100))
    have HM := Lib.hid hm
    clear h e hl hr hm
    go_enter Tryz.func14, Tryz.ntmps14
    go_wp2_with fail
    refine (state_ok c9).mono ?_
    rintro e w' ⟨rfl, rfl⟩
    go_wp2_with fail
    refine (reg_calls r x w).mono ?_
    rintro e w' ⟨rfl, rfl⟩
    rw [HM.out]
    go_wp2_with fail
    go_ret
    exact H.out
  by_cases h4 : r = 4
  · subst h4
    have e : k.write 4 x = (if k.out.length = 16 then (k, 801) else ({ k with out := k.out ++ [x] }, 0)) := by unfold Ctl.write; rw [if_neg (by simp [hl]), if_neg (by simp [hm]), if_pos rfl]
    have e1 : (k.write 4 x).1 = { k with out := if k.out.length = 16 then k.out else k.out ++ [x] } := by rw [e]; split <;> rfl
    have e2 : (k.write 4 x).2 = if k.out.length = 16 then 801 else 0 := by rw [e]; split <;> rfl
    rw [e1, e2]
    clear e e1 e2
    have hp := fifoPush_calls h.out x
    unfold Pushed at hp
    have c4 : w.cell? ⟨q, 4, none⟩ = some (.pointer (some ⟨fo, 0, none⟩)) := h.cell rfl
    generalize (if k.out.length = 16 then (801 : Int) else 0) = en at *
    generalize (if k.out.length = 16 then k.out else k.out ++ [x]) = out' at *
    have H := Lib.hid h
    have HP := Lib.hid hp
    have HM := Lib.hid hm
    clear h hp hm hr hl
    go_enter Tryz.func14, Tryz.ntmps14
    go_wp2_with fail
    refine (state_ok c9).mono ?_
    rintro e w' ⟨rfl, rfl⟩
    go_wp2_with fail
    refine (reg_calls 4 x w).mono ?_
    rintro e w' ⟨rfl, rfl⟩
    rw [HM.out]
    go_wp2_with fail
    refine HP.out.mono ?_
    rintro e w' ⟨rfl, hf, hk⟩
    have H2 := Lib.hid ((H.out.setOut hf hk).post (Step.of_kept (hk.mono fun j hj => .inr (.inl hj))) (.int .i64 en))
    clear hf hk
    go_wp2_with fail
    go_ret
    exact H2.out
  · have hr3 : r = 0 ∨ r = 1 ∨ r = 2 := by
      unfold regMay at hm
      by_cases h0 : r = 0 ∨ r = 1
      · omega
      · rw [if_neg h0] at hm
        by_cases h2 : r = 2
        · omega
        · rw [if_neg h2] at hm
          simp [h4] at hm
    have e : k.write r x = ({ k with regs := k.regs.set r.toNat x }, 0) := by unfold Ctl.write; rw [if_neg (by simp [hl]), if_neg (by simp [hm]), if_neg h4]
    rw [e]
    rcases hr3 with rfl | rfl | rfl
    · exact ctlWrite_0 h hr hl x hm
    · exact ctlWrite_1 h hr hl x hm
    · exact ctlWrite_2 h hr hl x hm

/-- A controller behind a call with a number. -/
theorem ctlRead_calls (h : CtlMem w q b fo fi k md lv gl gb Sc) (r : Int) :
    Calls Tryz.prog 15 #[.pointer (some ⟨q, 0, none⟩), .int .i64 r] w (CtlPost q b (k.read r).1 (CtlFeet q fo fi md gl gb Sc) (.tuple #[.int .i64 (k.read r).2.1, .int .i64 (k.read r).2.2]) w) := by
  have c9 : w.cell? ⟨q, 9, none⟩ = some (.bool k.lost) := h.cell rfl
  cases hl : k.lost
  case true =>
    rw [hl] at c9
    have e : k.read r = (k, 0, 1101) := by unfold Ctl.read; rw [if_pos hl]
    rw [e]
    have H := Lib.hid (h.same (.tuple #[.int .i64 0, .int .i64 1101]))
    clear h e hl
    go_enter Tryz.func15, Tryz.ntmps15
    go_wp2_with fail
    refine (state_lost c9).mono ?_
    rintro e w' ⟨rfl, rfl⟩
    go_wp2_with fail
    go_ret2
    exact H.out
  rw [hl] at c9
  by_cases h0 : r = 0
  · subst h0
    have e : k.read 0 = (k, k.regs.getD 0 0, 0) := by unfold Ctl.read; rw [if_neg (by simp [hl]), if_pos (by omega)]; rfl
    rw [e]
    have cr : w.cell? ⟨q, 1, none⟩ = some (.int .i64 (k.regs.getD 0 0)) := h.cell rfl
    have H := Lib.hid (h.same (.tuple #[.int .i64 (k.regs.getD 0 0), .int .i64 0]))
    clear h e hl
    generalize k.regs.getD 0 0 = x at *
    go_enter Tryz.func15, Tryz.ntmps15
    go_wp2_with fail
    refine (state_ok c9).mono ?_
    rintro e w' ⟨rfl, rfl⟩
    go_wp2_with fail
    go_ret2
    exact H.out
  have b0 : (r == 0) = false := by simp [h0]
  by_cases h1 : r = 1
  · subst h1
    have e : k.read 1 = (k, k.regs.getD 1 0, 0) := by unfold Ctl.read; rw [if_neg (by simp [hl]), if_pos (by omega)]; rfl
    rw [e]
    have cr : w.cell? ⟨q, 2, none⟩ = some (.int .i64 (k.regs.getD 1 0)) := h.cell rfl
    have H := Lib.hid (h.same (.tuple #[.int .i64 (k.regs.getD 1 0), .int .i64 0]))
    clear h e hl
    generalize k.regs.getD 1 0 = x at *
    go_enter Tryz.func15, Tryz.ntmps15
    go_wp2_with fail
    refine (state_ok c9).mono ?_
    rintro e w' ⟨rfl, rfl⟩
    go_wp2_with fail
    go_ret2
    exact H.out
  have b1 : (r == 1) = false := by simp [h1]
  by_cases h2 : r = 2
  · subst h2
    have e : k.read 2 = (k, k.regs.getD 2 0, 0) := by unfold Ctl.read; rw [if_neg (by simp [hl]), if_pos (by omega)]; rfl
    rw [e]
    have cr : w.cell? ⟨q, 3, none⟩ = some (.int .i64 (k.regs.getD 2 0)) := h.cell rfl
    have H := Lib.hid (h.same (.tuple #[.int .i64 (k.regs.getD 2 0), .int .i64 0]))
    clear h e hl
    generalize k.regs.getD 2 0 = x at *
    go_enter Tryz.func15, Tryz.ntmps15
    go_wp2_with fail
    refine (state_ok c9).mono ?_
    rintro e w' ⟨rfl, rfl⟩
    go_wp2_with fail
    go_ret2
    exact H.out
  have b2 : (r == 2) = false := by simp [h2]
  by_cases h3 : r = 3
  · subst h3
    have e : k.read 3 = (k, ((k.inn.length : Nat) : Int), 0) := by unfold Ctl.read; rw [if_neg (by simp [hl]), if_neg (by omega), if_pos rfl]
    rw [e]
    have c5 : w.cell? ⟨q, 5, none⟩ = some (.pointer (some ⟨fi, 0, none⟩)) := h.cell rfl
    have HL := Lib.hid (fifoLen_calls h.inn)
    have H := Lib.hid (h.same (.tuple #[.int .i64 k.inn.length, .int .i64 0]))
    clear h e hl
    go_enter Tryz.func15, Tryz.ntmps15
    go_wp2_with fail
    refine (state_ok c9).mono ?_
    rintro e w' ⟨rfl, rfl⟩
    go_wp2_with fail
    refine HL.out.mono ?_
    rintro e w' ⟨rfl, rfl⟩
    go_wp2_with fail
    go_ret2
    exact H.out
  have b3 : (r == 3) = false := by simp [h3]
  by_cases h4 : r = 4
  · subst h4
    have e : k.read 4 = ({ k with inn := k.inn.tail }, k.inn.headD 0, if k.inn = [] then 800 else 0) := by unfold Ctl.read; rw [if_neg (by simp [hl]), if_neg (by omega), if_neg (by omega), if_pos rfl]
    rw [e]
    clear e
    have hp := fifoPop_calls h.inn
    unfold Popped at hp
    have c5 : w.cell? ⟨q, 5, none⟩ = some (.pointer (some ⟨fi, 0, none⟩)) := h.cell rfl
    simp only
    generalize (if k.inn = [] then (800 : Int) else 0) = en at *
    generalize k.inn.headD 0 = x at *
    have H := Lib.hid h
    have HP := Lib.hid hp
    clear h hp hl
    go_enter Tryz.func15, Tryz.ntmps15
    go_wp2_with fail
    refine (state_ok c9).mono ?_
    rintro e w' ⟨rfl, rfl⟩
    go_wp2_with fail
    refine HP.out.mono ?_
    rintro e w' ⟨rfl, hf, hk⟩
    have H2 := Lib.hid ((H.out.setInn hf hk).post (Step.of_kept (hk.mono fun j hj => .inr (.inr (.inl hj)))) (.tuple #[.int .i64 x, .int .i64 en]))
    clear hf hk
    go_wp2_with fail
    go_ret2
    exact H2.out
  · have b4 : (r == 4) = false := by simp [h4]
    have e : k.read r = (k, 0, 1100) := by unfold Ctl.read; rw [if_neg (by simp [hl]), if_neg (by omega), if_neg h3, if_neg h4]
    rw [e]
    have H := Lib.hid (h.same (.tuple #[.int .i64 0, .int .i64 1100]))
    clear h e hl
    go_enter Tryz.func15, Tryz.ntmps15
    go_wp2_with fail
    refine (state_ok c9).mono ?_
    rintro e w' ⟨rfl, rfl⟩
    go_wp2_with fail
    go_ret2
    exact H.out
end

/-- A new controller of a chip. -/
def Newed (b : Nat) (c : Chip) (S : Nat → Prop) (w : World) (e : Ending) (w' : World) : Prop :=
  ∃ q S', e = .returned (.tuple #[.pointer (some ⟨q, 0, none⟩), .int .i64 0]) ∧ CtlIs w' q b (Ctl.new c) S' ∧ Step S S' w w' ∧ w.heap.size ≤ q

set_option maxRecDepth 100000 in
theorem ctlNew_calls {w : World} {b : Nat} {c : Chip} {S : Nat → Prop} (h : ChipAt w b c S) :
    Calls Tryz.prog 12 #[.pointer (some ⟨b, 0, none⟩)] w (Newed b c S w) := by
  have h1 := FifoIs.new w
  have h2 := FifoIs.new (w.alloc (.cells (FifoBlk ring0 0 0) 126))
  have H := Lib.hid h
  clear h
  go_enter Tryz.func12, Tryz.ntmps12
  go_wp2_with fail
  refine (fifoNew_calls w).mono ?_
  rintro e w1 ⟨rfl, rfl⟩
  go_wp2_with fail
  refine (fifoNew_calls _).mono ?_
  rintro e w2 ⟨rfl, rfl⟩
  go_wp2_with fail
  go_ret2
  have hk : ∀ o1 o2 o3, Kept (fun _ => False) w (((w.alloc o1).alloc o2).alloc o3) := fun o1 o2 o3 => (((Kept.refl _ w).alloc o1).alloc o2).alloc o3
  refine ⟨w.heap.size + 1 + 1, _, rfl, ⟨w.heap.size, w.heap.size + 1, false, .slice none 0 0, 0, 0, Tight S w.heap.size, ⟨?_, H.out.tight.keep (hk _ _ _) (fun _ _ e => e), ?_, ?_, by omega, .inl ⟨rfl, rfl⟩, fun e => ?_, fun e => ?_, fun e => ?_, by simp, fun j hj => ?_⟩, rfl⟩, ⟨(hk _ _ _).mono (fun _ e => e.elim), fun j hj => ?_⟩, by omega⟩
  · exact blk_new _ _ _ (by simp)
  · exact h1.keep (R := fun _ => False) (((Kept.refl _ _).alloc _).alloc _) (fun e => e)
  · have := h2.keep (R := fun _ => False) (((Kept.refl _ _).alloc (.cells #[.pointer (some ⟨b, 0, none⟩), .int .i64 0, .int .i64 0, .int .i64 0, .pointer (some ⟨w.heap.size, 0, none⟩), .pointer (some ⟨w.heap.size + 1, 0, none⟩), .int .i64 0, .bool false, .int .i64 (-1), .bool false, .int .u32 0, .int .i32 0, .int .u32 0, .slice none 0 0] 91))) (fun e => e)
    rw [show (w.alloc (.cells (FifoBlk ring0 0 0) 126)).heap.size = w.heap.size + 1 by simp] at this
    exact this
  · have := e.2; omega
  · have := e.2; omega
  · have := e.2; omega
  · have := hj.2; simp; omega
  · rcases hj with e | e | e | ⟨e, _⟩ | e
    · exact .inr (by omega)
    · exact .inr (by omega)
    · exact .inr (by omega)
    · cases e
    · exact .inl e.1

theorem ctlNew_none (w : World) : Calls Tryz.prog 12 #[.pointer none] w fun e w' => e = .returned (.tuple #[.pointer none, .int .i64 1]) ∧ w = w' := by
  go_enter Tryz.func12, Tryz.ntmps12
  go_wp2
  go_ret2
  exact ⟨rfl, rfl⟩
end Go.Proofs.YtefoldehejbiiaaGreat
