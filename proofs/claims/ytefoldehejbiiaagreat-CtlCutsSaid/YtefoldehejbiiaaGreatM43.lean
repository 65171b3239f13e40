/-
  Walks: a controller's queue is shown.
-/
import Derived.Test.YtefoldehejbiiaaGreatM42

namespace Go.Proofs.YtefoldehejbiiaaGreat
open Go.RowKit Lich

section
variable {w : World} {q b fo fi : Nat} {k : Ctl} {md : Bool} {lv : Value} {gl gb : Nat} {Sc : Nat → Prop}

def Queued (fo : Nat) (out : List Int) (w : World) (e : Ending) (w' : World) : Prop :=
  ∃ v, e = .returned v ∧ w'.ownsRow w.heap.size 3 1 v out.length (out.map (.int .i64)) ∧ FifoIs w' fo out ∧ Kept (fun j => j = fo) w w'

theorem rot_step (out : List Int) {k : Nat} (hk : k < out.length) : out.drop k ++ out.take k = out.getD k 0 :: (out.drop (k + 1) ++ out.take k) ∧ (out.drop (k + 1) ++ out.take k) ++ [out.getD k 0] = out.drop (k + 1) ++ out.take (k + 1) ∧ (out.drop (k + 1) ++ out.take k).length + 1 = out.length := by
  have h1 : out.drop k = out[k] :: out.drop (k + 1) := List.drop_eq_getElem_cons hk
  have h2 : out.getD k 0 = out[k] := by simp [List.getD, hk]
  refine ⟨by rw [h1, h2]; rfl, by rw [h2, List.append_assoc, List.take_succ_eq_append_getElem hk], by simp; omega⟩

set_option maxRecDepth 100000 in
set_option maxHeartbeats 2000000 in
theorem queued_calls (h : CtlMem w q b fo fi k md lv gl gb Sc) (hl : k.out.length ≤ 16) :
    Calls Tryz.prog 48 #[.pointer (some ⟨q, 0, none⟩)] w (Queued fo k.out w) := by
  obtain ⟨i0, hi0, hz0, hz1, hz2⟩ := info_parts info_int
  have c4 : w.cell? ⟨q, 4, none⟩ = some (.pointer (some ⟨fo, 0, none⟩)) := h.cell rfl
  have hq : ∀ wr, Kept (fun j => j = fo) w wr → wr.cell? ⟨q, 4, none⟩ = some (.pointer (some ⟨fo, 0, none⟩)) := fun wr hk => by
    rw [World.cell?_of_block (hk.block q (lt_of_block h.blk) (fun e => h.q_out e.symm))]; exact c4
  have hfo := h.out
  generalize k.out = out at *
  have HQ := Lib.hid hq
  have HFO := Lib.hid hfo
  have HFL := Lib.hid hfo.lt
  have hql := lt_of_block h.blk
  clear h hq hfo
  go_enter Tryz.func48, Tryz.ntmps48
  go_wp2_with fail
  refine (fifoLen_calls HFO.out).mono ?_
  rintro e w' ⟨rfl, rfl⟩
  go_wp2_with fail
  go_loopw [3, 11] (fun v i wr => ∃ k : Nat, k ≤ out.length ∧ i = .int .i64 k ∧ wr.ownsRow w.heap.size 3 1 v k ((out.take k).map (.int .i64)) ∧ FifoIs wr fo (out.drop k ++ out.take k) ∧ Kept (fun j => j = fo) w wr) (fun _ i _ => out.length - (intOf i).toNat)
  case atStart => exact ⟨0, Nat.zero_le _, rfl, World.ownsRow_nil _ _ _ _, by simpa using HFO.out, Kept.refl _ _⟩
  case round =>
    obtain ⟨k, hk, rfl, hrow, hf, hkp⟩ := hrel
    by_cases hlt : k < out.length
    · have cq := HQ.out wr hkp
      obtain ⟨r1, r2, r3⟩ := rot_step out hlt
      rw [r1] at hf
      have HP := Lib.hid (fifoPop_calls hf)
      have HROW := Lib.hid hrow
      have HKP := Lib.hid hkp
      have R2 := Lib.hid r2
      have R3 := Lib.hid r3
      have htk : (out.take (k + 1)).map (Value.int .i64) = (out.take k).map (Value.int .i64) ++ [.int .i64 (out.getD k 0)] := by
        have h2 : out.getD k 0 = out[k] := by simp [List.getD, hlt]
        rw [List.take_succ_eq_append_getElem hlt, List.map_append, h2]
        rfl
      have HTK := Lib.hid htk
      clear hf hrow hkp r1 r2 r3 htk
      generalize out.getD k 0 = x at *
      generalize out.drop (k + 1) ++ out.take k = rest at *
      go_wp2_with fail
      refine HP.out.mono ?_
      rintro e w1 ⟨rfl, hf1, hk1⟩
      simp only [List.headD_cons, List.tail_cons, reduceCtorEq, if_false] at hf1 ⊢
      have hkp1 := HKP.out.trans hk1
      have cq1 := HQ.out w1 hkp1
      have hrowfar : ∀ g, u3.ownBlock = some g → ¬ g = fo := fun g hg e => by
        have h1 := (HROW.out.lt g hg).1
        have := HFL.out
        omega
      have hrow1 : w1.ownsRow w.heap.size 3 1 u3 k ((out.take k).map (.int .i64)) := ownsRow_keep HROW.out hk1 hrowfar
      have HK1 := Lib.hid hkp1
      have HR1 := Lib.hid hrow1
      have HF1 := Lib.hid hf1
      have hsz := hkp1.size
      clear hf1 hk1 hkp1 hrow1
      go_wp2_with (at_builtin; refine wpList_append_lies _ rfl _ _ _ rfl w.heap.size 3 i0 _ 1 8 und_ints hi0 hz0 hz1 hz2 rfl (by omega) u3 k _ rfl (HR1.out.alloc _) ⟨w1.heap.size, 0, none⟩ 1 1 [.int .i64 x] rfl rfl (World.news_of_block (cs := #[.int .i64 x]) (t := 3) (fr := (0, 0)) (heap_alloc_new _ _)) (by simp [Value.oneCell']) (by omega) (by simp [maxLen]; omega) (by omega) (by simp; omega) (w1.heap.size + 1) (by simp) ?_; intro gg cap w3 hown1 hgrow hat hlt3; have q3 := hgrow.cell_far ⟨q, 4, none⟩ (by have := World.block_lt_of_cell? _ _ cq1; simp at *; omega) (fun e => by have := (HR1.out.lt q e.symm).1; omega); rw [World.cell?_alloc_lt _ _ _ (World.block_lt_of_cell? _ _ cq1), cq1] at q3)
      have k3 : Kept (fun j => u3.ownBlock = some j) w1 w3 := ((Kept.refl _ w1).alloc _).grown hgrow (fun j hj => .inl hj)
      have hf3 : FifoIs w3 fo rest := HF1.out.keep k3 (fun e => by have := (HR1.out.lt fo e).1; have := HFL.out; omega)
      have hkp3 : Kept (fun j => j = fo) w w3 := (HK1.out.alloc _).grown hgrow (fun j hj => .inr (HR1.out.lt j hj).1)
      have hp3 := fifoPush_calls hf3 x
      unfold Pushed at hp3
      rw [if_neg (by have := R3.out; omega), if_neg (by have := R3.out; omega)] at hp3
      have HP3 := Lib.hid hp3
      have HO3 := Lib.hid hown1
      have HK3 := Lib.hid hkp3
      clear k3 hf3 hkp3 hp3 hown1 hgrow
      refine HP3.out.mono ?_
      rintro e w4 ⟨rfl, hf4, hk4⟩
      rw [R2.out] at hf4
      have hk44 := HK3.out.trans hk4
      have hro4 := ownsRow_keep HO3.out hk4 (fun g hg e => by have h1 := (HO3.out.lt g hg).1; have := HFL.out; omega)
      rw [← HTK.out] at hro4
      have HF4 := Lib.hid hf4
      have HK4 := Lib.hid hk44
      have HRO4 := Lib.hid hro4
      clear hf4 hk44 hro4 hk4
      go_wp2_with fail
      exact ⟨⟨k + 1, by omega, by go_num, HRO4.out, HF4.out, HK4.out⟩, by simp [intOf]; omega⟩
    · have hke : k = out.length := by omega
      subst hke
      have hrow2 : wr.ownsRow w.heap.size 3 1 u3 out.length (out.map (.int .i64)) := by rw [List.take_of_length_le (Nat.le_refl _)] at hrow; exact hrow
      have hf2 : FifoIs wr fo out := by rw [List.drop_length, List.take_of_length_le (Nat.le_refl _), List.nil_append] at hf; exact hf
      have HR := Lib.hid hrow2
      have HF := Lib.hid hf2
      have HK := Lib.hid hkp
      clear hrow hf hrow2 hf2 hkp
      go_wp2_with fail
      go_ret
      exact ⟨_, rfl, HR.out, HF.out, HK.out⟩
end
end Go.Proofs.YtefoldehejbiiaaGreat
