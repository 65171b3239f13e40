/-
  The statement CtlCuts holds: the law returns true for all bounds and all rows, and nothing that was there before is changed. No condition.
-/
import Derived.Test.YtefoldehejbiiaaGreatRows
import Derived.Test.YtefoldehejbiiaaGreatM54
import Derived.WalkKit
import Derived.ProofKit
import Derived.OpenShut

namespace Go.Proofs.YtefoldehejbiiaaGreat.ctlCuts
open Go.ChangeShapes Go.WideShapes Go.ChangeAt Go.RowKit
set_option linter.unusedVariables false

theorem own : ownKnob Tryz.prog.godebug = none := by kernel_rfl
theorem laidOut : laidOutB Tryz.prog = true := by kernel_rfl

set_option maxRecDepth 100000 in
theorem lifted (os : Os) (started : os.Started) (H : Type) (enc : TypeId × Value → H) :
    ReturnsInHanded {} Tryz.checked os 5 .any (Rows.ctlCutsSpec.pre6 enc Tryz.prog Tryz.f5 Rows.ctlCutsRow.domain false) (Rows.ctlCutsSpec.post enc Tryz.prog Tryz.f5 false true false false) := by
  refine returnsInHanded_of_change (C := Tryz.checked) own started (by kernel_rfl) Tryz.func5
    (ChangeSpec.witness6 (enc := enc) (C := Tryz.checked) false ⟨#[], #[.int .i64 0, .slice none 0 0], []⟩ 8 (by kernel_rfl) (by kernel_rfl) (by kernel_rfl) (by kernel_rfl)) ?_
  intro W base args ds gs before hval0 hW hcnd _
  have hval : ∀ (j : Nat) t v, Tryz.f5.params[j]? = some t → args[j]? = some v → Value.okWide Tryz.prog W .any base t v := hval0
  have hW' := hW
  obtain ⟨p, q, hA0, hV, rfl, hfz, hnd⟩ := hW
  have hA : DataW.TrodAll enc Tryz.prog W 0 (fun _ => true) true Tryz.f5.params.toList args.toList ds p := hA0
  rw [Tryz.params5] at hA hval
  have hAk := hA
  obtain ⟨v0, vs0, d0, ds0, p0, q0, hargs, rfl, rfl, h0, r0⟩ := trodAll_cons hA
  obtain ⟨v1, vs1, d1, ds1, p1, q1, rfl, rfl, rfl, h1, r1⟩ := trodAll_cons r0
  obtain ⟨rfl, rfl, rfl⟩ := trodAll_nil r1
  obtain rfl : args = #[v0, v1] := by cases args; simp_all
  obtain ⟨rfl, rfl⟩ := trodVars_none hV
  have hlt : ∀ x ∈ p0 ++ (p1 ++ []), x.block < W.heap.size := fun x hx => hW'.lt x (List.mem_append_left _ hx)
  obtain ⟨a0, rfl, rfl, rfl, w0⟩ := open_int Tryz.underlying3 (hval 0 3 v0 rfl rfl) h0
  obtain ⟨sa, sl, sc, rfl⟩ := okWide_slice Tryz.underlying32 (hval 1 32 v1 rfl rfl)
  have hrow : ∃ (rows : List Int) (p : Option Addr) (cap : Nat), Value.slice sa sl sc = .slice p rows.length cap ∧ ∀ j, j < rows.length → ∃ g o, p = some ⟨g, o, none⟩ ∧ g < W.heap.size ∧ W.cell? ⟨g, o + j, none⟩ = some (.int .i64 (rows.getD j 0)) := by
    obtain ⟨fu, hfu⟩ := h1
    rcases open_ints Tryz.underlying32 Tryz.underlying3 (by kernel_rfl) hfu with ⟨e, _⟩ | ⟨a, len, cap, zs, e, _, hle, hmax, hzl, hx, hcell, hwf⟩
    · exact ⟨[], none, 0, by simpa [Value.cells] using e, fun j hj => by simp at hj⟩
    · simp only [if_true] at hzl
      have e' : Value.slice sa sl sc = .slice (some a) len cap := by simpa [Value.cells] using e
      have hl : (zs.take len).length = len := by rw [List.length_take]; omega
      refine ⟨zs.take len, some a, cap, by rw [hl]; exact e', fun j hj => ?_⟩
      rw [hl] at hj
      obtain ⟨g, o, rfl, hc⟩ := ints_at hcell (by omega)
      have hcj := hc j (by omega)
      refine ⟨g, o, rfl, ?_, ?_⟩
      · rcases Nat.lt_or_ge g W.heap.size with h | h
        · exact h
        · simp [World.cell?, Array.getElem?_eq_none h] at hcj
      · rw [hcj]
        simp [List.getD, hj]
  obtain ⟨rows, pp, cap, he, hcells⟩ := hrow
  rw [he] at hW' hAk ⊢
  clear hA0 hval0
  refine (cuts_walk a0 rows pp cap W hcells).mono fun e W' ⟨he, hg⟩ => ?_
  subst he
  exact ⟨_, rfl, post_of_below (pv := []) hW' (fun _ _ _ => (trodAll_cons_mk (shut_bool Tryz.underlying4 _) trodAll_mk0))
    (fun sp hsp => by
      have := trodAll_again laidOut hg (sp := sp) (by intro t ht; simp only [List.mem_cons, List.not_mem_nil, or_false] at ht; rcases ht with rfl | rfl <;> exact ⟨by kernel_rfl, of_decide_eq_true (by kernel_rfl)⟩) hAk hlt (fun x hx => hsp x (List.mem_append_left _ hx))
      exact this)
    (fun _ _ => rfl) rfl (hg.frame _)⟩

theorem over : Rows.ctlCutsRow.holds Tryz.pinned (OpenSpec.ofChange Rows.ctlCutsSpec) :=
  OpenClaim.holds_of_wide 5 Tryz.f5 rfl rfl rfl rfl rfl rfl rfl ⟨rfl, rfl, rfl, rfl, rfl⟩ rfl rfl rfl rfl rfl (by kernel_rfl) Tryz.func5 (by kernel_rfl)
    (of_decide_eq_true (by kernel_rfl)) (by unfold Func.isWrapper; first | (rw [if_pos (by decide +kernel)]; kernel_rfl) | (rw [if_neg (by decide +kernel)]; exact ⟨rfl, rfl⟩))
    (fun os started H enc _ => lifted os started H enc)

theorem proved : Rows.CtlCutsSaid :=
  over
#print axioms proved
end Go.Proofs.YtefoldehejbiiaaGreat.ctlCuts
