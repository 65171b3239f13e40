/-
  Phases that a call lays in rows of its own; a row that is copied.
-/
import Derived.Test.YtefoldehejbiiaaGreatM31
import Derived.Laws.OwnMore

namespace Go.Proofs.YtefoldehejbiiaaGreat
open Go.RowKit Lich

def phCells : List Phase → List Value → List Value
  | ph :: ps, v :: vs => .int .i64 ph.lanes :: v :: .int .i64 ph.clocks :: .int .i64 ph.read :: phCells ps vs
  | _, _ => []

theorem phCells_append (ps : List Phase) (ph : Phase) (bv : Value) : ∀ (vs : List Value), vs.length = ps.length → phCells (ps ++ [ph]) (vs ++ [bv]) = phCells ps vs ++ [.int .i64 ph.lanes, bv, .int .i64 ph.clocks, .int .i64 ph.read] := by
  induction ps with
  | nil => intro vs h; cases vs with
    | nil => rfl
    | cons _ _ => simp at h
  | cons p ps ih => intro vs h; cases vs with
    | nil => simp at h
    | cons v vs => simp only [List.cons_append, phCells]; rw [ih vs (by simpa using h)]

theorem phCells_get (ps : List Phase) : ∀ (vs : List Value) (i : Nat), vs.length = ps.length → i < ps.length →
    (phCells ps vs)[i * 4]? = some (.int .i64 (ps.getD i {}).lanes) ∧ (phCells ps vs)[i * 4 + 1]? = some (vs.getD i undef) ∧ (phCells ps vs)[i * 4 + 2]? = some (.int .i64 (ps.getD i {}).clocks) ∧ (phCells ps vs)[i * 4 + 3]? = some (.int .i64 (ps.getD i {}).read) := by
  induction ps with
  | nil => intro vs i _ h; simp at h
  | cons p ps ih =>
    intro vs i hv hi
    cases vs with
    | nil => simp at hv
    | cons v vs =>
      cases i with
      | zero => exact ⟨rfl, rfl, rfl, rfl⟩
      | succ i =>
        obtain ⟨h0, h1, h2, h3⟩ := ih vs i (by simpa using hv) (by simpa using hi)
        simp only [phCells, List.getD_cons_succ]
        rw [show (i + 1) * 4 = i * 4 + 1 + 1 + 1 + 1 by omega]
        exact ⟨by simpa using h0, by simpa using h1, by simpa using h2, by simpa using h3⟩

theorem ownsRow_mono {w : World} {a b : Nat} {e : TypeId} {size : Nat} {v : Value} {n : Nat} {xs : List Value} (h : w.ownsRow a e size v n xs) (hb : b ≤ a) : w.ownsRow b e size v n xs := by
  refine ⟨h.1, ?_⟩
  rcases h.2 with h | ⟨g, cap, cur, hv, hg, r⟩
  · exact .inl h
  · exact .inr ⟨g, cap, cur, hv, Nat.le_trans hb hg, r⟩

/-- A row of bytes of the call's own (or none). -/
def ByteRow (n0 : Nat) (w : World) (v : Value) (xs : List Int) : Prop :=
  (v = .slice none 0 0 ∧ xs = []) ∨ (xs ≠ [] ∧ w.ownsRow n0 3 1 v xs.length (xs.map (.int .i64)))

theorem ByteRow.keep {n0 : Nat} {R : Nat → Prop} {w w' : World} {v : Value} {xs : List Int} (h : ByteRow n0 w v xs) (hk : Kept R w w') (hd : ∀ k, v.ownBlock = some k → ¬ R k) : ByteRow n0 w' v xs := by
  rcases h with h | ⟨h0, h⟩
  · exact .inl h
  · exact .inr ⟨h0, ownsRow_keep h hk hd⟩
theorem ByteRow.mono {n0 n1 : Nat} {w : World} {v : Value} {xs : List Int} (h : ByteRow n0 w v xs) (hn : n1 ≤ n0) : ByteRow n1 w v xs := by
  rcases h with h | ⟨h0, h⟩
  · exact .inl h
  · exact .inr ⟨h0, ownsRow_mono h hn⟩

structure PhOwn (n0 : Nat) (w : World) (v : Value) (ps : List Phase) (vs : List Value) : Prop where
  len : vs.length = ps.length
  row : w.ownsRow n0 116 4 v ps.length (phCells ps vs)
  bytes : ∀ i, i < ps.length → ByteRow n0 w (vs.getD i undef) (ps.getD i {}).bytes

theorem ownsRow_types {w : World} {a b : Nat} {e e' : TypeId} {s s' : Nat} {v v' : Value} {n n' : Nat} {xs xs' : List Value} (h : w.ownsRow a e s v n xs) (h' : w.ownsRow b e' s' v' n' xs') (he : e ≠ e') : ∀ k, v.ownBlock = some k → v'.ownBlock ≠ some k := by
  intro k hk hk'
  rcases h.2 with ⟨rfl, _⟩ | ⟨g, cap, cur, rfl, _, hb, _⟩
  · simp [Value.ownBlock] at hk
  rcases h'.2 with ⟨rfl, _⟩ | ⟨g', cap', cur', rfl, _, hb', _⟩
  · simp [Value.ownBlock] at hk'
  simp only [Value.ownBlock, Option.some.injEq] at hk hk'
  subst hk; subst hk'
  exact blk_ne hb hb' he rfl

theorem PhOwn.bytes_far {n0 : Nat} {w : World} {v : Value} {ps : List Phase} {vs : List Value} (h : PhOwn n0 w v ps vs) {i : Nat} (hi : i < ps.length) : ∀ k, (vs.getD i undef).ownBlock = some k → v.ownBlock ≠ some k := by
  intro k hk
  rcases h.bytes i hi with ⟨e, _⟩ | ⟨_, hr⟩
  · rw [e] at hk; simp [Value.ownBlock] at hk
  · exact ownsRow_types hr h.row (by decide) k hk

/-- One phase more. -/
theorem PhOwn.push {n0 : Nat} {w w3 : World} {v : Value} {ps : List Phase} {vs : List Value} (h : PhOwn n0 w v ps vs) (ph : Phase) (bv : Value) (hb : ByteRow n0 w bv ph.bytes) (o : Obj) {gg cap : Nat}
    (hown : w3.ownsRow n0 116 4 (.slice (some ⟨gg, 0, none⟩) (ps.length + 1) cap) (ps.length + 1) (phCells ps vs ++ [.int .i64 ph.lanes, bv, .int .i64 ph.clocks, .int .i64 ph.read]))
    (hg : (w.alloc o).grownBy w3 v.ownBlock) : PhOwn n0 w3 (.slice (some ⟨gg, 0, none⟩) (ps.length + 1) cap) (ps ++ [ph]) (vs ++ [bv]) := by
  have hk : Kept (fun k => v.ownBlock = some k) w w3 := ((Kept.refl _ w).alloc o).grown hg (fun k hk => .inl hk)
  refine ⟨by simp [h.len], by rw [phCells_append _ _ _ _ h.len]; simpa using hown, fun i hi => ?_⟩
  by_cases hlt : i < ps.length
  · have e1 : (vs ++ [bv]).getD i undef = vs.getD i undef := by simp [List.getD, List.getElem?_append, h.len, hlt]
    have e2 : (ps ++ [ph]).getD i {} = ps.getD i {} := by simp [List.getD, List.getElem?_append, hlt]
    rw [e1, e2]
    exact (h.bytes i hlt).keep hk (fun k hk' => h.bytes_far hlt k hk')
  · have hi' : i = ps.length := by simp at hi; omega
    subst hi'
    have e1 : (vs ++ [bv]).getD ps.length undef = bv := by simp [List.getD, ← h.len]
    have e2 : (ps ++ [ph]).getD ps.length {} = ph := by simp [List.getD]
    rw [e1, e2]
    refine hb.keep hk (fun k hk' => ?_)
    rcases hb with ⟨e, _⟩ | ⟨_, hr⟩
    · rw [e] at hk'; simp [Value.ownBlock] at hk'
    · exact ownsRow_types hr h.row (by decide) k hk'

theorem PhOwn.keep {n0 : Nat} {R : Nat → Prop} {w w' : World} {v : Value} {ps : List Phase} {vs : List Value} (h : PhOwn n0 w v ps vs) (hk : Kept R w w') (hR : ∀ k, R k → k < n0) : PhOwn n0 w' v ps vs := by
  refine ⟨h.len, ownsRow_keep h.row hk (fun k hk' hr => ?_), fun i hi => (h.bytes i hi).keep hk (fun k hk' hr => ?_)⟩
  · have := (h.row.lt k hk').1; have := hR k hr; omega
  · rcases h.bytes i hi with ⟨e, _⟩ | ⟨_, hr'⟩
    · rw [e] at hk'; simp [Value.ownBlock] at hk'
    · have := (hr'.lt k hk').1; have := hR k hr; omega

theorem map_getD {l : List Int} {k : Nat} (hk : k < l.length) : (l.map (Value.int .i64))[k]? = some (.int .i64 (l.getD k 0)) := by
  simp [List.getD, hk]

theorem PhOwn.phases {n0 : Nat} {w : World} {v : Value} {ps : List Phase} {vs : List Value} (h : PhOwn n0 w v ps vs) (hne : ps ≠ []) : PhasesIs w v ps (fun k => k < n0) := by
  obtain ⟨g, cap, rfl, hg0, hg1⟩ := h.row.form (List.length_pos_iff.2 hne)
  refine ⟨g, 0, cap, rfl, fun i hi => ?_⟩
  obtain ⟨c0, c1, c2, c3⟩ := phCells_get ps vs i h.len hi
  have hc : ∀ j u, (phCells ps vs)[j]? = some u → w.cell? ⟨g, j, none⟩ = some u := by
    intro j u hj
    have := h.row.cells (g := g) rfl j u hj
    have ha : (⟨g, 0, none⟩ : Addr).add j = ⟨g, j, none⟩ := by unfold Addr.add; split <;> simp_all
    rw [ha] at this
    exact this
  rw [Nat.zero_add]
  refine ⟨hc _ _ c0, ⟨_, hc _ _ c1, ?_⟩, hc _ _ c2, hc _ _ c3, hg1, by omega⟩
  rcases h.bytes i hi with e | ⟨hne', hr⟩
  · exact .inl e
  · obtain ⟨g', cap', e, h0, h1⟩ := hr.form (List.length_pos_iff.2 hne')
    refine .inr ⟨g', 0, cap', hne', e, h1, by omega, fun k hk => ?_⟩
    rw [e] at hr
    have := hr.cells (g := g') rfl k (.int .i64 ((ps.getD i {}).bytes.getD k 0)) (map_getD hk)
    have ha : (⟨g', 0, none⟩ : Addr).add k = ⟨g', k, none⟩ := by unfold Addr.add; split <;> simp_all
    rw [ha] at this
    rw [Nat.zero_add]
    exact this

theorem PhasesIs.mono {w : World} {v : Value} {ps : List Phase} {F F' : Nat → Prop} (h : PhasesIs w v ps F) (hF : ∀ k, F' k → F k) : PhasesIs w v ps F' := by
  obtain ⟨q, o, cap, e, hp⟩ := h
  refine ⟨q, o, cap, e, fun i hi => ?_⟩
  have h := hp i hi
  obtain ⟨v, hv, hb⟩ := h.c1
  refine ⟨h.c0, ⟨v, hv, ?_⟩, h.c2, h.c3, h.lt, fun e => h.far (hF _ e)⟩
  rcases hb with e | ⟨g, off, cap, hne, e, h1, h2, h3⟩
  · exact .inl e
  · exact .inr ⟨g, off, cap, hne, e, h1, fun e => h2 (hF _ e), h3⟩

def Cloned (xs : List Int) (w : World) (e : Ending) (w' : World) : Prop := ∃ v', e = .returned v' ∧ w'.ownsRow w.heap.size 3 1 v' xs.length (xs.map (.int .i64)) ∧ Below w.heap.size w w'

set_option maxRecDepth 100000 in
set_option maxHeartbeats 1000000 in
/-- slices.Clone at whole numbers. -/
theorem clone_calls (xs : List Int) (hn : xs.length < 1000000) (v : Value) (w : World) (hv : RowIs w v xs) :
    Calls Tryz.prog 57 #[v] w (Cloned xs w) := by
  rcases hv with ⟨rfl, rfl⟩ | ⟨g, off, cap, rfl, hgl, hc⟩
  · have hcmp : ∀ w, (binOp .eql 32 (.slice none 0 0) (.slice none 0 0)).run Tryz.prog w = .ok (.bool true) w := fun _ => by kernel_rfl
    go_enter Tryz.func57, Tryz.ntmps57
    go_wp2_with fail
    go_ret
    exact ⟨_, rfl, World.ownsRow_nil _ _ _ _, Below.refl _ w⟩
  · have HC := Lib.hid hc
    clear hc
    obtain ⟨i0, hi0, hz0, hz1, hz2⟩ := info_parts info_int
    have hcmp : ∀ n c w, (binOp .eql 32 (.slice (some ⟨g, off, none⟩) n c) (.slice none 0 0)).run Tryz.prog w = .ok (.bool false) w := fun _ _ _ => by kernel_rfl
    go_enter Tryz.func57, Tryz.ntmps57
    have hnews : ∀ (u : World), Below w.heap.size w u → ∀ j x, (xs.map (Value.int .i64))[j]? = some x → u.cell? ((⟨g, off, none⟩ : Addr).add j) = some x := by
      intro u hu j x hx
      have hj : j < xs.length := by
        have := (List.getElem?_eq_some_iff.1 hx).1
        simpa using this
      have ha : (⟨g, off, none⟩ : Addr).add j = ⟨g, off + j, none⟩ := by unfold Addr.add; split <;> simp_all
      rw [map_getD hj] at hx
      simp only [Option.some.injEq] at hx
      subst hx
      rw [ha, World.cell?_of_block (hu.block g hgl)]
      exact HC.out j hj
    have HNW := Lib.hid hnews
    clear hnews
    have b0 : Below w.heap.size w (w.alloc (.cells #[] 3)) := below_new (Below.refl _ w) _
    go_wp2_with (at_builtin; refine wpList_append_own _ rfl _ _ _ rfl w.heap.size 3 i0 _ 1 8 und_ints hi0 hz0 hz1 hz2 rfl (by omega) (.slice (some ⟨w.heap.size, 0, none⟩) 0 0) 0 [] rfl (World.ownsRow_lit w #[] 0 (Nat.le_refl _) (by simp [maxLen]) rfl) ⟨g, off, none⟩ xs.length cap (xs.map (.int .i64)) rfl (by simp) (HNW.out _ b0) (by simp [Value.oneCell']) (by simp [maxLen]; omega) (by omega) (by simp) ?_; intro v' w3 hown1 hgrow hnil)
    go_ret
    refine ⟨v', rfl, by simpa using hown1, ?_⟩
    exact below_grown b0 hgrow (fun k hk => by simp only [Value.ownBlock, Option.some.injEq] at hk; omega)
def ClonedAt (xs : List Int) (w : World) (e : Ending) (w' : World) : Prop := ∃ g cap, e = .returned (.slice (some ⟨g, 0, none⟩) xs.length cap) ∧ w'.ownsRow w.heap.size 3 1 (.slice (some ⟨g, 0, none⟩) xs.length cap) xs.length (xs.map (.int .i64)) ∧ Below w.heap.size w w'

theorem clone_some (xs : List Int) (h0 : xs ≠ []) (hn : xs.length < 1000000) (v : Value) (w : World) (hv : RowIs w v xs) :
    Calls Tryz.prog 57 #[v] w (ClonedAt xs w) := by
  refine (clone_calls xs hn v w hv).mono ?_
  rintro e w' ⟨v', rfl, hown, hb⟩
  obtain ⟨g, cap, rfl, _, _⟩ := hown.form (List.length_pos_iff.2 h0)
  exact ⟨g, cap, rfl, hown, hb⟩
end Go.Proofs.YtefoldehejbiiaaGreat
