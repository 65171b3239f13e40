/-
  The cells of a chip in memory, one by one; stores into them.
  Walks: small functions of the chip.
  Walks: the parts of a command.
  Walks: package op: each command's own way, then all of them.
-/
import Derived.Test.YtefoldehejbiiaaGreatM03

namespace Go.Proofs.YtefoldehejbiiaaGreat
open Go.RowKit Lich

section
variable {w : World} {b : Nat} {c : Chip} {S : Nat → Prop} {md : Bool} {jv bv dv : Value}
theorem ChipIs.c0 (h : ChipIs w b c S md jv bv dv) : w.cell? ⟨b, 0, none⟩ = some (.string (S8 c.cells)) := (blk_cell h.blk).trans rfl
theorem ChipIs.c1 (h : ChipIs w b c S md jv bv dv) : w.cell? ⟨b, 1, none⟩ = some (.bool c.prot) := (blk_cell h.blk).trans rfl
theorem ChipIs.c2 (h : ChipIs w b c S md jv bv dv) : w.cell? ⟨b, 2, none⟩ = some (.bool c.quad) := (blk_cell h.blk).trans rfl
theorem ChipIs.c3 (h : ChipIs w b c S md jv bv dv) : w.cell? ⟨b, 3, none⟩ = some (.int .i64 (c.wipes.getD 0 0)) := (blk_cell h.blk).trans rfl
theorem ChipIs.c4 (h : ChipIs w b c S md jv bv dv) : w.cell? ⟨b, 4, none⟩ = some (.int .i64 (c.wipes.getD 1 0)) := (blk_cell h.blk).trans rfl
theorem ChipIs.c5 (h : ChipIs w b c S md jv bv dv) : w.cell? ⟨b, 5, none⟩ = some (.int .i64 (c.wipes.getD 2 0)) := (blk_cell h.blk).trans rfl
theorem ChipIs.c6 (h : ChipIs w b c S md jv bv dv) : w.cell? ⟨b, 6, none⟩ = some (.int .i64 (c.wipes.getD 3 0)) := (blk_cell h.blk).trans rfl
theorem ChipIs.c7 (h : ChipIs w b c S md jv bv dv) : w.cell? ⟨b, 7, none⟩ = some (.int .i64 (c.wipes.getD 4 0)) := (blk_cell h.blk).trans rfl
theorem ChipIs.c8 (h : ChipIs w b c S md jv bv dv) : w.cell? ⟨b, 8, none⟩ = some (.int .i64 (c.wipes.getD 5 0)) := (blk_cell h.blk).trans rfl
theorem ChipIs.c9 (h : ChipIs w b c S md jv bv dv) : w.cell? ⟨b, 9, none⟩ = some (.int .i64 (c.wipes.getD 6 0)) := (blk_cell h.blk).trans rfl
theorem ChipIs.c10 (h : ChipIs w b c S md jv bv dv) : w.cell? ⟨b, 10, none⟩ = some (.int .i64 (c.wipes.getD 7 0)) := (blk_cell h.blk).trans rfl
theorem ChipIs.c11 (h : ChipIs w b c S md jv bv dv) : w.cell? ⟨b, 11, none⟩ = some (.int .u32 (if md then 1 else 0)) := (blk_cell h.blk).trans rfl
theorem ChipIs.c12 (h : ChipIs w b c S md jv bv dv) : w.cell? ⟨b, 12, none⟩ = some (.int .i32 0) := (blk_cell h.blk).trans rfl
theorem ChipIs.c13 (h : ChipIs w b c S md jv bv dv) : w.cell? ⟨b, 13, none⟩ = some (.int .u32 0) := (blk_cell h.blk).trans rfl
theorem ChipIs.c14 (h : ChipIs w b c S md jv bv dv) : w.cell? ⟨b, 14, none⟩ = some (.string (if md then S8 Lich.table else S8 [])) := (blk_cell h.blk).trans rfl
theorem ChipIs.c15 (h : ChipIs w b c S md jv bv dv) : w.cell? ⟨b, 15, none⟩ = some (.bool c.sel) := (blk_cell h.blk).trans rfl
theorem ChipIs.c16 (h : ChipIs w b c S md jv bv dv) : w.cell? ⟨b, 16, none⟩ = some (.bool c.en) := (blk_cell h.blk).trans rfl
theorem ChipIs.c17 (h : ChipIs w b c S md jv bv dv) : w.cell? ⟨b, 17, none⟩ = some (.bool c.goes) := (blk_cell h.blk).trans rfl
theorem ChipIs.c18 (h : ChipIs w b c S md jv bv dv) : w.cell? ⟨b, 18, none⟩ = some (jv) := (blk_cell h.blk).trans rfl
theorem ChipIs.c19 (h : ChipIs w b c S md jv bv dv) : w.cell? ⟨b, 19, none⟩ = some (bv) := (blk_cell h.blk).trans rfl
theorem ChipIs.c20 (h : ChipIs w b c S md jv bv dv) : w.cell? ⟨b, 20, none⟩ = some (.int .i64 c.cmd.op.byte) := (blk_cell h.blk).trans rfl
theorem ChipIs.c21 (h : ChipIs w b c S md jv bv dv) : w.cell? ⟨b, 21, none⟩ = some (.int .i64 c.cmd.op.addr) := (blk_cell h.blk).trans rfl
theorem ChipIs.c22 (h : ChipIs w b c S md jv bv dv) : w.cell? ⟨b, 22, none⟩ = some (.bool c.cmd.op.mode) := (blk_cell h.blk).trans rfl
theorem ChipIs.c23 (h : ChipIs w b c S md jv bv dv) : w.cell? ⟨b, 23, none⟩ = some (.int .i64 c.cmd.op.dummy) := (blk_cell h.blk).trans rfl
theorem ChipIs.c24 (h : ChipIs w b c S md jv bv dv) : w.cell? ⟨b, 24, none⟩ = some (.int .i64 c.cmd.op.data) := (blk_cell h.blk).trans rfl
theorem ChipIs.c25 (h : ChipIs w b c S md jv bv dv) : w.cell? ⟨b, 25, none⟩ = some (.bool c.cmd.op.inn) := (blk_cell h.blk).trans rfl
theorem ChipIs.c26 (h : ChipIs w b c S md jv bv dv) : w.cell? ⟨b, 26, none⟩ = some (.int .i64 c.cmd.stage) := (blk_cell h.blk).trans rfl
theorem ChipIs.c27 (h : ChipIs w b c S md jv bv dv) : w.cell? ⟨b, 27, none⟩ = some (.int .i64 c.cmd.left) := (blk_cell h.blk).trans rfl
theorem ChipIs.c28 (h : ChipIs w b c S md jv bv dv) : w.cell? ⟨b, 28, none⟩ = some (.int .i64 c.cmd.got) := (blk_cell h.blk).trans rfl
theorem ChipIs.c29 (h : ChipIs w b c S md jv bv dv) : w.cell? ⟨b, 29, none⟩ = some (.int .i64 c.cmd.addr) := (blk_cell h.blk).trans rfl
theorem ChipIs.c30 (h : ChipIs w b c S md jv bv dv) : w.cell? ⟨b, 30, none⟩ = some (.int .i64 c.cmd.mode) := (blk_cell h.blk).trans rfl
theorem ChipIs.c31 (h : ChipIs w b c S md jv bv dv) : w.cell? ⟨b, 31, none⟩ = some (.bool c.cmd.moded) := (blk_cell h.blk).trans rfl
theorem ChipIs.c32 (h : ChipIs w b c S md jv bv dv) : w.cell? ⟨b, 32, none⟩ = some (dv) := (blk_cell h.blk).trans rfl
theorem ChipIs.c33 (h : ChipIs w b c S md jv bv dv) : w.cell? ⟨b, 33, none⟩ = some (.int .i64 c.cmd.told) := (blk_cell h.blk).trans rfl
theorem ChipIs.c34 (h : ChipIs w b c S md jv bv dv) : w.cell? ⟨b, 34, none⟩ = some (.int .i64 c.cmd.now) := (blk_cell h.blk).trans rfl
theorem ChipIs.c35 (h : ChipIs w b c S md jv bv dv) : w.cell? ⟨b, 35, none⟩ = some (.bool c.cmd.beyond) := (blk_cell h.blk).trans rfl
theorem ChipIs.free (h : ChipIs w b c S md jv bv dv) (i : Nat) : w.frozen? ⟨b, i, none⟩ = false := blk_free h.blk
theorem ChipIs.lt (h : ChipIs w b c S md jv bv dv) : b < w.heap.size := lt_of_block h.blk

theorem ChipIs.job_ne (h : ChipIs w b c S md jv bv dv) {g : Nat} (hj : jv = .pointer (some ⟨g, 0, none⟩)) : g ≠ b := by
  have := h.job
  unfold JobIs at this
  split at this
  · rw [hj] at this; simp at this
  · obtain ⟨g', he, _, hb⟩ := this
    rw [hj] at he
    simp only [Value.pointer.injEq, Option.some.injEq, Addr.mk.injEq, and_true] at he
    subst he
    exact blk_ne hb h.blk (by decide)

theorem ChipIs.busy_ne (h : ChipIs w b c S md jv bv dv) : ∀ k, bv.ownBlock = some k → k ≠ b := by
  intro k hk
  rcases h.busy with ⟨rfl, _⟩ | ⟨g, off, cap, cs, rfl, _, _, _, hb, _⟩
  · simp [Value.ownBlock] at hk
  · simp only [Value.ownBlock, Option.some.injEq] at hk; subst hk; exact blk_ne hb h.blk (by decide)

theorem owns_blk {w : World} {e : TypeId} {v : Value} {n : Nat} {xs : List Value} (h : w.ownsRow 0 e 1 v n xs) {k : Nat} (hk : v.ownBlock = some k) : ∃ cur, w.heap[k]? = some (.cells cur e (0, 0)) := by
  rcases h.2 with ⟨rfl, _⟩ | ⟨g, cap, cur, rfl, _, hh, _⟩
  · simp [Value.ownBlock] at hk
  · simp only [Value.ownBlock, Option.some.injEq] at hk; subst hk; exact ⟨cur, hh⟩

theorem ChipIs.data_ne (h : ChipIs w b c S md jv bv dv) : ∀ k, dv.ownBlock = some k → k ≠ b := by
  intro k hk
  obtain ⟨cur, hb⟩ := owns_blk h.data hk
  exact blk_ne hb h.blk (by decide)

theorem JobIs.keep {R : Nat → Prop} {w w' : World} {v : Value} {j : Option Job} (h : JobIs w v j S) (hk : Kept R w w') (hd : ∀ g, v = .pointer (some ⟨g, 0, none⟩) → ¬ R g) : JobIs w' v j S := by
  unfold JobIs at *
  split at h
  · exact h
  · obtain ⟨g, rfl, hs, hb⟩ := h
    exact ⟨g, rfl, hs, blk_kept hk hb (hd g rfl)⟩

theorem JobIs.mono {S S' : Nat → Prop} {w : World} {v : Value} {j : Option Job} (h : JobIs w v j S) (hs : ∀ k, S k → S' k) : JobIs w v j S' := by
  unfold JobIs at *
  split at h
  · exact h
  · obtain ⟨g, rfl, h1, hb⟩ := h
    exact ⟨g, rfl, hs _ h1, hb⟩

/-- A store into a chip's own cell. -/
theorem ChipIs.set (h : ChipIs w b c S md jv bv dv) {c' : Chip} {i : Nat} {v : Value} (hb : (ChipBlk c md jv bv dv).setIfInBounds i v = ChipBlk c' md jv bv dv)
    (hj : c'.job = c.job) (hu : c'.busy = c.busy) (hd : c'.cmd.data = c.cmd.data) : ChipIs (w.setCell ⟨b, i, none⟩ v) b c' S md jv bv dv := by
  have hk : Kept (fun k => k = b) w (w.setCell ⟨b, i, none⟩ v) := (Kept.refl (fun k => k = b) w).setCell (p := ⟨b, i, none⟩) (.inl rfl) v
  exact ⟨by rw [blk_set h.blk, hb], h.own, by rw [hj]; exact h.job.keep hk (fun g hg => h.job_ne hg), by rw [hu]; exact h.busy.keep hk (fun k hk' => h.busy_ne k hk'),
    by rw [hd]; exact ownsRow_keep h.data hk (fun k hk' => h.data_ne k hk'), h.dataS, h.apart⟩

/-- What is written elsewhere leaves a chip as it is. -/
theorem ChipIs.keep {R : Nat → Prop} {w' : World} (h : ChipIs w b c S md jv bv dv) (hk : Kept R w w') (hd : ∀ k, S k → ¬ R k) : ChipIs w' b c S md jv bv dv := by
  refine ⟨blk_kept hk h.blk (hd _ h.own), h.own, h.job.keep hk (fun g hg => ?_), h.busy.keep hk (fun k hk' => ?_), ownsRow_keep h.data hk (fun k hk' => hd _ (h.dataS k hk')), h.dataS, h.apart⟩
  · have := h.job
    unfold JobIs at this
    split at this
    · rw [hg] at this; simp at this
    · obtain ⟨g', he, hs, _⟩ := this
      rw [hg] at he
      simp only [Value.pointer.injEq, Option.some.injEq, Addr.mk.injEq, and_true] at he
      subst he; exact hd _ hs
  · rcases h.busy with ⟨rfl, _⟩ | ⟨g, off, cap, cs, rfl, _, _, hs, _, _⟩
    · simp [Value.ownBlock] at hk'
    · simp only [Value.ownBlock, Option.some.injEq] at hk'; subst hk'; exact hd _ hs

theorem ChipIs.mono {S' : Nat → Prop} (h : ChipIs w b c S md jv bv dv) (hs : ∀ k, S k → S' k) : ChipIs w b c S' md jv bv dv :=
  ⟨h.blk, hs _ h.own, h.job.mono hs, h.busy.mono hs, h.data, fun k hk => hs _ (h.dataS k hk), h.apart⟩

theorem ChipIs.drewN (h : ChipIs w b c S md jv bv dv) (n : Nat) : ChipIs (w.drewN n) b c S md jv bv dv := h.keep (R := fun _ => False) ((Kept.refl _ w).drewN n) (fun _ _ h => h)
theorem ChipIs.alloc (h : ChipIs w b c S md jv bv dv) (o : Obj) : ChipIs (w.alloc o) b c S md jv bv dv := h.keep (R := fun _ => False) ((Kept.refl _ w).alloc o) (fun _ _ h => h)
end

end Go.Proofs.YtefoldehejbiiaaGreat

namespace Go.Proofs.YtefoldehejbiiaaGreat
open Go.RowKit Lich

section
variable {w : World} {b : Nat} {c : Chip} {S : Nat → Prop} {md : Bool} {jv bv dv : Value}

set_option maxHeartbeats 400000 in
theorem works_calls (h : ChipIs w b c S md jv bv dv) :
    Calls Tryz.prog 76 #[.pointer (some ⟨b, 0, none⟩)] w fun e w' => e = .returned (.bool c.works) ∧ w = w' := by
  have h18 := h.c18
  have hj := h.job
  unfold JobIs at hj
  unfold Chip.works
  split at hj
  · rename_i hn
    subst hj
    rw [hn]
    clear hn h
    go_enter Tryz.func76, Tryz.ntmps76
    go_wp2
    go_ret
    exact ⟨rfl, rfl⟩
  · rename_i j hn
    obtain ⟨g, rfl, _, hb⟩ := hj
    rw [hn]
    have s4 : w.cell? ⟨g, 4, none⟩ = some (.bool j.susp) := (blk_cell hb).trans rfl
    clear hn h hb
    simp only
    go_enter Tryz.func76, Tryz.ntmps76
    go_wp2
    go_ret
    exact ⟨rfl, rfl⟩
end

end Go.Proofs.YtefoldehejbiiaaGreat

namespace Go.Proofs.YtefoldehejbiiaaGreat
open Go.RowKit Lich

section
variable {w : World} {b : Nat} {c : Chip} {S : Nat → Prop} {md : Bool} {jv bv dv : Value}

theorem many_calls {l : Int} (hl : l = 1 ∨ l = 4) (w : World) : Calls Tryz.prog 95 #[.int .i64 l] w fun e w' => e = .returned (.int .i64 (8 / l)) ∧ w = w' := by
  rcases hl with rfl | rfl
  all_goals
    go_enter Tryz.func95, Tryz.ntmps95
    go_wp2
    go_ret
    exact ⟨rfl, rfl⟩

theorem many1 (w : World) : Calls Tryz.prog 95 #[.int .i64 1] w fun e w' => e = .returned (.int .i64 8) ∧ w = w' := many_calls (.inl rfl) w
theorem many4 (w : World) : Calls Tryz.prog 95 #[.int .i64 4] w fun e w' => e = .returned (.int .i64 2) ∧ w = w' := many_calls (.inr rfl) w

set_option maxHeartbeats 400000 in
theorem enter_calls (h : ChipIs w b c S md jv bv dv) (s l : Int) :
    Calls Tryz.prog 115 #[.pointer (some ⟨b, 20, none⟩), .int .i64 s, .int .i64 l] w fun e w' =>
      e = .returned (.tuple #[]) ∧ ChipIs w' b { c with cmd := c.cmd.enter s l } S md jv bv dv ∧ Kept S w w' := by
  have c26 := h.c26
  have c27 := h.c27
  have c28 := h.c28
  have hf := h.free
  have H := Lib.hid h
  clear h
  go_enter Tryz.func115, Tryz.ntmps115
  go_wp2
  go_end0
  have h := H.out
  refine ⟨rfl, ?_, ?_⟩
  · have h1 := h.set (c' := { c with cmd := { c.cmd with stage := s } }) (i := 26) (v := .int .i64 s) rfl rfl rfl rfl
    have h2 := h1.set (c' := { c with cmd := { c.cmd with stage := s, left := l } }) (i := 27) (v := .int .i64 l) rfl rfl rfl rfl
    exact h2.set (i := 28) (v := .int .i64 0) rfl rfl rfl rfl
  · exact (((Kept.refl S w).setCell (p := ⟨b, 26, none⟩) (.inl h.own) _).setCell (p := ⟨b, 27, none⟩) (.inl h.own) _).setCell (p := ⟨b, 28, none⟩) (.inl h.own) _

/-- What a part of a command has done: the chip is c', all that it leads to lies where it lay. -/
def To (b : Nat) (c' : Chip) (S : Nat → Prop) (md : Bool) (jv bv dv : Value) (w : World) (e : Ending) (w' : World) : Prop :=
  e = .returned (.tuple #[]) ∧ ChipIs w' b c' S md jv bv dv ∧ Kept S w w'

theorem enter_to (h : ChipIs w b c S md jv bv dv) (s l : Int) :
    Calls Tryz.prog 115 #[.pointer (some ⟨b, 20, none⟩), .int .i64 s, .int .i64 l] w (To b { c with cmd := c.cmd.enter s l } S md jv bv dv w) := enter_calls h s l

set_option maxHeartbeats 1000000 in
theorem behind_a (h : ChipIs w b c S md jv bv dv) (hm : c.cmd.op.mode = true) (ha : c.cmd.op.addr = 4) (hn : c.cmd.moded = false) :
    Calls Tryz.prog 116 #[.pointer (some ⟨b, 20, none⟩)] w (To b { c with cmd := c.cmd.enter 3 2 } S md jv bv dv w) := by
  have c21 := h.c21
  have c22 := h.c22
  have c31 := h.c31
  rw [ha] at c21
  rw [hm] at c22
  rw [hn] at c31
  have HE := Lib.hid (enter_to h 3 2)
  clear h hm ha hn
  go_enter Tryz.func116, Tryz.ntmps116
  go_wp2_with (go_at_call 95; refine (many4 _).mono ?_; rintro e w' ⟨rfl, rfl⟩)
  refine HE.out.mono ?_
  rintro e w' ⟨rfl, h1, h2⟩
  go_wp2_with fail
  go_end0
  exact ⟨rfl, h1, h2⟩

set_option maxHeartbeats 1000000 in
theorem behind_b (h : ChipIs w b c S md jv bv dv) (x y : Bool) (hx : c.cmd.op.mode = x) (hy : c.cmd.moded = y) (hxy : x = false ∨ y = true) (d : Int) (hd : c.cmd.op.data = d) (hdd : d = 0 ∨ d = 1 ∨ d = 4) :
    Calls Tryz.prog 116 #[.pointer (some ⟨b, 20, none⟩)] w (To b { c with cmd := c.cmd.behind } S md jv bv dv w) := by
  have c22 := h.c22
  have c23 := h.c23
  have c24 := h.c24
  have c25 := h.c25
  have c26 := h.c26
  have c31 := h.c31
  rw [hx] at c22
  rw [hy] at c31
  rw [hd] at c24
  have HE := Lib.hid (fun s l => enter_to h s l)
  have hB : c.cmd.behind = if 0 < c.cmd.op.dummy ∧ c.cmd.stage ≠ 4 then c.cmd.enter 4 c.cmd.op.dummy else if d = 0 then c.cmd.enter 7 0 else if c.cmd.op.inn = true then c.cmd.enter 5 (8 / d) else c.cmd.enter 6 0 := by
    unfold Cmd.behind
    rw [hx, hy, hd, if_neg (by rcases hxy with rfl | rfl <;> simp)]
  have HB := Lib.hid hB
  clear h hB hx hy hd
  have fin : ∀ (m : Cmd) (e : Ending) (w' : World), c.cmd.behind = m → To b { c with cmd := m } S md jv bv dv w e w' → To b { c with cmd := c.cmd.behind } S md jv bv dv w e w' := fun m e w' hm ht => by rw [hm]; exact ht
  have FIN := Lib.hid fin
  clear fin
  generalize c.cmd.behind = m0 at *
  rcases hxy with rfl | rfl <;> rcases hdd with rfl | rfl | rfl
  all_goals
    go_enter Tryz.func116, Tryz.ntmps116
    go_wp2_with (go_at_call 95; first | ((with_reducible refine (many1 _).mono ?_); rintro e w' ⟨rfl, rfl⟩) | ((with_reducible refine (many4 _).mono ?_); rintro e w' ⟨rfl, rfl⟩))
    all_goals
      refine (HE.out _ _).mono ?_
      rintro e w' ht
      have he := ht.1
      subst he
      have HT := Lib.hid ht
      clear ht
      go_wp2_with fail
      go_end0
      refine FIN.out _ _ _ ?_ HT.out
      rw [HB.out]
      (repeat' split) <;> first | rfl | (exfalso; simp_all; done) | (exfalso; simp_all; omega)

theorem behind_to (h : ChipIs w b c S md jv bv dv) (hm : c.cmd.op.mode = true → c.cmd.op.addr = 4) (hd : c.cmd.op.data = 0 ∨ c.cmd.op.data = 1 ∨ c.cmd.op.data = 4) :
    Calls Tryz.prog 116 #[.pointer (some ⟨b, 20, none⟩)] w (To b { c with cmd := c.cmd.behind } S md jv bv dv w) := by
  by_cases hA : c.cmd.op.mode = true ∧ c.cmd.moded = false
  · have e : c.cmd.behind = c.cmd.enter 3 2 := by
      unfold Cmd.behind
      rw [if_pos hA, hm hA.1]
      rfl
    rw [e]
    exact behind_a h hA.1 (hm hA.1) hA.2
  · refine behind_b h _ _ rfl rfl ?_ _ rfl hd
    cases h1 : c.cmd.op.mode
    · exact .inl rfl
    · right
      cases h2 : c.cmd.moded
      · exact absurd ⟨h1, h2⟩ hA
      · rfl
end

end Go.Proofs.YtefoldehejbiiaaGreat

namespace Go.Proofs.YtefoldehejbiiaaGreat
open Go.RowKit Lich

def opVal (o : OpD) : Value := .agg #[.int .i64 o.byte, .int .i64 o.addr, .bool o.mode, .int .i64 o.dummy, .int .i64 o.data, .bool o.inn]

theorem opOf_4 (w : World) : Calls Tryz.prog 65 #[.int .i64 4] w fun e w' => e = .returned (.tuple #[opVal { byte := 4 }, .int .i64 0]) ∧ Below w.heap.size w w' := by
  go_enter Tryz.func65, Tryz.ntmps65
  go_wp2
  exact bodyPost_ret (v := .tuple #[opVal { byte := 4 }, .int .i64 0]) (by simp [results, Tryz.results65, go_sem, opVal]) rfl ⟨rfl, below_new (below_new (Below.refl _ w) _) _⟩

theorem opOf_6 (w : World) : Calls Tryz.prog 65 #[.int .i64 6] w fun e w' => e = .returned (.tuple #[opVal { byte := 6 }, .int .i64 0]) ∧ Below w.heap.size w w' := by
  go_enter Tryz.func65, Tryz.ntmps65
  go_wp2
  exact bodyPost_ret (v := .tuple #[opVal { byte := 6 }, .int .i64 0]) (by simp [results, Tryz.results65, go_sem, opVal]) rfl ⟨rfl, below_new (below_new (Below.refl _ w) _) _⟩

theorem opOf_117 (w : World) : Calls Tryz.prog 65 #[.int .i64 117] w fun e w' => e = .returned (.tuple #[opVal { byte := 117 }, .int .i64 0]) ∧ Below w.heap.size w w' := by
  go_enter Tryz.func65, Tryz.ntmps65
  go_wp2
  exact bodyPost_ret (v := .tuple #[opVal { byte := 117 }, .int .i64 0]) (by simp [results, Tryz.results65, go_sem, opVal]) rfl ⟨rfl, below_new (below_new (Below.refl _ w) _) _⟩

theorem opOf_122 (w : World) : Calls Tryz.prog 65 #[.int .i64 122] w fun e w' => e = .returned (.tuple #[opVal { byte := 122 }, .int .i64 0]) ∧ Below w.heap.size w w' := by
  go_enter Tryz.func65, Tryz.ntmps65
  go_wp2
  exact bodyPost_ret (v := .tuple #[opVal { byte := 122 }, .int .i64 0]) (by simp [results, Tryz.results65, go_sem, opVal]) rfl ⟨rfl, below_new (below_new (Below.refl _ w) _) _⟩

theorem opOf_2 (w : World) : Calls Tryz.prog 65 #[.int .i64 2] w fun e w' => e = .returned (.tuple #[opVal { byte := 2, addr := 1, data := 1, inn := true }, .int .i64 0]) ∧ Below w.heap.size w w' := by
  go_enter Tryz.func65, Tryz.ntmps65
  go_wp2
  exact bodyPost_ret (v := .tuple #[opVal { byte := 2, addr := 1, data := 1, inn := true }, .int .i64 0]) (by simp [results, Tryz.results65, go_sem, opVal]) rfl ⟨rfl, below_new (below_new (Below.refl _ w) _) _⟩

theorem opOf_1 (w : World) : Calls Tryz.prog 65 #[.int .i64 1] w fun e w' => e = .returned (.tuple #[opVal { byte := 1, data := 1, inn := true }, .int .i64 0]) ∧ Below w.heap.size w w' := by
  go_enter Tryz.func65, Tryz.ntmps65
  go_wp2
  exact bodyPost_ret (v := .tuple #[opVal { byte := 1, data := 1, inn := true }, .int .i64 0]) (by simp [results, Tryz.results65, go_sem, opVal]) rfl ⟨rfl, below_new (below_new (Below.refl _ w) _) _⟩

theorem opOf_3 (w : World) : Calls Tryz.prog 65 #[.int .i64 3] w fun e w' => e = .returned (.tuple #[opVal { byte := 3, addr := 1, data := 1 }, .int .i64 0]) ∧ Below w.heap.size w w' := by
  go_enter Tryz.func65, Tryz.ntmps65
  go_wp2
  exact bodyPost_ret (v := .tuple #[opVal { byte := 3, addr := 1, data := 1 }, .int .i64 0]) (by simp [results, Tryz.results65, go_sem, opVal]) rfl ⟨rfl, below_new (below_new (Below.refl _ w) _) _⟩

theorem opOf_5 (w : World) : Calls Tryz.prog 65 #[.int .i64 5] w fun e w' => e = .returned (.tuple #[opVal { byte := 5, data := 1 }, .int .i64 0]) ∧ Below w.heap.size w w' := by
  go_enter Tryz.func65, Tryz.ntmps65
  go_wp2
  exact bodyPost_ret (v := .tuple #[opVal { byte := 5, data := 1 }, .int .i64 0]) (by simp [results, Tryz.results65, go_sem, opVal]) rfl ⟨rfl, below_new (below_new (Below.refl _ w) _) _⟩

theorem opOf_53 (w : World) : Calls Tryz.prog 65 #[.int .i64 53] w fun e w' => e = .returned (.tuple #[opVal { byte := 53, data := 1 }, .int .i64 0]) ∧ Below w.heap.size w w' := by
  go_enter Tryz.func65, Tryz.ntmps65
  go_wp2
  exact bodyPost_ret (v := .tuple #[opVal { byte := 53, data := 1 }, .int .i64 0]) (by simp [results, Tryz.results65, go_sem, opVal]) rfl ⟨rfl, below_new (below_new (Below.refl _ w) _) _⟩

theorem opOf_159 (w : World) : Calls Tryz.prog 65 #[.int .i64 159] w fun e w' => e = .returned (.tuple #[opVal { byte := 159, data := 1 }, .int .i64 0]) ∧ Below w.heap.size w w' := by
  go_enter Tryz.func65, Tryz.ntmps65
  go_wp2
  exact bodyPost_ret (v := .tuple #[opVal { byte := 159, data := 1 }, .int .i64 0]) (by simp [results, Tryz.results65, go_sem, opVal]) rfl ⟨rfl, below_new (below_new (Below.refl _ w) _) _⟩

theorem opOf_32 (w : World) : Calls Tryz.prog 65 #[.int .i64 32] w fun e w' => e = .returned (.tuple #[opVal { byte := 32, addr := 1 }, .int .i64 0]) ∧ Below w.heap.size w w' := by
  go_enter Tryz.func65, Tryz.ntmps65
  go_wp2
  exact bodyPost_ret (v := .tuple #[opVal { byte := 32, addr := 1 }, .int .i64 0]) (by simp [results, Tryz.results65, go_sem, opVal]) rfl ⟨rfl, below_new (below_new (Below.refl _ w) _) _⟩

theorem opOf_90 (w : World) : Calls Tryz.prog 65 #[.int .i64 90] w fun e w' => e = .returned (.tuple #[opVal { byte := 90, addr := 1, dummy := 8, data := 1 }, .int .i64 0]) ∧ Below w.heap.size w w' := by
  go_enter Tryz.func65, Tryz.ntmps65
  go_wp2
  exact bodyPost_ret (v := .tuple #[opVal { byte := 90, addr := 1, dummy := 8, data := 1 }, .int .i64 0]) (by simp [results, Tryz.results65, go_sem, opVal]) rfl ⟨rfl, below_new (below_new (Below.refl _ w) _) _⟩

theorem opOf_107 (w : World) : Calls Tryz.prog 65 #[.int .i64 107] w fun e w' => e = .returned (.tuple #[opVal { byte := 107, addr := 1, dummy := 8, data := 4 }, .int .i64 0]) ∧ Below w.heap.size w w' := by
  go_enter Tryz.func65, Tryz.ntmps65
  go_wp2
  exact bodyPost_ret (v := .tuple #[opVal { byte := 107, addr := 1, dummy := 8, data := 4 }, .int .i64 0]) (by simp [results, Tryz.results65, go_sem, opVal]) rfl ⟨rfl, below_new (below_new (Below.refl _ w) _) _⟩

theorem opOf_235 (w : World) : Calls Tryz.prog 65 #[.int .i64 235] w fun e w' => e = .returned (.tuple #[opVal { byte := 235, addr := 4, mode := true, dummy := 4, data := 4 }, .int .i64 0]) ∧ Below w.heap.size w w' := by
  go_enter Tryz.func65, Tryz.ntmps65
  go_wp2
  exact bodyPost_ret (v := .tuple #[opVal { byte := 235, addr := 4, mode := true, dummy := 4, data := 4 }, .int .i64 0]) (by simp [results, Tryz.results65, go_sem, opVal]) rfl ⟨rfl, below_new (below_new (Below.refl _ w) _) _⟩

theorem opOf_none (b : Int) (w : World) (h4 : (b == 4) = false) (h6 : (b == 6) = false) (h117 : (b == 117) = false) (h122 : (b == 122) = false) (h2 : (b == 2) = false) (h1 : (b == 1) = false) (h3 : (b == 3) = false) (h5 : (b == 5) = false) (h53 : (b == 53) = false) (h159 : (b == 159) = false) (h32 : (b == 32) = false) (h90 : (b == 90) = false) (h107 : (b == 107) = false) (h235 : (b == 235) = false) :
    Calls Tryz.prog 65 #[.int .i64 b] w fun e w' => e = .returned (.tuple #[opVal {}, .int .i64 400]) ∧ Below w.heap.size w w' := by
  go_enter Tryz.func65, Tryz.ntmps65
  go_wp2
  exact bodyPost_ret (v := .tuple #[opVal {}, .int .i64 400]) (by simp [results, Tryz.results65, go_sem, opVal]) rfl ⟨rfl, below_new (below_new (Below.refl _ w) _) _⟩

/-- What a command is like, if it is one. -/
theorem opOf_calls (b : Int) (w : World) :
    Calls Tryz.prog 65 #[.int .i64 b] w fun e w' => e = .returned (.tuple #[opVal ((opOf b).getD {}), .int .i64 (if (opOf b).isSome then 0 else 400)]) ∧ Below w.heap.size w w' := by
  by_cases h4 : b = 4
  · subst h4; exact opOf_4 w
  by_cases h6 : b = 6
  · subst h6; exact opOf_6 w
  by_cases h117 : b = 117
  · subst h117; exact opOf_117 w
  by_cases h122 : b = 122
  · subst h122; exact opOf_122 w
  by_cases h2 : b = 2
  · subst h2; exact opOf_2 w
  by_cases h1 : b = 1
  · subst h1; exact opOf_1 w
  by_cases h3 : b = 3
  · subst h3; exact opOf_3 w
  by_cases h5 : b = 5
  · subst h5; exact opOf_5 w
  by_cases h53 : b = 53
  · subst h53; exact opOf_53 w
  by_cases h159 : b = 159
  · subst h159; exact opOf_159 w
  by_cases h32 : b = 32
  · subst h32; exact opOf_32 w
  by_cases h90 : b = 90
  · subst h90; exact opOf_90 w
  by_cases h107 : b = 107
  · subst h107; exact opOf_107 w
  by_cases h235 : b = 235
  · subst h235; exact opOf_235 w
  have hn : opOf b = none := by
    unfold opOf
    simp [h4, h6, h117, h122, h2, h1, h3, h5, h53, h159, h32, h90, h107, h235]
  rw [hn]
  exact opOf_none b w (by simp [h4]) (by simp [h6]) (by simp [h117]) (by simp [h122]) (by simp [h2]) (by simp [h1]) (by simp [h3]) (by simp [h5]) (by simp [h53]) (by simp [h159]) (by simp [h32]) (by simp [h90]) (by simp [h107]) (by simp [h235])

end Go.Proofs.YtefoldehejbiiaaGreat
