/-
  What holds of a chip at all times: it is kept by every clock, selection, deselection, loss. No program.
-/
import Derived.Test.YtefoldehejbiiaaGreatM18

namespace Lich

structure Chip.Fine (c : Chip) : Prop where
  cells : c.cells.length = 4096
  wipes : c.wipes.length = 8
  job : ∀ j, c.job = some j → j.Ok ∧ 1 ≤ j.left ∧ j.left ≤ 100000
  busy : ∀ x ∈ c.busy, 1 ≤ x ∧ x ≤ 100000

/-- A chip in the midst of a command. -/
structure Chip.Live (c : Chip) (n : Int) : Prop extends Chip.Fine c where
  cmd : c.cmd.Ok n

theorem Chip.Live.more {c : Chip} {n k : Int} (h : c.Live n) (hk : n ≤ k) : c.Live k := { h with cmd := h.cmd.more hk }

theorem turned_length (a : List UInt8) (i n : Nat) (f : Nat → UInt8 → UInt8) : (turned a i n f).length = a.length := by unfold turned; simp
theorem Job.cells_length (j : Job) (a m : List UInt8) : (j.cells a m).length = a.length := by
  unfold Job.cells progCut eraseCut; split <;> exact turned_length _ _ _ _

theorem Chip.Fine.pass {c : Chip} (h : c.Fine) : c.pass.Fine := by
  unfold Chip.pass
  split
  · exact h
  · rename_i j hj
    split
    · exact h
    · split
      · exact { h with cells := (Job.cells_length _ _ _).trans h.cells, job := by simp }
      · rename_i hl
        obtain ⟨h1, h2, h3⟩ := h.job j hj
        refine { h with job := ?_ }
        intro k hk
        simp only [Option.some.injEq] at hk
        subst hk
        exact ⟨h1, by show 1 ≤ j.left - 1; omega, by show j.left - 1 ≤ _; omega⟩

theorem Chip.Live.pass {c : Chip} {n : Int} (h : c.Live n) : c.pass.Live n := { h.toFine.pass with cmd := by rw [(Chip.pass_cmd c).1]; exact h.cmd }

theorem Chip.Live.beside {c c' : Chip} {n k : Int} (h : c.Live n) (hb : c.Beside c') (hc : c'.cmd.Ok k) : c'.Live k :=
  ⟨⟨hb.cells ▸ h.cells, hb.wipes ▸ h.wipes, by rw [hb.job]; exact h.job, by rw [hb.busy]; exact h.busy⟩, hc⟩

theorem Chip.Live.clock {c : Chip} {n : Int} (h : c.Live n) (x : Int) : (c.clock x).1.Live (n + 1) := by
  unfold Chip.clock
  split
  · exact h.pass.beside (Chip.step_beside _ _) (Chip.step_cmd h.pass.cmd x)
  · exact h.pass.more (by omega)

theorem Cmd.fresh_Ok : ({ left := 8 } : Cmd).Ok 0 := by
  refine ⟨noOp_Ok, by decide, by decide, by decide, by decide, by simp, by simp, by decide, ?_, ?_, ?_, ?_, ?_, ?_⟩
  · intro _; exact ⟨by decide, by decide, 0, by decide, by decide⟩
  all_goals simp

theorem Cmd.blank_Ok (n : Int) (hn : 0 ≤ n) : ({ stage := 1 } : Cmd).Ok n := by
  refine ⟨noOp_Ok, by decide, ⟨by decide, hn⟩, by decide, by decide, by simp, by simpa using hn, by decide, ?_, ?_, ?_, ?_, ?_, ?_⟩
  all_goals simp

theorem Chip.Live.select {c : Chip} (h : c.Fine) : c.select.Live 0 := by
  unfold Chip.select
  simp only
  split
  · refine Chip.Live.beside (c := { c with sel := true, cmd := { left := 8 } }) (n := 0) { h with cmd := Cmd.fresh_Ok } (Chip.begins_beside _ _) ?_
    exact Chip.begins_cmd _ (by simp) (by simp) (by simp)
  · exact { h with cmd := Cmd.fresh_Ok }

theorem pageOf_length (a : Int) (d : List Int) : (pageOf a d).length = 32 := by
  unfold pageOf
  have : ∀ (l : List (Int × Nat)) (o : List UInt8), o.length = 32 → (l.foldl (fun out (b, i) => out.set ((a + (i : Int)) % 32).toNat (UInt8.ofInt b)) o).length = 32 := by
    intro l
    induction l with
    | nil => intro o h; exact h
    | cons y ys ih => intro o h; exact ih _ (by rw [List.length_set]; exact h)
  exact this _ _ (by simp)

theorem Chip.Live.starts {c : Chip} {n : Int} (h : c.Live n) (j : Job) (hj : j.Ok) : (c.starts j).Live n := by
  unfold Chip.starts
  split
  · exact h
  · split
    · exact { h with }
    · have hw : (if j.sector = -1 then c.wipes else c.wipes.set j.sector.toNat (Go.RowKit.wrap64 (c.wipes.getD j.sector.toNat 0 + 1))).length = 8 := by
        split
        · exact h.wipes
        · rw [List.length_set]; exact h.wipes
      simp only
      split
      · refine { h with wipes := hw, job := ?_ }
        intro k hk
        simp only [Option.some.injEq] at hk
        subst hk
        exact ⟨hj, by show (1 : Int) ≤ 8; decide, by show (8 : Int) ≤ 100000; decide⟩
      · rename_i b rest hb
        have hb' := h.busy
        rw [hb] at hb'
        refine { h with wipes := hw, job := ?_, busy := fun x hx => hb' x (List.mem_cons_of_mem _ hx) }
        intro k hk
        simp only [Option.some.injEq] at hk
        subst hk
        exact ⟨hj, hb' b (List.mem_cons_self ..)⟩

theorem Job.page_Ok (a : Int) (h0 : 0 ≤ a) (h1 : a < 4096) (d : List Int) (l : Int) (s : Bool) : ({ sector := -1, page := a - a % 32, data := pageOf a d, left := l, susp := s } : Job).Ok := by
  refine .inl ⟨rfl, by show 0 ≤ a - a % 32; omega, ?_⟩
  show a - a % 32 + ((pageOf a d).length : Int) ≤ 4096
  rw [pageOf_length]
  omega
theorem Job.sector_Ok (a : Int) (h0 : 0 ≤ a) (h1 : a < 4096) (p : Int) (d : List UInt8) (l : Int) (s : Bool) : ({ sector := a / 512, page := p, data := d, left := l, susp := s } : Job).Ok :=
  .inr ⟨by show 0 ≤ a / 512; omega, by show a / 512 < 8; omega⟩

theorem Chip.Live.ends {c : Chip} {n : Int} (h : c.Live n) : c.ends.Live n := by
  have ha := h.cmd.addr
  unfold Chip.ends
  simp only
  split
  · exact h
  · repeat' split
    all_goals first
      | exact h
      | exact { h with }
      | exact h.starts _ (Job.page_Ok _ ha.1 ha.2 _ _ _)
      | exact h.starts _ (Job.sector_Ok _ ha.1 ha.2 _ _ _ _)
      | (rename_i j hj _; refine { h with job := ?_ }; intro k hk; simp only [Option.some.injEq] at hk; subst hk; exact h.job j hj)
      | (rename_i j hj; refine { h with job := ?_ }; intro k hk; simp only [Option.some.injEq] at hk; subst hk; exact h.job j hj)

theorem Chip.Live.deselect {c : Chip} {n : Int} (h : c.Live n) : c.deselect.Live n := Chip.Live.ends (c := { c with sel := false }) { h with }

theorem Chip.Fine.loss {c : Chip} (h : c.Fine) (m : List UInt8) : (c.loss m).Fine := by
  unfold Chip.loss
  refine ⟨?_, h.wipes, by simp, by simp⟩
  show (match c.job with | none => c.cells | some j => j.cells c.cells m).length = 4096
  split
  · exact h.cells
  · rw [Job.cells_length]; exact h.cells
end Lich
