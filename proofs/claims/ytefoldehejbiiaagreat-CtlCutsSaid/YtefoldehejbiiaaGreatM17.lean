/-
  Walks: a clock of data that go; a clock of a command as a whole.
-/
import Derived.Test.YtefoldehejbiiaaGreatM16
import Derived.Deep.AppendLies
import Derived.Deep.RegionLaw
import Derived.OwnWalk

namespace Go.Proofs.YtefoldehejbiiaaGreat
open Go.RowKit Lich

theorem und_ints : Tryz.prog.underlying 32 = some (.slice 3) := by kernel_rfl
theorem info_int : (Tryz.prog.info? 3).map (fun i => (i.zero, i.size, i.bytes)) = some (some (.int .i64 0), 1, 8) := by kernel_rfl

/-- What may be owned behind a step. -/
def Wide (S : Nat → Prop) (n : Nat) (k : Nat) : Prop := S k ∨ n ≤ k

theorem Kept.wide {S : Nat → Prop} {w w' : World} (h : Kept S w w') : Step S (Wide S w.heap.size) w w' := ⟨h, fun _ hk => hk⟩

theorem ChipIs.busy_lt {w : World} {b : Nat} {c : Chip} {S : Nat → Prop} {md : Bool} {jv bv dv : Value} (h : ChipIs w b c S md jv bv dv) {k : Nat} (hk : bv.ownBlock = some k) : k < w.heap.size := by
  rcases h.busy with ⟨rfl, _⟩ | ⟨g, off, cap, cs, rfl, _, _, _, hb, _⟩
  · simp [Value.ownBlock] at hk
  · simp only [Value.ownBlock, Option.some.injEq] at hk; subst hk; exact lt_of_block hb
theorem ChipIs.busy_job {w : World} {b : Nat} {c : Chip} {S : Nat → Prop} {md : Bool} {jv bv dv : Value} (h : ChipIs w b c S md jv bv dv) {g : Nat} (hj : jv = .pointer (some ⟨g, 0, none⟩)) : dv.ownBlock ≠ some g := by
  intro e
  obtain ⟨cur, hb⟩ := owns_blk h.data e
  have := h.job
  unfold JobIs at this
  split at this
  · rw [hj] at this; simp at this
  · obtain ⟨g', he, _, hb'⟩ := this
    rw [hj] at he
    simp only [Value.pointer.injEq, Option.some.injEq, Addr.mk.injEq, and_true] at he
    subst he
    exact blk_ne hb hb' (by decide) rfl

section
variable {w : World} {b : Nat} {c : Chip} {S : Nat → Prop} {md : Bool} {jv bv dv : Value}

/-- One more of what goes. -/
theorem ChipIs.more (h : ChipIs w b c S md jv bv dv) (x : Int) {w1 w2 : World} {g cap : Nat} {row : Option Nat} (hw1 : w1.heap = (w.alloc (.cells #[.int .i64 x] 3)).heap) (ho : w1.os = w.os) (ht : w1.tape = w.tape) (hu : w1.output = w.output)
    (hown : w2.ownsRow 0 3 1 (.slice (some ⟨g, 0, none⟩) (c.cmd.data.length + 1) cap) (c.cmd.data.length + 1) (c.cmd.data.map (.int .i64) ++ [.int .i64 x]))
    (hg : w1.grownBy w2 row) (hrow : row = dv.ownBlock) (hat : dv.ownBlock = some g ∨ g = w.heap.size + 1) :
    ChipIs (w2.setCell ⟨b, 32, none⟩ (.slice (some ⟨g, 0, none⟩) (c.cmd.data.length + 1) cap)) b { c with cmd := { c.cmd with data := c.cmd.data ++ [x] } } (Wide S w.heap.size) md jv bv (.slice (some ⟨g, 0, none⟩) (c.cmd.data.length + 1) cap) ∧
      Kept S w (w2.setCell ⟨b, 32, none⟩ (.slice (some ⟨g, 0, none⟩) (c.cmd.data.length + 1) cap)) := by
  subst hrow
  have ka : Kept (fun k => dv.ownBlock = some k) w w1 := by
    have := (Kept.refl (fun k => dv.ownBlock = some k) w).alloc (.cells #[.int .i64 x] 3)
    exact ⟨ho, ht, hu, by rw [hw1]; exact this.size, fun k hk hS => by rw [hw1]; exact this.block k hk hS⟩
  have kb : Kept (fun k => dv.ownBlock = some k) w w2 := ka.grown hg (fun k hk => .inl hk)
  have kc : Kept (fun k => dv.ownBlock = some k ∨ k = b) w (w2.setCell ⟨b, 32, none⟩ (.slice (some ⟨g, 0, none⟩) (c.cmd.data.length + 1) cap)) :=
    (kb.mono fun k hk => .inl hk).setCell (p := ⟨b, 32, none⟩) (.inl (.inr rfl)) _
  have hgb : g ≠ b := by
    rcases hat with e | e
    · exact h.data_ne g e
    · have := h.lt; omega
  refine ⟨⟨?_, .inl h.own, ?_, ?_, ?_, ?_, ?_⟩, kc.mono fun k hk => ?_⟩
  · rw [blk_set (blk_kept kb h.blk (fun e => h.data_ne b e rfl))]; rfl
  · refine (h.job.mono (fun k hk => .inl hk)).keep kc (fun k hk => ?_)
    rintro (e | e)
    · exact h.busy_job hk e
    · exact h.job_ne hk e
  · refine (h.busy.mono (fun k hk => .inl hk)).keep kc (fun k hk => ?_)
    rintro (e | e)
    · exact h.apart k e hk
    · exact h.busy_ne k hk e
  · have := ownsRow_keep hown ((Kept.refl (fun k => k = b) w2).setCell (p := ⟨b, 32, none⟩) (.inl rfl) (.slice (some ⟨g, 0, none⟩) (c.cmd.data.length + 1) cap)) (fun k hk => by simp only [Value.ownBlock, Option.some.injEq] at hk; subst hk; exact hgb)
    simpa using this
  · intro k hk
    simp only [Value.ownBlock, Option.some.injEq] at hk
    subst hk
    rcases hat with e | e
    · exact .inl (h.dataS g e)
    · exact .inr (by omega)
  · intro k hk
    simp only [Value.ownBlock, Option.some.injEq] at hk
    subst hk
    intro e'
    rcases hat with e | e
    · exact h.apart g e e'
    · have := h.busy_lt e'; omega
  · rcases hk with e | e
    · exact h.dataS k e
    · rw [e]; exact h.own

/-- A call's end: a chip behind it, and v handed back. -/
def Posted (b : Nat) (c' : Chip) (S : Nat → Prop) (v : Value) (w : World) (e : Ending) (w' : World) : Prop :=
  e = .returned v ∧ ChipPost b c' S w w'

theorem Now.posted {c' : Chip} {v : Value} {e : Ending} {w' : World} (h : Now b c' S v w e w') : Posted b c' S v w e w' :=
  ⟨h.1, S, h.2.1, ⟨h.2.2, fun _ hk => .inl hk⟩⟩

theorem ChipIs.widen (h : ChipIs w b c S md jv bv dv) (n : Nat) : ChipIs w b c (Wide S n) md jv bv dv := h.mono fun _ hk => .inl hk

set_option maxRecDepth 100000 in
set_option maxHeartbeats 4000000 in
theorem clock_5 (h : ChipIs w b c S md jv bv dv) (x : Int) (h0 : 0 ≤ x) (h1 : x < 16) (hs : c.cmd.stage = 5) (ha : c.cmd.op.data = 1) (hm : c.cmd.op.mode = true → c.cmd.op.addr = 4) (hg0 : 0 ≤ c.cmd.got) (hg1 : c.cmd.got < 1000000000) (hl0 : 0 ≤ c.cmd.left) (hl1 : c.cmd.left < 1000) (hn : c.cmd.data.length < 1000000) :
    Calls Tryz.prog 132 #[.pointer (some ⟨b, 0, none⟩), .int .i64 x] w (Posted b (c.step x).1 S (.int .i64 (c.step x).2) w) := by
  obtain ⟨c1, hc1⟩ : ∃ c1 : Chip, c1 = { c with cmd := { c.cmd with got := c.cmd.got * 2 + x % 2, left := c.cmd.left - 1 } } := ⟨_, rfl⟩
  obtain ⟨z, hz⟩ : ∃ z, z = (c.cmd.left - 1 == 0) := ⟨_, rfl⟩
  have HT := Lib.hid (takes_at h (.inl ⟨rfl, rfl⟩) h0 h1 hg0 hg1 hl0 hl1 hc1 hz)
  have c26 := h.c26
  have c24 := h.c24
  rw [hs] at c26
  rw [ha] at c24
  have hfin : c.step x = (if z then { c1 with cmd := { c1.cmd with data := c1.cmd.data ++ [c1.cmd.got] }.behind } else c1, 15) := by
    unfold Chip.step
    rw [if_neg (by omega), if_neg (by omega), if_neg (by omega), if_neg (by omega), if_pos hs, ha]
    subst hc1 hz
    by_cases hl : c.cmd.left - 1 = 0 <;> simp [hl]
  have hop : c1.cmd.op = c.cmd.op := by rw [hc1]
  rw [← hop] at hm ha
  have hn1 : c1.cmd.data.length < 1000000 := by rw [hc1]; exact hn
  have HM := Lib.hid hm
  have HD := Lib.hid ha
  clear hm ha hn
  clear hc1 hz hg0 hg1 hl0 hl1
  cases z
  · have FIN := Lib.hid hfin
    have OP := Lib.hid hop
    clear hfin h hs hop
    go_enter Tryz.func132, Tryz.ntmps132
    go_wp2_with fail
    refine HT.out.mono ?_
    rintro e w1 ⟨rfl, h1', k1⟩
    have H1 := Lib.hid h1'
    have K1 := Lib.hid k1
    clear h1' k1
    go_wp2_with fail
    go_ret
    rw [FIN.out]
    exact ⟨rfl, S, ⟨md, jv, bv, dv, H1.out⟩, K1.out, fun _ hk => .inl hk⟩
  · have FIN := Lib.hid hfin
    have OP := Lib.hid hop
    clear hfin h hs hop
    obtain ⟨i0, hi0, hz0, hz1, hz2⟩ := info_parts info_int
    go_enter Tryz.func132, Tryz.ntmps132
    go_wp2_with fail
    refine HT.out.mono ?_
    rintro e w1 ⟨rfl, h1', k1⟩
    have z28 := h1'.c28
    have z32 := h1'.c32
    have zf := h1'.free
    have zlt := h1'.lt
    have hown := h1'.data
    have hne := h1'.data_ne
    have H1 := Lib.hid h1'
    have K1 := Lib.hid k1
    clear h1' k1
    go_wp2_with fail
    go_region_law
      (refine step_append_lies _ (by rfl) _ _ _ (by rfl) 0 3 i0 _ 1 8 und_ints hi0 hz0 hz1 hz2 rfl (by omega) dv c1.cmd.data.length _ (by rfl) (ownsRow_keep hown.drew ((Kept.refl (fun _ => False) _).alloc _) (fun _ _ hh => hh))
          ⟨w1.heap.size, 0, none⟩ 1 1 [.int .i64 c1.cmd.got] (by rfl) (by rfl) (World.news_of_block (cs := #[.int .i64 c1.cmd.got]) (t := 3) (fr := (0, 0)) (heap_alloc_new _ _)) (by simp [Value.oneCell'])
          (by omega) (by simp [maxLen]; omega) (by omega) (by simp) (w1.heap.size + 1) (by simp) ?_
       intro gg cap w2 hown1 hgrow hat hlt
       have q32 := hgrow.cell_far ⟨b, 32, none⟩ (by simp; omega) (fun e => hne b e.symm rfl)
       have qf := hgrow.frozen_far ⟨b, 32, none⟩ (by simp; omega) (fun e => hne b e.symm rfl))
    all_goals
      obtain ⟨h2, k2⟩ := H1.out.more (w1 := (w1.alloc (.cells #[.int .i64 c1.cmd.got] 3)).drew) c1.cmd.got rfl rfl rfl rfl hown1 hgrow rfl hat
      have H2 := Lib.hid h2
      have K2 := Lib.hid k2
      clear h2 k2 hown1 hgrow hat hlt
      go_wp2_with fail
      refine (behind_to H2.out HM.out (.inr (.inl HD.out))).mono ?_
      rintro e w3 ⟨rfl, h3', k3⟩
      have H3 := Lib.hid h3'
      have K3 := Lib.hid k3
      clear h3' k3
      go_wp2_with fail
      go_ret
      rw [FIN.out]
      exact ⟨rfl, Wide S w1.heap.size, ⟨md, jv, bv, _, H3.out⟩, (Step.trans ⟨K1.out, fun _ hk => .inl hk⟩ K2.out.wide).trans ⟨K3.out.mono fun _ hk => hk, fun _ hk => .inl hk⟩⟩
end
end Go.Proofs.YtefoldehejbiiaaGreat
