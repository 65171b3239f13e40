/-
  Walks: what comes of a command: the ways that hold data.
  Walks: the statuses are put.
  Walks: a program begins.
  Walks: what comes of a command, as a whole; selected, deselected.
-/
import Derived.Test.YtefoldehejbiiaaGreatM22
import Derived.Deep.RegionHeld3
import Derived.Deep.RegionWith
import Derived.BigRegion

set_option linter.unusedSimpArgs false
set_option linter.unusedVariables false
namespace Go.Proofs.YtefoldehejbiiaaGreat
open Go.RowKit Lich

theorem nat_and_pow (a k : Nat) : a &&& 2 ^ k = if a / 2 ^ k % 2 = 1 then 2 ^ k else 0 := by
  apply Nat.eq_of_testBit_eq
  intro i
  rw [Nat.testBit_and, Nat.testBit_two_pow]
  by_cases hi : k = i
  · subst hi
    rw [Nat.testBit_eq_decide_div_mod_eq]
    by_cases h : a / 2 ^ k % 2 = 1 <;> simp [h]
  · split <;> simp [hi]

theorem and_pow {x : Int} (k : Nat) (m : Int) (hm : m = 2 ^ k) (hk : k ≤ 60) (h0 : 0 ≤ x) (h1 : x < 4611686018427387904) : bits .and .i64 x m = if x / m % 2 = 1 then m else 0 := by
  obtain ⟨a, rfl⟩ := Int.eq_ofNat_of_zero_le h0
  have hp : (2 : Nat) ^ k ≤ 2 ^ 60 := Nat.pow_le_pow_right (by decide) hk
  have e : m = ((2 ^ k : Nat) : Int) := by rw [hm]; simp
  rw [e, i64_and_nat _ _ (by omega) (by omega), nat_and_pow]
  have e2 : ((a : Int) / ((2 ^ k : Nat) : Int) % 2 = 1) ↔ (a / 2 ^ k % 2 = 1) := by omega
  by_cases h : a / 2 ^ k % 2 = 1
  · rw [if_pos (e2.2 h)]; simp [h]
  · rw [if_neg (fun x => h (e2.1 x))]; simp [h]

theorem keep_off {w : World} {b i j : Nat} {u v : Value} (h : w.cell? ⟨b, j, none⟩ = some u) (hij : j ≠ i) : (w.setCell ⟨b, i, none⟩ v).cell? ⟨b, j, none⟩ = some u := by
  rw [World.cell?_setCell_other _ _ _ _ (by simp [hij])]; exact h
theorem keep_off2 {w : World} {b i j : Nat} {u v : Value} (h : w.cell? ⟨b, j, none⟩ = some u) (hij : j ≠ i) : (w.setCell ⟨b, i, none⟩ v).drew.cell? ⟨b, j, none⟩ = some u := keep_off h hij
theorem keep_far {w : World} {b i g j : Nat} {u v : Value} (h : w.cell? ⟨g, j, none⟩ = some u) (hij : g ≠ b) : (w.setCell ⟨b, i, none⟩ v).cell? ⟨g, j, none⟩ = some u := by
  rw [World.cell?_setCell_other _ _ _ _ (by simp [hij])]; exact h
theorem keep_far2 {w : World} {b i g j : Nat} {u v : Value} (h : w.cell? ⟨g, j, none⟩ = some u) (hij : g ≠ b) : (w.setCell ⟨b, i, none⟩ v).drew.cell? ⟨g, j, none⟩ = some u := keep_far h hij

theorem Kept.of_wide {S : Nat → Prop} {w w1 w2 : World} (h : Kept S w w1) (k : Kept (Wide S w.heap.size) w1 w2) : Kept S w w2 :=
  ⟨k.os.trans h.os, k.tape.trans h.tape, k.output.trans h.output, Nat.le_trans h.size k.size, fun i hi hS => by rw [k.block i (Nat.lt_of_lt_of_le hi h.size) (fun hc => hc.elim hS (fun h2 => by omega)), h.block i hi hS]⟩

section
variable {w : World} {b : Nat} {c : Chip} {S : Nat → Prop} {md : Bool} {jv bv dv : Value}

set_option maxRecDepth 100000 in
set_option maxHeartbeats 1000000 in
theorem ends_put0 (h : ChipIs w b c S md jv bv dv) (hi : c.cmd.op.inn = true → c.cmd.op.data = 1) (h0 : c.cmd.stage ≠ 0) (h1 : c.cmd.stage ≠ 1) (hw : c.cmd.whole = true) (hby : c.cmd.op.byte = 1) (hoff : c.en = false ∨ c.cmd.data.length ≠ 2) : Calls Tryz.prog 100 #[.pointer (some ⟨b, 0, none⟩)] w (Posted b c.ends S (.tuple #[]) w) := by
  have hr : c.ends = c := ends_eq h0 h1 hw _ (by
    rw [hby]
    simp only [if_neg (show ¬ ((1 : Int) = 6) by decide), if_neg (show ¬ ((1 : Int) = 4) by decide), if_neg (show ¬ ((1 : Int) = 117) by decide), if_neg (show ¬ ((1 : Int) = 122) by decide), if_true]
    split
    · rename_i x y he hd
      exfalso
      rcases hoff with e | e
      · rw [e] at he; simp at he
      · rw [hd] at e; simp at e
    · rfl)
  rw [hr]
  clear hr
  have hdl : ∃ A cap, dv = .slice A c.cmd.data.length cap := by
    rcases data_cells h with ⟨e, e2⟩ | ⟨g, cap, e, _⟩
    · exact ⟨none, 0, by rw [e, e2]; rfl⟩
    · exact ⟨_, _, e⟩
  obtain ⟨A, cap, rfl⟩ := hdl
  generalize hn : c.cmd.data.length = n at *
  by_cases he : c.en = false
  · have e0 : (c.cmd.stage == 0) = false := by simpa using h0
    have e1 : (c.cmd.stage == 1) = false := by simpa using h1
    have c26 := h.c26
    have hwc := whole_calls h hi
    rw [hw] at hwc
    have HW := Lib.hid hwc
    have H := Lib.hid h
    have BY := Lib.hid hby
    clear h hi hwc h0 h1 hw hby
    go_enter Tryz.func100, Tryz.ntmps100
    go_wp2_with fail
    refine HW.out.mono ?_
    rintro e w1 ⟨rfl, hb⟩
    have h1' : ChipIs w1 b c S md _ bv _ := H.out.ext ⟨w1, hb⟩
    have c20 := h1'.c20
    rw [BY.out] at c20
    have hf := h1'.free
    have c16 := h1'.c16
    rw [he] at c16
    have H1 := Lib.hid h1'
    have K1 := Lib.hid (Kept.of_below (S := S) hb)
    clear h1' hb
    go_wp2_with fail
    first | go_end0 | refine bodyPost_ret (results_none rfl _ _ _) rfl ?_
    exact ⟨rfl, S, ⟨md, _, bv, _, H1.out⟩, K1.out, fun _ hk => .inl hk⟩
  · have he' : c.en = true := by simpa using he
    have hn2 : ((n : Int) == 2) = false := by
      rcases hoff with e | e
      · exact absurd e he
      · simp; omega
    have e0 : (c.cmd.stage == 0) = false := by simpa using h0
    have e1 : (c.cmd.stage == 1) = false := by simpa using h1
    have c26 := h.c26
    have hwc := whole_calls h hi
    rw [hw] at hwc
    have HW := Lib.hid hwc
    have H := Lib.hid h
    have BY := Lib.hid hby
    clear h hi hwc h0 h1 hw hby
    go_enter Tryz.func100, Tryz.ntmps100
    go_wp2_with fail
    refine HW.out.mono ?_
    rintro e w1 ⟨rfl, hb⟩
    have h1' : ChipIs w1 b c S md _ bv _ := H.out.ext ⟨w1, hb⟩
    have c20 := h1'.c20
    rw [BY.out] at c20
    have hf := h1'.free
    have c16 := h1'.c16
    rw [he'] at c16
    have c32 := h1'.c32
    have H1 := Lib.hid h1'
    have K1 := Lib.hid (Kept.of_below (S := S) hb)
    clear h1' hb
    go_wp2_with fail
    first | go_end0 | refine bodyPost_ret (results_none rfl _ _ _) rfl ?_
    exact ⟨rfl, S, ⟨md, _, bv, _, H1.out⟩, K1.out, fun _ hk => .inl hk⟩

set_option maxRecDepth 100000 in
set_option maxHeartbeats 1000000 in
theorem ends_erase (h : ChipIs w b c S md jv bv dv) (hi : c.cmd.op.inn = true → c.cmd.op.data = 1) (h0 : c.cmd.stage ≠ 0) (h1 : c.cmd.stage ≠ 1) (hw : c.cmd.whole = true) (hby : c.cmd.op.byte = 32) (a0 : 0 ≤ c.cmd.addr) (a1 : c.cmd.addr < 4096) (hw8 : c.wipes.length = 8) : Calls Tryz.prog 100 #[.pointer (some ⟨b, 0, none⟩)] w (Posted b c.ends S (.tuple #[]) w) := by
  have hr : c.ends = c.starts { sector := c.cmd.addr / 512, page := 0, data := [], left := 0, susp := false } := ends_eq h0 h1 hw _ (by rw [hby]; rfl)
  rw [hr]
  clear hr
  have hq : c.cmd.addr.tdiv 512 = c.cmd.addr / 512 := Int.tdiv_eq_ediv_of_nonneg a0
  have hjv : ∀ g, jv = .pointer (some ⟨g, 0, none⟩) → g < w.heap.size := by
    rintro g rfl
    have := h.job
    unfold JobIs at this
    split at this
    · simp at this
    · obtain ⟨g', he, _, hb'⟩ := this
      simp only [Value.pointer.injEq, Option.some.injEq, Addr.mk.injEq, and_true] at he
      subst he; exact lt_of_block hb'
  have HJ := Lib.hid hjv
  clear hjv
  have e0 : (c.cmd.stage == 0) = false := by simpa using h0
  have e1 : (c.cmd.stage == 1) = false := by simpa using h1
  have c26 := h.c26
  have hwc := whole_calls h hi
  rw [hw] at hwc
  have HW := Lib.hid hwc
  have H := Lib.hid h
  have BY := Lib.hid hby
  clear h hi hwc h0 h1 hw hby
  go_enter Tryz.func100, Tryz.ntmps100
  go_wp2_with fail
  refine HW.out.mono ?_
  rintro e w1 ⟨rfl, hb⟩
  have h1' : ChipIs w1 b c S md _ bv _ := H.out.ext ⟨w1, hb⟩
  have c20 := h1'.c20
  rw [BY.out] at c20
  have hf := h1'.free
  have c29 := h1'.c29
  have hsz := hb.size
  have H1 := Lib.hid h1'
  have K1 := Lib.hid (Kept.of_below (S := S) hb)
  clear h1' hb
  go_wp2_with fail
  have h2 := starts_calls ((H1.out.alloc (.cells (JobBlk { sector := c.cmd.addr / 512, page := 0, data := [], left := 0, susp := false }) 140)).widen w.heap.size) a0 a1 w1.heap.size { sector := c.cmd.addr / 512, page := 0, data := [], left := 0, susp := false } (blk_new _ _ _ rfl)
    (fun e => by have := HJ.out _ e; omega) (.inr hsz) rfl (.inr ⟨by show 0 ≤ c.cmd.addr / 512; omega, by show c.cmd.addr / 512 < 8; omega⟩) hw8
  refine h2.mono ?_
  rintro e w2 ⟨rfl, h3, k3⟩
  have H3 := Lib.hid h3
  have K3 := Lib.hid k3
  clear h3 k3 h2
  go_wp2_with fail
  first | go_end0 | refine bodyPost_ret (results_none rfl _ _ _) rfl ?_
  exact ⟨rfl, Wide S w.heap.size, H3.out, (Kept.of_wide (K1.out.alloc _) K3.out).wide⟩

end
end Go.Proofs.YtefoldehejbiiaaGreat

namespace Go.Proofs.YtefoldehejbiiaaGreat
open Go.RowKit Lich

section
variable {w : World} {b : Nat} {c : Chip} {S : Nat → Prop} {md : Bool} {jv bv dv : Value}

set_option maxRecDepth 100000 in
set_option maxHeartbeats 1000000 in
theorem ends_put (h : ChipIs w b c S md jv bv dv) (hi : c.cmd.op.inn = true → c.cmd.op.data = 1) (h0 : c.cmd.stage ≠ 0) (h1 : c.cmd.stage ≠ 1) (hw : c.cmd.whole = true) (hby : c.cmd.op.byte = 1) (he : c.en = true) (x y : Int) (hd : c.cmd.data = [x, y]) (x0 : 0 ≤ x ∧ x < 1000000000000) (y0 : 0 ≤ y ∧ y < 1000000000000) : Calls Tryz.prog 100 #[.pointer (some ⟨b, 0, none⟩)] w (Posted b c.ends S (.tuple #[]) w) := by
  have hr : c.ends = { c with prot := decide (x / 4 % 2 = 1), quad := decide (y / 2 % 2 = 1), en := false } := ends_eq h0 h1 hw _ (by rw [hby, he, hd]; rfl)
  rw [hr]
  clear hr
  obtain ⟨g, cap, rfl, hgl, hcells⟩ : ∃ g cap, dv = .slice (some ⟨g, 0, none⟩) 2 cap ∧ g < w.heap.size ∧ ∀ k, k < 2 → w.cell? ⟨g, k, none⟩ = some (.int .i64 (c.cmd.data.getD k 0)) := by
    rcases data_cells h with ⟨_, e⟩ | ⟨g, cap, e, h2, h3⟩
    · rw [hd] at e; simp at e
    · rw [hd] at e h3; exact ⟨g, cap, e, h2, by rw [hd]; exact h3⟩
  have v0 := hcells 0 (by decide)
  have v1 := hcells 1 (by decide)
  rw [hd] at v0 v1
  have v0' : w.cell? ⟨g, 0, none⟩ = some (.int .i64 x) := v0
  have v1' : w.cell? ⟨g, 1, none⟩ = some (.int .i64 y) := v1
  have hx : bits .and .i64 x 4 = if x / 4 % 2 = 1 then 4 else 0 := and_pow 2 4 (by decide) (by decide) x0.1 (by omega)
  have hy : bits .and .i64 y 2 = if y / 2 % 2 = 1 then 2 else 0 := and_pow 1 2 (by decide) (by decide) y0.1 (by omega)
  have hxd : (bits .and .i64 x 4 != 0) = decide (x / 4 % 2 = 1) := by rw [hx]; by_cases e : x / 4 % 2 = 1 <;> simp [e]
  have hyd : (bits .and .i64 y 2 != 0) = decide (y / 2 % 2 = 1) := by rw [hy]; by_cases e : y / 2 % 2 = 1 <;> simp [e]
  rw [← hxd, ← hyd]
  clear v0 v1 hx hy hcells hxd hyd
  have e0 : (c.cmd.stage == 0) = false := by simpa using h0
  have e1 : (c.cmd.stage == 1) = false := by simpa using h1
  have c26 := h.c26
  have hwc := whole_calls h hi
  rw [hw] at hwc
  have HW := Lib.hid hwc
  have H := Lib.hid h
  have BY := Lib.hid hby
  clear h hi hwc h0 h1 hw hby
  go_enter Tryz.func100, Tryz.ntmps100
  go_wp2_with fail
  refine HW.out.mono ?_
  rintro e w1 ⟨rfl, hb⟩
  have h1' : ChipIs w1 b c S md _ bv _ := H.out.ext ⟨w1, hb⟩
  have c20 := h1'.c20
  rw [BY.out] at c20
  have hf := h1'.free
  have c16 := h1'.c16
  rw [he] at c16
  have c32 := h1'.c32
  have c1 := h1'.c1
  have c2 := h1'.c2
  have z0 : w1.cell? ⟨g, 0, none⟩ = some (.int .i64 x) := by rw [hb.cell (by exact hgl)]; exact v0'
  have z1 : w1.cell? ⟨g, 1, none⟩ = some (.int .i64 y) := by rw [hb.cell (by exact hgl)]; exact v1'
  have H1 := Lib.hid h1'
  have K1 := Lib.hid (Kept.of_below (S := S) hb)
  clear h1' hb
  go_wp2_with fail
  have hfin : ∀ p q : Bool, p = (bits .and .i64 x 4 != 0) → q = (bits .and .i64 y 2 != 0) → Posted b { c with prot := bits .and .i64 x 4 != 0, quad := bits .and .i64 y 2 != 0, en := false } S (.tuple #[]) w (.returned (.tuple #[])) ((((w1.setCell ⟨b, 1, none⟩ (.bool p)).setCell ⟨b, 2, none⟩ (.bool q)).setCell ⟨b, 16, none⟩ (.bool false)).drew) := by
    intro p q hp hq
    rw [← hp, ← hq]
    have s1 := H1.out.set (c' := { c with prot := p }) (i := 1) (v := .bool p) rfl rfl rfl rfl
    have s2 := s1.set (c' := { c with prot := p, quad := q }) (i := 2) (v := .bool q) rfl rfl rfl rfl
    have s3 := (s2.set (c' := { c with prot := p, quad := q, en := false }) (i := 16) (v := .bool false) rfl rfl rfl rfl).drewN 1
    exact ⟨rfl, S, ⟨md, _, bv, _, s3⟩, (((K1.out.setCell (p := ⟨b, 1, none⟩) (.inl H1.out.own) _).setCell (p := ⟨b, 2, none⟩) (.inl H1.out.own) _).setCell (p := ⟨b, 16, none⟩) (.inl H1.out.own) _).drew, fun _ hk => .inl hk⟩
  have FIN := Lib.hid hfin
  clear hfin
  go_region
  all_goals
    go_wp2_with fail
    first | go_end0 | refine bodyPost_ret (results_none rfl _ _ _) rfl ?_
    exact FIN.out _ _ rfl rfl
end
end Go.Proofs.YtefoldehejbiiaaGreat

namespace Go.Proofs.YtefoldehejbiiaaGreat
open Go.RowKit Lich

section
variable {w : World} {b : Nat} {c : Chip} {S : Nat → Prop} {md : Bool} {jv bv dv : Value}

theorem ChipIs.jobLt (h : ChipIs w b c S md jv bv dv) : ∀ g, jv = .pointer (some ⟨g, 0, none⟩) → g < w.heap.size := by
  rintro g rfl
  have := h.job
  unfold JobIs at this
  split at this
  · simp at this
  · obtain ⟨g', he, _, hb'⟩ := this
    simp only [Value.pointer.injEq, Option.some.injEq, Addr.mk.injEq, and_true] at he
    subst he; exact lt_of_block hb'

set_option maxRecDepth 100000 in
set_option maxHeartbeats 1000000 in
theorem ends_prog (h : ChipIs w b c S md jv bv dv) (hi : c.cmd.op.inn = true → c.cmd.op.data = 1) (h0 : c.cmd.stage ≠ 0) (h1 : c.cmd.stage ≠ 1) (hw : c.cmd.whole = true) (hby : c.cmd.op.byte = 2) (a0 : 0 ≤ c.cmd.addr) (a1 : c.cmd.addr < 4096) (hn : c.cmd.data.length < 1000000) (hd : c.cmd.data ≠ []) (hw8 : c.wipes.length = 8) : Calls Tryz.prog 100 #[.pointer (some ⟨b, 0, none⟩)] w (Posted b c.ends S (.tuple #[]) w) := by
  obtain ⟨j, hjd⟩ : ∃ j : Job, j = { sector := -1, page := c.cmd.addr - c.cmd.addr % 32, data := pageOf c.cmd.addr c.cmd.data, left := 0, susp := false } := ⟨_, rfl⟩
  have hr : c.ends = c.starts j := ends_eq h0 h1 hw _ (by rw [hby, hjd]; simp [hd])
  rw [hr]
  clear hr
  obtain ⟨P, hP⟩ : ∃ P, P = pageOf c.cmd.addr c.cmd.data := ⟨_, rfl⟩
  rw [← hP] at hjd
  have JD := Lib.hid hjd
  have HP := Lib.hid hP
  clear hjd hP
  have hq : IntKind.i64.wrap (c.cmd.addr - c.cmd.addr.tmod 32) = c.cmd.addr - c.cmd.addr % 32 := by rw [Int.tmod_eq_emod_of_nonneg a0, IntKind.wrap_i64]; omega
  obtain ⟨A, cap, rfl⟩ : ∃ A cap, dv = .slice A c.cmd.data.length cap := by
    rcases data_cells h with ⟨e, e2⟩ | ⟨g, cap, e, _⟩
    · exact absurd e2 hd
    · exact ⟨_, _, e⟩
  have hn0 : 0 < c.cmd.data.length := List.length_pos_iff.2 hd
  have hgt : decide ((0 : Int) < (c.cmd.data.length : Int)) = true := by simp; omega
  have HJ := Lib.hid h.jobLt
  have e0 : (c.cmd.stage == 0) = false := by simpa using h0
  have e1 : (c.cmd.stage == 1) = false := by simpa using h1
  have c26 := h.c26
  have hwc := whole_calls h hi
  rw [hw] at hwc
  have HW := Lib.hid hwc
  have H := Lib.hid h
  have BY := Lib.hid hby
  clear h hi hwc h0 h1 hw hby
  go_enter Tryz.func100, Tryz.ntmps100
  go_wp2_with fail
  refine HW.out.mono ?_
  rintro e w1 ⟨rfl, hb⟩
  have h1' : ChipIs w1 b c S md _ bv _ := H.out.ext ⟨w1, hb⟩
  have c20 := h1'.c20
  rw [BY.out] at c20
  have hf := h1'.free
  have c29 := h1'.c29
  have c32 := h1'.c32
  have hsz := hb.size
  have H1 := Lib.hid h1'
  have K1 := Lib.hid (Kept.of_below (S := S) hb)
  clear h1' hb
  go_wp2_with fail
  have HPG := Lib.hid (page_calls (H1.out.drewN 1) a0 a1 hn)
  rw [← HP.out] at HPG
  have hst : ∀ w2, Below (w1.drewN 1).heap.size (w1.drewN 1) w2 → Calls Tryz.prog 121 #[.pointer (some ⟨b, 0, none⟩), .pointer (some ⟨w2.heap.size, 0, none⟩)] (w2.alloc (.cells #[.int .i64 (-1), .int .i64 (c.cmd.addr - c.cmd.addr % 32), .string (S8 P), .int .i64 0, .bool false] 140)) (Now b (c.starts j) (Wide S w.heap.size) (.tuple #[]) (w2.alloc (.cells #[.int .i64 (-1), .int .i64 (c.cmd.addr - c.cmd.addr % 32), .string (S8 P), .int .i64 0, .bool false] 140))) := by
    intro w2 hb2
    have h2 : ChipIs w2 b c S md _ bv _ := (H1.out.drewN 1).ext ⟨w2, hb2⟩
    have hz : w1.heap.size ≤ w2.heap.size := hb2.size
    refine starts_calls ((h2.alloc _).widen w.heap.size) a0 a1 w2.heap.size j ?_ (fun e => by have := HJ.out _ e; omega) (.inr (by omega)) (by rw [JD.out]) (by rw [JD.out]; exact .inl rfl) hw8
    unfold FreshJob
    rw [blk_new _ _ _ rfl, JD.out]
    rfl
  have HST := Lib.hid hst
  clear hst
  go_region_with (first | (go_at_call 122; refine HPG.out.mono ?_; rintro e w2 ⟨rfl, hb2⟩; have z29 : w2.cell? ⟨b, 29, none⟩ = some (.int .i64 c.cmd.addr) := by (rw [hb2.cell (by exact H1.out.lt)]; exact c29)) | (go_at_call 121; refine (HST.out w2 hb2).mono ?_; rintro e w3 ⟨rfl, h3, k3⟩; have H3 := Lib.hid h3; have K3 := Lib.hid (Kept.of_wide ((K1.out.drewN 1).below hb2 |>.alloc _) k3); clear h3 k3 hb2 z29))
  all_goals
    go_wp2_with fail
    first | go_end0 | refine bodyPost_ret (results_none rfl _ _ _) rfl ?_
    exact ⟨rfl, Wide S w.heap.size, H3.out, K3.out.wide⟩

set_option maxRecDepth 100000 in
set_option maxHeartbeats 1000000 in
theorem ends_prog0 (h : ChipIs w b c S md jv bv dv) (hi : c.cmd.op.inn = true → c.cmd.op.data = 1) (h0 : c.cmd.stage ≠ 0) (h1 : c.cmd.stage ≠ 1) (hw : c.cmd.whole = true) (hby : c.cmd.op.byte = 2) (hd : c.cmd.data = []) : Calls Tryz.prog 100 #[.pointer (some ⟨b, 0, none⟩)] w (Posted b c.ends S (.tuple #[]) w) := by
  have hr : c.ends = c := ends_eq h0 h1 hw _ (by rw [hby]; simp [hd])
  rw [hr]
  clear hr
  obtain ⟨A, cap, rfl⟩ : ∃ A cap, dv = .slice A 0 cap := by
    rcases data_cells h with ⟨e, e2⟩ | ⟨g, cap, e, _⟩
    · exact ⟨_, _, e⟩
    · rw [hd] at e; exact ⟨_, _, e⟩
  have e0 : (c.cmd.stage == 0) = false := by simpa using h0
  have e1 : (c.cmd.stage == 1) = false := by simpa using h1
  have c26 := h.c26
  have hwc := whole_calls h hi
  rw [hw] at hwc
  have HW := Lib.hid hwc
  have H := Lib.hid h
  have BY := Lib.hid hby
  clear h hi hwc h0 h1 hw hby
  go_enter Tryz.func100, Tryz.ntmps100
  go_wp2_with fail
  refine HW.out.mono ?_
  rintro e w1 ⟨rfl, hb⟩
  have h1' : ChipIs w1 b c S md _ bv _ := H.out.ext ⟨w1, hb⟩
  have c20 := h1'.c20
  rw [BY.out] at c20
  have hf := h1'.free
  have c32 := h1'.c32
  have H1 := Lib.hid h1'
  have K1 := Lib.hid (Kept.of_below (S := S) hb)
  clear h1' hb
  go_wp2_with fail
  first | go_end0 | refine bodyPost_ret (results_none rfl _ _ _) rfl ?_
  exact ⟨rfl, S, ⟨md, _, bv, _, H1.out⟩, K1.out, fun _ hk => .inl hk⟩

end
end Go.Proofs.YtefoldehejbiiaaGreat

namespace Go.Proofs.YtefoldehejbiiaaGreat
open Go.RowKit Lich

section
variable {w : World} {b : Nat} {c : Chip} {S : Nat → Prop} {md : Bool} {jv bv dv : Value}

theorem ends_calls (h : ChipIs w b c S md jv bv dv) {n : Int} (hc : c.cmd.Ok n) (hn : n < 1000000) (hw8 : c.wipes.length = 8) :
    Calls Tryz.prog 100 #[.pointer (some ⟨b, 0, none⟩)] w (Posted b c.ends S (.tuple #[]) w) := by
  have hi := hc.op.inn
  have ha := hc.addr
  have hm := hc.many
  by_cases hoff : c.cmd.stage = 0 ∨ c.cmd.stage = 1 ∨ c.cmd.whole = false
  · exact ends_off h hi hoff
  · have h0 : c.cmd.stage ≠ 0 := fun e => hoff (.inl e)
    have h1 : c.cmd.stage ≠ 1 := fun e => hoff (.inr (.inl e))
    have hw : c.cmd.whole = true := by
      cases e : c.cmd.whole
      · exact absurd (.inr (.inr e)) hoff
      · rfl
    by_cases b6 : c.cmd.op.byte = 6
    · exact ends_en h hi h0 h1 hw b6
    by_cases b4 : c.cmd.op.byte = 4
    · exact ends_dis h hi h0 h1 hw b4
    by_cases b117 : c.cmd.op.byte = 117
    · exact ends_susp h hi h0 h1 hw b117
    by_cases b122 : c.cmd.op.byte = 122
    · exact ends_resume h hi h0 h1 hw b122
    by_cases b1 : c.cmd.op.byte = 1
    · by_cases hp : c.en = false ∨ c.cmd.data.length ≠ 2
      · exact ends_put0 h hi h0 h1 hw b1 hp
      · have he : c.en = true := by
          cases e : c.en
          · exact absurd (.inl e) hp
          · rfl
        have hl : c.cmd.data.length = 2 := by
          rcases Nat.decEq c.cmd.data.length 2 with e | e
          · exact absurd (.inr e) hp
          · exact e
        have hv := hc.vals
        match hd : c.cmd.data with
        | [x, y] => exact ends_put h hi h0 h1 hw b1 he x y hd (hv x (by rw [hd]; simp)) (hv y (by rw [hd]; simp))
        | [] => rw [hd] at hl; simp at hl
        | [_] => rw [hd] at hl; simp at hl
        | _ :: _ :: _ :: _ => rw [hd] at hl; simp at hl
    by_cases b2 : c.cmd.op.byte = 2
    · by_cases hd : c.cmd.data = []
      · exact ends_prog0 h hi h0 h1 hw b2 hd
      · exact ends_prog h hi h0 h1 hw b2 ha.1 ha.2 (by omega) hd hw8
    by_cases b32 : c.cmd.op.byte = 32
    · exact ends_erase h hi h0 h1 hw b32 ha.1 ha.2 hw8
    by_cases b235 : c.cmd.op.byte = 235
    · exact ends_goes h hi h0 h1 hw b235
    exact ends_none h hi h0 h1 hw ⟨b6, b4, b117, b122, b1, b2, b32, b235⟩

set_option maxRecDepth 100000 in
set_option maxHeartbeats 1000000 in
theorem Deselect_calls (h : ChipIs w b c S md jv bv dv) {n : Int} (hc : c.Live n) (hn : n < 1000000) (hsel : c.sel = true) :
    Calls Tryz.prog 84 #[.pointer (some ⟨b, 0, none⟩)] w (Posted b c.deselect S (.int .i64 0) w) := by
  have c15 := h.c15
  rw [hsel] at c15
  have hf := h.free
  have h1 : ChipIs (w.setCell ⟨b, 15, none⟩ (.bool false)) b { c with sel := false } S md jv bv dv := h.set (c' := { c with sel := false }) (i := 15) (v := .bool false) rfl rfl rfl rfl
  have k1 : Kept S w (w.setCell ⟨b, 15, none⟩ (.bool false)) := (Kept.refl S w).setCell (p := ⟨b, 15, none⟩) (.inl h.own) _
  have he := ends_calls h1 hc.cmd hn hc.wipes
  have HE := Lib.hid he
  have K1 := Lib.hid k1
  clear he k1 h1 h hc
  go_enter Tryz.func84, Tryz.ntmps84
  go_wp2_with fail
  refine HE.out.mono ?_
  rintro e w2 ⟨rfl, p2⟩
  have P2 := Lib.hid p2
  clear p2
  go_wp2_with fail
  go_ret
  obtain ⟨S', hat, hst⟩ := P2.out
  exact ⟨rfl, S', hat, Step.trans ⟨K1.out, fun _ hk => .inl hk⟩ hst⟩

theorem ChipIs.setData (h : ChipIs w b c S md jv bv dv) : ChipIs (w.setCell ⟨b, 32, none⟩ (.slice none 0 0)) b { c with cmd := { c.cmd with data := [] } } S md jv bv (.slice none 0 0) := by
  have hk : Kept (fun k => k = b) w (w.setCell ⟨b, 32, none⟩ (.slice none 0 0)) := (Kept.refl (fun k => k = b) w).setCell (p := ⟨b, 32, none⟩) (.inl rfl) _
  exact ⟨by rw [blk_set h.blk]; rfl, h.own, h.job.keep hk (fun g hg => h.job_ne hg), h.busy.keep hk (fun k hk' => h.busy_ne k hk'), World.ownsRow_nil _ _ _ _, by simp [Value.ownBlock], by simp [Value.ownBlock]⟩

theorem ChipIs.fresh (h : ChipIs w b c S md jv bv dv) :
    ChipIs (((((((((((((((((w.setCell ⟨b, 15, none⟩ (.bool true)).setCell ⟨b, 20, none⟩ (.int .i64 0)).setCell ⟨b, 21, none⟩ (.int .i64 0)).setCell ⟨b, 22, none⟩ (.bool false)).setCell ⟨b, 23, none⟩ (.int .i64 0)).setCell ⟨b, 24, none⟩ (.int .i64 0)).setCell ⟨b, 25, none⟩ (.bool false)).setCell ⟨b, 26, none⟩ (.int .i64 0)).setCell ⟨b, 27, none⟩ (.int .i64 8)).setCell ⟨b, 28, none⟩ (.int .i64 0)).setCell ⟨b, 29, none⟩ (.int .i64 0)).setCell ⟨b, 30, none⟩ (.int .i64 0)).setCell ⟨b, 31, none⟩ (.bool false)).setCell ⟨b, 32, none⟩ (.slice none 0 0)).setCell ⟨b, 33, none⟩ (.int .i64 0)).setCell ⟨b, 34, none⟩ (.int .i64 0)).setCell ⟨b, 35, none⟩ (.bool false)) b { c with sel := true, cmd := { left := 8 } } S md jv bv (.slice none 0 0) ∧ Kept S w (((((((((((((((((w.setCell ⟨b, 15, none⟩ (.bool true)).setCell ⟨b, 20, none⟩ (.int .i64 0)).setCell ⟨b, 21, none⟩ (.int .i64 0)).setCell ⟨b, 22, none⟩ (.bool false)).setCell ⟨b, 23, none⟩ (.int .i64 0)).setCell ⟨b, 24, none⟩ (.int .i64 0)).setCell ⟨b, 25, none⟩ (.bool false)).setCell ⟨b, 26, none⟩ (.int .i64 0)).setCell ⟨b, 27, none⟩ (.int .i64 8)).setCell ⟨b, 28, none⟩ (.int .i64 0)).setCell ⟨b, 29, none⟩ (.int .i64 0)).setCell ⟨b, 30, none⟩ (.int .i64 0)).setCell ⟨b, 31, none⟩ (.bool false)).setCell ⟨b, 32, none⟩ (.slice none 0 0)).setCell ⟨b, 33, none⟩ (.int .i64 0)).setCell ⟨b, 34, none⟩ (.int .i64 0)).setCell ⟨b, 35, none⟩ (.bool false)) := by
  have h15 := h.set (c' := { c with sel := true }) (i := 15) (v := .bool true) rfl rfl rfl rfl
  have h20 := h15.set (c' := { c with sel := true, cmd := { c.cmd with op := { c.cmd.op with byte := 0 } } }) (i := 20) (v := .int .i64 0) rfl rfl rfl rfl
  have h21 := h20.set (c' := { c with sel := true, cmd := { c.cmd with op := { c.cmd.op with byte := 0, addr := 0 } } }) (i := 21) (v := .int .i64 0) rfl rfl rfl rfl
  have h22 := h21.set (c' := { c with sel := true, cmd := { c.cmd with op := { c.cmd.op with byte := 0, addr := 0, mode := false } } }) (i := 22) (v := .bool false) rfl rfl rfl rfl
  have h23 := h22.set (c' := { c with sel := true, cmd := { c.cmd with op := { c.cmd.op with byte := 0, addr := 0, mode := false, dummy := 0 } } }) (i := 23) (v := .int .i64 0) rfl rfl rfl rfl
  have h24 := h23.set (c' := { c with sel := true, cmd := { c.cmd with op := { c.cmd.op with byte := 0, addr := 0, mode := false, dummy := 0, data := 0 } } }) (i := 24) (v := .int .i64 0) rfl rfl rfl rfl
  have h25 := h24.set (c' := { c with sel := true, cmd := { c.cmd with op := { c.cmd.op with byte := 0, addr := 0, mode := false, dummy := 0, data := 0, inn := false } } }) (i := 25) (v := .bool false) rfl rfl rfl rfl
  have h26 := h25.set (c' := { c with sel := true, cmd := { c.cmd with op := { c.cmd.op with byte := 0, addr := 0, mode := false, dummy := 0, data := 0, inn := false }, stage := 0 } }) (i := 26) (v := .int .i64 0) rfl rfl rfl rfl
  have h27 := h26.set (c' := { c with sel := true, cmd := { c.cmd with op := { c.cmd.op with byte := 0, addr := 0, mode := false, dummy := 0, data := 0, inn := false }, stage := 0, left := 8 } }) (i := 27) (v := .int .i64 8) rfl rfl rfl rfl
  have h28 := h27.set (c' := { c with sel := true, cmd := { c.cmd with op := { c.cmd.op with byte := 0, addr := 0, mode := false, dummy := 0, data := 0, inn := false }, stage := 0, left := 8, got := 0 } }) (i := 28) (v := .int .i64 0) rfl rfl rfl rfl
  have h29 := h28.set (c' := { c with sel := true, cmd := { c.cmd with op := { c.cmd.op with byte := 0, addr := 0, mode := false, dummy := 0, data := 0, inn := false }, stage := 0, left := 8, got := 0, addr := 0 } }) (i := 29) (v := .int .i64 0) rfl rfl rfl rfl
  have h30 := h29.set (c' := { c with sel := true, cmd := { c.cmd with op := { c.cmd.op with byte := 0, addr := 0, mode := false, dummy := 0, data := 0, inn := false }, stage := 0, left := 8, got := 0, addr := 0, mode := 0 } }) (i := 30) (v := .int .i64 0) rfl rfl rfl rfl
  have h31 := h30.set (c' := { c with sel := true, cmd := { c.cmd with op := { c.cmd.op with byte := 0, addr := 0, mode := false, dummy := 0, data := 0, inn := false }, stage := 0, left := 8, got := 0, addr := 0, mode := 0, moded := false } }) (i := 31) (v := .bool false) rfl rfl rfl rfl
  have h32 := h31.setData
  have h33 := h32.set (c' := { c with sel := true, cmd := { c.cmd with op := { c.cmd.op with byte := 0, addr := 0, mode := false, dummy := 0, data := 0, inn := false }, stage := 0, left := 8, got := 0, addr := 0, mode := 0, moded := false, data := [], told := 0 } }) (i := 33) (v := .int .i64 0) rfl rfl rfl rfl
  have h34 := h33.set (c' := { c with sel := true, cmd := { c.cmd with op := { c.cmd.op with byte := 0, addr := 0, mode := false, dummy := 0, data := 0, inn := false }, stage := 0, left := 8, got := 0, addr := 0, mode := 0, moded := false, data := [], told := 0, now := 0 } }) (i := 34) (v := .int .i64 0) rfl rfl rfl rfl
  have h35 := h34.set (c' := { c with sel := true, cmd := { c.cmd with op := { c.cmd.op with byte := 0, addr := 0, mode := false, dummy := 0, data := 0, inn := false }, stage := 0, left := 8, got := 0, addr := 0, mode := 0, moded := false, data := [], told := 0, now := 0, beyond := false } }) (i := 35) (v := .bool false) rfl rfl rfl rfl
  exact ⟨h35, ((((((((((((((((((Kept.refl S w).setCell (p := ⟨b, 15, none⟩) (.inl h.own) (.bool true)).setCell (p := ⟨b, 20, none⟩) (.inl h.own) (.int .i64 0)).setCell (p := ⟨b, 21, none⟩) (.inl h.own) (.int .i64 0)).setCell (p := ⟨b, 22, none⟩) (.inl h.own) (.bool false)).setCell (p := ⟨b, 23, none⟩) (.inl h.own) (.int .i64 0)).setCell (p := ⟨b, 24, none⟩) (.inl h.own) (.int .i64 0)).setCell (p := ⟨b, 25, none⟩) (.inl h.own) (.bool false)).setCell (p := ⟨b, 26, none⟩) (.inl h.own) (.int .i64 0)).setCell (p := ⟨b, 27, none⟩) (.inl h.own) (.int .i64 8)).setCell (p := ⟨b, 28, none⟩) (.inl h.own) (.int .i64 0)).setCell (p := ⟨b, 29, none⟩) (.inl h.own) (.int .i64 0)).setCell (p := ⟨b, 30, none⟩) (.inl h.own) (.int .i64 0)).setCell (p := ⟨b, 31, none⟩) (.inl h.own) (.bool false)).setCell (p := ⟨b, 32, none⟩) (.inl h.own) (.slice none 0 0)).setCell (p := ⟨b, 33, none⟩) (.inl h.own) (.int .i64 0)).setCell (p := ⟨b, 34, none⟩) (.inl h.own) (.int .i64 0)).setCell (p := ⟨b, 35, none⟩) (.inl h.own) (.bool false))⟩

set_option maxRecDepth 100000 in
set_option maxHeartbeats 1000000 in
theorem Select_calls (h : ChipIs w b c S md jv bv dv) (hsel : c.sel = false) :
    Calls Tryz.prog 82 #[.pointer (some ⟨b, 0, none⟩)] w (Posted b c.select S (.int .i64 0) w) := by
  have c15 := h.c15
  rw [hsel] at c15
  have c17 := h.c17
  have hf := h.free
  have q20 := h.c20
  have q21 := h.c21
  have q22 := h.c22
  have q23 := h.c23
  have q24 := h.c24
  have q25 := h.c25
  have q26 := h.c26
  have q27 := h.c27
  have q28 := h.c28
  have q29 := h.c29
  have q30 := h.c30
  have q31 := h.c31
  have q32 := h.c32
  have q33 := h.c33
  have q34 := h.c34
  have q35 := h.c35
  have H := Lib.hid h
  clear h
  obtain ⟨h2, k2⟩ := H.out.fresh
  obtain hg | hg : c.goes = false ∨ c.goes = true := by cases c.goes <;> simp
  all_goals rw [hg] at c17
  · have hr : c.select = { c with sel := true, cmd := { left := 8 } } := by unfold Chip.select; simp only; rw [if_neg (by simp [hg])]
    have F := Lib.hid (show Posted b c.select S (.int .i64 0) w (.returned (.int .i64 0)) (((((((((((((((((w.setCell ⟨b, 15, none⟩ (.bool true)).setCell ⟨b, 20, none⟩ (.int .i64 0)).setCell ⟨b, 21, none⟩ (.int .i64 0)).setCell ⟨b, 22, none⟩ (.bool false)).setCell ⟨b, 23, none⟩ (.int .i64 0)).setCell ⟨b, 24, none⟩ (.int .i64 0)).setCell ⟨b, 25, none⟩ (.bool false)).setCell ⟨b, 26, none⟩ (.int .i64 0)).setCell ⟨b, 27, none⟩ (.int .i64 8)).setCell ⟨b, 28, none⟩ (.int .i64 0)).setCell ⟨b, 29, none⟩ (.int .i64 0)).setCell ⟨b, 30, none⟩ (.int .i64 0)).setCell ⟨b, 31, none⟩ (.bool false)).setCell ⟨b, 32, none⟩ (.slice none 0 0)).setCell ⟨b, 33, none⟩ (.int .i64 0)).setCell ⟨b, 34, none⟩ (.int .i64 0)).setCell ⟨b, 35, none⟩ (.bool false)) from by rw [hr]; exact ⟨rfl, S, ⟨md, _, bv, _, h2⟩, k2, fun _ hk => .inl hk⟩)
    clear h2 k2
    go_enter Tryz.func82, Tryz.ntmps82
    go_wp2_with fail
    refine (many1 _).mono ?_
    rintro e w' ⟨rfl, rfl⟩
    go_wp2_with fail
    go_ret
    exact F.out
  · have hr : c.select = Chip.begins { c with sel := true, cmd := { left := 8 } } 235 := by unfold Chip.select; simp only; rw [if_pos (by simp [hg])]
    have hB := begins_to h2 235
    rw [← hr] at hB
    have HB := Lib.hid hB
    have K2 := Lib.hid k2
    clear h2 k2 hB
    go_enter Tryz.func82, Tryz.ntmps82
    go_wp2_with fail
    refine (many1 _).mono ?_
    rintro e w' ⟨rfl, rfl⟩
    go_wp2_with fail
    refine HB.out.mono ?_
    rintro e w2 ⟨rfl, h3, k3⟩
    have H3 := Lib.hid h3
    have K3 := Lib.hid k3
    clear h3 k3
    go_wp2_with fail
    go_ret
    exact ⟨rfl, S, ⟨md, _, bv, _, H3.out⟩, K2.out.trans K3.out, fun _ hk => .inl hk⟩
end
end Go.Proofs.YtefoldehejbiiaaGreat
