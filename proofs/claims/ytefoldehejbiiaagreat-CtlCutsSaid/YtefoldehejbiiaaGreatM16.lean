/-
  Walks: what begins behind a command's byte.
  Walks: a clock passes for what is under way.
  Walks: a clock of a command: all parts but the one of data that go.
-/
import Derived.Test.YtefoldehejbiiaaGreatM15
import Derived.Test.YtefoldehejbiiaaGreatM06
import Derived.Deep.RegionWith
import Derived.BigRegion
import Derived.Test.YtefoldehejbiiaaGreatM14

namespace Go.Proofs.YtefoldehejbiiaaGreat
open Go.RowKit Lich

theorem opOf_ok {n : Int} {o : OpD} (h : opOf n = some o) : (o.mode = true → o.addr = 4) ∧ (o.data = 0 ∨ o.data = 1 ∨ o.data = 4) ∧ (o.addr = 0 ∨ o.addr = 1 ∨ o.addr = 4) := by
  unfold opOf at h
  repeat' split at h
  all_goals first | (simp only [Option.some.injEq] at h; subst h; simp) | simp at h

section
variable {w : World} {b : Nat} {c : Chip} {S : Nat → Prop} {md : Bool} {jv bv dv : Value}

theorem ChipIs.setOp (h : ChipIs w b c S md jv bv dv) (o : OpD) :
    ChipIs ((((((w.setCell ⟨b, 20, none⟩ (.int .i64 o.byte)).setCell ⟨b, 21, none⟩ (.int .i64 o.addr)).setCell ⟨b, 22, none⟩ (.bool o.mode)).setCell ⟨b, 23, none⟩ (.int .i64 o.dummy)).setCell ⟨b, 24, none⟩ (.int .i64 o.data)).setCell ⟨b, 25, none⟩ (.bool o.inn))
      b { c with cmd := { c.cmd with op := o } } S md jv bv dv := by
  have h0 := h.set (c' := { c with cmd := { c.cmd with op := { c.cmd.op with byte := o.byte } } }) (i := 20) (v := .int .i64 o.byte) rfl rfl rfl rfl
  have h1 := h0.set (c' := { c with cmd := { c.cmd with op := { c.cmd.op with byte := o.byte, addr := o.addr } } }) (i := 21) (v := .int .i64 o.addr) rfl rfl rfl rfl
  have h2 := h1.set (c' := { c with cmd := { c.cmd with op := { c.cmd.op with byte := o.byte, addr := o.addr, mode := o.mode } } }) (i := 22) (v := .bool o.mode) rfl rfl rfl rfl
  have h3 := h2.set (c' := { c with cmd := { c.cmd with op := { c.cmd.op with byte := o.byte, addr := o.addr, mode := o.mode, dummy := o.dummy } } }) (i := 23) (v := .int .i64 o.dummy) rfl rfl rfl rfl
  have h4 := h3.set (c' := { c with cmd := { c.cmd with op := { c.cmd.op with byte := o.byte, addr := o.addr, mode := o.mode, dummy := o.dummy, data := o.data } } }) (i := 24) (v := .int .i64 o.data) rfl rfl rfl rfl
  exact h4.set (c' := { c with cmd := { c.cmd with op := o } }) (i := 25) (v := .bool o.inn) rfl rfl rfl rfl

theorem Kept.trans' {S : Nat → Prop} {w w1 w2 : World} (h : Kept S w w1) (k : Kept S w1 w2) : Kept S w w2 := h.trans k

theorem Kept.setOp (hS : S b) (v0 v1 v2 v3 v4 v5 : Value) {w1 : World} (h : Kept S w w1) :
    Kept S w ((((((w1.setCell ⟨b, 20, none⟩ v0).setCell ⟨b, 21, none⟩ v1).setCell ⟨b, 22, none⟩ v2).setCell ⟨b, 23, none⟩ v3).setCell ⟨b, 24, none⟩ v4).setCell ⟨b, 25, none⟩ v5) :=
  (((((h.setCell (p := ⟨b, 20, none⟩) (.inl hS) v0).setCell (p := ⟨b, 21, none⟩) (.inl hS) v1).setCell (p := ⟨b, 22, none⟩) (.inl hS) v2).setCell (p := ⟨b, 23, none⟩) (.inl hS) v3).setCell (p := ⟨b, 24, none⟩) (.inl hS) v4).setCell (p := ⟨b, 25, none⟩) (.inl hS) v5

set_option maxRecDepth 100000 in
set_option maxHeartbeats 1000000 in
theorem begins_off (h : ChipIs w b c S md jv bv dv) (n : Int) (o : OpD) (ho : (opOf n).getD {} = o) (hf : ((opOf n).isSome && c.takes n) = false) :
    Calls Tryz.prog 96 #[.pointer (some ⟨b, 0, none⟩), .int .i64 n] w (To b { c with cmd := { c.cmd with op := o }.enter 1 0 } S md jv bv dv w) := by
  have hk := known_calls h n
  rw [ho, hf] at hk
  unfold opVal at hk
  have H := Lib.hid h
  have HK := Lib.hid hk
  clear h hk ho hf
  go_enter Tryz.func96, Tryz.ntmps96
  go_wp2_with fail
  refine HK.out.mono ?_
  rintro e w1 ⟨rfl, hb⟩
  have h1 : ChipIs w1 b c S md jv bv dv := H.out.ext ⟨w1, hb⟩
  have hf1 := h1.free
  have q20 := h1.c20
  have q21 := h1.c21
  have q22 := h1.c22
  have q23 := h1.c23
  have q24 := h1.c24
  have q25 := h1.c25
  have hlt := h1.lt
  have H1 := Lib.hid h1
  have HB := Lib.hid hb
  clear h1 hb
  go_wp2_with fail
  refine (enter_to ((H1.out.setOp o).alloc _) 1 0).mono ?_
  rintro e w2 ⟨rfl, h2, k2⟩
  have K2 := Lib.hid ((Kept.setOp H.out.own _ _ _ _ _ _ (Kept.of_below HB.out)).alloc _ |>.trans' k2)
  have H2 := Lib.hid h2
  clear h2 k2
  go_wp2_with fail
  go_end0
  exact ⟨rfl, H2.out, K2.out⟩

set_option maxRecDepth 100000 in
set_option maxHeartbeats 2000000 in
theorem begins_on (h : ChipIs w b c S md jv bv dv) (n : Int) (o : OpD) (ho : opOf n = some o) (hf : c.takes n = true) (ad : Int) (had : o.addr = ad) (hc : ad = 0 ∨ ad = 1 ∨ ad = 4) :
    Calls Tryz.prog 96 #[.pointer (some ⟨b, 0, none⟩), .int .i64 n] w
      (To b (if 0 < ad then { c with cmd := { c.cmd with op := o }.enter 2 (24 / ad) } else { c with cmd := { c.cmd with op := o }.behind }) S md jv bv dv w) := by
  have hk := known_calls h n
  rw [ho, hf] at hk
  have hok := opOf_ok ho
  unfold opVal at hk
  simp only [Option.getD_some, Option.isSome_some, Bool.and_true] at hk
  rw [had] at hk
  have H := Lib.hid h
  have HK := Lib.hid hk
  have HA := Lib.hid had
  have HO := Lib.hid hok
  clear h hk ho hf had hok
  rcases hc with rfl | rfl | rfl
  all_goals
    go_enter Tryz.func96, Tryz.ntmps96
    go_wp2_with fail
    refine HK.out.mono ?_
    rintro e w1 ⟨rfl, hb⟩
    have h1 : ChipIs w1 b c S md jv bv dv := H.out.ext ⟨w1, hb⟩
    have hf1 := h1.free
    have q20 := h1.c20
    have q21 := h1.c21
    have q22 := h1.c22
    have q23 := h1.c23
    have q24 := h1.c24
    have q25 := h1.c25
    have hlt := h1.lt
    have H1 := Lib.hid (h1.setOp o)
    rw [HA.out] at H1
    have HB := Lib.hid (Kept.setOp H.out.own (.int .i64 o.byte) (.int .i64 o.addr) (.bool o.mode) (.int .i64 o.dummy) (.int .i64 o.data) (.bool o.inn) (Kept.of_below hb))
    rw [HA.out] at HB
    clear h1 hb
    go_wp2_with fail
    first
      | (go_at_call 116; refine (behind_to (H1.out.alloc _) HO.out.1 HO.out.2.1).mono ?_)
      | (go_at_call 115; refine (enter_to (H1.out.alloc _) 2 _).mono ?_)
    rintro e w2 ⟨rfl, h2, k2⟩
    have K2 := Lib.hid ((HB.out.alloc _).trans' k2)
    have H2 := Lib.hid h2
    clear h2 k2
    go_wp2_with fail
    go_end0
    exact ⟨rfl, H2.out, K2.out⟩

/-- What begins. -/
theorem begins_to (h : ChipIs w b c S md jv bv dv) (n : Int) :
    Calls Tryz.prog 96 #[.pointer (some ⟨b, 0, none⟩), .int .i64 n] w (To b (c.begins n) S md jv bv dv w) := by
  unfold Chip.begins
  cases ho : opOf n with
  | none => exact begins_off h n {} (by rw [ho]; rfl) (by rw [ho]; rfl)
  | some o =>
    simp only
    by_cases ht : c.takes n = false
    · rw [if_pos ht]
      exact begins_off h n o (by rw [ho]; rfl) (by rw [ho, ht]; rfl)
    · rw [if_neg ht]
      exact begins_on h n o ho (by simpa using ht) _ rfl (opOf_ok ho).2.2
end
end Go.Proofs.YtefoldehejbiiaaGreat

namespace Go.Proofs.YtefoldehejbiiaaGreat
open Go.RowKit Lich

section
variable {w : World} {b : Nat} {c : Chip} {S : Nat → Prop} {md : Bool} {jv bv dv : Value}

/-- A chip behind a call that hands back v. -/
def Now (b : Nat) (c' : Chip) (S : Nat → Prop) (v : Value) (w : World) (e : Ending) (w' : World) : Prop :=
  e = .returned v ∧ ChipAt w' b c' S ∧ Kept S w w'

/-- A chip that may be: its cells, what is under way. -/
structure Fit (c : Chip) : Prop where
  cells : c.cells.length = 4096
  job : ∀ j, c.job = some j → j.Ok ∧ 1 ≤ j.left ∧ j.left ≤ 100000

theorem ChipIs.rest_keep (h : ChipIs w b c S md jv bv dv) {g : Nat} {cs : Array Value} {fr : Nat × Nat} {w1 : World} (hb : w.heap[g]? = some (.cells cs 140 fr)) (hne : g ≠ b)
    {R : Nat → Prop} (hR : ∀ k, R k → k = g ∨ k = b) (hk : Kept R w w1) :
    IntsIs w1 bv c.busy S ∧ w1.ownsRow 0 3 1 dv c.cmd.data.length (c.cmd.data.map (.int .i64)) := by
  refine ⟨h.busy.keep hk ?_, ownsRow_keep h.data hk ?_⟩
  · intro k hk' e
    rcases hR k e with rfl | rfl
    · rcases h.busy with ⟨rfl, _⟩ | ⟨g', off, cap, cs', rfl, _, _, _, hb', _⟩
      · simp [Value.ownBlock] at hk'
      · simp only [Value.ownBlock, Option.some.injEq] at hk'; subst hk'
        exact blk_ne hb' hb (by decide) rfl
    · exact h.busy_ne _ hk' rfl
  · intro k hk' e
    rcases hR k e with rfl | rfl
    · obtain ⟨cur, hb'⟩ := owns_blk h.data hk'
      exact blk_ne hb' hb (by decide) rfl
    · exact h.data_ne _ hk' rfl

theorem pass_fin {g : Nat} {cs : Array Value} {fr : Nat × Nat} {w1 : World} (h : ChipIs w b c S md (.pointer (some ⟨g, 0, none⟩)) bv dv) (hg : S g) (hne : g ≠ b) (hb : w.heap[g]? = some (.cells cs 140 fr))
    (hk : Kept (fun k => k = g) w w1) (hblk : w1.heap[b]? = some (.cells (ChipBlk c md (.pointer (some ⟨g, 0, none⟩)) bv dv) 109 (0, 0))) (nc : List UInt8) :
    Now b { c with cells := nc, job := none, en := false } S (.tuple #[]) w (.returned (.tuple #[])) (((w1.setCell ⟨b, 0, none⟩ (.string (S8 nc))).setCell ⟨b, 18, none⟩ (.pointer none)).setCell ⟨b, 16, none⟩ (.bool false)) := by
  have k1 : Kept (fun k => k = g ∨ k = b) w w1 := hk.mono (fun k hk => .inl hk)
  have k2 := ((k1.setCell (p := ⟨b, 0, none⟩) (.inl (.inr rfl)) (.string (S8 nc))).setCell (p := ⟨b, 18, none⟩) (.inl (.inr rfl)) (.pointer none)).setCell (p := ⟨b, 16, none⟩) (.inl (.inr rfl)) (.bool false)
  obtain ⟨r1, r2⟩ := h.rest_keep hb hne (fun k hk => hk) k2
  refine ⟨rfl, ⟨md, .pointer none, bv, dv, ?_, h.own, rfl, r1, r2, h.dataS, h.apart⟩, k2.mono (fun k hk => by rcases hk with rfl | rfl; exact hg; exact h.own)⟩
  have hs := blk_set (i := 16) (blk_set (i := 18) (blk_set (i := 0) hblk (.string (S8 nc))) (.pointer none)) (.bool false)
  rw [hs]
  rfl

set_option maxRecDepth 100000 in
set_option maxHeartbeats 1000000 in
theorem pass_calls (h : ChipIs w b c S md jv bv dv) (hf : Fit c) :
    Calls Tryz.prog 131 #[.pointer (some ⟨b, 0, none⟩)] w (Now b c.pass S (.tuple #[]) w) := by
  have hw := works_calls h
  by_cases hx : c.works = false
  · have hp : c.pass = c := by
      unfold Chip.works at hx
      unfold Chip.pass
      split
      · rfl
      · rename_i j hj
        rw [hj] at hx
        simp at hx
        rw [if_pos hx]
    rw [hp]
    rw [hx] at hw
    have H := Lib.hid h
    have HW := Lib.hid hw
    clear h hw hp hx hf
    go_enter Tryz.func131, Tryz.ntmps131
    go_wp2_with (go_at_call 76; refine HW.out.mono ?_; rintro e w' ⟨rfl, rfl⟩)
    first | go_end0 | refine bodyPost_ret (results_none rfl _ _ _) rfl ?_
    exact ⟨rfl, ⟨md, jv, bv, dv, H.out⟩, Kept.refl S w⟩
  · have hx' : c.works = true := by simpa using hx
    rw [hx'] at hw
    obtain ⟨j, hj, hs⟩ : ∃ j, c.job = some j ∧ j.susp = false := by
      unfold Chip.works at hx'
      split at hx'
      · simp at hx'
      · rename_i j hj; exact ⟨j, hj, by simpa using hx'⟩
    obtain ⟨hok, hl0, hl1⟩ := hf.job j hj
    obtain ⟨g, rfl, hg, hne, hb⟩ := h.jobSome hj
    have c18 := h.c18
    have g3 : w.cell? ⟨g, 3, none⟩ = some (.int .i64 j.left) := (blk_cell hb).trans rfl
    have gf : w.frozen? ⟨g, 3, none⟩ = false := blk_free hb
    have H := Lib.hid h
    have HW := Lib.hid hw
    by_cases hd : 1 < j.left
    · have hp : c.pass = { c with job := some { j with left := j.left - 1 } } := by
        unfold Chip.pass
        rw [hj]
        simp only
        rw [if_neg (by simp [hs]), if_neg (by omega)]
      rw [hp]
      have HB := Lib.hid hb
      have HJ := Lib.hid hj
      clear h hw hp hx hf hx' hj hs hok hb
      go_enter Tryz.func131, Tryz.ntmps131
      go_wp2_with (go_at_call 76; refine HW.out.mono ?_; rintro e w' ⟨rfl, rfl⟩)
      go_end0
      have hk : Kept (fun k => k = g) w (w.setCell ⟨g, 3, none⟩ (.int .i64 (j.left - 1))) := (Kept.refl (fun k => k = g) w).setCell (p := ⟨g, 3, none⟩) (.inl rfl) _
      refine ⟨rfl, ⟨md, .pointer (some ⟨g, 0, none⟩), bv, dv, ?_⟩, hk.mono (fun k hk => by subst hk; exact hg)⟩
      have h := H.out
      obtain ⟨r1, r2⟩ := h.rest_keep HB.out hne (fun k hk => .inl hk) hk
      exact ⟨blk_kept hk h.blk (fun e => hne e.symm), h.own, ⟨g, rfl, hg, by rw [blk_set HB.out]; rfl⟩, r1, r2, h.dataS, h.apart⟩
    · have hp : c.pass = { c with cells := j.cells c.cells [255], job := none, en := false } := by
        unfold Chip.pass
        rw [hj]
        simp only
        rw [if_neg (by simp [hs]), if_pos (by omega)]
      rw [hp]
      have hl2 : j.left = 1 := by omega
      rw [hl2] at g3
      have c0 := h.c0
      have c16 := h.c16
      have fr := h.free
      have hk : Kept (fun k => k = g) w (w.setCell ⟨g, 3, none⟩ (.int .i64 0)) := (Kept.refl (fun k => k = g) w).setCell (p := ⟨g, 3, none⟩) (.inl rfl) _
      have hcall := jobCells_calls g { j with left := 0 } c.cells [255] (w.setCell ⟨g, 3, none⟩ (.int .i64 0)).drew hf.cells hok (by simp) (by
        show (w.setCell ⟨g, 3, none⟩ (.int .i64 0)).heap[g]? = _
        rw [blk_set hb]; rfl)
      have e : ({ j with left := 0 } : Job).cells c.cells [255] = j.cells c.cells [255] := rfl
      rw [e] at hcall
      have haft : ∀ w1, Below (w.setCell ⟨g, 3, none⟩ (.int .i64 0)).drew.heap.size (w.setCell ⟨g, 3, none⟩ (.int .i64 0)).drew w1 →
          w1.heap[b]? = some (.cells (ChipBlk c md (.pointer (some ⟨g, 0, none⟩)) bv dv) 109 (0, 0)) ∧ Kept (fun k => k = g) w w1 := fun w1 hb1 => by
        have hk1 := hk.drew.below hb1
        exact ⟨blk_kept hk1 h.blk (fun e => hne e.symm), hk1⟩
      have HA := Lib.hid haft
      clear haft
      generalize j.cells c.cells [255] = nc at *
      have HC := Lib.hid hcall
      have HK := Lib.hid hk
      have HB := Lib.hid hb
      clear h hw hp hx hf hx' hj hs hok hb hl2 hl0 hl1 hd hcall hk e
      go_enter Tryz.func131, Tryz.ntmps131
      go_wp2_with (go_at_call 76; refine HW.out.mono ?_; rintro e w' ⟨rfl, rfl⟩)
      go_region_with (go_at_call 144; refine HC.out.mono ?_; rintro e w1 ⟨rfl, hb1⟩; obtain ⟨ha, hk1⟩ := HA.out w1 hb1; have z0 : w1.cell? ⟨b, 0, none⟩ = some (.string (S8 c.cells)) := (blk_cell ha).trans rfl; have z16 : w1.cell? ⟨b, 16, none⟩ = some (.bool c.en) := (blk_cell ha).trans rfl; have z18 : w1.cell? ⟨b, 18, none⟩ = some (.pointer (some ⟨g, 0, none⟩)) := (blk_cell ha).trans rfl; have zf : ∀ i, w1.frozen? ⟨b, i, none⟩ = false := fun i => blk_free ha; have HA1 := Lib.hid ha; have HK1 := Lib.hid hk1; clear ha hk1 hb1)
      all_goals
        go_wp2_with fail
        go_end0
        exact pass_fin H.out hg hne HB.out HK1.out HA1.out nc
end
end Go.Proofs.YtefoldehejbiiaaGreat

namespace Go.Proofs.YtefoldehejbiiaaGreat
open Go.RowKit Lich

section
variable {w : World} {b : Nat} {c : Chip} {S : Nat → Prop} {md : Bool} {jv bv dv : Value}

/-- A clock's answer. -/
def Ticked (b : Nat) (c : Chip) (x : Int) (S : Nat → Prop) (w : World) (e : Ending) (w' : World) : Prop :=
  Now b (c.step x).1 S (.int .i64 (c.step x).2) w e w'

theorem ticked_of {x : Int} {c' : Chip} {v : Int} (hs : c.step x = (c', v)) {w' : World} {e : Ending} (h : Now b c' S (.int .i64 v) w e w') : Ticked b c x S w e w' := by
  unfold Ticked; rw [hs]; exact h

theorem takes_at (h : ChipIs w b c S md jv bv dv) {n x m : Int} (hn : n = 1 ∧ m = 2 ∨ n = 4 ∧ m = 16) (h0 : 0 ≤ x) (h1 : x < 16) (hg0 : 0 ≤ c.cmd.got) (hg1 : c.cmd.got < 1000000000) (hl0 : 0 ≤ c.cmd.left) (hl1 : c.cmd.left < 1000)
    {c1 : Chip} (hc : c1 = { c with cmd := { c.cmd with got := c.cmd.got * m + x % m, left := c.cmd.left - 1 } }) {z : Bool} (hz : z = (c.cmd.left - 1 == 0)) :
    Calls Tryz.prog 145 #[.pointer (some ⟨b, 20, none⟩), .int .i64 x, .int .i64 n] w fun e w' => e = .returned (.bool z) ∧ ChipIs w' b c1 S md jv bv dv ∧ Kept S w w' := by
  subst hc hz
  rcases hn with ⟨rfl, rfl⟩ | ⟨rfl, rfl⟩
  · exact takesIn1 h x h0 h1 hg0 hg1 hl0 hl1
  · exact takesIn4 h x h0 h1 hg0 hg1 hl0 hl1

set_option maxRecDepth 100000 in
set_option maxHeartbeats 1000000 in
theorem clock_0 (h : ChipIs w b c S md jv bv dv) (x : Int) (h0 : 0 ≤ x) (h1 : x < 16) (hs : c.cmd.stage = 0) (hg0 : 0 ≤ c.cmd.got) (hg1 : c.cmd.got < 1000000000) (hl0 : 0 ≤ c.cmd.left) (hl1 : c.cmd.left < 1000) :
    Calls Tryz.prog 132 #[.pointer (some ⟨b, 0, none⟩), .int .i64 x] w (Ticked b c x S w) := by
  obtain ⟨c1, hc1⟩ : ∃ c1 : Chip, c1 = { c with cmd := { c.cmd with got := c.cmd.got * 2 + x % 2, left := c.cmd.left - 1 } } := ⟨_, rfl⟩
  obtain ⟨z, hz⟩ : ∃ z, z = (c.cmd.left - 1 == 0) := ⟨_, rfl⟩
  have HT := Lib.hid (takes_at h (.inl ⟨rfl, rfl⟩) h0 h1 hg0 hg1 hl0 hl1 hc1 hz)
  have c26 := h.c26
  rw [hs] at c26
  have hfin : c.step x = (if z then c1.begins c1.cmd.got else c1, 15) := by
    unfold Chip.step
    rw [if_pos hs]
    subst hc1 hz
    by_cases hl : c.cmd.left - 1 = 0 <;> simp [hl]
  clear h hs hc1 hz hg0 hg1 hl0 hl1
  cases z
  · have FIN := Lib.hid hfin
    clear hfin
    go_enter Tryz.func132, Tryz.ntmps132
    go_wp2_with fail
    refine HT.out.mono ?_
    rintro e w1 ⟨rfl, h1', k1⟩
    have H1 := Lib.hid h1'
    have K1 := Lib.hid k1
    clear h1' k1
    go_wp2_with fail
    go_ret
    exact ticked_of FIN.out ⟨rfl, ⟨md, jv, bv, dv, H1.out⟩, K1.out⟩
  · have FIN := Lib.hid hfin
    clear hfin
    go_enter Tryz.func132, Tryz.ntmps132
    go_wp2_with fail
    refine HT.out.mono ?_
    rintro e w1 ⟨rfl, h1', k1⟩
    have z28 := h1'.c28
    have H1 := Lib.hid h1'
    have K1 := Lib.hid k1
    clear h1' k1
    go_wp2_with fail
    refine (begins_to H1.out _).mono ?_
    rintro e w2 ⟨rfl, h2, k2⟩
    have H2 := Lib.hid h2
    have K2 := Lib.hid k2
    clear h2 k2
    go_wp2_with fail
    go_ret
    exact ticked_of FIN.out ⟨rfl, ⟨md, jv, bv, dv, H2.out⟩, K1.out.trans K2.out⟩

set_option maxRecDepth 100000 in
set_option maxHeartbeats 1000000 in
theorem clock_2 (h : ChipIs w b c S md jv bv dv) (x : Int) (h0 : 0 ≤ x) (h1 : x < 16) (hs : c.cmd.stage = 2) (ha : c.cmd.op.addr = 1 ∨ c.cmd.op.addr = 4) (hm : c.cmd.op.mode = true → c.cmd.op.addr = 4) (hd : c.cmd.op.data = 0 ∨ c.cmd.op.data = 1 ∨ c.cmd.op.data = 4) (hg0 : 0 ≤ c.cmd.got) (hg1 : c.cmd.got < 1000000000) (hl0 : 0 ≤ c.cmd.left) (hl1 : c.cmd.left < 1000) :
    Calls Tryz.prog 132 #[.pointer (some ⟨b, 0, none⟩), .int .i64 x] w (Ticked b c x S w) := by
  obtain ⟨m, hnm⟩ : ∃ m : Int, c.cmd.op.addr = 1 ∧ m = 2 ∨ c.cmd.op.addr = 4 ∧ m = 16 := by rcases ha with h | h <;> simp [h]
  obtain ⟨c1, hc1⟩ : ∃ c1 : Chip, c1 = { c with cmd := { c.cmd with got := c.cmd.got * m + x % m, left := c.cmd.left - 1 } } := ⟨_, rfl⟩
  obtain ⟨z, hz⟩ : ∃ z, z = (c.cmd.left - 1 == 0) := ⟨_, rfl⟩
  have HT := Lib.hid (takes_at h hnm h0 h1 hg0 hg1 hl0 hl1 hc1 hz)
  have c26 := h.c26
  have c21 := h.c21
  rw [hs] at c26
  have hem : m = 2 ^ c.cmd.op.addr.toNat := by rcases hnm with ⟨e, rfl⟩ | ⟨e, rfl⟩ <;> rw [e] <;> rfl
  have hfin : c.step x = (if z then { c1 with cmd := ({ c1 with cmd := { c1.cmd with addr := c1.cmd.got % 4096 } }).cmd.behind } else c1, 15) := by
    unfold Chip.step
    rw [if_neg (by omega), if_pos hs]
    rw [← hem]
    subst hc1 hz
    by_cases hl : c.cmd.left - 1 = 0 <;> simp [hl]
  have hop : c1.cmd.op = c.cmd.op := by rw [hc1]
  rw [← hop] at hm hd
  have HM := Lib.hid hm
  have HD := Lib.hid hd
  clear hm hd
  have g0 : 0 ≤ c1.cmd.got := by rw [hc1]; show 0 ≤ c.cmd.got * m + x % m; rcases hnm with ⟨_, rfl⟩ | ⟨_, rfl⟩ <;> omega
  have g1 : c1.cmd.got < 100000000000 := by rw [hc1]; show c.cmd.got * m + x % m < _; rcases hnm with ⟨_, rfl⟩ | ⟨_, rfl⟩ <;> omega
  clear hnm hc1 hz hg0 hg1 hl0 hl1 ha
  cases z
  · have FIN := Lib.hid hfin
    have OP := Lib.hid hop
    clear hfin h hem hs hop
    go_enter Tryz.func132, Tryz.ntmps132
    go_wp2_with fail
    refine HT.out.mono ?_
    rintro e w1 ⟨rfl, h1', k1⟩
    have H1 := Lib.hid h1'
    have K1 := Lib.hid k1
    clear h1' k1
    go_wp2_with fail
    go_ret
    exact ticked_of FIN.out ⟨rfl, ⟨md, jv, bv, dv, H1.out⟩, K1.out⟩
  · have FIN := Lib.hid hfin
    have OP := Lib.hid hop
    clear hfin h hem hs hop
    go_enter Tryz.func132, Tryz.ntmps132
    go_wp2_with fail
    refine HT.out.mono ?_
    rintro e w1 ⟨rfl, h1', k1⟩
    have z28 := h1'.c28
    have z29 := h1'.c29
    have z30 := h1'.c30
    have z31 := h1'.c31
    have zf := h1'.free
    have H1 := Lib.hid h1'
    have K1 := Lib.hid k1
    clear h1' k1
    go_wp2_with fail
    have H2 := Lib.hid (H1.out.set (c' := { c1 with cmd := { c1.cmd with addr := c1.cmd.got % 4096 } }) (i := 29) (v := .int .i64 (c1.cmd.got % 4096)) rfl rfl rfl rfl)
    have K2 := Lib.hid ((Kept.refl S w1).setCell (p := ⟨b, 29, none⟩) (.inl H1.out.own) (.int .i64 (c1.cmd.got % 4096)))
    refine (behind_to H2.out HM.out HD.out).mono ?_
    rintro e w2 ⟨rfl, h2, k2⟩
    have H3 := Lib.hid h2
    have K3 := Lib.hid k2
    clear h2 k2
    go_wp2_with fail
    go_ret
    exact ticked_of FIN.out ⟨rfl, ⟨md, jv, bv, dv, H3.out⟩, (K1.out.trans K2.out).trans K3.out⟩

set_option maxRecDepth 100000 in
set_option maxHeartbeats 1000000 in
theorem clock_3 (h : ChipIs w b c S md jv bv dv) (x : Int) (h0 : 0 ≤ x) (h1 : x < 16) (hs : c.cmd.stage = 3) (ha : c.cmd.op.addr = 1 ∨ c.cmd.op.addr = 4) (hm : c.cmd.op.mode = true → c.cmd.op.addr = 4) (hd : c.cmd.op.data = 0 ∨ c.cmd.op.data = 1 ∨ c.cmd.op.data = 4) (hg0 : 0 ≤ c.cmd.got) (hg1 : c.cmd.got < 1000000000) (hl0 : 0 ≤ c.cmd.left) (hl1 : c.cmd.left < 1000) :
    Calls Tryz.prog 132 #[.pointer (some ⟨b, 0, none⟩), .int .i64 x] w (Ticked b c x S w) := by
  obtain ⟨m, hnm⟩ : ∃ m : Int, c.cmd.op.addr = 1 ∧ m = 2 ∨ c.cmd.op.addr = 4 ∧ m = 16 := by rcases ha with h | h <;> simp [h]
  obtain ⟨c1, hc1⟩ : ∃ c1 : Chip, c1 = { c with cmd := { c.cmd with got := c.cmd.got * m + x % m, left := c.cmd.left - 1 } } := ⟨_, rfl⟩
  obtain ⟨z, hz⟩ : ∃ z, z = (c.cmd.left - 1 == 0) := ⟨_, rfl⟩
  have HT := Lib.hid (takes_at h hnm h0 h1 hg0 hg1 hl0 hl1 hc1 hz)
  have c26 := h.c26
  have c21 := h.c21
  rw [hs] at c26
  have hem : m = 2 ^ c.cmd.op.addr.toNat := by rcases hnm with ⟨e, rfl⟩ | ⟨e, rfl⟩ <;> rw [e] <;> rfl
  have hfin : c.step x = (if z then { c1 with cmd := ({ c1 with cmd := { c1.cmd with mode := c1.cmd.got, moded := true } }).cmd.behind } else c1, 15) := by
    unfold Chip.step
    rw [if_neg (by omega), if_neg (by omega), if_pos hs]
    rw [← hem]
    subst hc1 hz
    by_cases hl : c.cmd.left - 1 = 0 <;> simp [hl]
  have hop : c1.cmd.op = c.cmd.op := by rw [hc1]
  rw [← hop] at hm hd
  have HM := Lib.hid hm
  have HD := Lib.hid hd
  clear hm hd
  have g0 : 0 ≤ c1.cmd.got := by rw [hc1]; show 0 ≤ c.cmd.got * m + x % m; rcases hnm with ⟨_, rfl⟩ | ⟨_, rfl⟩ <;> omega
  have g1 : c1.cmd.got < 100000000000 := by rw [hc1]; show c.cmd.got * m + x % m < _; rcases hnm with ⟨_, rfl⟩ | ⟨_, rfl⟩ <;> omega
  clear hnm hc1 hz hg0 hg1 hl0 hl1 ha
  cases z
  · have FIN := Lib.hid hfin
    have OP := Lib.hid hop
    clear hfin h hem hs hop
    go_enter Tryz.func132, Tryz.ntmps132
    go_wp2_with fail
    refine HT.out.mono ?_
    rintro e w1 ⟨rfl, h1', k1⟩
    have H1 := Lib.hid h1'
    have K1 := Lib.hid k1
    clear h1' k1
    go_wp2_with fail
    go_ret
    exact ticked_of FIN.out ⟨rfl, ⟨md, jv, bv, dv, H1.out⟩, K1.out⟩
  · have FIN := Lib.hid hfin
    have OP := Lib.hid hop
    clear hfin h hem hs hop
    go_enter Tryz.func132, Tryz.ntmps132
    go_wp2_with fail
    refine HT.out.mono ?_
    rintro e w1 ⟨rfl, h1', k1⟩
    have z28 := h1'.c28
    have z29 := h1'.c29
    have z30 := h1'.c30
    have z31 := h1'.c31
    have zf := h1'.free
    have H1 := Lib.hid h1'
    have K1 := Lib.hid k1
    clear h1' k1
    go_wp2_with fail
    have H2 := Lib.hid ((H1.out.set (c' := { c1 with cmd := { c1.cmd with mode := c1.cmd.got } }) (i := 30) (v := .int .i64 c1.cmd.got) rfl rfl rfl rfl).set (c' := { c1 with cmd := { c1.cmd with mode := c1.cmd.got, moded := true } }) (i := 31) (v := .bool true) rfl rfl rfl rfl)
    have K2 := Lib.hid (((Kept.refl S w1).setCell (p := ⟨b, 30, none⟩) (.inl H1.out.own) (.int .i64 c1.cmd.got)).setCell (p := ⟨b, 31, none⟩) (.inl H1.out.own) (.bool true))
    refine (behind_to H2.out HM.out HD.out).mono ?_
    rintro e w2 ⟨rfl, h2, k2⟩
    have H3 := Lib.hid h2
    have K3 := Lib.hid k2
    clear h2 k2
    go_wp2_with fail
    go_ret
    exact ticked_of FIN.out ⟨rfl, ⟨md, jv, bv, dv, H3.out⟩, (K1.out.trans K2.out).trans K3.out⟩

set_option maxRecDepth 100000 in
set_option maxHeartbeats 1000000 in
theorem clock_4 (h : ChipIs w b c S md jv bv dv) (x : Int) (hs : c.cmd.stage = 4) (hm : c.cmd.op.mode = true → c.cmd.op.addr = 4) (hd : c.cmd.op.data = 0 ∨ c.cmd.op.data = 1 ∨ c.cmd.op.data = 4) (hl0 : 0 ≤ c.cmd.left) (hl1 : c.cmd.left < 1000) :
    Calls Tryz.prog 132 #[.pointer (some ⟨b, 0, none⟩), .int .i64 x] w (Ticked b c x S w) := by
  have c26 := h.c26
  have c27 := h.c27
  have hf := h.free
  rw [hs] at c26
  obtain ⟨c1, hc1⟩ : ∃ c1 : Chip, c1 = { c with cmd := { c.cmd with left := c.cmd.left - 1 } } := ⟨_, rfl⟩
  have hfin : c.step x = (if c.cmd.left - 1 = 0 then { c1 with cmd := c1.cmd.behind } else c1, 15) := by
    unfold Chip.step
    rw [if_neg (by omega), if_neg (by omega), if_neg (by omega), if_pos hs]
    subst hc1
    by_cases hl : c.cmd.left - 1 = 0 <;> simp [hl]
  have h2 : ChipIs (w.setCell ⟨b, 27, none⟩ (.int .i64 (c.cmd.left - 1))) b c1 S md jv bv dv := h.set (c' := c1) (i := 27) (v := .int .i64 (c.cmd.left - 1)) (by subst hc1; rfl) (by subst hc1; rfl) (by subst hc1; rfl) (by subst hc1; rfl)
  have k2 : Kept S w (w.setCell ⟨b, 27, none⟩ (.int .i64 (c.cmd.left - 1))) := (Kept.refl S w).setCell (p := ⟨b, 27, none⟩) (.inl h.own) _
  have hop : c1.cmd.op = c.cmd.op := by rw [hc1]
  rw [← hop] at hm hd
  have HM := Lib.hid hm
  have HD := Lib.hid hd
  have H2 := Lib.hid h2
  have K2 := Lib.hid k2
  clear hm hd h2 k2 h hop hs hc1
  by_cases hl : c.cmd.left = 1
  · rw [hl] at c27 hfin H2 K2
    have FIN := Lib.hid hfin
    clear hfin
    go_enter Tryz.func132, Tryz.ntmps132
    go_wp2_with fail
    refine (behind_to H2.out HM.out HD.out).mono ?_
    rintro e w2 ⟨rfl, h2, k2⟩
    have H3 := Lib.hid h2
    have K3 := Lib.hid k2
    clear h2 k2
    go_wp2_with fail
    go_ret
    exact ticked_of FIN.out ⟨rfl, ⟨md, jv, bv, dv, H3.out⟩, K2.out.trans K3.out⟩
  · rw [if_neg (by omega)] at hfin
    have FIN := Lib.hid hfin
    have hb : (c.cmd.left - 1 == 0) = false := by simp; omega
    clear hfin
    go_enter Tryz.func132, Tryz.ntmps132
    go_wp2_with fail
    go_ret
    exact ticked_of FIN.out ⟨rfl, ⟨md, jv, bv, dv, H2.out⟩, K2.out⟩

set_option maxRecDepth 100000 in
set_option maxHeartbeats 1000000 in
theorem clock_6 (h : ChipIs w b c S md jv bv dv) (x : Int) (hs : c.cmd.stage = 6) {c1 : Chip} {v : Int} (hc : c.says = (c1, v)) (hy : Calls Tryz.prog 146 #[.pointer (some ⟨b, 0, none⟩)] w (Stays b c1 S jv bv dv (.int .i64 v) w)) :
    Calls Tryz.prog 132 #[.pointer (some ⟨b, 0, none⟩), .int .i64 x] w (Ticked b c x S w) := by
  have c26 := h.c26
  rw [hs] at c26
  have hfin : c.step x = (c1, v) := by
    unfold Chip.step
    rw [if_neg (by omega), if_neg (by omega), if_neg (by omega), if_neg (by omega), if_neg (by omega), if_pos hs, hc]
  have FIN := Lib.hid hfin
  have HY := Lib.hid hy
  clear hfin hy h hc hs
  go_enter Tryz.func132, Tryz.ntmps132
  go_wp2_with fail
  refine HY.out.mono ?_
  rintro e w1 ⟨rfl, md1, h1, k1⟩
  have H1 := Lib.hid h1
  have K1 := Lib.hid k1
  clear h1 k1
  go_wp2_with fail
  go_ret
  exact ticked_of FIN.out ⟨rfl, ⟨md1, jv, bv, dv, H1.out⟩, K1.out⟩

set_option maxRecDepth 100000 in
set_option maxHeartbeats 1000000 in
theorem clock_7 (h : ChipIs w b c S md jv bv dv) (x : Int) (hs : c.cmd.stage = 7) :
    Calls Tryz.prog 132 #[.pointer (some ⟨b, 0, none⟩), .int .i64 x] w (Ticked b c x S w) := by
  have c26 := h.c26
  have c35 := h.c35
  have hf := h.free
  rw [hs] at c26
  have hfin : c.step x = ({ c with cmd := { c.cmd with beyond := true } }, 15) := by
    unfold Chip.step
    rw [if_neg (by omega), if_neg (by omega), if_neg (by omega), if_neg (by omega), if_neg (by omega), if_neg (by omega), if_pos hs]
  have FIN := Lib.hid hfin
  have H := Lib.hid h
  clear hfin h hs
  go_enter Tryz.func132, Tryz.ntmps132
  go_wp2_with fail
  go_ret
  exact ticked_of FIN.out ⟨rfl, ⟨md, jv, bv, dv, H.out.set (c' := { c with cmd := { c.cmd with beyond := true } }) (i := 35) (v := .bool true) rfl rfl rfl rfl⟩, (Kept.refl S w).setCell (p := ⟨b, 35, none⟩) (.inl H.out.own) _⟩

set_option maxRecDepth 100000 in
set_option maxHeartbeats 1000000 in
theorem clock_1 (h : ChipIs w b c S md jv bv dv) (x : Int) (hs : c.cmd.stage = 1) :
    Calls Tryz.prog 132 #[.pointer (some ⟨b, 0, none⟩), .int .i64 x] w (Ticked b c x S w) := by
  have c26 := h.c26
  rw [hs] at c26
  have hfin : c.step x = (c, 15) := by
    unfold Chip.step
    rw [if_neg (by omega), if_neg (by omega), if_neg (by omega), if_neg (by omega), if_neg (by omega), if_neg (by omega), if_neg (by omega)]
  have FIN := Lib.hid hfin
  have H := Lib.hid h
  clear hfin h hs
  go_enter Tryz.func132, Tryz.ntmps132
  go_wp2_with fail
  go_ret
  exact ticked_of FIN.out ⟨rfl, ⟨md, jv, bv, dv, H.out⟩, Kept.refl S w⟩

end
end Go.Proofs.YtefoldehejbiiaaGreat
