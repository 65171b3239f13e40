/-
  Walks: a clock.
  Walks: did a command come whole? the page that data tell.
-/
import Derived.Test.YtefoldehejbiiaaGreatM17
import Derived.Test.YtefoldehejbiiaaGreatM19
import Derived.Test.YtefoldehejbiiaaGreatM06

namespace Go.Proofs.YtefoldehejbiiaaGreat
open Go.RowKit Lich

section
variable {w : World} {b : Nat} {c : Chip} {S : Nat → Prop} {md : Bool} {jv bv dv : Value}

theorem says_6 (h : ChipIs w b c S md jv bv dv) {n : Int} (hc : c.cmd.Ok n) (hn : n < 1000000) (hcells : c.cells.length = 4096) (h6 : c.cmd.stage = 6) :
    ∃ c1 v, c.says = (c1, v) ∧ Calls Tryz.prog 146 #[.pointer (some ⟨b, 0, none⟩)] w (Stays b c1 S jv bv dv (.int .i64 v) w) := by
  have ht := hc.told
  have ha := hc.addr
  have hl := hc.left
  have hw := hc.now
  rcases hc.s6 h6 with ⟨hd, h1⟩ | ⟨hd, h1⟩
  · by_cases h0 : c.cmd.left = 0
    · refine ⟨_, _, ?_, says_fresh4 h h0 hd ht.1 (by omega) ha.1 ha.2 hcells⟩
      unfold Chip.says
      simp only [h0, hd, if_true]
      rfl
    · have h2 : c.cmd.left = 1 := by omega
      refine ⟨_, _, ?_, says_on4 h h2 hd hw.1 hw.2⟩
      unfold Chip.says
      simp only [h2, hd]
      simp
  · by_cases h0 : c.cmd.left = 0
    · refine ⟨_, _, ?_, says_fresh1 h h0 hd ht.1 (by omega) ha.1 ha.2 hcells⟩
      unfold Chip.says
      simp only [h0, hd, if_true]
      rfl
    · obtain ⟨j, hj⟩ : ∃ j : Nat, c.cmd.left = (j : Int) + 1 := ⟨(c.cmd.left - 1).toNat, by omega⟩
      refine ⟨_, _, ?_, says_on1 h j (by omega) hj hd hw.1 hw.2⟩
      unfold Chip.says
      rw [hj] at h0
      simp only [hd, hj, if_neg h0]
      simp

theorem clock_calls (h : ChipIs w b c S md jv bv dv) {n : Int} (hc : c.cmd.Ok n) (hn : n < 1000000) (hcells : c.cells.length = 4096) (x : Int) (h0 : 0 ≤ x) (h1 : x < 16) :
    Calls Tryz.prog 132 #[.pointer (some ⟨b, 0, none⟩), .int .i64 x] w (Posted b (c.step x).1 S (.int .i64 (c.step x).2) w) := by
  have hs := hc.stage
  have hl := hc.left
  have ho := hc.op
  obtain e | e | e | e | e | e | e | e : c.cmd.stage = 0 ∨ c.cmd.stage = 1 ∨ c.cmd.stage = 2 ∨ c.cmd.stage = 3 ∨ c.cmd.stage = 4 ∨ c.cmd.stage = 5 ∨ c.cmd.stage = 6 ∨ c.cmd.stage = 7 := by omega
  · have hr := hc.s0 e
    exact (clock_0 h x h0 h1 e hr.2.1 (hr.bd (by omega)) hl.1 (by omega)).mono fun _ _ hh => Now.posted hh
  · exact (clock_1 h x e).mono fun _ _ hh => Now.posted hh
  · obtain ⟨ha, hr⟩ := hc.s2 e
    have ha' : c.cmd.op.addr = 1 ∨ c.cmd.op.addr = 4 := by have := ho.addr; omega
    exact (clock_2 h x h0 h1 e ha' ho.mode ho.data hr.2.1 (hr.bd (by omega)) hl.1 (by omega)).mono fun _ _ hh => Now.posted hh
  · obtain ⟨ha, hr⟩ := hc.s3 e
    have ha' : c.cmd.op.addr = 1 ∨ c.cmd.op.addr = 4 := .inr (ho.mode ha)
    exact (clock_3 h x h0 h1 e ha' ho.mode ho.data hr.2.1 (hr.bd (by omega)) hl.1 (by omega)).mono fun _ _ hh => Now.posted hh
  · exact (clock_4 h x e ho.mode ho.data hl.1 (by omega)).mono fun _ _ hh => Now.posted hh
  · obtain ⟨hd, hr⟩ := hc.s5 e
    have := hc.many
    exact clock_5 h x h0 h1 e hd ho.mode hr.2.1 (hr.bd (by omega)) hl.1 (by omega) (by omega)
  · obtain ⟨c1, v, h2, h3⟩ := says_6 h hc hn hcells e
    exact (clock_6 h x e h2 h3).mono fun _ _ hh => Now.posted hh
  · exact (clock_7 h x e).mono fun _ _ hh => Now.posted hh

theorem fit_of (h : c.Fine) : Fit c := ⟨h.cells, h.job⟩

set_option maxRecDepth 100000 in
set_option maxHeartbeats 1000000 in
/-- A clock of a chip that is in the midst of a command. -/
theorem Clock_calls (h : ChipIs w b c S md jv bv dv) {n : Int} (hc : c.Live n) (hn : n < 1000000) (hsel : c.sel = true) (x : Int) (h0 : 0 ≤ x) (h1 : x < 16) :
    Calls Tryz.prog 118 #[.pointer (some ⟨b, 0, none⟩), .int .i64 x] w (Posted b (c.clock x).1 S (.tuple #[.int .i64 (c.clock x).2, .int .i64 0]) w) := by
  have e : c.clock x = c.pass.step x := Chip.clock_sel hsel x
  rw [e]
  have HP := Lib.hid (pass_calls h (fit_of hc.toFine))
  have hc' := hc.pass
  have hs' : c.pass.sel = true := by rw [Chip.pass_sel]; exact hsel
  have HC := Lib.hid hc'
  have HS := Lib.hid hs'
  clear h hc hsel e hc' hs'
  go_enter Tryz.func118, Tryz.ntmps118
  go_wp2_with fail
  refine HP.out.mono ?_
  rintro e w1 ⟨rfl, ⟨md1, jv1, bv1, dv1, h1'⟩, k1⟩
  have c15 := h1'.c15
  rw [HS.out] at c15
  have H1 := Lib.hid h1'
  have K1 := Lib.hid k1
  clear h1' k1
  go_wp2_with fail
  refine (clock_calls H1.out HC.out.cmd hn HC.out.cells x h0 h1).mono ?_
  rintro e w2 ⟨rfl, p2⟩
  have P2 := Lib.hid p2
  clear p2
  go_wp2_with fail
  go_ret2
  obtain ⟨S', hat, hst⟩ := P2.out
  exact ⟨rfl, S', hat, Step.trans ⟨K1.out, fun _ hk => .inl hk⟩ hst⟩
end
end Go.Proofs.YtefoldehejbiiaaGreat

namespace Go.Proofs.YtefoldehejbiiaaGreat
open Go.RowKit Lich

section
variable {w : World} {b : Nat} {c : Chip} {S : Nat → Prop} {md : Bool} {jv bv dv : Value}

set_option maxRecDepth 100000 in
set_option maxHeartbeats 1000000 in
theorem whole_calls (h : ChipIs w b c S md jv bv dv) (hi : c.cmd.op.inn = true → c.cmd.op.data = 1) :
    Calls Tryz.prog 120 #[.pointer (some ⟨b, 20, none⟩)] w fun e w' => e = .returned (.bool c.cmd.whole) ∧ Below w.heap.size w w' := by
  have c24 := h.c24
  have c25 := h.c25
  have c26 := h.c26
  have c27 := h.c27
  have c35 := h.c35
  by_cases hinn : c.cmd.op.inn = true
  · have hd := hi hinn
    have hr : c.cmd.whole = (c.cmd.stage == 5 && c.cmd.left == 8) := by
      unfold Cmd.whole
      rw [if_pos hinn, hd, Bool.eq_iff_iff]; simp
    rw [hr]
    rw [hinn] at c25
    rw [hd] at c24
    have x26 : ∀ x : Ext w, x.w'.cell? ⟨b, 26, none⟩ = some (.int .i64 c.cmd.stage) := fun x => x.cell c26
    have x27 : ∀ x : Ext w, x.w'.cell? ⟨b, 27, none⟩ = some (.int .i64 c.cmd.left) := fun x => x.cell c27
    have x24 : ∀ x : Ext w, x.w'.cell? ⟨b, 24, none⟩ = some (.int .i64 1) := fun x => x.cell c24
    clear hr h hi hinn hd
    generalize hs : (c.cmd.stage == 5) = s5 at *
    cases s5
    all_goals
      go_enter Tryz.func120, Tryz.ntmps120
      go_wp2_with fail
      refine wp_region_ext (by kernel_rfl) (by kernel_rfl) ?_
      repeat (go_big_quiet_step ((go_at_call 95; exact ext_eq (many1 _))))
      refine wpQuiet_nil ?_
      intro wx hx
      obtain ⟨x, rfl⟩ := hx
      go_wp2_with fail
      go_ret
      exact ⟨ret_bool (by simp), x.below⟩
  · have hinn' : c.cmd.op.inn = false := by simpa using hinn
    rw [hinn'] at c25
    have hr : c.cmd.whole = if c.cmd.op.data = 0 then c.cmd.stage == 7 && !c.cmd.beyond else true := by
      unfold Cmd.whole
      rw [if_neg hinn]
      split
      · rw [Bool.eq_iff_iff]; simp
      · rfl
    rw [hr]
    clear hr hinn hinn' hi h
    by_cases hd : c.cmd.op.data = 0
    · rw [if_pos hd]
      rw [hd] at c24
      generalize hs : (c.cmd.stage == 7) = s5 at *
      cases s5
      all_goals
        go_enter Tryz.func120, Tryz.ntmps120
        go_wp2_with fail
        go_ret
        exact ⟨ret_bool (by simp), Below.refl _ _⟩
    · rw [if_neg hd]
      have hb : (c.cmd.op.data == 0) = false := by simpa using hd
      go_enter Tryz.func120, Tryz.ntmps120
      go_wp2_with fail
      go_ret
      exact ⟨rfl, Below.refl _ _⟩

theorem u8_of (x : Int) : IntKind.u8.wrap x = ((UInt8.ofInt x).toNat : Int) := by
  rw [IntKind.wrap_u8]
  simp only [UInt8.ofInt, UInt8.toNat_ofNat']
  omega

/-- So many of a page's bytes. -/
def pageTo (a : Int) (d : List Int) (k : Nat) : List UInt8 :=
  (d.zipIdx.take k).foldl (fun out (b, i) => out.set ((a + (i : Int)) % 32).toNat (UInt8.ofInt b)) (List.replicate 32 255)

theorem pageTo_all (a : Int) (d : List Int) (k : Nat) (h : k = d.length) : pageTo a d k = pageOf a d := by
  unfold pageTo pageOf
  rw [List.take_of_length_le (by simp; omega)]
theorem pageTo_succ (a : Int) (d : List Int) (k : Nat) (h : k < d.length) : pageTo a d (k + 1) = (pageTo a d k).set ((a + (k : Int)) % 32).toNat (UInt8.ofInt (d.getD k 0)) := by
  unfold pageTo
  rw [List.take_succ_eq_append_getElem (by simpa using h), List.foldl_append]
  simp [List.getD, h]
theorem pageTo_length (a : Int) (d : List Int) (k : Nat) : (pageTo a d k).length = 32 := by
  unfold pageTo
  have : ∀ (l : List (Int × Nat)) (o : List UInt8), o.length = 32 → (l.foldl (fun out (b, i) => out.set ((a + (i : Int)) % 32).toNat (UInt8.ofInt b)) o).length = 32 := by
    intro l
    induction l with
    | nil => intro o h; exact h
    | cons y ys ih => intro o h; exact ih _ (by rw [List.length_set]; exact h)
  exact this _ _ (by simp)

def fullTo (k : Nat) : List UInt8 := List.replicate k 255 ++ List.replicate (32 - k) 0
theorem fullTo_succ (k : Nat) (h : k < 32) : fullTo (k + 1) = (fullTo k).set k 255 := by
  unfold fullTo
  rw [List.set_append_right _ _ (by simp), show 32 - k = (32 - (k + 1)) + 1 from by omega, List.replicate_succ (n := 32 - (k + 1))]
  simp [List.replicate_succ']
theorem fullTo_length (k : Nat) (h : k ≤ 32) : (fullTo k).length = 32 := by unfold fullTo; simp; omega

theorem data_cells (h : ChipIs w b c S md jv bv dv) : (dv = .slice none 0 0 ∧ c.cmd.data = []) ∨ ∃ g cap, dv = .slice (some ⟨g, 0, none⟩) c.cmd.data.length cap ∧ g < w.heap.size ∧ ∀ k, k < c.cmd.data.length → w.cell? ⟨g, k, none⟩ = some (.int .i64 (c.cmd.data.getD k 0)) := by
  have hd := h.data
  rcases hd.2 with ⟨e, h0⟩ | ⟨g, cap, cur, e, _, hg, _⟩
  · exact .inl ⟨e, List.eq_nil_of_length_eq_zero h0⟩
  · refine .inr ⟨g, cap, e, lt_of_block hg, fun k hk => ?_⟩
    have := hd.cells (g := g) (by rw [e]; rfl) k (.int .i64 (c.cmd.data.getD k 0)) (by simp [hk, List.getD])
    have ha : (⟨g, 0, none⟩ : Addr).add k = ⟨g, k, none⟩ := by unfold Addr.add; split <;> simp_all
    rw [ha] at this
    exact this

set_option maxRecDepth 100000 in
set_option maxHeartbeats 2000000 in
theorem page_calls (h : ChipIs w b c S md jv bv dv) (a0 : 0 ≤ c.cmd.addr) (a1 : c.cmd.addr < 4096) (hn : c.cmd.data.length < 1000000) :
    Calls Tryz.prog 122 #[.pointer (some ⟨b, 20, none⟩)] w fun e w' => e = .returned (.string (S8 (pageOf c.cmd.addr c.cmd.data))) ∧ Below w.heap.size w w' := by
  have hmk : ∀ w, (Instr.makeSlice 70 (.int .i64 32) (.int .i64 32)).run Tryz.prog w = .ok (.slice (some ⟨w.heap.size, 0, none⟩) 32 32) (w.alloc (.cells (bytesOf (fullTo 0) 0) 5)) := fun _ => by kernel_rfl
  have c29 := h.c29
  have c32 := h.c32
  have hbl := h.lt
  have hdc := data_cells h
  obtain ⟨R, hR⟩ : ∃ R, R = pageOf c.cmd.addr c.cmd.data := ⟨_, rfl⟩
  rw [← hR]
  generalize c.cmd.addr = a at *
  generalize c.cmd.data = ds at *
  have HR := Lib.hid hR
  clear h hR
  go_enter Tryz.func122, Tryz.ntmps122
  go_wp2_with fail
  go_loopw [10] (fun i wr => ∃ k : Nat, k ≤ 32 ∧ i = .int .i64 k ∧ Below w.heap.size w wr ∧ wr.heap[w.heap.size]? = some (.cells (bytesOf (fullTo k) 0) 5 (0, 0))) (fun i _ => 32 - (intOf i).toNat)
  case atStart => exact ⟨0, Nat.zero_le _, rfl, below_new (Below.refl _ _) _, blk_new _ _ _ rfl⟩
  case round =>
    obtain ⟨k, hk, rfl, hb, hblk⟩ := hrel
    by_cases hlt : k < 32
    · have hz : wr.frozen? ⟨w.heap.size, k, none⟩ = false := blk_free hblk
      have hc : wr.cell? ⟨w.heap.size, k, none⟩ = some (.int .u8 (((fullTo k).getD k 0).toNat : Int)) := by
        rw [blk_cell hblk, bytesOf_get (by rw [fullTo_length k (by omega)]; omega)]
      have HK := Lib.hid hblk
      clear hblk
      go_wp2_with fail
      go_roundw
      case rel =>
        refine ⟨k + 1, by omega, by go_num, hb.setCell (by simp) _, ?_⟩
        rw [fullTo_succ k hlt, ← bytesOf_set (by rw [fullTo_length k (by omega)]; omega)]
        exact blk_set HK.out _
      case measure => simp [intOf]; omega
    · have hke : k = 32 := by omega
      subst hke
      have d32 : wr.cell? ⟨b, 32, none⟩ = some dv := by rw [hb.cell (by exact hbl)]; exact c32
      have HK := Lib.hid hblk
      clear hblk
      rcases hdc with ⟨rfl, hd0⟩ | ⟨g, cap, rfl, hgl, hcells⟩
      · have hback := run_convert_bytes_back (P := Tryz.prog) wr 70 9 5 ⟨w.heap.size, 0, none⟩ 32 (fullTo 32) und137 und5 und9 (fun j hj => by
          have ha : (⟨w.heap.size, 0, none⟩ : Addr).add j = ⟨w.heap.size, j, none⟩ := by unfold Addr.add; split <;> simp_all
          rw [ha, blk_cell HK.out, bytesOf_get hj]
          simp [List.getD, hj])
        have hl : (fullTo 32).length = 32 := by decide
        rw [hl] at hback
        subst hd0
        go_wp2_with fail
        go_loopw [22] (fun i w' => i = .int .i64 0 ∧ w' = wr) (fun _ _ => 0)
        case atStart => exact ⟨rfl, rfl⟩
        case round =>
          obtain ⟨rfl, rfl⟩ := hrel
          go_wp2_with fail
          go_ret
          exact ⟨by rw [HR.out]; rfl, hb⟩
      · go_wp2_with fail
        go_loopw [22] (fun i w' => ∃ k : Nat, k ≤ ds.length ∧ i = .int .i64 k ∧ Below w.heap.size w w' ∧ w'.heap[w.heap.size]? = some (.cells (bytesOf (pageTo a ds k) 0) 5 (0, 0))) (fun i _ => ds.length - (intOf i).toNat)
        case atStart => exact ⟨0, Nat.zero_le _, rfl, hb, HK.out⟩
        case round =>
          obtain ⟨k, hk, rfl, hb2, hblk⟩ := hrel
          by_cases hkd : k < ds.length
          · have dk : wr.cell? ⟨g, k, none⟩ = some (.int .i64 (ds.getD k 0)) := by rw [hb2.cell (by exact hgl)]; exact hcells k hkd
            have d29 : wr.cell? ⟨b, 29, none⟩ = some (.int .i64 a) := by rw [hb2.cell (by exact hbl)]; exact c29
            have HN := Lib.hid (pageTo_succ a ds k hkd)
            obtain ⟨q, hq⟩ : ∃ q : Nat, (a + (k : Int)) % 32 = q := ⟨((a + (k : Int)) % 32).toNat, by omega⟩
            have hql : q < 32 := by omega
            have hqc : wr.cell? ⟨w.heap.size, q, none⟩ = some (.int .u8 (((pageTo a ds k).getD q 0).toNat : Int)) := by
              rw [blk_cell hblk, bytesOf_get (by rw [pageTo_length]; omega)]
            have hqf : wr.frozen? ⟨w.heap.size, q, none⟩ = false := blk_free hblk
            have hqn : ((a + (k : Int)) % 32).toNat = q := by omega
            have HQ := Lib.hid hqn
            have HB := Lib.hid hblk
            have hrem : IntKind.i64.wrap ((a + (k : Int)).tmod 32) = q := by rw [Int.tmod_eq_emod_of_nonneg (by omega), IntKind.wrap_i64]; omega
            clear hblk hqn
            generalize ds.getD k 0 = y at *
            go_wp2_with fail
            refine ⟨⟨k + 1, by omega, by go_num, hb2.setCell (by simp) _, ?_⟩, by simp [intOf]; omega⟩
            have hu : y % 256 = ((UInt8.ofInt y).toNat : Int) := by rw [← u8_of, IntKind.wrap_u8]
            rw [HN.out, HQ.out, hu, ← bytesOf_set (by rw [pageTo_length]; omega)]
            exact blk_set HB.out _
          · have hke : k = ds.length := by omega
            have HE := Lib.hid hke
            have HB := Lib.hid hblk
            have hback := run_convert_bytes_back (P := Tryz.prog) wr 70 9 5 ⟨w.heap.size, 0, none⟩ 32 (pageTo a ds k) und137 und5 und9 (fun j hj => by
              have ha : (⟨w.heap.size, 0, none⟩ : Addr).add j = ⟨w.heap.size, j, none⟩ := by unfold Addr.add; split <;> simp_all
              rw [ha, blk_cell hblk, bytesOf_get hj]
              simp [List.getD, hj])
            rw [pageTo_length] at hback
            clear hblk hke
            go_wp2_with fail
            go_ret
            exact ⟨by rw [HR.out, ← pageTo_all a ds k HE.out]; rfl, hb2⟩
end
end Go.Proofs.YtefoldehejbiiaaGreat
