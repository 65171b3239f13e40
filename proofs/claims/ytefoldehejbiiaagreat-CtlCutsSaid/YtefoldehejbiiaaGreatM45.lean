/-
  Walks: cells that are laid: blank, a text over and over.
  Walks: a new chip; are numbers the same?
  Walks: are numbers the same?; the twins.
  Walks: the twins of chapter 11's laws.
  A controller stays fine, whatever is asked of it; the contracts for a controller and all that it owns.
-/
import Derived.Test.YtefoldehejbiiaaGreatM44

set_option linter.unusedSimpArgs false
set_option linter.unusedVariables false
namespace Go.Proofs.YtefoldehejbiiaaGreat
open Go.RowKit Lich

def partTo (f g : Nat → UInt8) (N k : Nat) : List UInt8 := (List.range N).map fun i => if i < k then f i else g i

theorem partTo_len (f g : Nat → UInt8) (N k : Nat) : (partTo f g N k).length = N := by simp [partTo]
theorem partTo_set (f g : Nat → UInt8) (N k : Nat) (h : k < N) : (partTo f g N k).set k (f k) = partTo f g N (k + 1) := by
  unfold partTo
  apply List.ext_getElem
  · simp
  · intro i h1 h2
    simp only [List.length_set, List.length_map, List.length_range] at h1
    simp only [List.getElem_set, List.getElem_map, List.getElem_range]
    split
    · rename_i e; subst e; simp
    · by_cases hi : i < k
      · rw [if_pos hi, if_pos (by omega)]
      · rw [if_neg hi, if_neg (by omega)]
theorem partTo_get (f g : Nat → UInt8) (N k i : Nat) (h : i < N) : (partTo f g N k).getD i 0 = if i < k then f i else g i := by
  unfold partTo
  simp [List.getD, h]
theorem partTo_all (f g : Nat → UInt8) (N : Nat) : partTo f g N N = (List.range N).map f := by
  unfold partTo
  apply List.map_congr_left
  intro i hi
  rw [if_pos (by simpa using hi)]
theorem partTo_none (f g : Nat → UInt8) (N : Nat) : partTo f g N 0 = (List.range N).map g := by
  unfold partTo
  apply List.map_congr_left
  intro i hi
  simp

def blankCells : List UInt8 := List.replicate 4096 255
/-- What the twins hold. -/
def twinCells (s : List UInt8) : List UInt8 := if s = [] then blankCells else (List.range 4096).map fun i => s.getD (i % s.length) 0
theorem blankCells_len : blankCells.length = 4096 := List.length_replicate
theorem twinCells_len (s : List UInt8) : (twinCells s).length = 4096 := by
  unfold twinCells
  split
  · exact blankCells_len
  · rw [List.length_map, List.length_range]
theorem replicate_range (N : Nat) : List.replicate N (255 : UInt8) = (List.range N).map fun _ => 255 := by
  apply List.ext_getElem
  · simp
  · intro i h1 h2
    simp

theorem info_u8 : (Tryz.prog.info? 5).map (fun i => (i.zero, i.size, i.bytes)) = some (some (.int .u8 0), 1, 1) := by kernel_rfl

/-- A row of bytes that is made. -/
theorem make_bytes (N : Nat) (hN : N ≤ 100000) (w : World) : ∃ w1 cs, (Instr.makeSlice 70 (.int .i64 N) (.int .i64 N)).run Tryz.prog w = .ok (.slice (some ⟨w.heap.size, 0, none⟩) N N) w1 ∧ Below w.heap.size w w1 ∧ w1.heap[w.heap.size]? = some (.cells cs 5 (0, 0)) ∧ cs.size = N := by
  obtain ⟨i0, hi0, hz0, hz1, hz2⟩ := info_parts info_u8
  obtain ⟨w1, hr, hown, hg⟩ := run_make_full (P := Tryz.prog) w w.heap.size 70 5 i0 _ 1 und137 hi0 hz0 hz1 .i64 .i64 N (by rw [hz2]; omega) (by simp [maxLen]; omega) (Nat.le_refl _)
  have hb : Below w.heap.size w w1 := below_grown (Below.refl _ w) hg (by simp)
  rcases hown.2 with ⟨e, _⟩ | ⟨g, cap, cur, e, _, hh, _, _, hc, _⟩
  · cases e
  · simp only [Value.slice.injEq, Option.some.injEq, Addr.mk.injEq, and_true, true_and] at e
    obtain ⟨rfl, rfl⟩ := e
    exact ⟨w1, cur, hr, hb, hh, by omega⟩

set_option maxRecDepth 100000 in
set_option maxHeartbeats 1000000 in
theorem full_calls (N : Nat) (hN : N ≤ 100000) (w : World) :
    Calls Tryz.prog 61 #[.int .i64 N] w fun e w' => e = .returned (.string (S8 (List.replicate N 255))) ∧ Below w.heap.size w w' := by
  obtain ⟨w1, cs, hmk, hb1, hblk, hcs⟩ := make_bytes N hN w
  have HBLK := Lib.hid hblk
  have HB1 := Lib.hid hb1
  clear hblk hb1
  go_enter Tryz.func61, Tryz.ntmps61
  go_wp2_with fail
  go_loopw [4] (fun i wr => ∃ (k : Nat) (cs : Array Value), k ≤ N ∧ i = .int .i64 k ∧ Below w.heap.size w wr ∧ wr.heap[w.heap.size]? = some (.cells cs 5 (0, 0)) ∧ cs.size = N ∧ ∀ j, j < k → cs[j]? = some (.int .u8 255)) (fun i _ => N - (intOf i).toNat)
  case atStart => exact ⟨0, cs, Nat.zero_le _, rfl, HB1.out, HBLK.out, hcs, by simp⟩
  case round =>
    obtain ⟨k, ds, hk, rfl, hb, hblk, hds, hval⟩ := hrel
    by_cases hlt : k < N
    · have hc : wr.cell? ⟨w.heap.size, k, none⟩ = some (ds[k]'(by omega)) := by
        rw [blk_cell hblk]; exact Array.getElem?_eq_getElem (by omega)
      have hz : wr.frozen? ⟨w.heap.size, k, none⟩ = false := blk_free hblk
      have HB := Lib.hid hb
      have HK := Lib.hid hblk
      have HV := Lib.hid hval
      clear hb hblk hval
      go_wp2_with fail
      refine ⟨⟨k + 1, ds.setIfInBounds k (.int .u8 255), by omega, by go_num, HB.out.setCell (Nat.le_refl _) _, blk_set HK.out _, by simp [hds], fun j hj => ?_⟩, by simp [intOf]; omega⟩
      by_cases hjk : j = k
      · subst hjk; rw [Array.getElem?_setIfInBounds_self_of_lt (by omega)]
      · rw [Array.getElem?_setIfInBounds_ne (fun e => hjk e.symm)]; exact HV.out j (by omega)
    · have hke : k = N := by omega
      have hback := run_convert_bytes_back (P := Tryz.prog) wr 70 9 5 ⟨w.heap.size, 0, none⟩ N (List.replicate N 255) und137 und5 und9 (fun j hj => by
        have hj' : j < N := by rw [List.length_replicate] at hj; exact hj
        have ha : (⟨w.heap.size, 0, none⟩ : Addr).add j = ⟨w.heap.size, j, none⟩ := by unfold Addr.add; split <;> simp_all
        rw [ha, blk_cell hblk, hval j (by omega)]
        simp)
      rw [List.length_replicate] at hback
      have HB := Lib.hid hb
      clear hblk hval hb
      go_wp2_with fail
      go_ret
      exact ⟨rfl, HB.out⟩

theorem blank_calls (w : World) : Calls Tryz.prog 35 #[] w fun e w' => e = .returned (.string (S8 blankCells)) ∧ Below w.heap.size w w' := by
  have hf := full_calls 4096 (by decide) w
  rw [show ((4096 : Nat) : Int) = 4096 from rfl, show List.replicate 4096 (255 : UInt8) = blankCells from rfl] at hf
  have HF := Lib.hid hf
  clear hf
  generalize blankCells = bc at *
  go_enter Tryz.func35, Tryz.ntmps35
  go_wp2_with fail
  refine HF.out.mono ?_
  rintro e w1 ⟨rfl, hb⟩
  have HB := Lib.hid hb
  clear hb
  go_wp2_with fail
  go_ret
  exact ⟨rfl, HB.out⟩
end Go.Proofs.YtefoldehejbiiaaGreat

namespace Go.Proofs.YtefoldehejbiiaaGreat
open Go.RowKit Lich

def NewChip (a : List UInt8) (w : World) (e : Ending) (w' : World) : Prop :=
  ∃ b S, e = .returned (.tuple #[.pointer (some ⟨b, 0, none⟩), .int .i64 0]) ∧ ChipAt w' b { cells := a } S ∧ Below w.heap.size w w' ∧ (∀ k, S k → w.heap.size ≤ k) ∧ S b

set_option maxRecDepth 100000 in
theorem chipNew_calls (a : List UInt8) (ha : a.length = 4096) (w : World) : Calls Tryz.prog 36 #[.string (S8 a)] w (NewChip a w) := by
  have hm := cellMay_calls a w
  rw [ha] at hm
  have HM := Lib.hid hm
  clear hm
  go_enter Tryz.func36, Tryz.ntmps36
  go_wp2_with fail
  refine HM.out.mono ?_
  rintro e w1 ⟨rfl, rfl⟩
  go_wp2_with fail
  go_ret2
  refine ⟨w.heap.size, fun k => k = w.heap.size, rfl, ⟨false, .pointer none, .slice none 0 0, .slice none 0 0, ⟨blk_new _ _ _ rfl, rfl, rfl, .inl ⟨rfl, rfl⟩, World.ownsRow_nil _ _ _ _, by simp [Value.ownBlock], by simp [Value.ownBlock]⟩⟩, below_new (Below.refl _ w) _, fun k hk => by omega, rfl⟩

theorem num_calls (n : Int) (w : World) : Calls Tryz.prog 13 #[.int .i64 n] w fun e w' => e = .returned (.int .i64 n) ∧ w = w' := by
  go_enter Tryz.func13, Tryz.ntmps13
  go_wp2
  go_ret
  exact ⟨rfl, rfl⟩
end Go.Proofs.YtefoldehejbiiaaGreat

namespace Go.Proofs.YtefoldehejbiiaaGreat
open Go.RowKit Lich

set_option maxRecDepth 100000 in
set_option maxHeartbeats 1000000 in
theorem sameInts_calls (xs ys : List Int) (hn : xs.length < 1000000) (hm : ys.length < 1000000) (v u : Value) (w : World) (hv : RowIs w v xs) (hu : RowIs w u ys) :
    Calls Tryz.prog 21 #[v, u] w fun e w' => e = .returned (.bool (decide (xs = ys))) ∧ ∃ n, w' = w.drewN n := by
  have HV := Lib.hid hv
  have HU := Lib.hid hu
  obtain ⟨a, c, rfl⟩ := hv.len
  obtain ⟨b, d, rfl⟩ := hu.len
  clear hv hu
  by_cases hl : xs.length = ys.length
  · have hlb : ((xs.length : Int) != (ys.length : Int)) = false := by simp [hl]
    have hsame : (∀ j, j < xs.length → xs.getD j 0 = ys.getD j 0) → decide (xs = ys) = true := fun h => by
      rw [decide_eq_true_eq]
      apply List.ext_getElem hl
      intro i h1 h2
      have := h i h1
      simpa [List.getD, h1, h2] using this
    have hdiff : ∀ j, j < xs.length → xs.getD j 0 ≠ ys.getD j 0 → decide (xs = ys) = false := fun j _ h => by
      rw [decide_eq_false_iff_not]
      intro e
      exact h (by rw [e])
    have HS := Lib.hid hsame
    have HD := Lib.hid hdiff
    have hcx : ∀ j, j < xs.length → ∃ g o, a = some ⟨g, o, none⟩ ∧ w.cell? ⟨g, o + j, none⟩ = some (.int .i64 (xs.getD j 0)) := fun j hj => by
      rcases HV.out with ⟨_, e⟩ | ⟨g, o, cp, e, _, h⟩
      · rw [e] at hj; simp at hj
      · simp only [Value.slice.injEq] at e
        exact ⟨g, o, e.1, h j hj⟩
    have hcy : ∀ j, j < xs.length → ∃ g o, b = some ⟨g, o, none⟩ ∧ w.cell? ⟨g, o + j, none⟩ = some (.int .i64 (ys.getD j 0)) := fun j hj => by
      rcases HU.out with ⟨_, e⟩ | ⟨g, o, cp, e, _, h⟩
      · rw [hl, e] at hj; simp at hj
      · simp only [Value.slice.injEq] at e
        exact ⟨g, o, e.1, h j (by omega)⟩
    have HX := Lib.hid hcx
    have HY := Lib.hid hcy
    have HL := Lib.hid hl
    clear hsame hdiff hcx hcy
    generalize decide (xs = ys) = R at *
    go_enter Tryz.func21, Tryz.ntmps21
    go_wp2_with fail
    go_loopw [5] (fun i wr => ∃ (k n : Nat), k ≤ xs.length ∧ i = .int .i64 k ∧ (∀ j, j < k → xs.getD j 0 = ys.getD j 0) ∧ w.drewN n = wr) (fun i _ => xs.length - (intOf i).toNat)
    case atStart => exact ⟨0, 0, Nat.zero_le _, rfl, by simp, rfl⟩
    case round =>
      obtain ⟨k, n, hk, rfl, h0, rfl⟩ := hrel
      have H0 := Lib.hid h0
      clear h0
      by_cases hlt : k < xs.length
      · obtain ⟨g1, o1, rfl, cx⟩ := HX.out k hlt
        obtain ⟨g2, o2, rfl, cy⟩ := HY.out k hlt
        have HDk := Lib.hid (HD.out k hlt)
        have i0 : (0 : Int) ≤ (k : Int) := by omega
        have i1 : (k : Int) < (xs.length : Int) := by omega
        have i2 : (k : Int) < (ys.length : Int) := by omega
        by_cases hxy : xs.getD k 0 = ys.getD k 0
        · have hxb : (xs.getD k 0 != ys.getD k 0) = false := by rw [hxy]; exact bne_self_eq_false _
          have hstep : ∀ j, j < k + 1 → xs.getD j 0 = ys.getD j 0 := fun j hj => by
            rcases Nat.lt_or_ge j k with h | h
            · exact H0.out j h
            · rw [show j = k by omega]; exact hxy
          have HST := Lib.hid hstep
          clear hstep hxy
          generalize xs.getD k 0 = x at *
          generalize ys.getD k 0 = y at *
          go_wp2_with fail
          go_quiet (fail)
          go_wp2_with fail
          exact ⟨⟨k + 1, n + nq, by omega, by go_num, HST.out, rfl⟩, by simp [intOf]; omega⟩
        · have hxb : (xs.getD k 0 != ys.getD k 0) = true := bne_iff_ne.2 hxy
          have HF := Lib.hid (HDk.out hxy)
          clear hxy
          generalize xs.getD k 0 = x at *
          generalize ys.getD k 0 = y at *
          go_wp2_with fail
          go_quiet (fail)
          go_wp2_with fail
          go_ret
          exact ⟨ret_bool HF.out.symm, n + nq, World.drewN_drewN ..⟩
      · have hke : k = xs.length := by omega
        have HF := Lib.hid (HS.out (fun j hj => H0.out j (by omega)))
        go_wp2_with fail
        go_ret
        exact ⟨ret_bool HF.out.symm, n, rfl⟩
  · have hlb : ((xs.length : Int) != (ys.length : Int)) = true := by simp; omega
    have hR : decide (xs = ys) = false := by rw [decide_eq_false_iff_not]; intro e; exact hl (by rw [e])
    rw [hR]
    clear hR
    go_enter Tryz.func21, Tryz.ntmps21
    go_wp2_with fail
    go_ret
    exact ⟨rfl, 0, rfl⟩

set_option maxRecDepth 100000 in
theorem refMay_calls (a : List UInt8) (w : World) : Calls Tryz.prog 63 #[.string (S8 a)] w fun e w' => e = .returned (.bool (a.length = 4096)) ∧ w = w' := by
  have h := S8_size a
  go_enter Tryz.func63, Tryz.ntmps63
  go_wp2
  go_ret
  exact ⟨ret_bool (by rw [Bool.beq_eq_decide_eq]; apply decide_eq_decide.2; omega), rfl⟩

/-- The document's chip, new: where it stands, where its counts are. -/
def RefNew (a : List UInt8) (w : World) (e : Ending) (w' : World) : Prop :=
  ∃ r, e = .returned (.tuple #[.pointer (some ⟨r, 0, none⟩), .int .i64 0]) ∧ Below w.heap.size w w' ∧ w.heap.size ≤ r

set_option maxRecDepth 100000 in
theorem refNew_calls (a : List UInt8) (ha : a.length = 4096) (w : World) : Calls Tryz.prog 37 #[.string (S8 a)] w (RefNew a w) := by
  have hmk : ∀ w, (Instr.makeSlice 32 (.int .i64 8) (.int .i64 8)).run Tryz.prog w = .ok (.slice (some ⟨w.heap.size, 0, none⟩) 8 8) (w.alloc (.cells #[.int .i64 0, .int .i64 0, .int .i64 0, .int .i64 0, .int .i64 0, .int .i64 0, .int .i64 0, .int .i64 0] 3)) := fun _ => by kernel_rfl
  have hm := refMay_calls a w
  rw [ha] at hm
  have HM := Lib.hid hm
  clear hm
  go_enter Tryz.func37, Tryz.ntmps37
  go_wp2_with fail
  refine HM.out.mono ?_
  rintro e w1 ⟨rfl, rfl⟩
  go_wp2_with fail
  go_ret2
  exact ⟨_, rfl, below_new (below_new (Below.refl _ w) _) _, by omega⟩
end Go.Proofs.YtefoldehejbiiaaGreat

namespace Go.Proofs.YtefoldehejbiiaaGreat
open Go.RowKit Lich

def TwinsAt (s : List UInt8) (w : World) (e : Ending) (w' : World) : Prop :=
  ∃ b r S, e = .returned (.tuple #[.pointer (some ⟨b, 0, none⟩), .pointer (some ⟨r, 0, none⟩)]) ∧ ChipAt w' b { cells := twinCells s } S ∧ Below w.heap.size w w' ∧ (∀ k, S k → w.heap.size ≤ k)

theorem twinCells_ne {s : List UInt8} (h : s ≠ []) : twinCells s = partTo (fun i => s.getD (i % s.length) 0) (fun _ => 255) 4096 4096 := by
  unfold twinCells
  rw [if_neg h, partTo_all]

set_option maxRecDepth 100000 in
set_option maxHeartbeats 2000000 in
theorem twins_calls (s : List UInt8) (hs : s.length < 1000000000000000) (w : World) : Calls Tryz.prog 11 #[.string (S8 s)] w (TwinsAt s w) := by
  have hsz := S8_size s
  have hbl := blank_calls w
  have hbc : blankCells = partTo (fun i => s.getD (i % s.length) 0) (fun _ => 255) 4096 0 := by rw [partTo_none]; exact replicate_range 4096
  have hbcl := blankCells_len
  obtain ⟨N, hN⟩ : ∃ N : Nat, N = 4096 := ⟨_, rfl⟩
  have hfin0 : s = [] → twinCells s = blankCells := fun e => by unfold twinCells; rw [if_pos e]
  have hfin1 : s ≠ [] → twinCells s = partTo (fun i => s.getD (i % s.length) 0) (fun _ => 255) N N := fun e => by rw [hN]; exact twinCells_ne e
  have htl := twinCells_len s
  rw [← hN] at hbc hbcl htl
  have hn5 : N < 5000 := by omega
  have hn0 : (0 : Int) < (N : Int) := by omega
  have HNN := Lib.hid hN
  clear hN
  have hcv0 := fun w1 => Lib.run_convert_string_bytes (P := Tryz.prog) w1 9 70 5 (S8 blankCells) und9 und137 und5
  have hbw0 := fun w1 => bytes_below w1 blankCells
  have hbn0 := fun w1 => bytes_world w1 blankCells
  generalize blankCells = bc at *
  have HBL := Lib.hid hbl
  clear hbl
  go_enter Tryz.func11, Tryz.ntmps11
  go_wp2_with fail
  refine HBL.out.mono ?_
  rintro e w1 ⟨rfl, hb1⟩
  have hconv := hcv0 w1
  have hbw := hbw0 w1
  obtain ⟨z, hbn⟩ := hbn0 w1
  clear hcv0 hbw0 hbn0
  have hsz1 : (S8 bc).size = N := by rw [S8_size, hbcl]
  rw [hsz1] at hconv
  generalize Lib.bytesWorld w1 5 (S8 bc) = w2 at hconv hbw hbn
  generalize grownCap w1 N 0 5 = cap at hconv
  have hb2 : Below w.heap.size w w2 := hb1.trans (hbw.mono hb1.size)
  have hw1 := hb1.size
  generalize w1.heap.size = g at *
  have HB2 := Lib.hid hb2
  have HBN := Lib.hid hbn
  clear hb2 hbn hb1 hbw
  by_cases he : s = []
  · have htw := hfin0 he
    have hs0 : s.length = 0 := by rw [he]; rfl
    have hsb : decide (0 < s.length) = false := by simp [hs0]
    clear hfin0 hfin1 hs0 hbc he
    go_wp2_with fail
    go_loopw [5] (fun i wr => i = .int .i64 0 ∧ w2 = wr) (fun _ _ => 0)
    case atStart => exact ⟨rfl, rfl⟩
    case round =>
      obtain ⟨rfl, rfl⟩ := hrel
      have HBLK := HBN
      have HBR := HB2
      have hbt : w2.heap[g]? = some (.cells (bytesOf (twinCells s) z) 5 (bc.length + z, bc.length + z + 1)) := by rw [htw]; exact HBLK.out
      have hback : ∀ u : World, u.heap[g]? = w2.heap[g]? → (convert 70 9 (.slice (some ⟨g, 0, none⟩) N cap)).run Tryz.prog u = .ok (.string (S8 (twinCells s))) u := fun u hu => by
        have := run_convert_bytes_back (P := Tryz.prog) u 70 9 5 ⟨g, 0, none⟩ cap (twinCells s) und137 und5 und9 (fun j hj => by
          have ha : (⟨g, 0, none⟩ : Addr).add j = ⟨g, j, none⟩ := by unfold Addr.add; split <;> simp_all
          rw [ha, blk_cell (hu.trans hbt), bytesOf_get hj]
          simp [List.getD, hj])
        rw [htl] at this
        exact this
      have hbk1 := hback w2 rfl
      have HBK := Lib.hid hback
      have hgl := lt_of_block hbt
      have htl4 : (twinCells s).length = 4096 := by rw [htl]; exact HNN.out
      have HTL := Lib.hid htl4
      clear hback hbt htw htl htl4
      generalize hT : twinCells s = T at *
      have HT := Lib.hid hT
      clear hT
      go_wp2_with fail
      refine (chipNew_calls T HTL.out w2).mono ?_
      rintro e w5 ⟨b, S, rfl, hchip, hb5, hS, hSb⟩
      have hbk2 := HBK.out w5 (hb5.block g hgl)
      have HCH := Lib.hid hchip
      have HB5 := Lib.hid hb5
      have HSS := Lib.hid hS
      clear hchip hb5 hS
      go_wp2_with fail
      refine (refNew_calls T HTL.out w5).mono ?_
      rintro e w6 ⟨r, rfl, hb6, hr6⟩
      have HB6 := Lib.hid hb6
      clear hb6
      go_wp2_with fail
      go_ret2
      refine ⟨b, r, S, rfl, ?_, (HBR.out.trans (HB5.out.mono HBR.out.size)).trans (HB6.out.mono (Nat.le_trans HBR.out.size HB5.out.size)), fun j hj => Nat.le_trans HBR.out.size (HSS.out j hj)⟩
      rw [HT.out]
      exact HCH.out.keep (R := fun _ => False) (Kept.of_below HB6.out) (fun _ _ e => e)
  · have htw := hfin1 he
    have hpos : 0 < s.length := List.length_pos_iff.2 he
    have hsb : decide (0 < s.length) = true := by simp [hpos]
    have hset := fun k h => partTo_set (fun i => s.getD (i % s.length) 0) (fun _ => 255) N k h
    have HBC := Lib.hid hbc
    have HSET := Lib.hid hset
    clear hfin0 hfin1 hset he hbc
    go_wp2_with fail
    go_loopw [5] (fun i wr => ∃ k : Nat, k ≤ N ∧ i = .int .i64 k ∧ Below w.heap.size w wr ∧ wr.heap[g]? = some (.cells (bytesOf (partTo (fun i => s.getD (i % s.length) 0) (fun _ => 255) N k) z) 5 (bc.length + z, bc.length + z + 1))) (fun i _ => N - (intOf i).toNat)
    case atStart => exact ⟨0, Nat.zero_le _, rfl, HB2.out, by rw [← HBC.out]; exact HBN.out⟩
    case round =>
      obtain ⟨k, hk, rfl, hb, hblk⟩ := hrel
      by_cases hlt : k < N
      · have hc : wr.cell? ⟨g, k, none⟩ = some (.int .u8 (((partTo (fun i => s.getD (i % s.length) 0) (fun _ => 255) N k).getD k 0).toNat : Int)) := by
          rw [blk_cell hblk, bytesOf_get (by rw [partTo_len]; exact hlt)]
        have hz : wr.frozen? ⟨g, k, none⟩ = false := by simp [World.frozen?, hblk]; omega
        have h4 : (S8 s)[k % s.length]? = some (s.getD (k % s.length) 0) := S8_get (Nat.mod_lt _ hpos)
        have h5 : (0 : Int) ≤ (k : Int) % (s.length : Int) := Int.emod_nonneg _ (by omega)
        have h6 : (k : Int) % (s.length : Int) < (s.length : Int) := Int.emod_lt_of_pos _ (by omega)
        have hset2 : (bytesOf (partTo (fun i => s.getD (i % s.length) 0) (fun _ => 255) N k) z).setIfInBounds k (.int .u8 ((s.getD (k % s.length) 0).toNat : Int)) = bytesOf (partTo (fun i => s.getD (i % s.length) 0) (fun _ => 255) N (k + 1)) z := by
          rw [bytesOf_set (by rw [partTo_len]; exact hlt)]
          rw [HSET.out k hlt]
        have HB := Lib.hid hb
        have HK := Lib.hid hblk
        have HS2 := Lib.hid hset2
        have hkn : k < 5000 := by omega
        clear hb hblk hset2
        generalize (partTo (fun i => s.getD (i % s.length) 0) (fun _ => 255) N k).getD k 0 = old at hc
        generalize s.getD (k % s.length) 0 = x at *
        have h7 : ∀ h, (S8 s)[k % s.length]'h = x := fun h => by
          rw [getElem?_pos (S8 s) _ h] at h4; exact Option.some.inj h4
        go_wp2_with fail
        exact ⟨⟨k + 1, by omega, by go_num, HB.out.setCell hw1 _, by rw [blk_set HK.out, HS2.out]⟩, by simp [intOf]; omega⟩
      · have hke : k = N := by omega
        subst hke
        have HBLK := Lib.hid hblk
        have HBR := Lib.hid hb
        clear hb hblk
        have hbt : wr.heap[g]? = some (.cells (bytesOf (twinCells s) z) 5 (bc.length + z, bc.length + z + 1)) := by rw [htw]; exact HBLK.out
        have hback : ∀ u : World, u.heap[g]? = wr.heap[g]? → (convert 70 9 (.slice (some ⟨g, 0, none⟩) k cap)).run Tryz.prog u = .ok (.string (S8 (twinCells s))) u := fun u hu => by
          have := run_convert_bytes_back (P := Tryz.prog) u 70 9 5 ⟨g, 0, none⟩ cap (twinCells s) und137 und5 und9 (fun j hj => by
            have ha : (⟨g, 0, none⟩ : Addr).add j = ⟨g, j, none⟩ := by unfold Addr.add; split <;> simp_all
            rw [ha, blk_cell (hu.trans hbt), bytesOf_get hj]
            simp [List.getD, hj])
          rw [htl] at this
          exact this
        have hbk1 := hback wr rfl
        have HBK := Lib.hid hback
        have hgl := lt_of_block hbt
        have htl4 : (twinCells s).length = 4096 := by rw [htl]; exact HNN.out
        have HTL := Lib.hid htl4
        clear hback hbt htw htl htl4
        generalize hT : twinCells s = T at *
        have HT := Lib.hid hT
        clear hT
        go_wp2_with fail
        refine (chipNew_calls T HTL.out wr).mono ?_
        rintro e w5 ⟨b, S, rfl, hchip, hb5, hS, hSb⟩
        have hbk2 := HBK.out w5 (hb5.block g hgl)
        have HCH := Lib.hid hchip
        have HB5 := Lib.hid hb5
        have HSS := Lib.hid hS
        clear hchip hb5 hS
        go_wp2_with fail
        refine (refNew_calls T HTL.out w5).mono ?_
        rintro e w6 ⟨r, rfl, hb6, hr6⟩
        have HB6 := Lib.hid hb6
        clear hb6
        go_wp2_with fail
        go_ret2
        refine ⟨b, r, S, rfl, ?_, (HBR.out.trans (HB5.out.mono HBR.out.size)).trans (HB6.out.mono (Nat.le_trans HBR.out.size HB5.out.size)), fun j hj => Nat.le_trans HBR.out.size (HSS.out j hj)⟩
        rw [HT.out]
        exact HCH.out.keep (R := fun _ => False) (Kept.of_below HB6.out) (fun _ _ e => e)
end Go.Proofs.YtefoldehejbiiaaGreat

namespace Go.Proofs.YtefoldehejbiiaaGreat
open Go.RowKit Lich

theorem Ctl.drive_fine {k : Ctl} (h : k.Fine) (hl : k.lost = false) {ps : List Phase} (hok : ps.all Phase.okB = true) (hlen : ps.length ≤ 20) :
    (k.drive ps).1.Fine ∧ (k.drive ps).1.clocks ≤ k.clocks + 200000 ∧ (k.drive ps).2.1.length ≤ 20000 ∧ ((k.drive ps).2.2 = 0 → (k.drive ps).1.lost = false) := by
  obtain ⟨c', xs, n, t, hd⟩ := driveOn_drives h.chip (h.sel hl) hok hlen k.left
  rw [Ctl.drive_eq hd]
  have h0 := hd.n0
  have h1 := hd.n1
  have hc := h.clocks
  have hlf := h.left
  have hlf2 : (if 0 ≤ k.left then k.left - n else k.left) < 9223372036854775808 := by split <;> omega
  cases t
  · rw [if_neg (by simp)]
    refine ⟨⟨hd.fine, by simp, h.regs, h.reg, h.len, h.out, h.outB, h.inn, ?_, hlf2⟩, ?_, by simp, by simp⟩
    · show 0 ≤ k.clocks + n; omega
    · show k.clocks + n ≤ _; omega
  · rw [if_pos rfl]
    refine ⟨⟨hd.fine, fun _ => hd.sel rfl, h.regs, h.reg, h.len, h.out, h.outB, h.inn, ?_, hlf2⟩, ?_, hd.len, fun _ => hl⟩
    · show 0 ≤ k.clocks + n; omega
    · show k.clocks + n ≤ _; omega

theorem Ctl.fin_fine {k : Ctl} (h : k.Fine) (hl : k.lost = false) {ps : List Phase} (hok : ps.all Phase.okB = true) (hlen : ps.length ≤ 20) (b : Int) (data : List Int) :
    (k.fin b data ps).1.Fine ∧ (k.fin b data ps).1.clocks ≤ k.clocks + 200000 ∧ (k.fin b data ps).2.1.length ≤ 20000 := by
  obtain ⟨h1, h2, h3, _⟩ := Ctl.drive_fine h hl hok hlen
  unfold Ctl.fin
  simp only
  split
  · exact ⟨⟨h1.chip, h1.sel, h1.regs, h1.reg, h1.len, h1.out, h1.outB, h1.inn, h1.clocks, h1.left⟩, h2, h3⟩
  · exact ⟨h1, h2, h3⟩

theorem Ctl.run_fine {k : Ctl} (h : k.Fine) (b at_ : Int) (data : List Int) (read : Int) :
    (k.run b at_ data read).1.Fine ∧ (k.run b at_ data read).1.clocks ≤ k.clocks + 400000 ∧ (k.run b at_ data read).2.1.length ≤ 20000 := by
  have hc := h.clocks
  cases hl : k.lost
  case true => rw [Ctl.run_lost hl]; exact ⟨h, by show k.clocks ≤ _; omega, by simp⟩
  cases ho : opOf b with
  | none => rw [Ctl.run_none hl ho]; exact ⟨h, by show k.clocks ≤ _; omega, by simp⟩
  | some o =>
    have ho' : opOf o.byte = some o := by rw [opOf_byte ho]; exact ho
    by_cases hcm : CmdOk o at_ data read
    · have hc := commandOf_good ho' hcm
      obtain ⟨hall, hlen⟩ := cmdPhases_ok ho' hcm
      cases hg : k.goes
      case false =>
        rw [Ctl.run_plain hl ho hc hg]
        obtain ⟨h1, h2, h3⟩ := Ctl.fin_fine h hl hall (by omega) b data
        exact ⟨h1, by omega, h3⟩
      case true =>
        by_cases hb : b = 235
        · rw [Ctl.run_tail hl ho hc hg hb]
          obtain ⟨h1, h2, h3⟩ := Ctl.fin_fine h hl (ps := (cmdPhases o at_ data read).tail) (List.all_eq_true.2 fun p hp => List.all_eq_true.1 hall p (List.mem_of_mem_tail hp)) (by simp; omega) b data
          exact ⟨h1, by omega, h3⟩
        · rw [Ctl.run_leave hl ho hc hg hb]
          obtain ⟨g1, g2, g3, g4⟩ := Ctl.drive_fine h hl (ps := Lich.leaving) (by decide) (by decide)
          split
          · rename_i he
            have hl4 := g4 he
            have hf : Ctl.Fine { (k.drive Lich.leaving).1 with goes := false } := ⟨g1.chip, g1.sel, g1.regs, g1.reg, g1.len, g1.out, g1.outB, g1.inn, g1.clocks, g1.left⟩
            obtain ⟨h1, h2, h3⟩ := Ctl.fin_fine hf hl4 hall (by omega) b data
            refine ⟨h1, ?_, h3⟩
            have h2' : (Ctl.fin b data { (k.drive Lich.leaving).1 with goes := false } (cmdPhases o at_ data read)).1.clocks ≤ (k.drive Lich.leaving).1.clocks + 200000 := h2
            omega
          · exact ⟨g1, by show (k.drive Lich.leaving).1.clocks ≤ _; omega, by simp⟩
    · rw [Ctl.run_bad hl ho (commandOf_bad hcm)]; exact ⟨h, by show k.clocks ≤ _; omega, by simp⟩

theorem Ctl.cut_fine {k : Ctl} (h : k.Fine) (n : Int) (hn : n < 9223372036854775808) : (k.cut n).1.Fine ∧ (k.cut n).1.clocks = k.clocks := by
  unfold Ctl.cut
  split
  · exact ⟨h, rfl⟩
  · exact ⟨⟨h.chip, h.sel, h.regs, h.reg, h.len, h.out, h.outB, h.inn, h.clocks, hn⟩, rfl⟩

theorem Ctl.write_fine {k : Ctl} (h : k.Fine) (r x : Int) : (k.write r x).1.Fine ∧ (k.write r x).1.clocks = k.clocks := by
  unfold Ctl.write
  split
  · exact ⟨h, rfl⟩
  split
  · exact ⟨h, rfl⟩
  rename_i hm
  simp only [Bool.not_eq_false] at hm
  split
  · rename_i h4
    subst h4
    have hx : 0 ≤ x ∧ x < 256 := by
      unfold regMay at hm
      rw [if_neg (by omega), if_neg (by omega)] at hm
      simpa using hm
    split
    · exact ⟨h, rfl⟩
    · rename_i hl
      refine ⟨⟨h.chip, h.sel, h.regs, h.reg, h.len, ?_, ?_, h.inn, h.clocks, h.left⟩, rfl⟩
      · have := h.out; simp only [List.length_append, List.length_singleton]; omega
      · intro y hy
        rcases List.mem_append.1 hy with hy | hy
        · exact h.outB y hy
        · simp only [List.mem_singleton] at hy; subst hy; exact hx
  · rename_i h4
    have hr : (r = 0 ∨ r = 1) ∧ 0 ≤ x ∧ x < 4096 ∨ r = 2 ∧ 0 ≤ x ∧ x ≤ 16 := by
      unfold regMay at hm
      split at hm
      · rename_i h0
        exact .inl ⟨h0, by simpa using hm⟩
      · split at hm
        · rename_i h2
          exact .inr ⟨h2, by simpa using hm⟩
        · simp [h4] at hm
    have h3 := h.regs
    have h5 := h.len
    refine ⟨⟨h.chip, h.sel, by simp [h3], ?_, ?_, h.out, h.outB, h.inn, h.clocks, h.left⟩, rfl⟩
    · intro y hy
      rcases List.mem_or_eq_of_mem_set hy with hy | hy
      · exact h.reg y hy
      · subst hy; omega
    · show 0 ≤ (k.regs.set r.toNat x).getD 2 0 ∧ (k.regs.set r.toNat x).getD 2 0 ≤ 16
      rcases hr with ⟨rfl | rfl, _⟩ | ⟨rfl, hx⟩
      · have := (getD_set0 k.regs x h3).2.2
        rw [show (0 : Int).toNat = 0 from rfl, this]; exact h5
      · have := (getD_set1 k.regs x h3).2.2
        rw [show (1 : Int).toNat = 1 from rfl, this]; exact h5
      · have := (getD_set2 k.regs x h3).2.2
        rw [show (2 : Int).toNat = 2 from rfl, this]; exact hx

theorem Ctl.read_fine {k : Ctl} (h : k.Fine) (r : Int) : (k.read r).1.Fine ∧ (k.read r).1.clocks = k.clocks := by
  unfold Ctl.read
  repeat' split
  all_goals first
    | exact ⟨h, rfl⟩
    | (refine ⟨⟨h.chip, h.sel, h.regs, h.reg, h.len, h.out, h.outB, ?_, h.clocks, h.left⟩, rfl⟩
       have := h.inn
       simp only [List.length_tail]
       omega)

theorem Ctl.go_fine {k : Ctl} (h : k.Fine) : k.go.1.Fine ∧ k.go.1.clocks ≤ k.clocks + 400000 := by
  have hc := h.clocks
  unfold Ctl.go
  split
  · exact ⟨h, by show k.clocks ≤ _; omega⟩
  split
  · exact ⟨h, by show k.clocks ≤ _; omega⟩
  · obtain ⟨h1, h2, _⟩ := Ctl.run_fine h (k.regs.getD 0 0) (k.regs.getD 1 0) k.out (k.regs.getD 2 0)
    simp only
    split
    · exact ⟨⟨h1.chip, h1.sel, h1.regs, h1.reg, h1.len, h1.out, h1.outB, by simp; omega, h1.clocks, h1.left⟩, h2⟩
    · exact ⟨⟨h1.chip, h1.sel, h1.regs, h1.reg, h1.len, by simp, by simp, by simp; omega, h1.clocks, h1.left⟩, h2⟩

theorem Chip.Fine.fresh {a : List UInt8} (ha : a.length = 4096) : Chip.Fine { cells := a } := ⟨ha, rfl, by simp, by simp⟩
theorem Ctl.new_fine {c : Chip} (hc : c.Fine) (hs : c.sel = false) : (Ctl.new c).Fine := by
  refine ⟨hc, fun _ => hs, rfl, ?_, ⟨by show (0 : Int) ≤ 0; decide, by show (0 : Int) ≤ 16; decide⟩, by show 0 ≤ 16; decide, by simp [Ctl.new], by show 0 ≤ 16; decide, by show (0 : Int) ≤ 0; decide, by show (-1 : Int) < 9223372036854775808; decide⟩
  intro x hx
  simp only [Ctl.new, List.mem_cons, List.not_mem_nil, or_false] at hx
  omega

section
variable {w : World} {q b : Nat} {k : Ctl} {S : Nat → Prop}
theorem CtlIs.run (h : CtlIs w q b k S) (hk : k.Fine) (hc1 : k.clocks < 3000000000000000000) (bb at_ : Int) (data : List Int) (dv : Value) (read : Int) (hv : RowIs w dv data) (hdf : ∀ g, dv.ownBlock = some g → ¬ S g) :
    Calls Tryz.prog 17 #[.pointer (some ⟨q, 0, none⟩), .int .i64 bb, .int .i64 at_, dv, .int .i64 read] w (CtlGave q b (k.run bb at_ data read) S w) := by
  obtain ⟨fo, fi, md, lv, gl, gb, Sc, hm, rfl⟩ := h
  exact ctlRun_calls hm hk hc1 bb at_ data dv read hv hdf
theorem CtlIs.write (h : CtlIs w q b k S) (hk : k.Fine) (r x : Int) :
    Calls Tryz.prog 14 #[.pointer (some ⟨q, 0, none⟩), .int .i64 r, .int .i64 x] w (CtlPost q b (k.write r x).1 S (.int .i64 (k.write r x).2) w) := by
  obtain ⟨fo, fi, md, lv, gl, gb, Sc, hm, rfl⟩ := h
  exact ctlWrite_calls hm hk.regs r x
theorem CtlIs.read (h : CtlIs w q b k S) (r : Int) :
    Calls Tryz.prog 15 #[.pointer (some ⟨q, 0, none⟩), .int .i64 r] w (CtlPost q b (k.read r).1 S (.tuple #[.int .i64 (k.read r).2.1, .int .i64 (k.read r).2.2]) w) := by
  obtain ⟨fo, fi, md, lv, gl, gb, Sc, hm, rfl⟩ := h
  exact ctlRead_calls hm r
theorem CtlIs.cut (h : CtlIs w q b k S) (n : Int) : Calls Tryz.prog 16 #[.pointer (some ⟨q, 0, none⟩), .int .i64 n] w (CtlPost q b (k.cut n).1 S (.int .i64 (k.cut n).2) w) := by
  obtain ⟨fo, fi, md, lv, gl, gb, Sc, hm, rfl⟩ := h
  exact ctlCut_calls hm n
theorem CtlIs.go (h : CtlIs w q b k S) (hk : k.Fine) (hc1 : k.clocks < 3000000000000000000) :
    Calls Tryz.prog 18 #[.pointer (some ⟨q, 0, none⟩)] w (CtlPost q b (k.go).1 S (.int .i64 (k.go).2) w) := by
  obtain ⟨fo, fi, md, lv, gl, gb, Sc, hm, rfl⟩ := h
  have := (Ctl.run_fine hk (k.regs.getD 0 0) (k.regs.getD 1 0) k.out (k.regs.getD 2 0)).2.2
  exact ctlGo_calls hm hk hc1 (by omega)
theorem CtlIs.lost (h : CtlIs w q b k S) : Calls Tryz.prog 20 #[.pointer (some ⟨q, 0, none⟩)] w fun e w' => e = .returned (.bool k.lost) ∧ w = w' := by
  obtain ⟨fo, fi, md, lv, gl, gb, Sc, hm, rfl⟩ := h
  exact ctlLost_calls hm
theorem CtlIs.clocks (h : CtlIs w q b k S) : Calls Tryz.prog 19 #[.pointer (some ⟨q, 0, none⟩)] w fun e w' => e = .returned (.int .i64 k.clocks) ∧ w = w' := by
  obtain ⟨fo, fi, md, lv, gl, gb, Sc, hm, rfl⟩ := h
  exact ctlClocks_calls hm
theorem CtlIs.lt (h : CtlIs w q b k S) : ∀ j, S j → j < w.heap.size := by
  obtain ⟨fo, fi, md, lv, gl, gb, Sc, hm, rfl⟩ := h
  exact fun j hj => hm.feet_lt hj
theorem CtlIs.keep {R : Nat → Prop} {w' : World} (h : CtlIs w q b k S) (hk : Kept R w w') (hd : ∀ j, S j → ¬ R j) : CtlIs w' q b k S := by
  obtain ⟨fo, fi, md, lv, gl, gb, Sc, hm, rfl⟩ := h
  exact ⟨fo, fi, md, lv, gl, gb, Sc, hm.keep hk hd, rfl⟩
end

theorem below_step {n : Nat} {S S' : Nat → Prop} {w w1 w2 : World} (hb : Below n w w1) (hs : Step S S' w1 w2) (hS : ∀ j, S j → n ≤ j) (hn : n ≤ w1.heap.size) : Below n w w2 :=
  ⟨hs.os.trans hb.os, hs.tape.trans hb.tape, hs.output.trans hb.output, Nat.le_trans hb.size hs.size, fun j hj => by rw [hs.block j (Nat.lt_of_lt_of_le hj hn) (fun e => by have := hS j e; omega)]; exact hb.block j hj⟩
end Go.Proofs.YtefoldehejbiiaaGreat
