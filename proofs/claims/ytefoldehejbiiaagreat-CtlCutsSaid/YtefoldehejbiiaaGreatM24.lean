/-
  Walks: a byte's clocks.
  Walks: the byte of clocks.
  Phases that are driven: what stands in memory; a clock.
-/
import Derived.Test.YtefoldehejbiiaaGreatM23
import Derived.Test.YtefoldehejbiiaaGreatM02
import Derived.Test.YtefoldehejbiiaaGreatM11

set_option linter.unusedSimpArgs false
set_option linter.unusedVariables false
namespace Go.Proofs.YtefoldehejbiiaaGreat
open Go.RowKit Lich

theorem lanes_calls (l : Int) (w : World) : Calls Tryz.prog 113 #[.int .i64 l] w fun e w' => e = .returned (.bool (l == 1 || l == 4)) ∧ w = w' := by
  by_cases h : (l == 1) = true
  · go_enter Tryz.func113, Tryz.ntmps113
    go_wp2_with fail
    go_ret
    exact ⟨ret_bool (by simp [h]), rfl⟩
  · have h' : (l == 1) = false := by simpa using h
    go_enter Tryz.func113, Tryz.ntmps113
    go_wp2_with fail
    go_ret
    exact ⟨ret_bool (by simp [h']), rfl⟩

theorem byte_calls (b : Int) (w : World) : Calls Tryz.prog 64 #[.int .i64 b] w fun e w' => e = .returned (.bool (decide (0 ≤ b) && decide (b < 256))) ∧ w = w' := by
  by_cases h : decide (0 ≤ b) = true
  · go_enter Tryz.func64, Tryz.ntmps64
    go_wp2_with fail
    go_ret
    exact ⟨ret_bool (by simp [h]), rfl⟩
  · have h' : decide (0 ≤ b) = false := by simpa using h
    go_enter Tryz.func64, Tryz.ntmps64
    go_wp2_with fail
    go_ret
    exact ⟨ret_bool (by simp [h']), rfl⟩

theorem below_grown {w w1 w2 : World} {row : Option Nat} (h : Below w.heap.size w w1) (hg : w1.grownBy w2 row) (hr : ∀ k, row = some k → w.heap.size ≤ k) : Below w.heap.size w w2 :=
  ⟨hg.os.trans h.os, hg.tape.trans h.tape, hg.output.trans h.output, Nat.le_trans h.size hg.size, fun k hk => by
    rw [hg.block k (Nat.lt_of_lt_of_le hk h.size) (fun e => by have := hr k e.symm; omega), h.block k hk]⟩

set_option maxRecDepth 100000 in
set_option maxHeartbeats 4000000 in
theorem Out4_calls (b : Int) (b0 : 0 ≤ b) (b1 : b < 256) (w : World) :
    Calls Tryz.prog 117 #[.int .i64 b, .int .i64 4] w (fun e w' => ∃ g cap, e = .returned (.tuple #[.slice (some ⟨g, 0, none⟩) 2 cap, .int .i64 0]) ∧
      w'.ownsRow w.heap.size 3 1 (.slice (some ⟨g, 0, none⟩) 2 cap) 2 ((laneOut b 4).map (.int .i64)) ∧ Below w.heap.size w w') := by
  obtain ⟨i0, hi0, hz0, hz1, hz2⟩ := info_parts info_int
  have hB := byte_calls b w
  have hBt : (decide (0 ≤ b) && decide (b < 256)) = true := by simp [b0, b1]
  rw [hBt] at hB
  have HB := Lib.hid hB
  clear hB hBt
  have hv : (∀ k : Nat, k < 2 → ((laneOut b 4).take (k + 1)).map (Value.int .i64) = ((laneOut b 4).take k).map (Value.int .i64) ++ [.int .i64 (bits .and .i64 (b / 2 ^ (4 - 4 * k)) 15)]) := fun k hk => by
    have hm : ∀ j : Nat, bits .and .i64 (b / 2 ^ j) 15 = b / 2 ^ j % 16 := fun j => by
      have h0 : 0 ≤ b / 2 ^ j := Int.ediv_nonneg b0 (Int.le_of_lt (Int.pow_pos (by decide)))
      have h1 : b / 2 ^ j ≤ b := Int.ediv_le_self _ b0
      exact i64_and_mask 4 15 (by decide) (by decide) h0 (by omega)
    rw [hm]
    obtain rfl | rfl : k = 0 ∨ k = 1 := by omega
    all_goals simp [laneOut, bitsOf]
  have HV := Lib.hid hv
  clear hv
  go_enter Tryz.func117, Tryz.ntmps117
  go_wp2_with fail
  refine (lanes_calls 4 _).mono ?_
  rintro e w' ⟨rfl, rfl⟩
  go_wp2_with fail
  refine HB.out.mono ?_
  rintro e w' ⟨rfl, rfl⟩
  go_wp2_with fail
  go_loopw [6, 7] (fun v at_ wr => ∃ k : Nat, k ≤ 2 ∧ at_ = .int .i64 (4 - 4 * (k : Int)) ∧ wr.ownsRow w.heap.size 3 1 v k (((laneOut b 4).take k).map (.int .i64)) ∧ Below w.heap.size w wr) (fun _ at_ _ => (intOf at_ + 4).toNat)
  case atStart => exact ⟨0, Nat.zero_le _, rfl, World.ownsRow_nil _ _ _ _, Below.refl _ _⟩
  case round =>
    obtain ⟨k, hk, rfl, hown, hb⟩ := hrel
    obtain rfl | rfl | rfl : k = 0 ∨ k = 1 ∨ k = 2 := by omega
    · rw [show ((4 : Int) - 4 * ((0 : Nat) : Int)) = 4 from rfl]
      go_wp2_with fail
      go_region_law
        (refine step_append_lies _ (by rfl) _ _ _ (by rfl) w.heap.size 3 i0 _ 1 8 und_ints hi0 hz0 hz1 hz2 rfl (by omega) u6 0 _ (by rfl) (ownsRow_keep hown.drew ((Kept.refl (fun _ => False) _).alloc _) (fun _ _ hh => hh))
            ⟨wr.heap.size, 0, none⟩ 1 1 [.int .i64 _] (by rfl) (by rfl) (World.news_of_block (cs := #[.int .i64 _]) (t := 3) (fr := (0, 0)) (heap_alloc_new _ _)) (by simp [Value.oneCell'])
            (by omega) (by simp [maxLen]) (by omega) (by simp; have := hb.size; omega) (wr.heap.size + 1) (by simp) ?_
         intro gg cap w2 hown1 hgrow hat hlt)
      all_goals
        go_wp2_with fail
        refine ⟨⟨1, by decide, rfl, ?_, below_grown ((hb.drew).alloc (by have := hb.size; simpa using this) _) hgrow (fun q hq => (hown.lt q hq).1)⟩, by decide⟩
        have e := HV.out 0 (by decide)
        rw [show (2 : Int) ^ (4 - 4 * 0) = 16 from by decide] at e
        skip
        rw [e]
        exact hown1
    · rw [show ((4 : Int) - 4 * ((1 : Nat) : Int)) = 0 from rfl]
      go_wp2_with fail
      go_region_law
        (refine step_append_lies _ (by rfl) _ _ _ (by rfl) w.heap.size 3 i0 _ 1 8 und_ints hi0 hz0 hz1 hz2 rfl (by omega) u6 1 _ (by rfl) (ownsRow_keep hown.drew ((Kept.refl (fun _ => False) _).alloc _) (fun _ _ hh => hh))
            ⟨wr.heap.size, 0, none⟩ 1 1 [.int .i64 _] (by rfl) (by rfl) (World.news_of_block (cs := #[.int .i64 _]) (t := 3) (fr := (0, 0)) (heap_alloc_new _ _)) (by simp [Value.oneCell'])
            (by omega) (by simp [maxLen]) (by omega) (by simp; have := hb.size; omega) (wr.heap.size + 1) (by simp) ?_
         intro gg cap w2 hown1 hgrow hat hlt)
      all_goals
        go_wp2_with fail
        refine ⟨⟨2, by decide, rfl, ?_, below_grown ((hb.drew).alloc (by have := hb.size; simpa using this) _) hgrow (fun q hq => (hown.lt q hq).1)⟩, by decide⟩
        have e := HV.out 1 (by decide)
        rw [show (2 : Int) ^ (4 - 4 * 1) = 1 from by decide] at e
        rw [Int.ediv_one] at e
        rw [e]
        exact hown1

    · rw [show ((4 : Int) - 4 * ((2 : Nat) : Int)) = -4 from rfl]
      obtain ⟨gg, cap, rfl, _⟩ := hown.form (by decide)
      go_wp2_with fail
      go_ret2
      refine ⟨gg, cap, rfl, ?_, hb⟩
      have e : (laneOut b 4).take 2 = laneOut b 4 := by simp [laneOut, bitsOf]
      rw [e] at hown
      exact hown

set_option maxRecDepth 100000 in
set_option maxHeartbeats 4000000 in
theorem Out1_calls (b : Int) (b0 : 0 ≤ b) (b1 : b < 256) (w : World) :
    Calls Tryz.prog 117 #[.int .i64 b, .int .i64 1] w (fun e w' => ∃ g cap, e = .returned (.tuple #[.slice (some ⟨g, 0, none⟩) 8 cap, .int .i64 0]) ∧
      w'.ownsRow w.heap.size 3 1 (.slice (some ⟨g, 0, none⟩) 8 cap) 8 ((laneOut b 1).map (.int .i64)) ∧ Below w.heap.size w w') := by
  obtain ⟨i0, hi0, hz0, hz1, hz2⟩ := info_parts info_int
  have hB := byte_calls b w
  have hBt : (decide (0 ≤ b) && decide (b < 256)) = true := by simp [b0, b1]
  rw [hBt] at hB
  have HB := Lib.hid hB
  clear hB hBt
  have hv : (∀ k : Nat, k < 8 → ((laneOut b 1).take (k + 1)).map (Value.int .i64) = ((laneOut b 1).take k).map (Value.int .i64) ++ [.int .i64 (bits .and .i64 (b / 2 ^ (7 - 1 * k)) 1)]) := fun k hk => by
    have hm : ∀ j : Nat, bits .and .i64 (b / 2 ^ j) 1 = b / 2 ^ j % 2 := fun j => by
      have h0 : 0 ≤ b / 2 ^ j := Int.ediv_nonneg b0 (Int.le_of_lt (Int.pow_pos (by decide)))
      have h1 : b / 2 ^ j ≤ b := Int.ediv_le_self _ b0
      exact i64_and_mask 1 1 (by decide) (by decide) h0 (by omega)
    rw [hm]
    obtain rfl | rfl | rfl | rfl | rfl | rfl | rfl | rfl : k = 0 ∨ k = 1 ∨ k = 2 ∨ k = 3 ∨ k = 4 ∨ k = 5 ∨ k = 6 ∨ k = 7 := by omega
    all_goals simp [laneOut, bitsOf]
  have HV := Lib.hid hv
  clear hv
  go_enter Tryz.func117, Tryz.ntmps117
  go_wp2_with fail
  refine (lanes_calls 1 _).mono ?_
  rintro e w' ⟨rfl, rfl⟩
  go_wp2_with fail
  refine HB.out.mono ?_
  rintro e w' ⟨rfl, rfl⟩
  go_wp2_with fail
  go_loopw [6, 7] (fun v at_ wr => ∃ k : Nat, k ≤ 8 ∧ at_ = .int .i64 (7 - 1 * (k : Int)) ∧ wr.ownsRow w.heap.size 3 1 v k (((laneOut b 1).take k).map (.int .i64)) ∧ Below w.heap.size w wr) (fun _ at_ _ => (intOf at_ + 1).toNat)
  case atStart => exact ⟨0, Nat.zero_le _, rfl, World.ownsRow_nil _ _ _ _, Below.refl _ _⟩
  case round =>
    obtain ⟨k, hk, rfl, hown, hb⟩ := hrel
    obtain rfl | rfl | rfl | rfl | rfl | rfl | rfl | rfl | rfl : k = 0 ∨ k = 1 ∨ k = 2 ∨ k = 3 ∨ k = 4 ∨ k = 5 ∨ k = 6 ∨ k = 7 ∨ k = 8 := by omega
    · rw [show ((7 : Int) - 1 * ((0 : Nat) : Int)) = 7 from rfl]
      go_wp2_with fail
      go_region_law
        (refine step_append_lies _ (by rfl) _ _ _ (by rfl) w.heap.size 3 i0 _ 1 8 und_ints hi0 hz0 hz1 hz2 rfl (by omega) u6 0 _ (by rfl) (ownsRow_keep hown.drew ((Kept.refl (fun _ => False) _).alloc _) (fun _ _ hh => hh))
            ⟨wr.heap.size, 0, none⟩ 1 1 [.int .i64 _] (by rfl) (by rfl) (World.news_of_block (cs := #[.int .i64 _]) (t := 3) (fr := (0, 0)) (heap_alloc_new _ _)) (by simp [Value.oneCell'])
            (by omega) (by simp [maxLen]) (by omega) (by simp; have := hb.size; omega) (wr.heap.size + 1) (by simp) ?_
         intro gg cap w2 hown1 hgrow hat hlt)
      all_goals
        go_wp2_with fail
        refine ⟨⟨1, by decide, rfl, ?_, below_grown ((hb.drew).alloc (by have := hb.size; simpa using this) _) hgrow (fun q hq => (hown.lt q hq).1)⟩, by decide⟩
        have e := HV.out 0 (by decide)
        rw [show (2 : Int) ^ (7 - 1 * 0) = 128 from by decide] at e
        skip
        rw [e]
        exact hown1
    · rw [show ((7 : Int) - 1 * ((1 : Nat) : Int)) = 6 from rfl]
      go_wp2_with fail
      go_region_law
        (refine step_append_lies _ (by rfl) _ _ _ (by rfl) w.heap.size 3 i0 _ 1 8 und_ints hi0 hz0 hz1 hz2 rfl (by omega) u6 1 _ (by rfl) (ownsRow_keep hown.drew ((Kept.refl (fun _ => False) _).alloc _) (fun _ _ hh => hh))
            ⟨wr.heap.size, 0, none⟩ 1 1 [.int .i64 _] (by rfl) (by rfl) (World.news_of_block (cs := #[.int .i64 _]) (t := 3) (fr := (0, 0)) (heap_alloc_new _ _)) (by simp [Value.oneCell'])
            (by omega) (by simp [maxLen]) (by omega) (by simp; have := hb.size; omega) (wr.heap.size + 1) (by simp) ?_
         intro gg cap w2 hown1 hgrow hat hlt)
      all_goals
        go_wp2_with fail
        refine ⟨⟨2, by decide, rfl, ?_, below_grown ((hb.drew).alloc (by have := hb.size; simpa using this) _) hgrow (fun q hq => (hown.lt q hq).1)⟩, by decide⟩
        have e := HV.out 1 (by decide)
        rw [show (2 : Int) ^ (7 - 1 * 1) = 64 from by decide] at e
        skip
        rw [e]
        exact hown1
    · rw [show ((7 : Int) - 1 * ((2 : Nat) : Int)) = 5 from rfl]
      go_wp2_with fail
      go_region_law
        (refine step_append_lies _ (by rfl) _ _ _ (by rfl) w.heap.size 3 i0 _ 1 8 und_ints hi0 hz0 hz1 hz2 rfl (by omega) u6 2 _ (by rfl) (ownsRow_keep hown.drew ((Kept.refl (fun _ => False) _).alloc _) (fun _ _ hh => hh))
            ⟨wr.heap.size, 0, none⟩ 1 1 [.int .i64 _] (by rfl) (by rfl) (World.news_of_block (cs := #[.int .i64 _]) (t := 3) (fr := (0, 0)) (heap_alloc_new _ _)) (by simp [Value.oneCell'])
            (by omega) (by simp [maxLen]) (by omega) (by simp; have := hb.size; omega) (wr.heap.size + 1) (by simp) ?_
         intro gg cap w2 hown1 hgrow hat hlt)
      all_goals
        go_wp2_with fail
        refine ⟨⟨3, by decide, rfl, ?_, below_grown ((hb.drew).alloc (by have := hb.size; simpa using this) _) hgrow (fun q hq => (hown.lt q hq).1)⟩, by decide⟩
        have e := HV.out 2 (by decide)
        rw [show (2 : Int) ^ (7 - 1 * 2) = 32 from by decide] at e
        skip
        rw [e]
        exact hown1
    · rw [show ((7 : Int) - 1 * ((3 : Nat) : Int)) = 4 from rfl]
      go_wp2_with fail
      go_region_law
        (refine step_append_lies _ (by rfl) _ _ _ (by rfl) w.heap.size 3 i0 _ 1 8 und_ints hi0 hz0 hz1 hz2 rfl (by omega) u6 3 _ (by rfl) (ownsRow_keep hown.drew ((Kept.refl (fun _ => False) _).alloc _) (fun _ _ hh => hh))
            ⟨wr.heap.size, 0, none⟩ 1 1 [.int .i64 _] (by rfl) (by rfl) (World.news_of_block (cs := #[.int .i64 _]) (t := 3) (fr := (0, 0)) (heap_alloc_new _ _)) (by simp [Value.oneCell'])
            (by omega) (by simp [maxLen]) (by omega) (by simp; have := hb.size; omega) (wr.heap.size + 1) (by simp) ?_
         intro gg cap w2 hown1 hgrow hat hlt)
      all_goals
        go_wp2_with fail
        refine ⟨⟨4, by decide, rfl, ?_, below_grown ((hb.drew).alloc (by have := hb.size; simpa using this) _) hgrow (fun q hq => (hown.lt q hq).1)⟩, by decide⟩
        have e := HV.out 3 (by decide)
        rw [show (2 : Int) ^ (7 - 1 * 3) = 16 from by decide] at e
        skip
        rw [e]
        exact hown1
    · rw [show ((7 : Int) - 1 * ((4 : Nat) : Int)) = 3 from rfl]
      go_wp2_with fail
      go_region_law
        (refine step_append_lies _ (by rfl) _ _ _ (by rfl) w.heap.size 3 i0 _ 1 8 und_ints hi0 hz0 hz1 hz2 rfl (by omega) u6 4 _ (by rfl) (ownsRow_keep hown.drew ((Kept.refl (fun _ => False) _).alloc _) (fun _ _ hh => hh))
            ⟨wr.heap.size, 0, none⟩ 1 1 [.int .i64 _] (by rfl) (by rfl) (World.news_of_block (cs := #[.int .i64 _]) (t := 3) (fr := (0, 0)) (heap_alloc_new _ _)) (by simp [Value.oneCell'])
            (by omega) (by simp [maxLen]) (by omega) (by simp; have := hb.size; omega) (wr.heap.size + 1) (by simp) ?_
         intro gg cap w2 hown1 hgrow hat hlt)
      all_goals
        go_wp2_with fail
        refine ⟨⟨5, by decide, rfl, ?_, below_grown ((hb.drew).alloc (by have := hb.size; simpa using this) _) hgrow (fun q hq => (hown.lt q hq).1)⟩, by decide⟩
        have e := HV.out 4 (by decide)
        rw [show (2 : Int) ^ (7 - 1 * 4) = 8 from by decide] at e
        skip
        rw [e]
        exact hown1
    · rw [show ((7 : Int) - 1 * ((5 : Nat) : Int)) = 2 from rfl]
      go_wp2_with fail
      go_region_law
        (refine step_append_lies _ (by rfl) _ _ _ (by rfl) w.heap.size 3 i0 _ 1 8 und_ints hi0 hz0 hz1 hz2 rfl (by omega) u6 5 _ (by rfl) (ownsRow_keep hown.drew ((Kept.refl (fun _ => False) _).alloc _) (fun _ _ hh => hh))
            ⟨wr.heap.size, 0, none⟩ 1 1 [.int .i64 _] (by rfl) (by rfl) (World.news_of_block (cs := #[.int .i64 _]) (t := 3) (fr := (0, 0)) (heap_alloc_new _ _)) (by simp [Value.oneCell'])
            (by omega) (by simp [maxLen]) (by omega) (by simp; have := hb.size; omega) (wr.heap.size + 1) (by simp) ?_
         intro gg cap w2 hown1 hgrow hat hlt)
      all_goals
        go_wp2_with fail
        refine ⟨⟨6, by decide, rfl, ?_, below_grown ((hb.drew).alloc (by have := hb.size; simpa using this) _) hgrow (fun q hq => (hown.lt q hq).1)⟩, by decide⟩
        have e := HV.out 5 (by decide)
        rw [show (2 : Int) ^ (7 - 1 * 5) = 4 from by decide] at e
        skip
        rw [e]
        exact hown1
    · rw [show ((7 : Int) - 1 * ((6 : Nat) : Int)) = 1 from rfl]
      go_wp2_with fail
      go_region_law
        (refine step_append_lies _ (by rfl) _ _ _ (by rfl) w.heap.size 3 i0 _ 1 8 und_ints hi0 hz0 hz1 hz2 rfl (by omega) u6 6 _ (by rfl) (ownsRow_keep hown.drew ((Kept.refl (fun _ => False) _).alloc _) (fun _ _ hh => hh))
            ⟨wr.heap.size, 0, none⟩ 1 1 [.int .i64 _] (by rfl) (by rfl) (World.news_of_block (cs := #[.int .i64 _]) (t := 3) (fr := (0, 0)) (heap_alloc_new _ _)) (by simp [Value.oneCell'])
            (by omega) (by simp [maxLen]) (by omega) (by simp; have := hb.size; omega) (wr.heap.size + 1) (by simp) ?_
         intro gg cap w2 hown1 hgrow hat hlt)
      all_goals
        go_wp2_with fail
        refine ⟨⟨7, by decide, rfl, ?_, below_grown ((hb.drew).alloc (by have := hb.size; simpa using this) _) hgrow (fun q hq => (hown.lt q hq).1)⟩, by decide⟩
        have e := HV.out 6 (by decide)
        rw [show (2 : Int) ^ (7 - 1 * 6) = 2 from by decide] at e
        skip
        rw [e]
        exact hown1
    · rw [show ((7 : Int) - 1 * ((7 : Nat) : Int)) = 0 from rfl]
      go_wp2_with fail
      go_region_law
        (refine step_append_lies _ (by rfl) _ _ _ (by rfl) w.heap.size 3 i0 _ 1 8 und_ints hi0 hz0 hz1 hz2 rfl (by omega) u6 7 _ (by rfl) (ownsRow_keep hown.drew ((Kept.refl (fun _ => False) _).alloc _) (fun _ _ hh => hh))
            ⟨wr.heap.size, 0, none⟩ 1 1 [.int .i64 _] (by rfl) (by rfl) (World.news_of_block (cs := #[.int .i64 _]) (t := 3) (fr := (0, 0)) (heap_alloc_new _ _)) (by simp [Value.oneCell'])
            (by omega) (by simp [maxLen]) (by omega) (by simp; have := hb.size; omega) (wr.heap.size + 1) (by simp) ?_
         intro gg cap w2 hown1 hgrow hat hlt)
      all_goals
        go_wp2_with fail
        refine ⟨⟨8, by decide, rfl, ?_, below_grown ((hb.drew).alloc (by have := hb.size; simpa using this) _) hgrow (fun q hq => (hown.lt q hq).1)⟩, by decide⟩
        have e := HV.out 7 (by decide)
        rw [show (2 : Int) ^ (7 - 1 * 7) = 1 from by decide] at e
        rw [Int.ediv_one] at e
        rw [e]
        exact hown1

    · rw [show ((7 : Int) - 1 * ((8 : Nat) : Int)) = -1 from rfl]
      obtain ⟨gg, cap, rfl, _⟩ := hown.form (by decide)
      go_wp2_with fail
      go_ret2
      refine ⟨gg, cap, rfl, ?_, hb⟩
      have e : (laneOut b 1).take 8 = laneOut b 1 := by simp [laneOut, bitsOf]
      rw [e] at hown
      exact hown

end Go.Proofs.YtefoldehejbiiaaGreat

namespace Go.Proofs.YtefoldehejbiiaaGreat
open Go.RowKit Lich

set_option maxRecDepth 100000 in
set_option maxHeartbeats 2000000 in
theorem In4_calls (xs : List Int) (hx : ∀ x ∈ xs, 0 ≤ x ∧ x < 16) (hl : xs.length = 2) (g cap : Nat) (w : World) (hc : ∀ k, k < 2 → w.cell? ⟨g, k, none⟩ = some (.int .i64 (xs.getD k 0))) :
    Calls Tryz.prog 119 #[.slice (some ⟨g, 0, none⟩) 2 cap, .int .i64 4] w fun e w' => e = .returned (.tuple #[.int .i64 (xs.foldl (fun a x => a * 16 + x) 0), .int .i64 0]) ∧ w = w' := by
  obtain ⟨R, hR⟩ : ∃ R, R = xs.foldl (fun a x => a * 16 + x) 0 := ⟨_, rfl⟩
  rw [← hR]
  have hA : ∀ k, k ≤ 2 → 0 ≤ (xs.take k).foldl (fun a x => a * 16 + x) 0 ∧ (xs.take k).foldl (fun a x => a * 16 + x) 0 < 2 ^ (4 * k) := by
    intro k
    induction k with
    | zero => intro _; simp
    | succ k ih =>
      intro hk
      obtain ⟨i0, i1⟩ := ih (by omega)
      have hxk := hx (xs[k]'(by omega)) (List.getElem_mem _)
      rw [List.take_succ_eq_append_getElem (by omega), List.foldl_append]
      simp only [List.foldl_cons, List.foldl_nil]
      rw [show 4 * (k + 1) = 4 * k + 4 by omega, Int.pow_add]
      omega
  have hS : ∀ k, k < 2 → (xs.take (k + 1)).foldl (fun a x => a * 16 + x) 0 = (xs.take k).foldl (fun a x => a * 16 + x) 0 * 16 + xs.getD k 0 := by
    intro k hk
    rw [List.take_succ_eq_append_getElem (by omega), List.foldl_append]
    simp [List.getD, show k < xs.length by omega]
  have hX : ∀ k, k < 2 → 0 ≤ xs.getD k 0 ∧ xs.getD k 0 < 16 := by
    intro k hk
    have := hx (xs[k]'(by omega)) (List.getElem_mem _)
    simpa [List.getD, show k < xs.length by omega] using this
  have hF : R = (xs.take 2).foldl (fun a x => a * 16 + x) 0 := by rw [hR, List.take_of_length_le (by omega)]
  have hB : ∀ k, k ≤ 2 → (2 : Int) ^ (4 * k) ≤ 256 := by
    intro k hk
    have h24 : (2 : Nat) ^ (4 * k) ≤ 2 ^ 8 := Nat.pow_le_pow_right (by omega) (by omega)
    have h25 : ((2 ^ (4 * k) : Nat) : Int) ≤ ((2 ^ 8 : Nat) : Int) := Int.ofNat_le.2 h24
    rw [Int.natCast_pow] at h25
    exact h25
  have HA := Lib.hid hA
  have HS := Lib.hid hS
  have HX := Lib.hid hX
  have HF := Lib.hid hF
  have HB := Lib.hid hB
  have HC := Lib.hid hc
  clear hA hS hX hF hB hR hc hx
  go_enter Tryz.func119, Tryz.ntmps119
  go_wp2_with fail
  refine (lanes_calls 4 _).mono ?_
  rintro e w' ⟨rfl, rfl⟩
  go_wp2_with fail
  refine (many4 _).mono ?_
  rintro e w' ⟨rfl, rfl⟩
  go_wp2_with fail
  go_loopw [6, 21] (fun a i wr => ∃ k : Nat, k ≤ 2 ∧ i = .int .i64 k ∧ a = .int .i64 ((xs.take k).foldl (fun a x => a * 16 + x) 0) ∧ wr = w) (fun _ i _ => 2 - (intOf i).toNat)
  case atStart => exact ⟨0, Nat.zero_le _, rfl, rfl, rfl⟩
  case round =>
    obtain ⟨k, hk, rfl, rfl, rfl⟩ := hrel
    by_cases hlt : k < 2
    · have ck := HC.out k hlt
      obtain ⟨x0, x1⟩ := HX.out k hlt
      obtain ⟨a0, a1⟩ := HA.out k hk
      have a2 := HB.out k hk
      have hsucc := HS.out k hlt
      generalize hacc : (xs.take k).foldl (fun a x => a * 16 + x) 0 = acc at *
      generalize xs.getD k 0 = x at *
      have hj : bits .or .i64 (acc * 16) x = acc * 16 + x := i64_join 4 16 (by decide) (by decide) a0 (by omega) x0 x1
      have n1 : decide (x < 0) = false := by simp; omega
      have n2 : decide (16 ≤ x) = false := by simp; omega
      have a3 : acc < 1000 := by omega
      have HSU := Lib.hid hsucc
      have HJ := Lib.hid hj
      clear hsucc hacc hj a1 a2
      go_wp2_with fail
      exact ⟨⟨k + 1, by omega, by go_num, by rw [HSU.out, HJ.out], trivial⟩, by simp [intOf]; omega⟩
    · have hke : k = 2 := by omega
      subst hke
      rw [← HF.out]
      go_wp2_with fail
      go_ret2
      exact ⟨rfl, rfl⟩

set_option maxRecDepth 100000 in
set_option maxHeartbeats 2000000 in
theorem In1_calls (xs : List Int) (hx : ∀ x ∈ xs, 0 ≤ x ∧ x < 2) (hl : xs.length = 8) (g cap : Nat) (w : World) (hc : ∀ k, k < 8 → w.cell? ⟨g, k, none⟩ = some (.int .i64 (xs.getD k 0))) :
    Calls Tryz.prog 119 #[.slice (some ⟨g, 0, none⟩) 8 cap, .int .i64 1] w fun e w' => e = .returned (.tuple #[.int .i64 (xs.foldl (fun a x => a * 2 + x) 0), .int .i64 0]) ∧ w = w' := by
  obtain ⟨R, hR⟩ : ∃ R, R = xs.foldl (fun a x => a * 2 + x) 0 := ⟨_, rfl⟩
  rw [← hR]
  have hA : ∀ k, k ≤ 8 → 0 ≤ (xs.take k).foldl (fun a x => a * 2 + x) 0 ∧ (xs.take k).foldl (fun a x => a * 2 + x) 0 < 2 ^ (1 * k) := by
    intro k
    induction k with
    | zero => intro _; simp
    | succ k ih =>
      intro hk
      obtain ⟨i0, i1⟩ := ih (by omega)
      have hxk := hx (xs[k]'(by omega)) (List.getElem_mem _)
      rw [List.take_succ_eq_append_getElem (by omega), List.foldl_append]
      simp only [List.foldl_cons, List.foldl_nil]
      rw [show 1 * (k + 1) = 1 * k + 1 by omega, Int.pow_add]
      omega
  have hS : ∀ k, k < 8 → (xs.take (k + 1)).foldl (fun a x => a * 2 + x) 0 = (xs.take k).foldl (fun a x => a * 2 + x) 0 * 2 + xs.getD k 0 := by
    intro k hk
    rw [List.take_succ_eq_append_getElem (by omega), List.foldl_append]
    simp [List.getD, show k < xs.length by omega]
  have hX : ∀ k, k < 8 → 0 ≤ xs.getD k 0 ∧ xs.getD k 0 < 2 := by
    intro k hk
    have := hx (xs[k]'(by omega)) (List.getElem_mem _)
    simpa [List.getD, show k < xs.length by omega] using this
  have hF : R = (xs.take 8).foldl (fun a x => a * 2 + x) 0 := by rw [hR, List.take_of_length_le (by omega)]
  have hB : ∀ k, k ≤ 8 → (2 : Int) ^ (1 * k) ≤ 256 := by
    intro k hk
    have h24 : (2 : Nat) ^ (1 * k) ≤ 2 ^ 8 := Nat.pow_le_pow_right (by omega) (by omega)
    have h25 : ((2 ^ (1 * k) : Nat) : Int) ≤ ((2 ^ 8 : Nat) : Int) := Int.ofNat_le.2 h24
    rw [Int.natCast_pow] at h25
    exact h25
  have HA := Lib.hid hA
  have HS := Lib.hid hS
  have HX := Lib.hid hX
  have HF := Lib.hid hF
  have HB := Lib.hid hB
  have HC := Lib.hid hc
  clear hA hS hX hF hB hR hc hx
  go_enter Tryz.func119, Tryz.ntmps119
  go_wp2_with fail
  refine (lanes_calls 1 _).mono ?_
  rintro e w' ⟨rfl, rfl⟩
  go_wp2_with fail
  refine (many1 _).mono ?_
  rintro e w' ⟨rfl, rfl⟩
  go_wp2_with fail
  go_loopw [6, 21] (fun a i wr => ∃ k : Nat, k ≤ 8 ∧ i = .int .i64 k ∧ a = .int .i64 ((xs.take k).foldl (fun a x => a * 2 + x) 0) ∧ wr = w) (fun _ i _ => 8 - (intOf i).toNat)
  case atStart => exact ⟨0, Nat.zero_le _, rfl, rfl, rfl⟩
  case round =>
    obtain ⟨k, hk, rfl, rfl, rfl⟩ := hrel
    by_cases hlt : k < 8
    · have ck := HC.out k hlt
      obtain ⟨x0, x1⟩ := HX.out k hlt
      obtain ⟨a0, a1⟩ := HA.out k hk
      have a2 := HB.out k hk
      have hsucc := HS.out k hlt
      generalize hacc : (xs.take k).foldl (fun a x => a * 2 + x) 0 = acc at *
      generalize xs.getD k 0 = x at *
      have hj : bits .or .i64 (acc * 2) x = acc * 2 + x := i64_join 1 2 (by decide) (by decide) a0 (by omega) x0 x1
      have n1 : decide (x < 0) = false := by simp; omega
      have n2 : decide (2 ≤ x) = false := by simp; omega
      have a3 : acc < 1000 := by omega
      have HSU := Lib.hid hsucc
      have HJ := Lib.hid hj
      clear hsucc hacc hj a1 a2
      go_wp2_with fail
      exact ⟨⟨k + 1, by omega, by go_num, by rw [HSU.out, HJ.out], trivial⟩, by simp [intOf]; omega⟩
    · have hke : k = 8 := by omega
      subst hke
      rw [← HF.out]
      go_wp2_with fail
      go_ret2
      exact ⟨rfl, rfl⟩

end Go.Proofs.YtefoldehejbiiaaGreat

namespace Go.Proofs.YtefoldehejbiiaaGreat
open Go.RowKit Lich

def DriveBlk (b : Nat) (ov : Value) (d : DR) : Array Value := #[.pointer (some ⟨b, 0, none⟩), ov, .int .i64 d.n, .int .i64 d.most]

/-- Phases are driven on the chip at b; what was read lies behind ov; the drive itself at p. -/
structure DriveIs (w : World) (p b : Nat) (d : DR) (S : Nat → Prop) (ov : Value) : Prop where
  blk : w.heap[p]? = some (.cells (DriveBlk b ov d) 144 (0, 0))
  chip : ChipAt w b d.chip S
  out : w.ownsRow 0 3 1 ov d.out.length (d.out.map (.int .i64))
  pS : ¬ S p
  oS : ∀ k, ov.ownBlock = some k → ¬ S k
  low : ∀ k, S k → k < w.heap.size

/-- All that a drive owns. -/
def Feet (S : Nat → Prop) (p : Nat) (ov : Value) (k : Nat) : Prop := S k ∨ k = p ∨ ov.ownBlock = some k

def DrivePost (p b : Nat) (d : DR) (S : Nat → Prop) (ov : Value) (w w' : World) : Prop :=
  ∃ S' ov', DriveIs w' p b d S' ov' ∧ Step (Feet S p ov) (Feet S' p ov') w w'

def Drove (p b : Nat) (d : DR) (S : Nat → Prop) (ov : Value) (v : Value) (w : World) (e : Ending) (w' : World) : Prop :=
  e = .returned v ∧ DrivePost p b d S ov w w'

section
variable {w : World} {p b : Nat} {d : DR} {S : Nat → Prop} {ov : Value}

theorem DriveIs.lt (h : DriveIs w p b d S ov) : p < w.heap.size := lt_of_block h.blk
theorem DriveIs.out_lt (h : DriveIs w p b d S ov) : ∀ k, ov.ownBlock = some k → k < w.heap.size := fun k hk => by
  obtain ⟨cur, hb⟩ := owns_blk h.out hk
  exact lt_of_block hb
theorem DriveIs.out_ne (h : DriveIs w p b d S ov) : ∀ k, ov.ownBlock = some k → k ≠ p := fun k hk => by
  obtain ⟨cur, hb⟩ := owns_blk h.out hk
  exact blk_ne hb h.blk (by decide)

theorem ChipAt.keep {R : Nat → Prop} {c : Chip} {w' : World} (h : ChipAt w b c S) (hk : Kept R w w') (hd : ∀ k, S k → ¬ R k) : ChipAt w' b c S := by
  obtain ⟨md, jv, bv, dv, h⟩ := h
  exact ⟨md, jv, bv, dv, h.keep hk hd⟩

/-- Of all that may be owned only what there is counts. -/
def Tight (S : Nat → Prop) (n k : Nat) : Prop := S k ∧ k < n
theorem ChipAt.tight {c : Chip} (h : ChipAt w b c S) : ChipAt w b c (Tight S w.heap.size) := by
  obtain ⟨md, jv, bv, dv, h⟩ := h
  refine ⟨md, jv, bv, dv, h.blk, ⟨h.own, h.lt⟩, ?_, ?_, h.data, fun k hk => ⟨h.dataS k hk, ?_⟩, h.apart⟩
  · have hj := h.job
    cases e : c.job with
    | none => rw [e] at hj; exact hj
    | some j =>
      rw [e] at hj
      obtain ⟨g, hg, hs, hb⟩ := hj
      exact ⟨g, hg, ⟨hs, lt_of_block hb⟩, hb⟩
  · rcases h.busy with e | ⟨g, off, cap, cs, e, h1, h2, h3, h4, h5⟩
    · exact .inl e
    · exact .inr ⟨g, off, cap, cs, e, h1, h2, ⟨h3, lt_of_block h4⟩, h4, h5⟩
  · obtain ⟨cur, hb⟩ := owns_blk h.data hk
    exact lt_of_block hb

/-- The drive behind a step of its chip alone. -/
theorem DriveIs.step (h : DriveIs w p b d S ov) {c' : Chip} {S' : Nat → Prop} {w' : World} (hc : ChipAt w' b c' S') (hs : Step S S' w w') : ∃ S'', DriveIs w' p b { d with chip := c' } S'' ov ∧ Step (Feet S p ov) (Feet S'' p ov) w w' := by
  refine ⟨Tight S' w'.heap.size, ⟨blk_kept hs.toKept h.blk h.pS, hc.tight, ownsRow_keep h.out hs.toKept h.oS, fun e => ?_, fun k hk e => ?_, fun k hk => hk.2⟩, hs.toKept.mono fun k hk => .inl hk, fun k hk => ?_⟩
  · rcases hs.sub p e.1 with e | e
    · exact h.pS e
    · have := h.lt; omega
  · rcases hs.sub k e.1 with e | e
    · exact h.oS k hk e
    · have := h.out_lt k hk; omega
  · rcases hk with e | e | e
    · rcases hs.sub k e.1 with e | e
      · exact .inl (.inl e)
      · exact .inr e
    · exact .inl (.inr (.inl e))
    · exact .inl (.inr (.inr e))

/-- A store into the drive's own cells. -/
theorem DriveIs.setN (h : DriveIs w p b d S ov) (n : Int) : DriveIs (w.setCell ⟨p, 2, none⟩ (.int .i64 n)) p b { d with n := n } S ov ∧ Step (Feet S p ov) (Feet S p ov) w (w.setCell ⟨p, 2, none⟩ (.int .i64 n)) := by
  have hk : Kept (fun k => k = p) w (w.setCell ⟨p, 2, none⟩ (.int .i64 n)) := (Kept.refl (fun k => k = p) w).setCell (p := ⟨p, 2, none⟩) (.inl rfl) _
  exact ⟨⟨by rw [blk_set h.blk]; rfl, h.chip.keep hk (fun k hS e => by subst e; exact h.pS hS), ownsRow_keep h.out hk (fun k ho => h.out_ne k ho), h.pS, h.oS, fun k hS => by have := h.low k hS; simpa using this⟩, hk.mono fun k hk => .inr (.inl hk), fun k hk => .inl hk⟩

theorem DriveIs.drewN (h : DriveIs w p b d S ov) (n : Nat) : DriveIs (w.drewN n) p b d S ov := by
  have hk : Kept (fun _ => False) w (w.drewN n) := (Kept.refl _ w).drewN n
  exact ⟨blk_kept hk h.blk (fun e => e), h.chip.keep hk (fun _ _ e => e), ownsRow_keep h.out hk (fun _ _ e => e), h.pS, h.oS, h.low⟩

theorem Step.drewN (n : Nat) : Step S S w (w.drewN n) := ⟨(Kept.refl S w).drewN n, fun _ h => .inl h⟩

/-- No more clocks. -/
theorem tick_stop {d : DR} (h0 : 0 ≤ d.most) (h1 : d.most ≤ d.n) (x : Int) : d.tick x = none := by unfold DR.tick; rw [if_pos ⟨h0, h1⟩]
theorem tick_goes {d : DR} (h : ¬ (0 ≤ d.most ∧ d.most ≤ d.n)) (x : Int) : d.tick x = some ({ d with chip := (d.chip.clock x).1, n := d.n + 1 }, (d.chip.clock x).2) := by unfold DR.tick; rw [if_neg h]

set_option maxRecDepth 100000 in
set_option maxHeartbeats 1000000 in
theorem dclock_stop (h : DriveIs w p b d S ov) (h0 : 0 ≤ d.most) (h1 : d.most ≤ d.n) (x : Int) :
    Calls Tryz.prog 98 #[.pointer (some ⟨p, 0, none⟩), .int .i64 x] w (Drove p b d S ov (.tuple #[.int .i64 0, .bool false]) w) := by
  have p2 : w.cell? ⟨p, 2, none⟩ = some (.int .i64 d.n) := (blk_cell h.blk).trans rfl
  have p3 : w.cell? ⟨p, 3, none⟩ = some (.int .i64 d.most) := (blk_cell h.blk).trans rfl
  have b1 : decide (0 ≤ d.most) = true := by simp [h0]
  have b2 : decide (d.most ≤ d.n) = true := by simp [h1]
  have H := Lib.hid h
  clear h
  go_enter Tryz.func98, Tryz.ntmps98
  go_wp2_with fail
  go_quiet (fail)
  go_wp2_with fail
  go_ret2
  exact ⟨rfl, S, ov, H.out.drewN _, Step.drewN _⟩

set_option maxRecDepth 100000 in
set_option maxHeartbeats 1000000 in
theorem dclock_goes (h : DriveIs w p b d S ov) (hg : ¬ (0 ≤ d.most ∧ d.most ≤ d.n)) (hn0 : 0 ≤ d.n) (hn1 : d.n < 1000000000) {n : Int} (hc : d.chip.Live n) (hn : n < 1000000) (hsel : d.chip.sel = true) (x : Int) (x0 : 0 ≤ x) (x1 : x < 16) :
    Calls Tryz.prog 98 #[.pointer (some ⟨p, 0, none⟩), .int .i64 x] w (Drove p b { d with chip := (d.chip.clock x).1, n := d.n + 1 } S ov (.tuple #[.int .i64 (d.chip.clock x).2, .bool true]) w) := by
  have p0 : w.cell? ⟨p, 0, none⟩ = some (.pointer (some ⟨b, 0, none⟩)) := (blk_cell h.blk).trans rfl
  have p2 : w.cell? ⟨p, 2, none⟩ = some (.int .i64 d.n) := (blk_cell h.blk).trans rfl
  have p3 : w.cell? ⟨p, 3, none⟩ = some (.int .i64 d.most) := (blk_cell h.blk).trans rfl
  have pf : ∀ i, w.frozen? ⟨p, i, none⟩ = false := fun i => blk_free h.blk
  have H := Lib.hid h
  have HC := Lib.hid hc
  clear h hc
  by_cases h0 : 0 ≤ d.most
  · have b1 : decide (0 ≤ d.most) = true := by simp [h0]
    have b2 : decide (d.most ≤ d.n) = false := by simp; omega
    go_enter Tryz.func98, Tryz.ntmps98
    go_wp2_with fail
    go_quiet (fail)
    go_wp2_with fail
    obtain ⟨hd, hs⟩ := (H.out.drewN nq).setN (d.n + 1)
    generalize (w.drewN nq).setCell ⟨p, 2, none⟩ (.int .i64 (d.n + 1)) = w1 at *
    obtain ⟨md, jv, bv, dv, hch⟩ := hd.chip
    refine (Clock_calls hch HC.out hn hsel x x0 x1).mono ?_
    rintro e w2 ⟨rfl, S', hat, hst⟩
    obtain ⟨S2, h3, s3⟩ := hd.step hat hst
    have H3 := Lib.hid h3
    have S3 := Lib.hid (hs.trans s3)
    clear h3 s3 hd hs hch hat hst
    go_wp2_with fail
    go_ret2
    exact ⟨rfl, S2, ov, H3.out, Step.trans (Step.drewN nq) S3.out⟩
  · have b1 : decide (0 ≤ d.most) = false := by simp; omega
    go_enter Tryz.func98, Tryz.ntmps98
    go_wp2_with fail
    go_quiet (fail)
    go_wp2_with fail
    obtain ⟨hd, hs⟩ := (H.out.drewN nq).setN (d.n + 1)
    generalize (w.drewN nq).setCell ⟨p, 2, none⟩ (.int .i64 (d.n + 1)) = w1 at *
    obtain ⟨md, jv, bv, dv, hch⟩ := hd.chip
    refine (Clock_calls hch HC.out hn hsel x x0 x1).mono ?_
    rintro e w2 ⟨rfl, S', hat, hst⟩
    obtain ⟨S2, h3, s3⟩ := hd.step hat hst
    have H3 := Lib.hid h3
    have S3 := Lib.hid (hs.trans s3)
    clear h3 s3 hd hs hch hat hst
    go_wp2_with fail
    go_ret2
    exact ⟨rfl, S2, ov, H3.out, Step.trans (Step.drewN nq) S3.out⟩
end
end Go.Proofs.YtefoldehejbiiaaGreat
