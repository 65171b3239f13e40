/-
  Walks: package stat.
-/
import Derived.Test.YtefoldehejbiiaaGreatM04

namespace Go.Proofs.YtefoldehejbiiaaGreat
open Go.RowKit Lich

theorem soRun_calls (x : Int) (y : Bool) (gx gy : Nat) (w : World) (h1 : w.cell? ⟨gx, 0, none⟩ = some (.int .i64 x)) (h2 : w.cell? ⟨gy, 0, none⟩ = some (.bool y)) :
    Calls Tryz.prog 110 #[.pointer (some ⟨gx, 0, none⟩), .pointer (some ⟨gy, 0, none⟩)] w fun e w' => e = .returned (.tuple #[.int .i64 x, .bool y]) ∧ ∃ n, w' = w.drewN n := by
  go_enter Tryz.func110, Tryz.ntmps110
  go_wp2
  go_quiet (fail)
  go_wp2
  go_ret2
  exact ⟨rfl, _, rfl⟩

theorem so_calls (x : Int) (y : Bool) (w : World) :
    Calls Tryz.prog 93 #[.int .i64 x, .bool y] w fun e w' =>
      e = .returned (.func (.func 110) #[] #[.pointer (some ⟨w.heap.size, 0, none⟩), .pointer (some ⟨w.heap.size + 1, 0, none⟩)]) ∧
      (w.alloc (.cells #[.int .i64 x] 3)).alloc (.cells #[.bool y] 4) = w' := by
  have hmf : ∀ (fn : Fn) (first cap : Array Value) (w : World), (Instr.makeFunc fn first cap).run Tryz.prog w = .ok (.func fn first cap) w := fun _ _ _ _ => rfl
  go_enter Tryz.func93, Tryz.ntmps93
  go_wp2
  go_ret
  exact ⟨rfl, rfl⟩

structure SoAt (w : World) (p : Int × Bool × Nat × Nat) : Prop where
  x : w.heap[p.2.2.1]? = some (.cells #[.int .i64 p.1] 3 (0, 0))
  y : w.heap[p.2.2.2]? = some (.cells #[.bool p.2.1] 4 (0, 0))
  lo : 0 ≤ p.1
  hi : p.1 ≤ 1000

def soFn (p : Int × Bool × Nat × Nat) : Value := .func (.func 110) #[] #[.pointer (some ⟨p.2.2.1, 0, none⟩), .pointer (some ⟨p.2.2.2, 0, none⟩)]
def soSum (ps : List (Int × Bool × Nat × Nat)) : Int := (ps.map fun p => if p.2.1 then p.1 else 0).sum

theorem soSum_bd (ps : List (Int × Bool × Nat × Nat)) (h : ∀ p ∈ ps, 0 ≤ p.1 ∧ p.1 ≤ 1000) : 0 ≤ soSum ps ∧ soSum ps ≤ 1000 * ps.length := by
  induction ps with
  | nil => simp [soSum]
  | cons p ps ih =>
    have h1 := h p (by simp)
    have h2 := ih fun q hq => h q (by simp [hq])
    simp only [soSum, List.map_cons, List.sum_cons, List.length_cons] at *
    split <;> omega

theorem soSum_snoc (ps : List (Int × Bool × Nat × Nat)) (p : Int × Bool × Nat × Nat) : soSum (ps ++ [p]) = soSum ps + if p.2.1 then p.1 else 0 := by simp [soSum]

set_option maxHeartbeats 400000 in
theorem sum_calls (ps : List (Int × Bool × Nat × Nat)) (g : Nat) (w : World) (hn : ps.length ≤ 10) (hb : w.heap[g]? = some (.cells (ps.map soFn).toArray 155 (0, 0))) (hs : ∀ p ∈ ps, SoAt w p) :
    Calls Tryz.prog 92 #[.slice (some ⟨g, 0, none⟩) ps.length ps.length] w fun e w' => e = .returned (.int .i64 (soSum ps)) ∧ ∃ n, w' = w.drewN n := by
  have hbd : ∀ k, 0 ≤ soSum (ps.take k) ∧ soSum (ps.take k) ≤ 10000 := fun k => by
    have := soSum_bd (ps.take k) fun p hp => ⟨(hs p (List.mem_of_mem_take hp)).lo, (hs p (List.mem_of_mem_take hp)).hi⟩
    have h2 : (ps.take k).length ≤ 10 := by simp; omega
    omega
  go_enter Tryz.func92, Tryz.ntmps92
  go_wp2_with fail
  go_loopw [3, 10] (fun t i wr => ∃ k : Nat, k ≤ ps.length ∧ i = .int .i64 k ∧ t = .int .i64 (soSum (ps.take k)) ∧ ∃ n, wr = w.drewN n) (fun _ i _ => ps.length - (intOf i).toNat)
  case atStart => exact ⟨0, Nat.zero_le _, rfl, rfl, 0, rfl⟩
  case round =>
    obtain ⟨k, hk, rfl, rfl, n, rfl⟩ := hrel
    by_cases hlt : k < ps.length
    · have hc : (w.drewN n).cell? ⟨g, k, none⟩ = some (soFn ps[k]) := by
        rw [World.cell?_drewN, blk_cell hb]; simp [hlt]
      have hsn : ps.take (k + 1) = ps.take k ++ [ps[k]] := by rw [List.take_succ_eq_append_getElem hlt]
      have hsum := soSum_snoc (ps.take k) ps[k]
      rw [← hsn] at hsum
      have h0 := hbd k
      have h1 := hbd (k + 1)
      have hat := hs ps[k] (List.getElem_mem hlt)
      unfold soFn at hc
      obtain ⟨⟨x, y, gx, gy⟩, hp⟩ : ∃ p, ps[k] = p := ⟨_, rfl⟩
      rw [hp] at hc hsum hat
      simp only at hc hsum hat
      have hcl := soRun_calls x y gx gy (w.drewN n) (by rw [World.cell?_drewN]; exact (blk_cell hat.x).trans rfl) (by rw [World.cell?_drewN]; exact (blk_cell hat.y).trans rfl)
      have HC := Lib.hid hcl
      have HS := Lib.hid hsum
      clear hcl hsum hsn hp hbd hb hs
      generalize soSum (ps.take k) = s at *
      have hx0 := hat.lo
      have hx1 := hat.hi
      simp only at hx0 hx1
      clear hat
      go_wp2_with fail
      refine (HC.out).mono ?_
      rintro e w' ⟨rfl, m, rfl⟩
      cases y
      · go_wp2_with fail
        go_roundw
        case rel => exact ⟨k + 1, by omega, by go_num, by rw [HS.out]; simp, n + m, rfl⟩
        case measure => simp [intOf]; omega
      · have e1 : 0 ≤ s + x := by omega
        have e2 : s + x < 100000 := by omega
        go_wp2_with fail
        go_roundw
        case rel => exact ⟨k + 1, by omega, by go_num, by rw [HS.out]; simp, n + m, rfl⟩
        case measure => simp [intOf]; omega
    · have hke : k = ps.length := by omega
      have HE := Lib.hid hke
      clear hke hbd hb hs
      go_wp2_with fail
      go_ret
      refine ⟨ret_int ?_, n, rfl⟩
      rw [HE.out, List.take_length]

theorem run_not (x : Bool) (w : World) : (Op.unary .not (.bool x)).run Tryz.prog w = .ok (.bool (!x)) w := rfl

set_option maxHeartbeats 400000 in
theorem first_calls (x y z : Bool) (w : World) :
    Calls Tryz.prog 75 #[.bool x, .bool y, .bool z] w fun e w' => e = .returned (.int .i64 (first x y z)) ∧ Below w.heap.size w w' := by
  go_enter Tryz.func75, Tryz.ntmps75
  go_wp2_with fail
  refine (so_calls 1 x w).mono ?_
  rintro e w' ⟨rfl, rfl⟩
  go_wp2_with fail
  refine (so_calls 2 y _).mono ?_
  rintro e w' ⟨rfl, rfl⟩
  go_wp2_with fail
  refine (so_calls 4 z _).mono ?_
  rintro e w' ⟨rfl, rfl⟩
  go_wp2_with fail
  refine (sum_calls [(1, x, w.heap.size, w.heap.size + 1), (2, y, w.heap.size + 1 + 1, w.heap.size + 1 + 1 + 1), (4, z, w.heap.size + 1 + 1 + 1 + 1, w.heap.size + 1 + 1 + 1 + 1 + 1)] _ _ (by simp) ?hb ?hs).mono ?_
  case hb =>
    rw [blk_new _ _ _ (by simp)]
    rfl
  case hs =>
    intro p hp
    simp only [List.mem_cons, List.not_mem_nil, or_false] at hp
    rcases hp with rfl | rfl | rfl
    all_goals (refine ⟨?_, ?_, by simp, by simp⟩ <;> repeat (first | exact blk_new _ _ _ (by simp) | refine blk_alloc ?_ _))
  rintro e w' ⟨rfl, n, rfl⟩
  go_wp2_with fail
  go_ret
  refine ⟨ret_int ?_, below_drewN ?_ n⟩
  · simp [soSum, first]; omega
  · exact below_new (below_new (below_new (below_new (below_new (below_new (below_new (Below.refl _ w) _) _) _) _) _) _) _

set_option maxHeartbeats 400000 in
theorem second_calls (x y : Bool) (w : World) :
    Calls Tryz.prog 77 #[.bool x, .bool y] w fun e w' => e = .returned (.int .i64 (second x y)) ∧ Below w.heap.size w w' := by
  go_enter Tryz.func77, Tryz.ntmps77
  go_wp2_with fail
  refine (so_calls 2 x w).mono ?_
  rintro e w' ⟨rfl, rfl⟩
  go_wp2_with fail
  refine (so_calls 128 y _).mono ?_
  rintro e w' ⟨rfl, rfl⟩
  go_wp2_with fail
  refine (sum_calls [(2, x, w.heap.size, w.heap.size + 1), (128, y, w.heap.size + 1 + 1, w.heap.size + 1 + 1 + 1)] _ _ (by simp) ?hb ?hs).mono ?_
  case hb =>
    rw [blk_new _ _ _ (by simp)]
    rfl
  case hs =>
    intro p hp
    simp only [List.mem_cons, List.not_mem_nil, or_false] at hp
    rcases hp with rfl | rfl
    all_goals (refine ⟨?_, ?_, by simp, by simp⟩ <;> repeat (first | exact blk_new _ _ _ (by simp) | refine blk_alloc ?_ _))
  rintro e w' ⟨rfl, n, rfl⟩
  go_wp2_with fail
  go_ret
  refine ⟨ret_int ?_, below_drewN ?_ n⟩
  · simp [soSum, second]
  · exact below_new (below_new (below_new (below_new (below_new (Below.refl _ w) _) _) _) _) _

theorem image_calls (p : Int) (w : World) :
    Calls Tryz.prog 147 #[.int .i64 p] w fun e w' => e = .returned (.bool (0 ≤ p && p < 2048)) ∧ w = w' := by
  by_cases h0 : 0 ≤ p
  · go_enter Tryz.func147, Tryz.ntmps147
    go_wp2
    go_ret
    exact ⟨ret_bool (by simp [h0]), rfl⟩
  · have hd : decide (0 ≤ p) = false := by simp; omega
    go_enter Tryz.func147, Tryz.ntmps147
    go_wp2
    go_ret
    exact ⟨ret_bool (by simp), rfl⟩

/-- A place of the chip. -/
theorem protected_calls (q : Bool) (p : Int) (w : World) (h0 : 0 ≤ p) (h1 : p < 4096) :
    Calls Tryz.prog 133 #[.bool q, .int .i64 p] w fun e w' => e = .returned (.tuple #[.bool (q && decide (p < 2048)), .int .i64 0]) ∧ w = w' := by
  have him := image_calls p w
  have hv : (decide (0 ≤ p) && decide (p < 2048)) = decide (p < 2048) := by simp [h0]
  rw [hv] at him
  have HI := Lib.hid him
  clear him hv
  have b1 : decide (p < 0) = false := by simp; omega
  have b2 : decide (4096 ≤ p) = false := by simp; omega
  cases q
  · go_enter Tryz.func133, Tryz.ntmps133
    go_wp2_with fail
    go_ret2
    exact ⟨rfl, rfl⟩
  · go_enter Tryz.func133, Tryz.ntmps133
    go_wp2_with fail
    refine HI.out.mono ?_
    rintro e w' ⟨rfl, rfl⟩
    go_wp2_with fail
    go_ret2
    exact ⟨by simp, rfl⟩

end Go.Proofs.YtefoldehejbiiaaGreat
