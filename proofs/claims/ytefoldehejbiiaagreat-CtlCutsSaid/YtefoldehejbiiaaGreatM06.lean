/-
  Walks: is a command taken? which one is it? the chip's statuses.
  Walks: the chip's statuses.
  Walks: package cell.
  Walks: cell.turned, over each of its two closures; ProgramCut, EraseCut; a job's cells.
  Walks: a number in four bytes; may a number be?
-/
import Derived.Test.YtefoldehejbiiaaGreatM04
import Derived.Test.YtefoldehejbiiaaGreatM05
import Derived.Lib.ConvBytes

namespace Go.Proofs.YtefoldehejbiiaaGreat
open Go.RowKit Lich

section
variable {w : World} {b : Nat} {c : Chip} {S : Nat → Prop} {md : Bool} {jv bv dv : Value}

theorem ChipIs.ext (h : ChipIs w b c S md jv bv dv) (x : Ext w) : ChipIs x.w' b c S md jv bv dv := h.keep (R := fun _ => False) (Kept.of_below x.below) (fun _ _ h => h)

theorem ChipIs.jobNil (h : ChipIs w b c S md jv bv dv) (hj : c.job = none) : jv = .pointer none := by
  have := h.job
  rw [hj] at this
  exact this
theorem ChipIs.jobSome (h : ChipIs w b c S md jv bv dv) {j : Job} (hj : c.job = some j) : ∃ g, jv = .pointer (some ⟨g, 0, none⟩) ∧ S g ∧ g ≠ b ∧
    w.heap[g]? = some (.cells #[.int .i64 j.sector, .int .i64 j.page, .string (S8 j.data), .int .i64 j.left, .bool j.susp] 140 (0, 0)) := by
  have := h.job
  rw [hj] at this
  obtain ⟨g, hg, hs, hb⟩ := this
  exact ⟨g, hg, hs, h.job_ne hg, hb⟩

set_option maxHeartbeats 1000000 in
theorem takes_calls (h : ChipIs w b c S md jv bv dv) (g : Nat) (n : Int) (hg : w.cell? ⟨g, 0, none⟩ = some (.int .i64 n)) :
    Calls Tryz.prog 130 #[.pointer (some ⟨b, 0, none⟩), .pointer (some ⟨g, 0, none⟩)] w fun e w' => e = .returned (.bool (c.takes n)) ∧ w = w' := by
  have c2 := h.c2
  have c18 := h.c18
  have HW := Lib.hid (works_calls h)
  by_cases h1 : n = 5 ∨ n = 53 ∨ n = 117
  · have hr : c.takes n = true := by unfold Chip.takes; rw [if_pos h1]
    rw [hr]
    clear hr h HW
    rcases h1 with rfl | rfl | rfl
    all_goals
      go_enter Tryz.func130, Tryz.ntmps130
      go_wp2_with fail
      go_ret
      exact ⟨rfl, rfl⟩
  · by_cases h2 : n = 107 ∨ n = 235
    · have hr : c.takes n = (c.quad && !c.works) := by unfold Chip.takes; rw [if_neg h1, if_pos h2]
      rw [hr]
      clear hr h h1
      generalize c.quad = q at *
      rcases h2 with rfl | rfl <;> cases q
      all_goals
        go_enter Tryz.func130, Tryz.ntmps130
        go_wp2_with (go_at_call 76; refine HW.out.mono ?_; rintro e w' ⟨rfl, rfl⟩)
        go_ret
        exact ⟨ret_bool (by simp), rfl⟩
    · by_cases h3 : n = 1 ∨ n = 2 ∨ n = 32
      · have hr : c.takes n = c.job.isNone := by unfold Chip.takes; rw [if_neg h1, if_neg h2, if_pos h3]
        rw [hr]
        cases hj : c.job with
        | none =>
          have := h.jobNil hj
          subst this
          clear hr h h1 h2 HW hj
          rcases h3 with rfl | rfl | rfl
          all_goals
            go_enter Tryz.func130, Tryz.ntmps130
            go_wp2_with fail
            go_ret
            exact ⟨rfl, rfl⟩
        | some j =>
          obtain ⟨g', rfl, _⟩ := h.jobSome hj
          clear hr h h1 h2 HW hj
          rcases h3 with rfl | rfl | rfl
          all_goals
            go_enter Tryz.func130, Tryz.ntmps130
            go_wp2_with fail
            go_ret
            exact ⟨rfl, rfl⟩
      · have hr : c.takes n = !c.works := by unfold Chip.takes; rw [if_neg h1, if_neg h2, if_neg h3]
        rw [hr]
        have e1 : (n == 5) = false := by simp; omega
        have e2 : (n == 53) = false := by simp; omega
        have e3 : (n == 117) = false := by simp; omega
        have e4 : (n == 107) = false := by simp; omega
        have e5 : (n == 235) = false := by simp; omega
        have e6 : (n == 1) = false := by simp; omega
        have e7 : (n == 2) = false := by simp; omega
        have e8 : (n == 32) = false := by simp; omega
        clear hr h h1 h2 h3 c2 c18
        go_enter Tryz.func130, Tryz.ntmps130
        go_wp2_with (go_at_call 76; refine HW.out.mono ?_; rintro e w' ⟨rfl, rfl⟩)
        go_ret
        exact ⟨rfl, rfl⟩

end
end Go.Proofs.YtefoldehejbiiaaGreat

namespace Go.Proofs.YtefoldehejbiiaaGreat
open Go.RowKit Lich

section
variable {w : World} {b : Nat} {c : Chip} {S : Nat → Prop} {md : Bool} {jv bv dv : Value}

set_option maxRecDepth 100000 in
set_option maxHeartbeats 1000000 in
/-- Both statuses. -/
theorem status_calls (h : ChipIs w b c S md jv bv dv) :
    Calls Tryz.prog 58 #[.pointer (some ⟨b, 0, none⟩)] w fun e w' => e = .returned (.tuple #[.int .i64 c.st1, .int .i64 c.st2]) ∧ Below w.heap.size w w' := by
  have x1 : ∀ x : Ext w, x.w'.cell? ⟨b, 1, none⟩ = some (.bool c.prot) := fun x => x.cell h.c1
  have x2 : ∀ x : Ext w, x.w'.cell? ⟨b, 2, none⟩ = some (.bool c.quad) := fun x => x.cell h.c2
  have x16 : ∀ x : Ext w, x.w'.cell? ⟨b, 16, none⟩ = some (.bool c.en) := fun x => x.cell h.c16
  have x18 : ∀ x : Ext w, x.w'.cell? ⟨b, 18, none⟩ = some jv := fun x => x.cell h.c18
  have hw : ∀ x : Ext w, Calls Tryz.prog 76 #[.pointer (some ⟨b, 0, none⟩)] x.w' fun e w' => e = .returned (.bool c.works) ∧ x.w' = w' := fun x => works_calls (h.ext x)
  have HW := Lib.hid hw
  clear hw
  unfold Chip.st1 Chip.st2
  cases hj : c.job with
  | none =>
    have := h.jobNil hj
    subst this
    have hs : c.susp = false := by unfold Chip.susp; rw [hj]
    rw [hs]
    clear h hj hs
    go_enter Tryz.func58, Tryz.ntmps58
    go_wp2_with fail
    refine wp_region_ext (by kernel_rfl) (by kernel_rfl) ?_
    repeat (go_big_quiet_step (first | (go_at_call 76; exact ext_eq (HW.out _)) | (go_at_call 75; exact ext_below (first_calls _ _ _ _)) | (go_at_call 77; exact ext_below (second_calls _ _ _))))
    refine wpQuiet_nil ?_
    intro wx hx
    obtain ⟨x, rfl⟩ := hx
    go_wp2_with fail
    go_ret2
    exact ⟨rfl, x.below⟩
  | some j =>
    obtain ⟨g, rfl, _, _, hb⟩ := h.jobSome hj
    have x4 : ∀ x : Ext w, x.w'.cell? ⟨g, 4, none⟩ = some (.bool j.susp) := fun x => x.cell ((blk_cell hb).trans rfl)
    have hs : c.susp = j.susp := by unfold Chip.susp; rw [hj]
    rw [hs]
    clear h hj hs hb
    go_enter Tryz.func58, Tryz.ntmps58
    go_wp2_with fail
    refine wp_region_ext (by kernel_rfl) (by kernel_rfl) ?_
    repeat (go_big_quiet_step (first | (go_at_call 76; exact ext_eq (HW.out _)) | (go_at_call 75; exact ext_below (first_calls _ _ _ _)) | (go_at_call 77; exact ext_below (second_calls _ _ _))))
    refine wpQuiet_nil ?_
    intro wx hx
    obtain ⟨x, rfl⟩ := hx
    go_wp2_with fail
    go_ret2
    exact ⟨rfl, x.below⟩

end
end Go.Proofs.YtefoldehejbiiaaGreat

namespace Go.Proofs.YtefoldehejbiiaaGreat
open Go.RowKit Lich

theorem S8_size (l : List UInt8) : (S8 l).size = l.length := by simp [S8, ByteArray.size]
theorem S8_get {l : List UInt8} {i : Nat} (h : i < l.length) : (S8 l)[i]? = some (l.getD i 0) := by
  rw [getElem?_pos (S8 l) i (by rw [S8_size]; exact h)]
  show some l[i] = _
  simp [List.getD, h]
theorem S8_nil : S8 [] = ByteArray.empty := rfl
theorem toList_loop (bs : ByteArray) (n : Nat) : ∀ (i : Nat) (r : List UInt8), bs.size - i = n → ByteArray.toList.loop bs i r = r.reverse ++ bs.data.toList.drop i := by
  induction n with
  | zero =>
    intro i r h
    unfold ByteArray.toList.loop
    have h' : bs.data.toList.length ≤ i := by have hz : bs.size = bs.data.size := rfl; simp; omega
    rw [if_neg (by omega), List.drop_eq_nil_of_le h']; simp
  | succ n ih =>
    intro i r h
    have hi : i < bs.data.toList.length := by have hz : bs.size = bs.data.size := rfl; simp; omega
    unfold ByteArray.toList.loop
    rw [if_pos (by omega), ih (i + 1) _ (by omega), List.drop_eq_getElem_cons hi]
    have hg : bs.get! i = bs.data.toList[i] := by
      show bs.data[i]! = _
      rw [getElem!_pos bs.data i (by simpa using hi)]
      simp
    rw [hg]; simp
theorem S8_toList (l : List UInt8) : (S8 l).toList = l := by
  unfold ByteArray.toList
  rw [toList_loop (S8 l) _ 0 [] rfl]
  simp [S8]
theorem S8_isEmpty {l : List UInt8} (h : l ≠ []) : (S8 l).toList.isEmpty = false := by
  rw [S8_toList]; cases l; exact absurd rfl h; rfl
theorem S8_ne {l : List UInt8} (h : l ≠ []) : ¬ S8 l = ByteArray.empty := fun e => h (by
  have := congrArg (fun b : ByteArray => b.data.toList) e
  simpa [S8] using this)
  
set_option maxHeartbeats 400000 in
theorem masked_calls (mask : List UInt8) (i : Nat) (w : World) (hi : i < 1000000) (hm : mask.length < 1000000000) :
    Calls Tryz.prog 167 #[.string (S8 mask), .int .i64 i] w fun e w' => e = .returned (.int .u8 (masked mask i).toNat) ∧ w = w' := by
  unfold masked
  by_cases he : mask = []
  · subst he
    rw [S8_nil]
    go_enter Tryz.func167, Tryz.ntmps167
    go_wp2
    go_ret
    exact ⟨rfl, rfl⟩
  · rw [if_neg he]
    have hpos : 0 < mask.length := by cases mask; exact absurd rfl he; simp
    have h1 := S8_isEmpty he
    have h2 := S8_size mask
    have h3 := S8_ne he
    have h4 : (S8 mask)[i % mask.length]? = some (mask.getD (i % mask.length) 0) := S8_get (Nat.mod_lt _ hpos)
    have h5 : (0 : Int) ≤ (i : Int) % (mask.length : Int) := Int.emod_nonneg _ (by omega)
    have h6 : (i : Int) % (mask.length : Int) < (mask.length : Int) := Int.emod_lt_of_pos _ (by omega)
    generalize mask.getD (i % mask.length) 0 = x at h4 ⊢
    have h7 : ∀ h, (S8 mask)[i % mask.length]'h = x := fun h => by
      rw [getElem?_pos (S8 mask) _ h] at h4; exact Option.some.inj h4
    go_enter Tryz.func167, Tryz.ntmps167
    go_wp2
    go_ret
    rw [h7]
    exact ⟨rfl, rfl⟩
theorem u8_andNot' (x y : UInt8) : bits .andNot .u8 (x.toNat : Int) (y.toNat : Int) = ((x &&& ~~~y).toNat : Int) := by
  rw [u8_andNot_nat _ _ x.toNat_lt y.toNat_lt]
  simp
theorem u8_or' (x y : UInt8) : bits .or .u8 (x.toNat : Int) (y.toNat : Int) = ((x ||| y).toNat : Int) := by
  rw [u8_or_nat _ _ x.toNat_lt y.toNat_lt]
  simp

/-- One cell of a text. -/
theorem one_text {w : World} {g : Nat} {s : ByteArray} (h : w.heap[g]? = some (.cells #[.string s] 9 (0, 0))) : w.cell? ⟨g, 0, none⟩ = some (.string s) := (blk_cell h).trans rfl

set_option maxHeartbeats 400000 in
theorem progStep_calls (mask data : List UInt8) (gm gd : Nat) (old : UInt8) (i : Nat) (w : World) (hi : i < data.length) (hd : data.length < 1000000) (hm : mask.length < 1000000000)
    (h1 : w.cell? ⟨gm, 0, none⟩ = some (.string (S8 mask))) (h2 : w.cell? ⟨gd, 0, none⟩ = some (.string (S8 data))) :
    Calls Tryz.prog 166 #[.int .i64 i, .int .u8 old.toNat, .pointer (some ⟨gm, 0, none⟩), .pointer (some ⟨gd, 0, none⟩)] w fun e w' =>
      e = .returned (.int .u8 (old &&& ~~~(masked mask i &&& ~~~(data.getD i 0))).toNat) ∧ ∃ n, w' = w.drewN n := by
  have h3 := S8_size data
  have h4 := S8_get hi
  have h5 : ∀ h, (S8 data)[i]'h = data.getD i 0 := fun h => by
    rw [getElem?_pos (S8 data) _ h] at h4; exact Option.some.inj h4
  generalize data.getD i 0 = d at h4 h5 ⊢
  go_enter Tryz.func166, Tryz.ntmps166
  go_wp2_with fail
  go_quiet ((go_at_call 167; exact quiet_eq (masked_calls mask i _ (by omega) hm)))
  go_wp2
  go_ret
  exact ⟨ret_int (by rw [u8_andNot', u8_andNot']), _, rfl⟩

set_option maxHeartbeats 400000 in
theorem eraseStep_calls (mask : List UInt8) (gm : Nat) (old : UInt8) (i : Nat) (w : World) (hi : i < 1000000) (hm : mask.length < 1000000000)
    (h1 : w.cell? ⟨gm, 0, none⟩ = some (.string (S8 mask))) :
    Calls Tryz.prog 168 #[.int .i64 i, .int .u8 old.toNat, .pointer (some ⟨gm, 0, none⟩)] w fun e w' =>
      e = .returned (.int .u8 (old ||| masked mask i).toNat) ∧ ∃ n, w' = w.drewN n := by
  go_enter Tryz.func168, Tryz.ntmps168
  go_wp2_with (go_at_call 167; refine (masked_calls mask i _ hi hm).mono ?_; rintro e w' ⟨rfl, rfl⟩)
  go_ret
  exact ⟨ret_int (u8_or' _ _), 0, rfl⟩

end Go.Proofs.YtefoldehejbiiaaGreat

namespace Go.Proofs.YtefoldehejbiiaaGreat
open Go.RowKit Lich

def bytesOf (l : List UInt8) (z : Nat) : Array Value := (l.map fun b => Value.int .u8 (b.toNat : Int)).toArray ++ Array.replicate z (.int .u8 0)

theorem bytesOf_get {l : List UInt8} {z k : Nat} (h : k < l.length) : (bytesOf l z)[k]? = some (.int .u8 ((l.getD k 0).toNat : Int)) := by
  unfold bytesOf
  rw [Array.getElem?_append_left (by simpa using h)]
  simp [h, List.getD]

theorem bytesOf_set {l : List UInt8} {z k : Nat} (h : k < l.length) (x : UInt8) : (bytesOf l z).setIfInBounds k (.int .u8 (x.toNat : Int)) = bytesOf (l.set k x) z := by
  unfold bytesOf
  apply Array.ext'
  simp only [Array.toList_setIfInBounds, Array.toList_append, Array.toList_replicate]
  rw [List.set_append_left _ _ (by simpa using h), ← List.map_set]

theorem bytesOf_size (l : List UInt8) (z : Nat) : (bytesOf l z).size = l.length + z := by simp [bytesOf]

theorem turned_length (a : List UInt8) (p n : Nat) (f : Nat → UInt8 → UInt8) : (turned a p n f).length = a.length := by simp [turned]

theorem turned_zero (a : List UInt8) (p : Nat) (f : Nat → UInt8 → UInt8) : turned a p 0 f = a := by
  apply List.ext_getElem (by simp [turned])
  intro i h1 h2
  simp only [turned, List.getElem_mapIdx]
  rw [if_neg (by omega)]

theorem turned_at {a : List UInt8} {p k : Nat} (f : Nat → UInt8 → UInt8) : (turned a p k f).getD (p + k) 0 = a.getD (p + k) 0 := by
  simp only [List.getD_eq_getElem?_getD, turned, List.getElem?_mapIdx]
  cases a[p + k]? <;> simp

theorem turned_succ {a : List UInt8} {p k : Nat} (f : Nat → UInt8 → UInt8) :
    turned a p (k + 1) f = (turned a p k f).set (p + k) (f k (a.getD (p + k) 0)) := by
  apply List.ext_getElem (by simp [turned])
  intro i h1 h2
  simp only [turned, List.getElem_mapIdx, List.getElem_set]
  have hi : i < a.length := by simpa [turned] using h1
  by_cases e : p + k = i
  · subst e
    rw [if_pos (by omega), if_pos rfl, show a.getD (p + k) 0 = a[p + k] from by simp [List.getD, hi]]
    congr 1; omega
  · rw [if_neg e]
    by_cases e2 : p ≤ i ∧ i < p + k
    · rw [if_pos e2, if_pos (by omega)]
    · rw [if_neg e2, if_neg (by omega)]

/-- The world behind '[]byte(s)'. -/
theorem bytes_world (w : World) (a : List UInt8) : ∃ z, (Lib.bytesWorld w 5 (S8 a)).heap[w.heap.size]? = some (.cells (bytesOf a z) 5 (a.length + z, a.length + z + 1)) := by
  refine ⟨grownCap w (S8 a).size 0 5 - (S8 a).size, ?_⟩
  have hb : Lib.bytesCells w 5 (S8 a) = bytesOf a (grownCap w (S8 a).size 0 5 - (S8 a).size) := by
    unfold Lib.bytesCells bytesOf S8
    simp
  rw [Lib.bytesWorld_at_new, hb, bytesOf_size]

theorem bytes_below (w : World) (a : List UInt8) : Below w.heap.size w (Lib.bytesWorld w 5 (S8 a)) :=
  ⟨by simp [Lib.bytesWorld, World.freeze, World.alloc, World.drew, -World.alloc_eq, -World.drew_eq], by simp [Lib.bytesWorld, World.freeze, World.alloc, World.drew, -World.alloc_eq, -World.drew_eq], by simp [Lib.bytesWorld, World.freeze, World.alloc, World.drew, -World.alloc_eq, -World.drew_eq],
    by rw [Lib.bytesWorld_size]; omega, fun k hk => Lib.bytesWorld_at_old w 5 (S8 a) k hk⟩

theorem und9 : Tryz.prog.underlying 9 = some .string := by kernel_rfl
theorem und5 : Tryz.prog.underlying 5 = some (.int .u8) := by kernel_rfl
theorem und137 : Tryz.prog.underlying 70 = some (.slice 5) := by kernel_rfl

set_option maxRecDepth 100000 in
set_option maxHeartbeats 1000000 in
theorem turnedP_calls (a mask data : List UInt8) (gm gd p : Nat) (w : World) (hp : p + data.length ≤ a.length) (ha : a.length < 100000) (hm : mask.length < 1000000000)
    (h1 : w.cell? ⟨gm, 0, none⟩ = some (.string (S8 mask))) (h2 : w.cell? ⟨gd, 0, none⟩ = some (.string (S8 data))) :
    Calls Tryz.prog 165 #[.string (S8 a), .int .i64 p, .int .i64 data.length, .func (.func 166) #[] #[.pointer (some ⟨gm, 0, none⟩), .pointer (some ⟨gd, 0, none⟩)]] w fun e w' =>
      e = .returned (.string (S8 (progCut a p data mask))) ∧ Below w.heap.size w w' := by
  have hconv := Lib.run_convert_string_bytes (P := Tryz.prog) w 9 70 5 (S8 a) und9 und137 und5
  have hsz := S8_size a
  have hbw := bytes_below w a
  obtain ⟨z, hbn⟩ := bytes_world w a
  have hlm := World.block_lt_of_cell? _ _ h1
  have hld := World.block_lt_of_cell? _ _ h2
  generalize Lib.bytesWorld w 5 (S8 a) = w1 at hconv hbw hbn
  generalize grownCap w (S8 a).size 0 5 = cap at hconv
  obtain ⟨f, hf⟩ : ∃ f : Nat → UInt8 → UInt8, f = fun i old => old &&& ~~~(masked mask i &&& ~~~(data.getD i 0)) := ⟨_, rfl⟩
  have hres : progCut a p data mask = turned a p data.length f := by rw [hf]; rfl
  have Hf := Lib.hid hf
  rw [hres]
  clear hf hres
  have HB := Lib.hid hbn
  clear hbn
  go_enter Tryz.func165, Tryz.ntmps165
  go_wp2_with fail
  go_loopw [14] (fun i wr => ∃ k : Nat, k ≤ data.length ∧ i = .int .i64 k ∧ Below w.heap.size w wr ∧ wr.heap[w.heap.size]? = some (.cells (bytesOf (turned a p k f) z) 5 (a.length + z, a.length + z + 1))) (fun i _ => data.length - (intOf i).toNat)
  case atStart => exact ⟨0, Nat.zero_le _, rfl, hbw, by rw [turned_zero]; exact HB.out⟩
  case round =>
    obtain ⟨k, hk, rfl, hb, hblk⟩ := hrel
    by_cases hlt : k < data.length
    · have hc : wr.cell? ⟨w.heap.size, p + k, none⟩ = some (.int .u8 ((a.getD (p + k) 0).toNat : Int)) := by
        rw [blk_cell hblk, bytesOf_get (by rw [turned_length]; omega), turned_at f]
      have hz : wr.frozen? ⟨w.heap.size, p + k, none⟩ = false := by simp [World.frozen?, hblk]; omega
      have hcl := progStep_calls mask data gm gd (a.getD (p + k) 0) k wr hlt (by omega) hm (by rw [hb.cell (by exact hlm)]; exact h1) (by rw [hb.cell (by exact hld)]; exact h2)
      have HC := Lib.hid hcl
      have HK := Lib.hid hblk
      clear hcl hblk
      have hnext := turned_succ f (p := p) (k := k) (a := a)
      have hfk : f k (a.getD (p + k) 0) = a.getD (p + k) 0 &&& ~~~(masked mask k &&& ~~~(data.getD k 0)) := by rw [Hf.out]
      have HN := Lib.hid (hnext.trans (by rw [hfk]))
      clear hnext hfk
      generalize a.getD (p + k) 0 &&& ~~~(masked mask k &&& ~~~(data.getD k 0)) = y at HC HN
      generalize a.getD (p + k) 0 = x at *
      go_wp2_with fail
      refine (HC.out).mono ?_
      rintro e w' ⟨rfl, m, rfl⟩
      go_wp2_with fail
      go_roundw
      case rel =>
        refine ⟨k + 1, by omega, by go_num, (below_drewN hb m).setCell (by simp) _, ?_⟩
        rw [HN.out]
        rw [← bytesOf_set (by rw [turned_length]; omega)]
        exact blk_set (w := wr.drewN m) HK.out _
      case measure => simp [intOf]; omega
    · have hke : k = data.length := by omega
      have HK := Lib.hid hblk
      have HE := Lib.hid hke
      have hback := run_convert_bytes_back (P := Tryz.prog) wr 70 9 5 ⟨w.heap.size, 0, none⟩ cap (turned a p k f) und137 und5 und9 (fun j hj => by
        have hj' : j < a.length := by simpa [turned_length] using hj
        have ha : (⟨w.heap.size, 0, none⟩ : Addr).add j = ⟨w.heap.size, j, none⟩ := by unfold Addr.add; split <;> simp_all
        rw [ha, blk_cell hblk, bytesOf_get hj]
        simp [List.getD, hj])
      rw [turned_length] at hback
      clear hblk hke
      go_wp2_with fail
      go_ret
      refine ⟨by rw [← HE.out]; rfl, hb⟩

set_option maxRecDepth 100000 in
set_option maxHeartbeats 1000000 in
theorem turnedE_calls (a mask : List UInt8) (gm q p : Nat) (w : World) (hq : p = q * 512) (hp : p + 512 ≤ a.length) (ha : a.length < 100000) (hm : mask.length < 1000000000)
    (h1 : w.cell? ⟨gm, 0, none⟩ = some (.string (S8 mask))) :
    Calls Tryz.prog 165 #[.string (S8 a), .int .i64 (p : Nat), .int .i64 512, .func (.func 168) #[] #[.pointer (some ⟨gm, 0, none⟩)]] w fun e w' =>
      e = .returned (.string (S8 (eraseCut a q mask))) ∧ Below w.heap.size w w' := by
  have hconv := Lib.run_convert_string_bytes (P := Tryz.prog) w 9 70 5 (S8 a) und9 und137 und5
  have hsz := S8_size a
  have hbw := bytes_below w a
  obtain ⟨z, hbn⟩ := bytes_world w a
  have hlm := World.block_lt_of_cell? _ _ h1
  generalize Lib.bytesWorld w 5 (S8 a) = w1 at hconv hbw hbn
  generalize grownCap w (S8 a).size 0 5 = cap at hconv
  obtain ⟨f, hf⟩ : ∃ f : Nat → UInt8 → UInt8, f = fun i old => old ||| masked mask i := ⟨_, rfl⟩
  have hres : eraseCut a q mask = turned a p 512 f := by rw [hf, hq]; rfl
  have Hf := Lib.hid hf
  rw [hres]
  clear hf hres hq
  have HB := Lib.hid hbn
  clear hbn
  go_enter Tryz.func165, Tryz.ntmps165
  go_wp2_with fail
  go_loopw [14] (fun i wr => ∃ k : Nat, k ≤ 512 ∧ i = .int .i64 k ∧ Below w.heap.size w wr ∧ wr.heap[w.heap.size]? = some (.cells (bytesOf (turned a p k f) z) 5 (a.length + z, a.length + z + 1))) (fun i _ => 512 - (intOf i).toNat)
  case atStart => exact ⟨0, Nat.zero_le _, rfl, hbw, by rw [turned_zero]; exact HB.out⟩
  case round =>
    obtain ⟨k, hk, rfl, hb, hblk⟩ := hrel
    by_cases hlt : k < 512
    · have hc : wr.cell? ⟨w.heap.size, p + k, none⟩ = some (.int .u8 ((a.getD (p + k) 0).toNat : Int)) := by
        rw [blk_cell hblk, bytesOf_get (by rw [turned_length]; omega), turned_at f]
      have hz : wr.frozen? ⟨w.heap.size, p + k, none⟩ = false := by simp [World.frozen?, hblk]; omega
      have hcl := eraseStep_calls mask gm (a.getD (p + k) 0) k wr (by omega) hm (by rw [hb.cell (by exact hlm)]; exact h1)
      have HC := Lib.hid hcl
      have HK := Lib.hid hblk
      clear hcl hblk
      have hnext := turned_succ f (p := p) (k := k) (a := a)
      have hfk : f k (a.getD (p + k) 0) = a.getD (p + k) 0 ||| masked mask k := by rw [Hf.out]
      have HN := Lib.hid (hnext.trans (by rw [hfk]))
      clear hnext hfk
      generalize a.getD (p + k) 0 ||| masked mask k = y at HC HN
      generalize a.getD (p + k) 0 = x at *
      go_wp2_with fail
      refine (HC.out).mono ?_
      rintro e w' ⟨rfl, m, rfl⟩
      go_wp2_with fail
      go_roundw
      case rel =>
        refine ⟨k + 1, by omega, by go_num, (below_drewN hb m).setCell (by simp) _, ?_⟩
        rw [HN.out]
        rw [← bytesOf_set (by rw [turned_length]; omega)]
        exact blk_set (w := wr.drewN m) HK.out _
      case measure => simp [intOf]; omega
    · have hke : k = 512 := by omega
      have HK := Lib.hid hblk
      have HE := Lib.hid hke
      have hback := run_convert_bytes_back (P := Tryz.prog) wr 70 9 5 ⟨w.heap.size, 0, none⟩ cap (turned a p k f) und137 und5 und9 (fun j hj => by
        have hj' : j < a.length := by simpa [turned_length] using hj
        have ha : (⟨w.heap.size, 0, none⟩ : Addr).add j = ⟨w.heap.size, j, none⟩ := by unfold Addr.add; split <;> simp_all
        rw [ha, blk_cell hblk, bytesOf_get hj]
        simp [List.getD, hj])
      rw [turned_length] at hback
      clear hblk hke
      go_wp2_with fail
      go_ret
      refine ⟨by rw [← HE.out]; rfl, hb⟩

/-- May cells be? -/
theorem cellMay_calls (a : List UInt8) (w : World) :
    Calls Tryz.prog 62 #[.string (S8 a)] w fun e w' => e = .returned (.bool (a.length = 4096)) ∧ w = w' := by
  have h := S8_size a
  go_enter Tryz.func62, Tryz.ntmps62
  go_wp2
  go_ret
  exact ⟨ret_bool (by rw [Bool.eq_iff_iff]; simp; omega), rfl⟩

set_option maxHeartbeats 400000 in
theorem fits_calls (a : List UInt8) (p n : Int) (w : World) (ha : a.length = 4096) (h0 : 0 ≤ p) (h1 : 0 ≤ n) (h2 : p + n ≤ 4096) :
    Calls Tryz.prog 164 #[.string (S8 a), .int .i64 p, .int .i64 n] w fun e w' => e = .returned (.bool true) ∧ w = w' := by
  have hc := cellMay_calls a w
  rw [show decide (a.length = 4096) = true from by simp [ha]] at hc
  have HC := Lib.hid hc
  clear hc ha
  have b1 : decide (0 ≤ p) = true := by simp [h0]
  have b2 : decide (p ≤ 4096) = true := by simp; omega
  have b3 : decide (n ≤ 4096 - p) = true := by simp; omega
  go_enter Tryz.func164, Tryz.ntmps164
  go_wp2_with (go_at_call 62; refine HC.out.mono ?_; rintro e w' ⟨rfl, rfl⟩)
  go_ret
  exact ⟨rfl, rfl⟩

set_option maxHeartbeats 400000 in
theorem programCut_calls (a mask data : List UInt8) (p : Nat) (w : World) (ha : a.length = 4096) (hp : p + data.length ≤ 4096) (hm : mask.length < 1000000000) :
    Calls Tryz.prog 158 #[.string (S8 a), .int .i64 p, .string (S8 data), .string (S8 mask)] w fun e w' =>
      e = .returned (.tuple #[.string (S8 (progCut a p data mask)), .int .i64 0]) ∧ Below w.heap.size w w' := by
  have hd := S8_size data
  have hlen : data.length ≤ maxLen := by unfold maxLen; omega
  have hf := fits_calls a p data.length ((w.alloc (.cells #[.string (S8 data)] 9)).alloc (.cells #[.string (S8 mask)] 9)) ha (by omega) (by omega) (by omega)
  have ht := turnedP_calls a mask data (w.heap.size + 1) w.heap.size p ((w.alloc (.cells #[.string (S8 data)] 9)).alloc (.cells #[.string (S8 mask)] 9)) (by omega) (by omega) hm (by simp) (by
    rw [World.cell?_alloc_lt _ _ _ (by simp)]; simp)
  have HF := Lib.hid hf
  have HT := Lib.hid ht
  clear hf ht ha
  go_enter Tryz.func158, Tryz.ntmps158
  go_wp2_with fail
  refine HF.out.mono ?_
  rintro e w' ⟨rfl, rfl⟩
  go_wp2_with fail
  refine HT.out.mono ?_
  rintro e w' ⟨rfl, hb⟩
  go_wp2_with fail
  go_ret2
  exact ⟨rfl, (((Below.refl _ _).alloc (Nat.le_refl _) _).alloc (by simp) _).trans (hb.mono (by simp; omega))⟩

set_option maxHeartbeats 400000 in
theorem eraseCut_calls (a mask : List UInt8) (q : Nat) (w : World) (ha : a.length = 4096) (hq : q < 8) (hm : mask.length < 1000000000) :
    Calls Tryz.prog 159 #[.string (S8 a), .int .i64 q, .string (S8 mask)] w fun e w' =>
      e = .returned (.tuple #[.string (S8 (eraseCut a q mask)), .int .i64 0]) ∧ Below w.heap.size w w' := by
  have hf := cellMay_calls a (w.alloc (.cells #[.string (S8 mask)] 9))
  rw [show decide (a.length = 4096) = true from by simp [ha]] at hf
  have ht := turnedE_calls a mask w.heap.size q (q * 512) (w.alloc (.cells #[.string (S8 mask)] 9)) rfl (by omega) (by omega) hm (by simp)
  have HF := Lib.hid hf
  have HT := Lib.hid ht
  have b1 : decide ((q : Int) < 0) = false := by simp
  have b2 : decide ((8 : Int) ≤ (q : Int)) = false := by simp; omega
  clear hf ht ha
  go_enter Tryz.func159, Tryz.ntmps159
  go_wp2_with fail
  refine HF.out.mono ?_
  rintro e w' ⟨rfl, rfl⟩
  go_wp2_with fail
  refine HT.out.mono ?_
  rintro e w' ⟨rfl, hb⟩
  go_wp2_with fail
  go_ret2
  exact ⟨rfl, ((Below.refl _ _).alloc (Nat.le_refl _) _).trans (hb.mono (by simp))⟩

set_option maxHeartbeats 1000000 in
theorem jobCells_calls (g : Nat) (j : Job) (a mask : List UInt8) (w : World) (ha : a.length = 4096) (hj : j.Ok) (hm : mask.length < 1000000000)
    (hb : w.heap[g]? = some (.cells #[.int .i64 j.sector, .int .i64 j.page, .string (S8 j.data), .int .i64 j.left, .bool j.susp] 140 (0, 0))) :
    Calls Tryz.prog 144 #[.pointer (some ⟨g, 0, none⟩), .string (S8 a), .string (S8 mask)] w fun e w' =>
      e = .returned (.string (S8 (j.cells a mask))) ∧ Below w.heap.size w w' := by
  have h0 : w.cell? ⟨g, 0, none⟩ = some (.int .i64 j.sector) := (blk_cell hb).trans rfl
  rcases hj with ⟨hs, hp0, hp1⟩ | ⟨hs0, hs1⟩
  · obtain ⟨p, hp⟩ := Int.eq_ofNat_of_zero_le hp0
    have hres : j.cells a mask = progCut a p j.data mask := by unfold Job.cells; rw [if_pos hs, hp]; rfl
    have x1 : ∀ x : Ext w, x.w'.cell? ⟨g, 1, none⟩ = some (.int .i64 (p : Int)) := fun x => x.cell ((blk_cell hb).trans (by rw [hp]; rfl))
    have x2 : ∀ x : Ext w, x.w'.cell? ⟨g, 2, none⟩ = some (.string (S8 j.data)) := fun x => x.cell ((blk_cell hb).trans rfl)
    have hc : ∀ x : Ext w, Calls Tryz.prog 158 #[.string (S8 a), .int .i64 p, .string (S8 j.data), .string (S8 mask)] x.w' fun e w' =>
      e = .returned (.tuple #[.string (S8 (progCut a p j.data mask)), .int .i64 0]) ∧ Below x.w'.heap.size x.w' w' := fun x => programCut_calls a mask j.data p x.w' ha (by omega) hm
    rw [hs] at h0
    rw [hres]
    have HC := Lib.hid hc
    clear hc hres hp hp0 hp1 hs hb ha
    go_enter Tryz.func144, Tryz.ntmps144
    go_wp2_with fail
    refine wp_region_ext (by kernel_rfl) (by kernel_rfl) ?_
    repeat (go_big_quiet_step ((go_at_call 158; exact ext_below (HC.out _))))
    refine wpQuiet_nil ?_
    intro wx hx
    obtain ⟨x, rfl⟩ := hx
    go_wp2_with fail
    go_ret
    exact ⟨rfl, x.below⟩
  · obtain ⟨q, hq⟩ := Int.eq_ofNat_of_zero_le hs0
    have hres : j.cells a mask = eraseCut a q mask := by unfold Job.cells; rw [if_neg (by omega), hq]; rfl
    have hc := eraseCut_calls a mask q w ha (by omega) hm
    have b1 : ((q : Int) == -1) = false := by simp
    rw [hq] at h0
    rw [hres]
    have HC := Lib.hid hc
    clear hc hres hq hs0 hs1 hb ha
    go_enter Tryz.func144, Tryz.ntmps144
    go_wp2_with fail
    refine HC.out.mono ?_
    rintro e w' ⟨rfl, hb⟩
    go_wp2_with fail
    go_ret
    exact ⟨rfl, hb⟩

end Go.Proofs.YtefoldehejbiiaaGreat

namespace Go.Proofs.YtefoldehejbiiaaGreat
open Go.RowKit Lich

/-- The bytes of a number, the lowest one first, so far as they are laid. -/
def lowByte (x : Nat) (i : Nat) : UInt8 := UInt8.ofNat (x / 256 ^ i)
def lowArr (x k : Nat) : List UInt8 := (List.range 4).map fun i => if i < k then lowByte x i else 0
def lowBytes (x : Nat) : List UInt8 := (List.range 4).map (lowByte x)

theorem lowArr_zero (x : Nat) : lowArr x 0 = [0, 0, 0, 0] := rfl
theorem lowArr_four (x : Nat) : lowArr x 4 = lowBytes x := rfl
theorem lowArr_set (x k : Nat) (hk : k < 4) : (lowArr x k).set k (lowByte x k) = lowArr x (k + 1) := by
  obtain rfl | rfl | rfl | rfl : k = 0 ∨ k = 1 ∨ k = 2 ∨ k = 3 := by omega
  all_goals rfl
theorem lowByte_val (x i : Nat) : ((lowByte x i).toNat : Int) = ((x : Int) / 256 ^ i) % 256 := by
  unfold lowByte
  simp

set_option maxRecDepth 100000 in
set_option maxHeartbeats 1000000 in
theorem low_calls (x : Nat) (w : World) (hx : x < 2147483648) :
    Calls Tryz.prog 177 #[.int .i64 x] w fun e w' => e = .returned (.string (S8 (lowBytes x))) ∧ Below w.heap.size w w' := by
  have hmk : ∀ w, (Instr.makeSlice 70 (.int .i64 4) (.int .i64 4)).run Tryz.prog w = .ok (.slice (some ⟨w.heap.size, 0, none⟩) 4 4) (w.alloc (.cells #[.int .u8 0, .int .u8 0, .int .u8 0, .int .u8 0] 5)) := fun _ => by kernel_rfl
  go_enter Tryz.func177, Tryz.ntmps177
  go_wp2_with fail
  go_loopw [8] (fun i wr => ∃ k : Nat, k ≤ 4 ∧ i = .int .i64 k ∧ Below w.heap.size w wr ∧ wr.heap[w.heap.size]? = some (.cells (bytesOf (lowArr x k) 0) 5 (0, 0))) (fun i _ => 4 - (intOf i).toNat)
  case atStart => exact ⟨0, Nat.zero_le _, rfl, below_new (Below.refl _ w) _, by rw [blk_new _ _ _ rfl]; rfl⟩
  case round =>
    obtain ⟨k, hk, rfl, hb, hblk⟩ := hrel
    by_cases hlt : k < 4
    · have hnext : (bytesOf (lowArr x k) 0).setIfInBounds k (.int .u8 ((lowByte x k).toNat : Int)) = bytesOf (lowArr x (k + 1)) 0 := by
        rw [bytesOf_set (by simpa [lowArr] using hlt), lowArr_set x k hlt]
      have hv := lowByte_val x k
      have hc : wr.cell? ⟨w.heap.size, k, none⟩ = some (.int .u8 (((lowArr x k).getD k 0).toNat : Int)) := by
        rw [blk_cell hblk, bytesOf_get (by simpa [lowArr] using hlt)]
      have hz : wr.frozen? ⟨w.heap.size, k, none⟩ = false := blk_free hblk
      have HN := Lib.hid hnext
      have HV := Lib.hid hv
      have HK := Lib.hid hblk
      clear hnext hv hblk
      generalize (lowArr x k).getD k 0 = old at hc
      obtain rfl | rfl | rfl | rfl : k = 0 ∨ k = 1 ∨ k = 2 ∨ k = 3 := by omega
      all_goals
        go_wp2_with fail
        go_roundw
        case rel =>
          refine ⟨_, ?_, rfl, hb.setCell (Nat.le_refl _) _, ?_⟩
          rotate_left
          · have hv := HV.out
            simp only [Int.reducePow, Int.ediv_one] at hv
            try rw [show (x : Int) / 16777216 % 256 = (x : Int) / 16777216 from by omega] at hv
            rw [blk_set HK.out, ← hv, HN.out]
          · decide
        case measure => simp [intOf]
    · obtain rfl : k = 4 := by omega
      have hback := run_convert_bytes_back (P := Tryz.prog) wr 70 9 5 ⟨w.heap.size, 0, none⟩ 4 (lowBytes x) und137 und5 und9 (fun j hj => by
        have hj' : j < 4 := by simpa [lowBytes] using hj
        have ha : (⟨w.heap.size, 0, none⟩ : Addr).add j = ⟨w.heap.size, j, none⟩ := by unfold Addr.add; split <;> simp_all
        rw [ha, blk_cell hblk, lowArr_four, bytesOf_get hj]
        simp [List.getD, hj])
      rw [show (lowBytes x).length = 4 from rfl] at hback
      clear hblk
      go_wp2_with fail
      go_ret
      exact ⟨rfl, hb⟩

/-- May a number be? (for the three that are asked) -/
theorem sfdpMay_calls (x : Nat) (w : World) (hx : x = 4096 ∨ x = 512 ∨ x = 32) :
    Calls Tryz.prog 176 #[.int .i64 x] w fun e w' => e = .returned (.bool true) ∧ w = w' := by
  have b1 : bits .and .i64 4096 4095 = 0 := by decide
  have b2 : bits .and .i64 512 511 = 0 := by decide
  have b3 : bits .and .i64 32 31 = 0 := by decide
  rcases hx with rfl | rfl | rfl
  all_goals
    go_enter Tryz.func176, Tryz.ntmps176
    go_wp2
    go_ret
    exact ⟨rfl, rfl⟩
end Go.Proofs.YtefoldehejbiiaaGreat
