/-
  What stands in memory for a chip, and how worlds follow each other: words and small lemmas; no walk.
-/
import Derived.Test.YtefoldehejbiiaaGreatProg
import Derived.WalkKit
import Derived.WalkSpells
import Derived.WalkLawsBesides
import Derived.Deep.QuietTactic
import Derived.BigQuiet
import Derived.Lib.Hide
import Derived.Outline
import Derived.Test.YtefoldehejbiiaaGreatM02

namespace Go.Proofs.YtefoldehejbiiaaGreat
open Go.RowKit

/-- A text's value. -/
def S8 (l : List UInt8) : ByteArray := ⟨l.toArray⟩

/-- Outside of the blocks of S the world w' holds what w held; the streams are as they were. -/
structure Kept (S : Nat → Prop) (w w' : World) : Prop where
  os : w'.os = w.os
  tape : w'.tape = w.tape
  output : w'.output = w.output
  size : w.heap.size ≤ w'.heap.size
  block : ∀ k, k < w.heap.size → ¬ S k → w'.heap[k]? = w.heap[k]?

theorem Kept.refl (S : Nat → Prop) (w : World) : Kept S w w := ⟨rfl, rfl, rfl, Nat.le_refl _, fun _ _ _ => rfl⟩

/-- One step: S is what may be written, S' what is owned then. -/
structure Step (S S' : Nat → Prop) (w w' : World) : Prop extends Kept S w w' where
  sub : ∀ k, S' k → S k ∨ w.heap.size ≤ k

theorem Step.refl (S : Nat → Prop) (w : World) : Step S S w w := ⟨Kept.refl S w, fun _ h => .inl h⟩

theorem Step.trans {S S1 S2 : Nat → Prop} {w w1 w2 : World} (h : Step S S1 w w1) (k : Step S1 S2 w1 w2) : Step S S2 w w2 := by
  refine ⟨⟨k.os.trans h.os, k.tape.trans h.tape, k.output.trans h.output, Nat.le_trans h.size k.size, fun i hi hS => ?_⟩, fun i hi => ?_⟩
  · rw [k.block i (Nat.lt_of_lt_of_le hi h.size) (fun hc => (h.sub i hc).elim hS (fun h2 => by omega)), h.block i hi hS]
  · rcases k.sub i hi with h1 | h1
    · exact h.sub i h1
    · exact .inr (Nat.le_trans h.size h1)

theorem Kept.mono {S S' : Nat → Prop} {w w' : World} (h : Kept S w w') (hs : ∀ k, S k → S' k) : Kept S' w w' :=
  ⟨h.os, h.tape, h.output, h.size, fun k hk hn => h.block k hk (fun hc => hn (hs k hc))⟩

theorem Kept.trans {S : Nat → Prop} {w w1 w2 : World} (h : Kept S w w1) (k : Kept S w1 w2) : Kept S w w2 :=
  ⟨k.os.trans h.os, k.tape.trans h.tape, k.output.trans h.output, Nat.le_trans h.size k.size, fun i hi hS => by rw [k.block i (Nat.lt_of_lt_of_le hi h.size) hS, h.block i hi hS]⟩

theorem Kept.drew {S : Nat → Prop} {w w' : World} (h : Kept S w w') : Kept S w w'.drew := ⟨h.os, h.tape, h.output, h.size, h.block⟩
theorem Kept.drewN {S : Nat → Prop} {w w' : World} (h : Kept S w w') (n : Nat) : Kept S w (w'.drewN n) := ⟨h.os, h.tape, h.output, h.size, h.block⟩
theorem Kept.alloc {S : Nat → Prop} {w w' : World} (h : Kept S w w') (o : Obj) : Kept S w (w'.alloc o) :=
  ⟨h.os, h.tape, h.output, by have := h.size; simp; omega, fun k hk hS => by rw [Below.heap_alloc _ _ _ (Nat.lt_of_lt_of_le hk h.size), h.block k hk hS]⟩
theorem Kept.setCell {S : Nat → Prop} {w w' : World} (h : Kept S w w') {p : Addr} (hp : S p.block ∨ w.heap.size ≤ p.block) (u : Value) : Kept S w (w'.setCell p u) :=
  ⟨h.os, h.tape, h.output, by have := h.size; simpa using this, fun k hk hS => by
    rw [Below.heap_setCell _ _ _ _ (fun e => by subst e; rcases hp with hp | hp; exact hS hp; omega), h.block k hk hS]⟩
theorem Kept.below {S : Nat → Prop} {w w1 w' : World} (h : Kept S w w1) (hb : Below w1.heap.size w1 w') : Kept S w w' :=
  ⟨hb.os.trans h.os, hb.tape.trans h.tape, hb.output.trans h.output, Nat.le_trans h.size hb.size, fun k hk hS => by rw [hb.block k (Nat.lt_of_lt_of_le hk h.size), h.block k hk hS]⟩
theorem Kept.grown {S : Nat → Prop} {w w1 w' : World} {row : Option Nat} (h : Kept S w w1) (hg : w1.grownBy w' row) (hr : ∀ k, row = some k → S k ∨ w.heap.size ≤ k) : Kept S w w' :=
  ⟨hg.os.trans h.os, hg.tape.trans h.tape, hg.output.trans h.output, Nat.le_trans h.size hg.size, fun k hk hS => by
    rw [hg.block k (Nat.lt_of_lt_of_le hk h.size) (fun e => by rcases hr k e.symm with h1 | h1; exact hS h1; omega), h.block k hk hS]⟩
theorem Kept.of_below {S : Nat → Prop} {w w' : World} (hb : Below w.heap.size w w') : Kept S w w' := (Kept.refl S w).below hb

/-- A block behind a store into it, and of a store elsewhere. -/
theorem blk_set {w : World} {b i : Nat} {cs : Array Value} {t : TypeId} {fr : Nat × Nat} (h : w.heap[b]? = some (.cells cs t fr)) (v : Value) :
    (w.setCell ⟨b, i, none⟩ v).heap[b]? = some (.cells (cs.setIfInBounds i v) t fr) := by
  simp [World.setCell, Array.getElem?_modify, h]
theorem blk_far {w : World} {b k i : Nat} {o : Option Obj} (h : w.heap[k]? = o) (hk : k ≠ b) (v : Value) : (w.setCell ⟨b, i, none⟩ v).heap[k]? = o := by
  rw [Below.heap_setCell _ _ _ _ hk]; exact h
theorem blk_alloc {w : World} {k : Nat} {x : Obj} (h : w.heap[k]? = some x) (o : Obj) : (w.alloc o).heap[k]? = some x := by
  rw [Below.heap_alloc _ _ _ (lt_of_block h)]; exact h
theorem blk_new (w : World) (o : Obj) (n : Nat) (h : n = w.heap.size) : (w.alloc o).heap[n]? = some o := by
  subst h; simp [World.alloc, -World.alloc_eq]
theorem blk_cell {w : World} {b i : Nat} {cs : Array Value} {t : TypeId} {fr : Nat × Nat} (h : w.heap[b]? = some (.cells cs t fr)) : w.cell? ⟨b, i, none⟩ = cs[i]? := by
  simp [World.cell?, h]
theorem blk_free {w : World} {b i : Nat} {cs : Array Value} {t : TypeId} (h : w.heap[b]? = some (.cells cs t (0, 0))) : w.frozen? ⟨b, i, none⟩ = false := by
  simp [World.frozen?, h]
theorem blk_ne {w : World} {a b : Nat} {cs ds : Array Value} {t u : TypeId} {fr fs : Nat × Nat} (h : w.heap[a]? = some (.cells cs t fr)) (k : w.heap[b]? = some (.cells ds u fs)) (hne : t ≠ u) : a ≠ b := by
  rintro rfl
  rw [h] at k
  simp only [Option.some.injEq, Obj.cells.injEq] at k
  exact hne k.2.1
theorem blk_kept {S : Nat → Prop} {w w' : World} (hk : Kept S w w') {k : Nat} {o : Obj} (h : w.heap[k]? = some o) (hS : ¬ S k) : w'.heap[k]? = some o := by
  rw [hk.block k (lt_of_block h) hS]; exact h

theorem below_drewN {B : Nat} {w w' : World} (h : Below B w w') (n : Nat) : Below B w (w'.drewN n) := ⟨h.os, h.tape, h.output, h.size, h.block⟩

theorem below_new {a w : World} (h : Below a.heap.size a w) (o : Obj) : Below a.heap.size a (w.alloc o) := h.alloc h.size o

theorem ret_int {k : IntKind} {a b : Int} (h : a = b) : Ending.returned (.int k a) = .returned (.int k b) := by rw [h]
theorem ret_bool {a b : Bool} (h : a = b) : Ending.returned (.bool a) = .returned (.bool b) := by rw [h]

theorem quiet_eq {P : Program} {f : FuncId} {args : Array Value} {w : World} {n : Nat} {v : Value}
    (h : Calls P f args (w.drewN n) fun e w' => e = .returned v ∧ w.drewN n = w') : Calls P f args (w.drewN n) fun e w'' => e = .returned v ∧ ∃ m, w'' = w.drewN m :=
  Calls.quiet_of_same (h.mono fun _ _ h => ⟨h.1, h.2.symm⟩)

/-- A row of whole numbers that is read: what it holds. -/
def IntsIs (w : World) (v : Value) (xs : List Int) (S : Nat → Prop) : Prop :=
  (v = .slice none 0 0 ∧ xs = []) ∨
  ∃ g off cap cs, v = .slice (some ⟨g, off, none⟩) xs.length cap ∧ xs.length ≤ cap ∧ cap ≤ maxLen ∧ S g ∧ w.heap[g]? = some (.cells cs 3 (0, 0)) ∧ ∀ i x, xs[i]? = some x → cs[off + i]? = some (.int .i64 x)

theorem IntsIs.keep {R S : Nat → Prop} {w w' : World} {v : Value} {xs : List Int} (h : IntsIs w v xs S) (hk : Kept R w w') (hd : ∀ k, v.ownBlock = some k → ¬ R k) : IntsIs w' v xs S := by
  rcases h with h | ⟨g, off, cap, cs, rfl, hc, hm, hS, hb, hx⟩
  · exact .inl h
  · exact .inr ⟨g, off, cap, cs, rfl, hc, hm, hS, blk_kept hk hb (hd g rfl), hx⟩

theorem IntsIs.mono {S S' : Nat → Prop} {w : World} {v : Value} {xs : List Int} (h : IntsIs w v xs S) (hs : ∀ k, S k → S' k) : IntsIs w v xs S' := by
  rcases h with h | ⟨g, off, cap, cs, rfl, hc, hm, hS, hb, hx⟩
  · exact .inl h
  · exact .inr ⟨g, off, cap, cs, rfl, hc, hm, hs _ hS, hb, hx⟩

theorem ownsRow_keep {R : Nat → Prop} {w w' : World} {base : Nat} {e : TypeId} {size : Nat} {v : Value} {n : Nat} {xs : List Value} (h : w.ownsRow base e size v n xs) (hk : Kept R w w') (hd : ∀ k, v.ownBlock = some k → ¬ R k) : w'.ownsRow base e size v n xs := by
  obtain ⟨h1, h2⟩ := h
  refine ⟨h1, ?_⟩
  rcases h2 with h2 | ⟨g, cap, cur, rfl, hg, hh, r⟩
  · exact .inl h2
  · exact .inr ⟨g, cap, cur, rfl, hg, blk_kept hk hh (hd g rfl), r⟩

open Lich in
def JobIs (w : World) (v : Value) (j : Option Job) (S : Nat → Prop) : Prop :=
  match j with
  | none => v = .pointer none
  | some j => ∃ g, v = .pointer (some ⟨g, 0, none⟩) ∧ S g ∧ w.heap[g]? = some (.cells #[.int .i64 j.sector, .int .i64 j.page, .string (S8 j.data), .int .i64 j.left, .bool j.susp] 140 (0, 0))

open Lich in
/-- The cells of a chip. -/
def ChipBlk (c : Chip) (md : Bool) (jv bv dv : Value) : Array Value :=
  #[.string (S8 c.cells), .bool c.prot, .bool c.quad,
    .int .i64 (c.wipes.getD 0 0), .int .i64 (c.wipes.getD 1 0), .int .i64 (c.wipes.getD 2 0), .int .i64 (c.wipes.getD 3 0), .int .i64 (c.wipes.getD 4 0), .int .i64 (c.wipes.getD 5 0), .int .i64 (c.wipes.getD 6 0), .int .i64 (c.wipes.getD 7 0),
    .int .u32 (if md then 1 else 0), .int .i32 0, .int .u32 0, .string (if md then S8 table else S8 []),
    .bool c.sel, .bool c.en, .bool c.goes, jv, bv,
    .int .i64 c.cmd.op.byte, .int .i64 c.cmd.op.addr, .bool c.cmd.op.mode, .int .i64 c.cmd.op.dummy, .int .i64 c.cmd.op.data, .bool c.cmd.op.inn,
    .int .i64 c.cmd.stage, .int .i64 c.cmd.left, .int .i64 c.cmd.got, .int .i64 c.cmd.addr, .int .i64 c.cmd.mode, .bool c.cmd.moded, dv, .int .i64 c.cmd.told, .int .i64 c.cmd.now, .bool c.cmd.beyond]

open Lich in
/-- A chip stands at block b; what it leads to lies in S. -/
structure ChipIs (w : World) (b : Nat) (c : Chip) (S : Nat → Prop) (md : Bool) (jv bv dv : Value) : Prop where
  blk : w.heap[b]? = some (.cells (ChipBlk c md jv bv dv) 109 (0, 0))
  own : S b
  job : JobIs w jv c.job S
  busy : IntsIs w bv c.busy S
  data : w.ownsRow 0 3 1 dv c.cmd.data.length (c.cmd.data.map (.int .i64))
  dataS : ∀ k, dv.ownBlock = some k → S k
  apart : ∀ k, dv.ownBlock = some k → bv.ownBlock ≠ some k

open Lich in
def ChipAt (w : World) (b : Nat) (c : Chip) (S : Nat → Prop) : Prop := ∃ md jv bv dv, ChipIs w b c S md jv bv dv

open Lich in
/-- A chip behind a call: it is c' now, and nothing else has turned. -/
def ChipPost (b : Nat) (c' : Chip) (S : Nat → Prop) (w w' : World) : Prop := ∃ S', ChipAt w' b c' S' ∧ Step S S' w w'

/-- A world that is w but for new blocks. -/
structure Ext (w : World) where
  w' : World
  below : Below w.heap.size w w'

instance (w : World) : Nonempty (Ext w) := ⟨⟨w, Below.refl _ _⟩⟩

theorem Ext.cell {w : World} {b i : Nat} {v : Value} (x : Ext w) (h : w.cell? ⟨b, i, none⟩ = some v) : x.w'.cell? ⟨b, i, none⟩ = some v := by
  rw [x.below.cell (by exact World.block_lt_of_cell? _ _ h)]; exact h

theorem wp_region_ext {P : Program} {id : Nat} {Q : Exit → Act → World → Prop} {a : Act} {w : World} {l : List Oper} (hm : P.follows .mixedOrders = true) (hB : Region.lexB .any l.toArray = true)
    (h : wpQuiet P l.toArray (fun w' => ∃ x : Ext w, w' = x.w') (fun a' => ∀ w', (∃ x : Ext w, w' = x.w') → Q .normal a' w') l a) : (Code.region id l.toArray true).wp P Q a w :=
  wp_region_quiet (C := fun w' => ∃ x : Ext w, w' = x.w') hm hB ⟨⟨w.drew, (Below.refl _ w).drew⟩, rfl⟩ (by simpa using h)

theorem ext_eq {P : Program} {f : FuncId} {args : Array Value} {w : World} {v : Value} {x : Ext w}
    (h : Calls P f args x.w' fun e w' => e = .returned v ∧ x.w' = w') : Calls P f args x.w' fun e w'' => e = .returned v ∧ ∃ y : Ext w, w'' = y.w' :=
  h.mono fun _ _ h => ⟨h.1, x, h.2.symm⟩
theorem ext_below {P : Program} {f : FuncId} {args : Array Value} {w : World} {v : Value} {x : Ext w}
    (h : Calls P f args x.w' fun e w' => e = .returned v ∧ Below x.w'.heap.size x.w' w') : Calls P f args x.w' fun e w'' => e = .returned v ∧ ∃ y : Ext w, w'' = y.w' :=
  h.mono fun _ w'' h => ⟨h.1, ⟨w'', x.below.trans (h.2.mono x.below.size)⟩, rfl⟩

open Lich in
/-- A world in which a chip, and where its parts lie, is as it was. -/
structure Same (w : World) (b : Nat) (c : Chip) (S : Nat → Prop) (jv bv dv : Value) where
  w' : World
  md : Bool
  is : ChipIs w' b c S md jv bv dv
  kept : Kept S w w'

open Lich in
/-- A region that draws its order, and whose operations and callees leave a chip as it is: one walk, in the order of the text. -/
theorem wp_region_same {P : Program} {id : Nat} {Q : Exit → Act → World → Prop} {a : Act} {w : World} {l : List Oper} {b : Nat} {c : Chip} {S : Nat → Prop} {md : Bool} {jv bv dv : Value}
    (hc : ChipIs w b c S md jv bv dv) (hm : P.follows .mixedOrders = true) (hB : Region.lexB .any l.toArray = true)
    (h : wpQuiet P l.toArray (fun w' => ∃ x : Same w b c S jv bv dv, w' = x.w') (fun a' => ∀ w', (∃ x : Same w b c S jv bv dv, w' = x.w') → Q .normal a' w') l a) : (Code.region id l.toArray true).wp P Q a w :=
  wp_region_quiet (C := fun w' => ∃ x : Same w b c S jv bv dv, w' = x.w') hm hB ⟨⟨w.drew, md, ⟨hc.blk, hc.own, hc.job, hc.busy, hc.data, hc.dataS, hc.apart⟩, (Kept.refl S w).drew⟩, rfl⟩ (by simpa using h)

end Go.Proofs.YtefoldehejbiiaaGreat
