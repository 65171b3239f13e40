/-
  A command's phases may be; what stands in memory for a controller.
  What stands in memory for a controller; phases are driven within its bound.
  Walks: a controller drives phases.
  Walks: a controller's registers, its bound.
-/
import Derived.Test.YtefoldehejbiiaaGreatM34
import Derived.Test.YtefoldehejbiiaaGreatM35
import Derived.Test.YtefoldehejbiiaaGreatM36
import Derived.StillTailTactics
import Derived.Deep.RegionHeld3

set_option linter.unusedSimpArgs false
set_option linter.unusedVariables false
namespace Go.Proofs.YtefoldehejbiiaaGreat
open Go.RowKit Lich

theorem any_bytes {data : List Int} (h : data.any notByte = false) : ∀ x ∈ data, 0 ≤ x ∧ x < 256 := by
  intro x hx
  have := List.any_eq_false.1 h x hx
  simp only [notByte, Bool.not_eq_true', Bool.not_eq_false', Bool.and_eq_true, decide_eq_true_eq, Bool.not_eq_true, Bool.not_eq_false] at this
  exact this

theorem okB_bytes {l : Int} {bs : List Int} (hl : l = 1 ∨ l = 4) (hne : bs ≠ []) (hn : bs.length ≤ 512) (hb : ∀ x ∈ bs, 0 ≤ x ∧ x < 256) : ({ lanes := l, bytes := bs } : Phase).okB = true := by
  unfold Phase.okB
  rw [if_pos hne]
  simp only [Bool.and_eq_true, decide_eq_true_eq, List.all_eq_true, and_true]
  exact ⟨⟨by simpa using hl, hn⟩, fun x hx => by simpa using hb x hx⟩
theorem okB_clocks {n : Int} (h0 : 1 ≤ n) (h1 : n ≤ 400) : ({ clocks := n } : Phase).okB = true := by
  unfold Phase.okB
  simp [h0, h1]
theorem okB_read {l n : Int} (hl : l = 1 ∨ l = 4) (h0 : 1 ≤ n) (h1 : n ≤ 512) : ({ lanes := l, read := n } : Phase).okB = true := by
  have hn : n ≠ 0 := by omega
  unfold Phase.okB
  simp [h0, h1, hn, hl]

theorem opOf_mode {n : Int} {o : OpD} (h : opOf n = some o) (hm : o.mode = true) : o.data = 4 ∧ o.inn = false := by
  unfold opOf at h
  repeat' split at h
  all_goals first
    | (simp only [Option.some.injEq] at h; subst h; first | (simp at hm; done) | exact ⟨rfl, rfl⟩)
    | simp at h
theorem opOf_range {n : Int} {o : OpD} (h : opOf n = some o) : 0 ≤ n ∧ n < 256 := by
  unfold opOf at h
  repeat' split at h
  all_goals first
    | (simp at h; done)
    | omega

theorem cmdPhases_ok {o : OpD} (ho : opOf o.byte = some o) {at_ : Int} {data : List Int} {read : Int} (h : CmdOk o at_ data read) :
    (cmdPhases o at_ data read).all Phase.okB = true ∧ (cmdPhases o at_ data read).length ≤ 6 := by
  have hO := opOf_Ok ho
  have hb := any_bytes h.d1
  have a0 := h.a0
  have a1 := h.a1
  have hf := h.f
  have hby := opOf_range ho
  have ha := hO.addr
  have hd := hO.data
  have hm := hO.mode
  have hin := hO.inn
  have hdm := hO.dummy
  have hmd : o.mode = true → data ≠ [] := by
    intro hi e
    obtain ⟨h1, h2⟩ := opOf_mode ho hi
    subst e
    simp [fitsB, h1, h2, hi] at hf
  have hrd : 0 < read → o.data = 1 ∨ o.data = 4 := by
    intro hr
    rcases hd with h0 | h0
    · exfalso
      simp only [fitsB, h0, if_true, decide_eq_true_eq, Bool.decide_and, Bool.and_eq_true] at hf
      omega
    · exact h0
  constructor
  · rw [List.all_eq_true]
    intro p hp
    unfold cmdPhases at hp
    simp only [List.mem_append, List.mem_singleton] at hp
    rcases hp with ((((hp | hp) | hp) | hp) | hp) | hp
    · subst hp
      exact okB_bytes (.inl rfl) (by simp) (by simp) (by simpa using hby)
    · split at hp
      · simp only [List.mem_singleton] at hp
        subst hp
        refine okB_bytes (by omega) (by simp) (by simp) ?_
        intro x hx
        simp only [List.mem_cons, List.not_mem_nil, or_false] at hx
        omega
      · simp at hp
    · split at hp
      · rename_i hmo
        simp only [List.mem_singleton] at hp
        subst hp
        exact okB_bytes (.inr (hm hmo)) (hmd hmo) h.d0 hb
      · simp at hp
    · split at hp
      · simp only [List.mem_singleton] at hp
        subst hp
        exact okB_clocks (by omega) (by omega)
      · simp at hp
    · split at hp
      · rename_i hi
        simp only [List.mem_singleton] at hp
        subst hp
        exact okB_bytes (.inl (hin hi.1)) hi.2 h.d0 hb
      · simp at hp
    · split at hp
      · rename_i hr
        simp only [List.mem_singleton] at hp
        subst hp
        exact okB_read (hrd hr) (by omega) h.r1
      · simp at hp
  · unfold cmdPhases
    simp only [List.length_append, List.length_singleton]
    split <;> split <;> split <;> split <;> split <;> simp
end Go.Proofs.YtefoldehejbiiaaGreat

namespace Go.Proofs.YtefoldehejbiiaaGreat
open Go.RowKit Lich

def CtlBlk (b fo fi : Nat) (k : Ctl) (md : Bool) (lv : Value) : Array Value :=
  #[.pointer (some ⟨b, 0, none⟩), .int .i64 (k.regs.getD 0 0), .int .i64 (k.regs.getD 1 0), .int .i64 (k.regs.getD 2 0), .pointer (some ⟨fo, 0, none⟩), .pointer (some ⟨fi, 0, none⟩), .int .i64 k.clocks, .bool k.goes, .int .i64 k.left, .bool k.lost,
    .int .u32 (if md then 1 else 0), .int .i32 0, .int .u32 0, lv]

/-- The phases by which a read goes on no more, once they are made. -/
def LeaveIs (w : World) (md : Bool) (lv : Value) (gl gb : Nat) : Prop :=
  (md = false ∧ lv = .slice none 0 0) ∨
  (md = true ∧ lv = .slice (some ⟨gl, 0, none⟩) 1 1 ∧ w.heap[gl]? = some (.cells #[.int .i64 4, .slice (some ⟨gb, 0, none⟩) 4 4, .int .i64 0, .int .i64 0] 116 (0, 0)) ∧ w.heap[gb]? = some (.cells #[.int .i64 0, .int .i64 0, .int .i64 0, .int .i64 0] 3 (0, 0)))

/-- A controller stands at block q, its chip at b, its queues at fo, fi. -/
structure CtlMem (w : World) (q b fo fi : Nat) (k : Ctl) (md : Bool) (lv : Value) (gl gb : Nat) (Sc : Nat → Prop) : Prop where
  blk : w.heap[q]? = some (.cells (CtlBlk b fo fi k md lv) 91 (0, 0))
  chip : ChipAt w b k.chip Sc
  out : FifoIs w fo k.out
  inn : FifoIs w fi k.inn
  ne : fo ≠ fi
  leave : LeaveIs w md lv gl gb
  qS : ¬ Sc q
  oS : ¬ Sc fo
  iS : ¬ Sc fi
  lS : md = true → ¬ Sc gl ∧ ¬ Sc gb
  low : ∀ j, Sc j → j < w.heap.size

def CtlFeet (q fo fi : Nat) (md : Bool) (gl gb : Nat) (Sc : Nat → Prop) (j : Nat) : Prop := j = q ∨ j = fo ∨ j = fi ∨ (md = true ∧ (j = gl ∨ j = gb)) ∨ Sc j

/-- A controller and all that it owns. -/
def CtlIs (w : World) (q b : Nat) (k : Ctl) (S : Nat → Prop) : Prop := ∃ fo fi md lv gl gb Sc, CtlMem w q b fo fi k md lv gl gb Sc ∧ S = CtlFeet q fo fi md gl gb Sc

section
variable {w : World} {q b fo fi : Nat} {k : Ctl} {md : Bool} {lv : Value} {gl gb : Nat} {Sc : Nat → Prop}

theorem CtlMem.leaves (h : CtlMem w q b fo fi k md lv gl gb Sc) (hm : md = true) : lv = .slice (some ⟨gl, 0, none⟩) 1 1 ∧ w.heap[gl]? = some (.cells #[.int .i64 4, .slice (some ⟨gb, 0, none⟩) 4 4, .int .i64 0, .int .i64 0] 116 (0, 0)) ∧ w.heap[gb]? = some (.cells #[.int .i64 0, .int .i64 0, .int .i64 0, .int .i64 0] 3 (0, 0)) := by
  rcases h.leave with ⟨e, _⟩ | ⟨_, r⟩
  · rw [hm] at e; cases e
  · exact r

theorem CtlMem.feet_lt (h : CtlMem w q b fo fi k md lv gl gb Sc) {j : Nat} (hj : CtlFeet q fo fi md gl gb Sc j) : j < w.heap.size := by
  rcases hj with e | e | e | ⟨hm, e⟩ | e
  · rw [e]; exact lt_of_block h.blk
  · rw [e]; exact h.out.lt
  · rw [e]; exact h.inn.lt
  · obtain ⟨_, h1, h2⟩ := h.leaves hm
    rcases e with e | e
    · rw [e]; exact lt_of_block h1
    · rw [e]; exact lt_of_block h2
  · exact h.low j e

theorem LeaveIs.keep {R : Nat → Prop} {w' : World} (h : LeaveIs w md lv gl gb) (hk : Kept R w w') (hR : md = true → ¬ R gl ∧ ¬ R gb) : LeaveIs w' md lv gl gb := by
  rcases h with h | ⟨hm, h0, h1, h2⟩
  · exact .inl h
  · exact .inr ⟨hm, h0, blk_kept hk h1 (hR hm).1, blk_kept hk h2 (hR hm).2⟩

/-- What is written elsewhere leaves a controller as it is. -/
theorem CtlMem.keep {R : Nat → Prop} {w' : World} (h : CtlMem w q b fo fi k md lv gl gb Sc) (hk : Kept R w w') (hd : ∀ j, CtlFeet q fo fi md gl gb Sc j → ¬ R j) : CtlMem w' q b fo fi k md lv gl gb Sc :=
  ⟨blk_kept hk h.blk (hd q (.inl rfl)), h.chip.keep hk (fun j hj => hd j (.inr (.inr (.inr (.inr hj))))), h.out.keep hk (hd fo (.inr (.inl rfl))), h.inn.keep hk (hd fi (.inr (.inr (.inl rfl)))), h.ne,
    h.leave.keep hk (fun hm => ⟨hd gl (.inr (.inr (.inr (.inl ⟨hm, .inl rfl⟩)))), hd gb (.inr (.inr (.inr (.inl ⟨hm, .inr rfl⟩))))⟩), h.qS, h.oS, h.iS, h.lS, fun j hj => Nat.lt_of_lt_of_le (h.low j hj) hk.size⟩

theorem CtlMem.q_out (h : CtlMem w q b fo fi k md lv gl gb Sc) : fo ≠ q := by
  obtain ⟨cs, hb⟩ := h.out.blk
  exact blk_ne hb h.blk (by decide)
theorem CtlMem.q_inn (h : CtlMem w q b fo fi k md lv gl gb Sc) : fi ≠ q := by
  obtain ⟨cs, hb⟩ := h.inn.blk
  exact blk_ne hb h.blk (by decide)

/-- A store into a controller's own cell. -/
theorem CtlMem.set (h : CtlMem w q b fo fi k md lv gl gb Sc) {k' : Ctl} {i : Nat} {v : Value} (hb : (CtlBlk b fo fi k md lv).setIfInBounds i v = CtlBlk b fo fi k' md lv)
    (hc : k'.chip = k.chip) (ho : k'.out = k.out) (hi : k'.inn = k.inn) : CtlMem (w.setCell ⟨q, i, none⟩ v) q b fo fi k' md lv gl gb Sc := by
  have hk : Kept (fun j => j = q) w (w.setCell ⟨q, i, none⟩ v) := (Kept.refl (fun j => j = q) w).setCell (p := ⟨q, i, none⟩) (.inl rfl) v
  refine ⟨by rw [blk_set h.blk, hb], by rw [hc]; exact h.chip.keep hk (fun j hj e => h.qS (e ▸ hj)), by rw [ho]; exact h.out.keep hk h.q_out, by rw [hi]; exact h.inn.keep hk h.q_inn, h.ne, h.leave.keep hk (fun hm => ?_), h.qS, h.oS, h.iS, h.lS, fun j hj => by have := h.low j hj; simpa using this⟩
  obtain ⟨_, h1, h2⟩ := h.leaves hm
  exact ⟨blk_ne h1 h.blk (by decide), blk_ne h2 h.blk (by decide)⟩

/-- The controller behind a step of its chip alone. -/
theorem CtlMem.step (h : CtlMem w q b fo fi k md lv gl gb Sc) {c' : Chip} {S' : Nat → Prop} {w' : World} (hc : ChipAt w' b c' S') (hs : Step Sc S' w w') :
    CtlMem w' q b fo fi { k with chip := c' } md lv gl gb (Tight S' w'.heap.size) ∧ Step (CtlFeet q fo fi md gl gb Sc) (CtlFeet q fo fi md gl gb (Tight S' w'.heap.size)) w w' := by
  have hn : ∀ j, j < w.heap.size → ¬ Sc j → ¬ Tight S' w'.heap.size j := fun j h1 h2 h3 => by
    rcases hs.sub j h3.1 with e | e
    · exact h2 e
    · omega
  have hk := hs.toKept
  refine ⟨⟨blk_kept hk h.blk h.qS, hc.tight, h.out.keep hk h.oS, h.inn.keep hk h.iS, h.ne, h.leave.keep hk h.lS, hn q (lt_of_block h.blk) h.qS, hn fo h.out.lt h.oS, hn fi h.inn.lt h.iS, fun hm => ?_, fun j hj => hj.2⟩,
    hk.mono fun j hj => .inr (.inr (.inr (.inr hj))), fun j hj => ?_⟩
  · obtain ⟨_, h1, h2⟩ := h.leaves hm
    exact ⟨hn gl (lt_of_block h1) (h.lS hm).1, hn gb (lt_of_block h2) (h.lS hm).2⟩
  · rcases hj with e | e | e | e | e
    · exact .inl (.inl e)
    · exact .inl (.inr (.inl e))
    · exact .inl (.inr (.inr (.inl e)))
    · exact .inl (.inr (.inr (.inr (.inl e))))
    · rcases hs.sub j e.1 with e' | e'
      · exact .inl (.inr (.inr (.inr (.inr e'))))
      · exact .inr e'

theorem CtlMem.drewN (h : CtlMem w q b fo fi k md lv gl gb Sc) (n : Nat) : CtlMem (w.drewN n) q b fo fi k md lv gl gb Sc := h.keep (R := fun _ => False) ((Kept.refl _ w).drewN n) (fun _ _ e => e)
theorem CtlMem.drew (h : CtlMem w q b fo fi k md lv gl gb Sc) : CtlMem w.drew q b fo fi k md lv gl gb Sc := h.keep (R := fun _ => False) ((Kept.refl _ w).drew) (fun _ _ e => e)

/-- What driving comes to. -/
theorem Ctl.drive_eq {k : Ctl} {ps : List Phase} {c' : Chip} {xs : List Int} {n : Int} {t : Bool} (hd : Drives k.chip ps k.left c' xs n t) :
    k.drive ps = if t = true then ({ k with chip := c', clocks := k.clocks + n, left := if 0 ≤ k.left then k.left - n else k.left }, xs, 0)
      else ({ k with chip := c', clocks := k.clocks + n, left := (if 0 ≤ k.left then k.left - n else k.left), lost := true }, [], 1101) := by
  unfold Ctl.drive
  rw [hd.eq]

/-- A controller behind a call that hands out a row of its own. -/
def CtlGave (q b : Nat) (r : Ctl × List Int × Int) (S : Nat → Prop) (w : World) (en : Ending) (w' : World) : Prop :=
  ∃ xv S', en = .returned (.tuple #[xv, .int .i64 r.2.2]) ∧ w'.ownsRow 0 3 1 xv r.2.1.length (r.2.1.map (.int .i64)) ∧ CtlIs w' q b r.1 S' ∧ Step S S' w w' ∧ ∀ g, xv.ownBlock = some g → (S g ∨ w.heap.size ≤ g) ∧ ¬ S' g

/-- A row that was read lies outside of a controller behind it. -/
theorem CtlMem.row_far (h : CtlMem w q b fo fi k md lv gl gb Sc) {w' : World} {ov : Value} {n : Nat} {ys : List Value} (hr : w'.ownsRow 0 3 1 ov n ys) {Sc' : Nat → Prop} (hk : Kept Sc w w')
    (ho : ∀ g, ov.ownBlock = some g → (Sc g ∨ w.heap.size ≤ g) ∧ ¬ Sc' g) : ∀ g, ov.ownBlock = some g → ¬ CtlFeet q fo fi md gl gb Sc' g := by
  intro g hg hf
  obtain ⟨cur, hb⟩ := owns_blk hr hg
  rcases hf with e | e | e | ⟨hm, e⟩ | e
  · subst e; exact blk_ne hb (blk_kept hk h.blk h.qS) (by decide) rfl
  · subst e
    obtain ⟨cs, hb'⟩ := (h.out.keep hk h.oS).blk
    exact blk_ne hb hb' (by decide) rfl
  · subst e
    obtain ⟨cs, hb'⟩ := (h.inn.keep hk h.iS).blk
    exact blk_ne hb hb' (by decide) rfl
  · obtain ⟨_, h1, h2⟩ := h.leaves hm
    rcases e with e | e
    · subst e; exact blk_ne hb (blk_kept hk h1 (h.lS hm).1) (by decide) rfl
    · subst e
      have := lt_of_block h2
      rcases (ho g hg).1 with e | e
      · exact (h.lS hm).2 e
      · omega
  · exact (ho g hg).2 e
end
end Go.Proofs.YtefoldehejbiiaaGreat

namespace Go.Proofs.YtefoldehejbiiaaGreat
open Go.RowKit Lich

section
variable {w : World} {q b fo fi : Nat} {k : Ctl} {md : Bool} {lv : Value} {gl gb : Nat} {Sc : Nat → Prop}

theorem CtlMem.cell (h : CtlMem w q b fo fi k md lv gl gb Sc) {i : Nat} {v : Value} (hi : (CtlBlk b fo fi k md lv)[i]? = some v) : w.cell? ⟨q, i, none⟩ = some v := (blk_cell h.blk).trans hi
theorem CtlMem.free (h : CtlMem w q b fo fi k md lv gl gb Sc) (i : Nat) : w.frozen? ⟨q, i, none⟩ = false := blk_free h.blk

/-- What a controller hands out, behind stores into its own cells. -/
theorem CtlMem.gave {k' : Ctl} (h : CtlMem w q b fo fi k' md lv gl gb Sc) {S : Nat → Prop} {w0 : World} (hs : Step S (CtlFeet q fo fi md gl gb Sc) w0 w) {ov : Value} {xs : List Int} {e : Int}
    (hr : w.ownsRow 0 3 1 ov xs.length (xs.map (.int .i64))) (hf : ∀ g, ov.ownBlock = some g → (S g ∨ w0.heap.size ≤ g) ∧ ¬ CtlFeet q fo fi md gl gb Sc g) :
    CtlGave q b (k', xs, e) S w0 (.returned (.tuple #[ov, .int .i64 e])) w :=
  ⟨ov, _, rfl, hr, ⟨_, _, _, _, _, _, _, h, rfl⟩, hs, hf⟩

theorem CtlMem.gave_none {k' : Ctl} (h : CtlMem w q b fo fi k' md lv gl gb Sc) {S : Nat → Prop} {w0 : World} (hs : Step S (CtlFeet q fo fi md gl gb Sc) w0 w) {e : Int} :
    CtlGave q b (k', [], e) S w0 (.returned (.tuple #[.slice none 0 0, .int .i64 e])) w :=
  h.gave hs (World.ownsRow_nil _ _ _ _) (by simp [Value.ownBlock])

theorem CtlMem.after (h : CtlMem w q b fo fi k md lv gl gb Sc) {c' : Chip} {xs : List Int} {ov : Value} {w1 : World} (ho : DriveOut b c' xs Sc ov w.drew w1) :
    w1.cell? ⟨q, 0, none⟩ = some (.pointer (some ⟨b, 0, none⟩)) ∧ w1.cell? ⟨q, 8, none⟩ = some (.int .i64 k.left) := by
  obtain ⟨_, S', hat, hst, _⟩ := ho
  obtain ⟨h1, _⟩ := (h.keep (R := fun _ => False) ((Kept.refl _ w).drew) (fun _ _ e => e)).step hat hst
  exact ⟨(blk_cell h1.blk).trans rfl, (blk_cell h1.blk).trans rfl⟩

theorem CtlMem.stepSet (S : Nat → Prop) (hq : S q) (i : Nat) (v : Value) : Step S S w (w.setCell ⟨q, i, none⟩ v) :=
  Step.of_kept ((Kept.refl S w).setCell (p := ⟨q, i, none⟩) (.inl hq) v)

set_option maxRecDepth 100000 in
set_option maxHeartbeats 4000000 in
theorem ctlDrive_whole_l (h : CtlMem w q b fo fi k md lv gl gb Sc) (hf : k.chip.Fine) (hsel : k.chip.sel = false) (ps : List Phase) (psv : Value) (hps : PhasesIs w psv ps Sc) (hok : ps.all Phase.okB = true) (hlen : ps.length ≤ 20) (hlost : k.lost = false)
    (hc0 : 0 ≤ k.clocks) (hc1 : k.clocks < 4000000000000000000) (hlf : k.left < 9223372036854775808) {c' : Chip} {xs : List Int} {n : Int} (hd : Drives k.chip ps k.left c' xs n true) (hl : 0 ≤ k.left) :
    Calls Tryz.prog 46 #[.pointer (some ⟨q, 0, none⟩), psv] w (CtlGave q b (({ k with chip := c', clocks := k.clocks + n, left := k.left - n }, xs, 0)) (CtlFeet q fo fi md gl gb Sc) w) := by
  have c0 : w.cell? ⟨q, 0, none⟩ = some (.pointer (some ⟨b, 0, none⟩)) := h.cell rfl
  have c8 : w.cell? ⟨q, 8, none⟩ = some (.int .i64 k.left) := h.cell rfl
  have hk0 : Kept (fun _ => False) w w.drew := (Kept.refl _ w).drew
  have hdr := Drive_calls (w := w.drew) (h.chip.keep hk0 (fun _ _ e => e)) hf hsel ps psv (hps.step (Step.of_kept (Kept.refl Sc w).drew)) hok hlen k.left hd.eq
  have H := Lib.hid h
  have HR := Lib.hid hdr
  have hn0 := hd.n0
  have hn1 := hd.n1
  have hlim := hd.lim
  clear h hdr hps hok hk0 hd hf
  go_enter Tryz.func46, Tryz.ntmps46
  go_wp2_with fail
  go_region_held3 (fun w' => w'.cell? ⟨q, 0, none⟩ = some (.pointer (some ⟨b, 0, none⟩)) ∧ w'.cell? ⟨q, 8, none⟩ = some (.int .i64 k.left))
    (first
      | go_keep
      | exact ⟨(H.out.after ho).1, (H.out.after ho).2⟩)
    (first | (go_at_call 68; refine HR.out.mono ?_; rintro e w1 ⟨ov, rfl, ho⟩))
  obtain ⟨hown, S', hat, hst, hfar⟩ := ho
  obtain ⟨h1, s1⟩ := H.out.drew.step hat hst
  have hrf := H.out.drew.row_far hown hst.toKept (Sc' := Tight S' w1.heap.size) (fun g hg => ⟨(hfar g hg).1, fun e => (hfar g hg).2 e.1⟩)
  have d6 : w1.cell? ⟨q, 6, none⟩ = some (.int .i64 k.clocks) := h1.cell rfl
  have d8 : w1.cell? ⟨q, 8, none⟩ = some (.int .i64 k.left) := h1.cell rfl
  have d9 : w1.cell? ⟨q, 9, none⟩ = some (.bool k.lost) := h1.cell rfl
  have df := h1.free
  have H1 := Lib.hid h1
  have S1 := Lib.hid (Step.trans (Step.of_kept (Kept.refl (CtlFeet q fo fi md gl gb Sc) w).drew) s1)
  have HOW := Lib.hid hown
  have HFA := Lib.hid hfar
  have HRF := Lib.hid hrf
  clear h1 s1 hown hfar hrf hat hst
  have bl : decide (0 ≤ k.left) = true := by simp [hl]
  have hlm := hlim hl
  go_wp2_with fail
  go_ret2
  have g0 := CtlMem.set H1.out (k' := { k with chip := c', clocks := k.clocks + n }) (i := 6) (v := .int .i64 (k.clocks + n)) rfl rfl rfl rfl
  have g1 := CtlMem.set g0 (k' := { k with chip := c', clocks := k.clocks + n, left := k.left - n }) (i := 8) (v := .int .i64 (k.left - n)) rfl rfl rfl rfl
  exact g1.gave (e := 0) ((S1.out.trans (CtlMem.stepSet _ (.inl rfl) 6 (.int .i64 (k.clocks + n)))).trans (CtlMem.stepSet _ (.inl rfl) 8 (.int .i64 (k.left - n)))) (ownsRow_keep HOW.out (((Kept.refl (fun j => j = q) w1).setCell (p := ⟨q, 6, none⟩) (.inl rfl) (.int .i64 (k.clocks + n))).setCell (p := ⟨q, 8, none⟩) (.inl rfl) (.int .i64 (k.left - n))) (fun g hg e => HRF.out g hg (.inl e))) (fun g hg => ⟨(HFA.out g hg).1.elim (fun e => .inl (.inr (.inr (.inr (.inr e))))) .inr, HRF.out g hg⟩)

set_option maxRecDepth 100000 in
set_option maxHeartbeats 4000000 in
theorem ctlDrive_whole_n (h : CtlMem w q b fo fi k md lv gl gb Sc) (hf : k.chip.Fine) (hsel : k.chip.sel = false) (ps : List Phase) (psv : Value) (hps : PhasesIs w psv ps Sc) (hok : ps.all Phase.okB = true) (hlen : ps.length ≤ 20) (hlost : k.lost = false)
    (hc0 : 0 ≤ k.clocks) (hc1 : k.clocks < 4000000000000000000) (hlf : k.left < 9223372036854775808) {c' : Chip} {xs : List Int} {n : Int} (hd : Drives k.chip ps k.left c' xs n true) (hl : k.left < 0) :
    Calls Tryz.prog 46 #[.pointer (some ⟨q, 0, none⟩), psv] w (CtlGave q b (({ k with chip := c', clocks := k.clocks + n }, xs, 0)) (CtlFeet q fo fi md gl gb Sc) w) := by
  have c0 : w.cell? ⟨q, 0, none⟩ = some (.pointer (some ⟨b, 0, none⟩)) := h.cell rfl
  have c8 : w.cell? ⟨q, 8, none⟩ = some (.int .i64 k.left) := h.cell rfl
  have hk0 : Kept (fun _ => False) w w.drew := (Kept.refl _ w).drew
  have hdr := Drive_calls (w := w.drew) (h.chip.keep hk0 (fun _ _ e => e)) hf hsel ps psv (hps.step (Step.of_kept (Kept.refl Sc w).drew)) hok hlen k.left hd.eq
  have H := Lib.hid h
  have HR := Lib.hid hdr
  have hn0 := hd.n0
  have hn1 := hd.n1
  have hlim := hd.lim
  clear h hdr hps hok hk0 hd hf
  go_enter Tryz.func46, Tryz.ntmps46
  go_wp2_with fail
  go_region_held3 (fun w' => w'.cell? ⟨q, 0, none⟩ = some (.pointer (some ⟨b, 0, none⟩)) ∧ w'.cell? ⟨q, 8, none⟩ = some (.int .i64 k.left))
    (first
      | go_keep
      | exact ⟨(H.out.after ho).1, (H.out.after ho).2⟩)
    (first | (go_at_call 68; refine HR.out.mono ?_; rintro e w1 ⟨ov, rfl, ho⟩))
  obtain ⟨hown, S', hat, hst, hfar⟩ := ho
  obtain ⟨h1, s1⟩ := H.out.drew.step hat hst
  have hrf := H.out.drew.row_far hown hst.toKept (Sc' := Tight S' w1.heap.size) (fun g hg => ⟨(hfar g hg).1, fun e => (hfar g hg).2 e.1⟩)
  have d6 : w1.cell? ⟨q, 6, none⟩ = some (.int .i64 k.clocks) := h1.cell rfl
  have d8 : w1.cell? ⟨q, 8, none⟩ = some (.int .i64 k.left) := h1.cell rfl
  have d9 : w1.cell? ⟨q, 9, none⟩ = some (.bool k.lost) := h1.cell rfl
  have df := h1.free
  have H1 := Lib.hid h1
  have S1 := Lib.hid (Step.trans (Step.of_kept (Kept.refl (CtlFeet q fo fi md gl gb Sc) w).drew) s1)
  have HOW := Lib.hid hown
  have HFA := Lib.hid hfar
  have HRF := Lib.hid hrf
  clear h1 s1 hown hfar hrf hat hst
  have bl : decide (0 ≤ k.left) = false := by simp; omega
  go_wp2_with fail
  go_ret2
  have g0 := CtlMem.set H1.out (k' := { k with chip := c', clocks := k.clocks + n }) (i := 6) (v := .int .i64 (k.clocks + n)) rfl rfl rfl rfl
  exact g0.gave (e := 0) (S1.out.trans (CtlMem.stepSet _ (.inl rfl) 6 (.int .i64 (k.clocks + n)))) (ownsRow_keep HOW.out ((Kept.refl (fun j => j = q) w1).setCell (p := ⟨q, 6, none⟩) (.inl rfl) (.int .i64 (k.clocks + n))) (fun g hg e => HRF.out g hg (.inl e))) (fun g hg => ⟨(HFA.out g hg).1.elim (fun e => .inl (.inr (.inr (.inr (.inr e))))) .inr, HRF.out g hg⟩)

set_option maxRecDepth 100000 in
set_option maxHeartbeats 4000000 in
theorem ctlDrive_cut_l (h : CtlMem w q b fo fi k md lv gl gb Sc) (hf : k.chip.Fine) (hsel : k.chip.sel = false) (ps : List Phase) (psv : Value) (hps : PhasesIs w psv ps Sc) (hok : ps.all Phase.okB = true) (hlen : ps.length ≤ 20) (hlost : k.lost = false)
    (hc0 : 0 ≤ k.clocks) (hc1 : k.clocks < 4000000000000000000) (hlf : k.left < 9223372036854775808) {c' : Chip} {xs : List Int} {n : Int} (hd : Drives k.chip ps k.left c' xs n false) (hl : 0 ≤ k.left) :
    Calls Tryz.prog 46 #[.pointer (some ⟨q, 0, none⟩), psv] w (CtlGave q b (({ k with chip := c', clocks := k.clocks + n, left := k.left - n, lost := true }, [], 1101)) (CtlFeet q fo fi md gl gb Sc) w) := by
  have c0 : w.cell? ⟨q, 0, none⟩ = some (.pointer (some ⟨b, 0, none⟩)) := h.cell rfl
  have c8 : w.cell? ⟨q, 8, none⟩ = some (.int .i64 k.left) := h.cell rfl
  have hk0 : Kept (fun _ => False) w w.drew := (Kept.refl _ w).drew
  have hdr := Drive_calls (w := w.drew) (h.chip.keep hk0 (fun _ _ e => e)) hf hsel ps psv (hps.step (Step.of_kept (Kept.refl Sc w).drew)) hok hlen k.left hd.eq
  have H := Lib.hid h
  have HR := Lib.hid hdr
  have hn0 := hd.n0
  have hn1 := hd.n1
  have hlim := hd.lim
  clear h hdr hps hok hk0 hd hf
  go_enter Tryz.func46, Tryz.ntmps46
  go_wp2_with fail
  go_region_held3 (fun w' => w'.cell? ⟨q, 0, none⟩ = some (.pointer (some ⟨b, 0, none⟩)) ∧ w'.cell? ⟨q, 8, none⟩ = some (.int .i64 k.left))
    (first
      | go_keep
      | exact ⟨(H.out.after ho).1, (H.out.after ho).2⟩)
    (first | (go_at_call 68; refine HR.out.mono ?_; rintro e w1 ⟨ov, rfl, ho⟩))
  obtain ⟨hown, S', hat, hst, hfar⟩ := ho
  obtain ⟨h1, s1⟩ := H.out.drew.step hat hst
  have hrf := H.out.drew.row_far hown hst.toKept (Sc' := Tight S' w1.heap.size) (fun g hg => ⟨(hfar g hg).1, fun e => (hfar g hg).2 e.1⟩)
  have d6 : w1.cell? ⟨q, 6, none⟩ = some (.int .i64 k.clocks) := h1.cell rfl
  have d8 : w1.cell? ⟨q, 8, none⟩ = some (.int .i64 k.left) := h1.cell rfl
  have d9 : w1.cell? ⟨q, 9, none⟩ = some (.bool k.lost) := h1.cell rfl
  have df := h1.free
  have H1 := Lib.hid h1
  have S1 := Lib.hid (Step.trans (Step.of_kept (Kept.refl (CtlFeet q fo fi md gl gb Sc) w).drew) s1)
  have HOW := Lib.hid hown
  have HFA := Lib.hid hfar
  have HRF := Lib.hid hrf
  clear h1 s1 hown hfar hrf hat hst
  have bl : decide (0 ≤ k.left) = true := by simp [hl]
  have hlm := hlim hl
  go_wp2_with fail
  go_ret2
  have g0 := CtlMem.set H1.out (k' := { k with chip := c', clocks := k.clocks + n }) (i := 6) (v := .int .i64 (k.clocks + n)) rfl rfl rfl rfl
  have g1 := CtlMem.set g0 (k' := { k with chip := c', clocks := k.clocks + n, left := k.left - n }) (i := 8) (v := .int .i64 (k.left - n)) rfl rfl rfl rfl
  have g2 := CtlMem.set g1 (k' := { k with chip := c', clocks := k.clocks + n, left := k.left - n, lost := true }) (i := 9) (v := .bool true) rfl rfl rfl rfl
  exact g2.gave_none (e := 1101) (((S1.out.trans (CtlMem.stepSet _ (.inl rfl) 6 (.int .i64 (k.clocks + n)))).trans (CtlMem.stepSet _ (.inl rfl) 8 (.int .i64 (k.left - n)))).trans (CtlMem.stepSet _ (.inl rfl) 9 (.bool true)))

theorem ctlDrive_calls (h : CtlMem w q b fo fi k md lv gl gb Sc) (hf : k.chip.Fine) (hsel : k.chip.sel = false) (ps : List Phase) (psv : Value) (hps : PhasesIs w psv ps Sc) (hok : ps.all Phase.okB = true) (hlen : ps.length ≤ 20) (hlost : k.lost = false)
    (hc0 : 0 ≤ k.clocks) (hc1 : k.clocks < 4000000000000000000) (hlf : k.left < 9223372036854775808) :
    Calls Tryz.prog 46 #[.pointer (some ⟨q, 0, none⟩), psv] w (CtlGave q b (k.drive ps) (CtlFeet q fo fi md gl gb Sc) w) := by
  obtain ⟨c', xs, n, t, hd⟩ := driveOn_drives hf hsel hok hlen k.left
  rw [Ctl.drive_eq hd]
  cases t
  · have hl := (hd.cut rfl).1
    rw [if_neg (by simp), if_pos hl]
    exact ctlDrive_cut_l h hf hsel ps psv hps hok hlen hlost hc0 hc1 hlf hd hl
  · rw [if_pos rfl]
    by_cases hl : 0 ≤ k.left
    · rw [if_pos hl]
      exact ctlDrive_whole_l h hf hsel ps psv hps hok hlen hlost hc0 hc1 hlf hd hl
    · rw [if_neg hl]
      exact ctlDrive_whole_n h hf hsel ps psv hps hok hlen hlost hc0 hc1 hlf hd (by omega)
end
end Go.Proofs.YtefoldehejbiiaaGreat

namespace Go.Proofs.YtefoldehejbiiaaGreat
open Go.RowKit Lich

section
variable {w : World} {q b fo fi : Nat} {k : Ctl} {md : Bool} {lv : Value} {gl gb : Nat} {Sc : Nat → Prop}

theorem state_none (w : World) : Calls Tryz.prog 39 #[.pointer none] w fun e w' => e = .returned (.int .i64 1) ∧ w = w' := by
  go_enter Tryz.func39, Tryz.ntmps39
  go_wp2
  go_ret
  exact ⟨rfl, rfl⟩

theorem state_lost (h : w.cell? ⟨q, 9, none⟩ = some (.bool true)) : Calls Tryz.prog 39 #[.pointer (some ⟨q, 0, none⟩)] w fun e w' => e = .returned (.int .i64 1101) ∧ w = w' := by
  go_enter Tryz.func39, Tryz.ntmps39
  go_wp2
  go_ret
  exact ⟨rfl, rfl⟩

theorem state_ok (h : w.cell? ⟨q, 9, none⟩ = some (.bool false)) : Calls Tryz.prog 39 #[.pointer (some ⟨q, 0, none⟩)] w fun e w' => e = .returned (.int .i64 0) ∧ w = w' := by
  go_enter Tryz.func39, Tryz.ntmps39
  go_wp2
  go_ret
  exact ⟨rfl, rfl⟩

theorem ctlLost_calls (h : CtlMem w q b fo fi k md lv gl gb Sc) : Calls Tryz.prog 20 #[.pointer (some ⟨q, 0, none⟩)] w fun e w' => e = .returned (.bool k.lost) ∧ w = w' := by
  have c9 : w.cell? ⟨q, 9, none⟩ = some (.bool k.lost) := h.cell rfl
  clear h
  go_enter Tryz.func20, Tryz.ntmps20
  go_wp2
  go_ret
  exact ⟨rfl, rfl⟩

theorem ctlClocks_calls (h : CtlMem w q b fo fi k md lv gl gb Sc) : Calls Tryz.prog 19 #[.pointer (some ⟨q, 0, none⟩)] w fun e w' => e = .returned (.int .i64 k.clocks) ∧ w = w' := by
  have c6 : w.cell? ⟨q, 6, none⟩ = some (.int .i64 k.clocks) := h.cell rfl
  clear h
  go_enter Tryz.func19, Tryz.ntmps19
  go_wp2
  go_ret
  exact ⟨rfl, rfl⟩

/-- A controller behind a call. -/
def CtlPost (q b : Nat) (k' : Ctl) (S : Nat → Prop) (v : Value) (w : World) (e : Ending) (w' : World) : Prop := e = .returned v ∧ ∃ S', CtlIs w' q b k' S' ∧ Step S S' w w'

theorem CtlMem.same (h : CtlMem w q b fo fi k md lv gl gb Sc) (v : Value) : CtlPost q b k (CtlFeet q fo fi md gl gb Sc) v w (.returned v) w :=
  ⟨rfl, _, ⟨_, _, _, _, _, _, _, h, rfl⟩, Step.refl _ _⟩
theorem CtlMem.post {k' : Ctl} (h : CtlMem w q b fo fi k' md lv gl gb Sc) {S : Nat → Prop} {w0 : World} (hs : Step S (CtlFeet q fo fi md gl gb Sc) w0 w) (v : Value) : CtlPost q b k' S v w0 (.returned v) w :=
  ⟨rfl, _, ⟨_, _, _, _, _, _, _, h, rfl⟩, hs⟩

theorem ctlCut_calls (h : CtlMem w q b fo fi k md lv gl gb Sc) (n : Int) : Calls Tryz.prog 16 #[.pointer (some ⟨q, 0, none⟩), .int .i64 n] w (CtlPost q b (k.cut n).1 (CtlFeet q fo fi md gl gb Sc) (.int .i64 (k.cut n).2) w) := by
  have c8 : w.cell? ⟨q, 8, none⟩ = some (.int .i64 k.left) := h.cell rfl
  have hf := h.free
  by_cases hn : n < 0
  · have bn : decide (n < 0) = true := by simp [hn]
    have e : k.cut n = (k, 1100) := by unfold Ctl.cut; rw [if_pos hn]
    rw [e]
    have H := Lib.hid (h.same (.int .i64 1100))
    clear h e
    go_enter Tryz.func16, Tryz.ntmps16
    go_wp2
    go_ret
    exact H.out
  · have bn : decide (n < 0) = false := by simp [hn]
    have e : k.cut n = ({ k with left := n }, 0) := by unfold Ctl.cut; rw [if_neg hn]
    rw [e]
    have h2 := h.set (k' := { k with left := n }) (i := 8) (v := .int .i64 n) rfl rfl rfl rfl
    have H := Lib.hid (h2.post (CtlMem.stepSet (CtlFeet q fo fi md gl gb Sc) (.inl rfl) 8 (.int .i64 n)) (.int .i64 0))
    clear h h2 e
    go_enter Tryz.func16, Tryz.ntmps16
    go_wp2
    go_ret
    exact H.out

theorem reg_calls (r x : Int) (w : World) : Calls Tryz.prog 40 #[.int .i64 r, .int .i64 x] w fun e w' => e = .returned (.bool (regMay r x)) ∧ w = w' := by
  by_cases h0 : r = 0
  · subst h0
    by_cases hx : 0 ≤ x
    · have bx : decide (0 ≤ x) = true := by simp [hx]
      go_enter Tryz.func40, Tryz.ntmps40
      go_wp2
      go_ret
      exact ⟨ret_bool (by simp [regMay, hx]), rfl⟩
    · have bx : decide (0 ≤ x) = false := by simp; omega
      go_enter Tryz.func40, Tryz.ntmps40
      go_wp2
      go_ret
      exact ⟨ret_bool (by simp [regMay, bx]), rfl⟩
  have b0 : (r == 0) = false := by simp [h0]
  by_cases h1 : r = 1
  · subst h1
    by_cases hx : 0 ≤ x
    · have bx : decide (0 ≤ x) = true := by simp [hx]
      go_enter Tryz.func40, Tryz.ntmps40
      go_wp2
      go_ret
      exact ⟨ret_bool (by simp [regMay, hx]), rfl⟩
    · have bx : decide (0 ≤ x) = false := by simp; omega
      go_enter Tryz.func40, Tryz.ntmps40
      go_wp2
      go_ret
      exact ⟨ret_bool (by simp [regMay, bx]), rfl⟩
  have b1 : (r == 1) = false := by simp [h1]
  by_cases h2 : r = 2
  · subst h2
    by_cases hx : 0 ≤ x
    · have bx : decide (0 ≤ x) = true := by simp [hx]
      go_enter Tryz.func40, Tryz.ntmps40
      go_wp2
      go_ret
      exact ⟨ret_bool (by simp [regMay, hx]), rfl⟩
    · have bx : decide (0 ≤ x) = false := by simp; omega
      go_enter Tryz.func40, Tryz.ntmps40
      go_wp2
      go_ret
      exact ⟨ret_bool (by simp [regMay, bx]), rfl⟩
  have b2 : (r == 2) = false := by simp [h2]
  have hm : regMay r x = (decide (r = 4) && (decide (0 ≤ x) && decide (x < 256))) := by
    unfold regMay
    rw [if_neg (by omega), if_neg h2]
  rw [hm]
  clear hm
  by_cases h4 : r = 4
  · subst h4
    go_enter Tryz.func40, Tryz.ntmps40
    go_wp2_with fail
    refine (byte_calls x w).mono ?_
    rintro e w' ⟨rfl, rfl⟩
    go_wp2_with fail
    go_ret
    exact ⟨ret_bool (by simp), rfl⟩
  · have b4 : (r == 4) = false := by simp [h4]
    go_enter Tryz.func40, Tryz.ntmps40
    go_wp2_with fail
    go_ret
    exact ⟨ret_bool (by simp [h4]), rfl⟩
end
end Go.Proofs.YtefoldehejbiiaaGreat
