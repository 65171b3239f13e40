/-

-/
import Derived.Test.YtefoldehejbiiaaGreatM10

namespace Lich

/-- What driving, whole or cut, comes to: clocks were passed to the chip; a cut one ends at the bound. -/
structure DR.Went (d d' : DR) (whole : Bool) : Prop where
  most : d'.most = d.most
  clocks : ∃ xs : List Int, (∀ x ∈ xs, 0 ≤ x ∧ x < 16) ∧ d'.chip = d.chip.sendAll xs ∧ d'.n = d.n + xs.length
  cut : whole = false → 0 ≤ d.most ∧ (d.n ≤ d.most → d'.n = d.most)
  bound : 0 ≤ d.most → d.n ≤ d.most → d'.n ≤ d.most

theorem DR.Went.refl (d : DR) : d.Went d true := ⟨rfl, ⟨[], by simp, rfl, by simp⟩, by simp, fun _ h => h⟩

theorem Chip.sendAll_append (c : Chip) (xs ys : List Int) : c.sendAll (xs ++ ys) = (c.sendAll xs).sendAll ys := by simp [Chip.sendAll]

theorem DR.Went.trans {a b c : DR} {t : Bool} (h : a.Went b true) (k : b.Went c t) : a.Went c t := by
  obtain ⟨xs, hx, hc, hn⟩ := h.clocks
  obtain ⟨ys, hy, kc, kn⟩ := k.clocks
  refine ⟨k.most.trans h.most, ⟨xs ++ ys, ?_, ?_, ?_⟩, ?_, ?_⟩
  · intro x hm
    rcases List.mem_append.1 hm with hm | hm
    · exact hx x hm
    · exact hy x hm
  · rw [kc, hc, Chip.sendAll_append]
  · rw [kn, hn]; simp; omega
  · intro ht
    have := k.cut ht
    rw [h.most] at this
    exact ⟨this.1, fun hle => this.2 (h.bound this.1 hle)⟩
  · intro h0 hle
    have := k.bound (by rw [h.most]; exact h0) (by rw [h.most]; exact h.bound h0 hle)
    rw [h.most] at this; exact this

theorem DR.tick_went {d d' : DR} {x y : Int} (hx : 0 ≤ x ∧ x < 16) (h : d.tick x = some (d', y)) : d.Went d' true ∧ d'.out = d.out ∧ d'.chip = (d.chip.clock x).1 := by
  unfold DR.tick at h
  split at h
  · simp at h
  · simp only [Option.some.injEq, Prod.mk.injEq] at h
    obtain ⟨rfl, rfl⟩ := h
    refine ⟨⟨rfl, ⟨[x], by simpa using hx, rfl, by simp⟩, by simp, ?_⟩, rfl, rfl⟩
    intro h0 h1; simp only; omega

theorem DR.tick_stops {d : DR} {x : Int} (h : d.tick x = none) : d.Went d false := by
  unfold DR.tick at h
  split at h
  · exact ⟨rfl, ⟨[], by simp, rfl, by simp⟩, fun _ => ⟨by omega, by omega⟩, fun _ h => h⟩
  · simp at h

theorem DR.sends_went (xs : List Int) : ∀ d : DR, (∀ x ∈ xs, 0 ≤ x ∧ x < 16) → d.Went (d.sends xs).1 (d.sends xs).2 := by
  induction xs with
  | nil => intro d _; exact DR.Went.refl d
  | cons x xs ih =>
    intro d hx
    rw [DR.sends]
    split
    · rename_i h; exact DR.tick_stops h
    · rename_i d' y h
      exact (DR.tick_went (hx x (by simp)) h).1.trans (ih d' fun x hm => hx x (by simp [hm]))

theorem DR.hears_went (lanes : Int) (k : Nat) : ∀ (d : DR) (acc : Int), d.Went (d.hears k lanes acc).1 (d.hears k lanes acc).2.isSome := by
  induction k with
  | zero => intro d acc; exact DR.Went.refl d
  | succ k ih =>
    intro d acc
    rw [DR.hears]
    split
    · rename_i h; exact DR.tick_stops h
    · rename_i d' y h
      exact (DR.tick_went (by decide) h).1.trans (ih d' _)

theorem wires_in (lanes b : Int) : ∀ x ∈ wires b lanes, 0 ≤ x ∧ x < 16 := by
  intro x hx
  unfold wires bitsOf at hx
  split at hx
  · simp only [List.map_cons, List.map_nil, List.mem_cons, List.not_mem_nil, or_false] at hx
    omega
  · simp only [List.mem_cons, List.not_mem_nil, or_false] at hx
    omega

theorem DR.puts_went (lanes : Int) (bs : List Int) : ∀ d : DR, d.Went (d.puts bs lanes).1 (d.puts bs lanes).2 := by
  induction bs with
  | nil => intro d; exact DR.Went.refl d
  | cons b bs ih =>
    intro d
    have h := DR.sends_went (wires b lanes) d (wires_in lanes b)
    rw [DR.puts, DR.put]
    split
    · rename_i d' hd; rw [hd] at h; exact h.trans (ih d')
    · rename_i d' hd; rw [hd] at h; exact h

theorem DR.gets_went (lanes : Int) (k : Nat) : ∀ d : DR, d.Went (d.gets k lanes).1 (d.gets k lanes).2 := by
  induction k with
  | zero => intro d; exact DR.Went.refl d
  | succ k ih =>
    intro d
    have h := DR.hears_went lanes (8 / lanes).toNat d 0
    rw [DR.gets, DR.get]
    split
    · rename_i d' hd
      split at hd
      · simp at hd
      · rename_i d2 b hd2
        simp only [Prod.mk.injEq, and_true] at hd
        subst hd
        rw [hd2] at h
        have h' : d.Went { d2 with out := d2.out ++ [b] } true := ⟨h.most, h.clocks, by simp, h.bound⟩
        exact h'.trans (ih _)
    · rename_i d' hd
      split at hd
      · rename_i d2 hd2
        simp only [Prod.mk.injEq, and_true] at hd
        subst hd
        rw [hd2] at h
        exact h
      · simp at hd

theorem DR.phase_went (d : DR) (p : Phase) : d.Went (d.phase p).1 (d.phase p).2 := by
  have h1 := DR.puts_went p.lanes p.bytes d
  rw [DR.phase]
  split
  · rename_i d1 hd; rw [hd] at h1; exact h1
  · rename_i d1 hd
    rw [hd] at h1
    have h2 := DR.sends_went (List.replicate p.clocks.toNat 15) d1 (by intro x hx; rw [List.eq_of_mem_replicate hx]; decide)
    split
    · rename_i d2 hd2; rw [hd2] at h2; exact h1.trans h2
    · rename_i d2 hd2
      rw [hd2] at h2
      exact (h1.trans h2).trans (DR.gets_went p.lanes p.read.toNat d2)

theorem DR.phases_went (ps : List Phase) : ∀ d : DR, d.Went (d.phases ps).1 (d.phases ps).2 := by
  induction ps with
  | nil => intro d; exact DR.Went.refl d
  | cons p ps ih =>
    intro d
    have h := DR.phase_went d p
    rw [DR.phases]
    split
    · rename_i d' hd; rw [hd] at h; exact h
    · rename_i d' hd; rw [hd] at h; exact h.trans (ih d')

/-- Clocks leave the bits that stay, and what is under way, as they are while nothing is under way. -/
structure Chip.Same (c c' : Chip) : Prop where
  cells : c'.cells = c.cells
  prot : c'.prot = c.prot
  quad : c'.quad = c.quad
  wipes : c'.wipes = c.wipes
  sel : c'.sel = c.sel
  en : c'.en = c.en
  goes : c'.goes = c.goes
  job : c'.job = c.job
  busy : c'.busy = c.busy

theorem Chip.Same.refl (c : Chip) : c.Same c := ⟨rfl, rfl, rfl, rfl, rfl, rfl, rfl, rfl, rfl⟩
theorem Chip.Same.trans {a b c : Chip} (h : a.Same b) (k : b.Same c) : a.Same c :=
  ⟨k.cells.trans h.cells, k.prot.trans h.prot, k.quad.trans h.quad, k.wipes.trans h.wipes, k.sel.trans h.sel, k.en.trans h.en, k.goes.trans h.goes, k.job.trans h.job, k.busy.trans h.busy⟩

theorem Chip.begins_same (c : Chip) (b : Int) : c.Same (c.begins b) := by
  unfold Chip.begins
  split
  · exact ⟨rfl, rfl, rfl, rfl, rfl, rfl, rfl, rfl, rfl⟩
  · split
    · exact ⟨rfl, rfl, rfl, rfl, rfl, rfl, rfl, rfl, rfl⟩
    · split <;> exact ⟨rfl, rfl, rfl, rfl, rfl, rfl, rfl, rfl, rfl⟩

theorem Chip.step_same (c : Chip) (x : Int) : c.Same (c.step x).1 := by
  unfold Chip.step
  simp only
  split
  · split
    · exact Chip.Same.trans (b := { c with cmd := _ }) ⟨rfl, rfl, rfl, rfl, rfl, rfl, rfl, rfl, rfl⟩ (Chip.begins_same _ _)
    · exact ⟨rfl, rfl, rfl, rfl, rfl, rfl, rfl, rfl, rfl⟩
  · repeat' split
    all_goals exact ⟨rfl, rfl, rfl, rfl, rfl, rfl, rfl, rfl, rfl⟩

theorem Chip.pass_none {c : Chip} (h : c.job = none) : c.pass = c := by unfold Chip.pass; rw [h]

theorem Chip.clock_same {c : Chip} (h : c.job = none) (x : Int) : c.Same (c.clock x).1 := by
  unfold Chip.clock
  rw [Chip.pass_none h]
  split
  · exact Chip.step_same c x
  · exact Chip.Same.refl c

theorem Chip.sendAll_same (xs : List Int) : ∀ c : Chip, c.job = none → c.Same (c.sendAll xs) := by
  induction xs with
  | nil => intro c _; exact Chip.Same.refl c
  | cons x xs ih =>
    intro c h
    have h1 := Chip.clock_same h x
    exact h1.trans (ih _ (h1.job.trans h))

end Lich
