/-
  What holds of a drive through the bytes of a phase. No program.
-/
import Derived.Test.YtefoldehejbiiaaGreatM25

namespace Lich

theorem DR.sends_live (xs : List Int) : ∀ {d : DR} {n : Int}, d.Live n → (d.sends xs).1.Live (n + xs.length) ∧ (d.sends xs).1.out = d.out ∧ (d.sends xs).1.most = d.most := by
  induction xs with
  | nil => intro d n h; exact ⟨h.more (by simp), rfl, rfl⟩
  | cons x xs ih =>
    intro d n h
    simp only [DR.sends]
    cases ht : d.tick x with
    | none => exact ⟨h.more (by simp; omega), rfl, rfl⟩
    | some q =>
      obtain ⟨d', y⟩ := q
      obtain ⟨h1, _, _, h2, h3⟩ := h.tick ht
      obtain ⟨i1, i2, i3⟩ := ih h1
      exact ⟨i1.more (by simp; omega), i2.trans h2, i3.trans h3⟩

theorem DR.hears_live (l : Int) (k : Nat) : ∀ {d : DR} {n : Int} (acc : Int), d.Live n → (d.hears k l acc).1.Live (n + k) ∧ (d.hears k l acc).1.out = d.out ∧ (d.hears k l acc).1.most = d.most := by
  induction k with
  | zero => intro d n acc h; exact ⟨h.more (by simp), rfl, rfl⟩
  | succ k ih =>
    intro d n acc h
    simp only [DR.hears]
    cases ht : d.tick 15 with
    | none => exact ⟨h.more (by simp; omega), rfl, rfl⟩
    | some q =>
      obtain ⟨d', y⟩ := q
      obtain ⟨h1, _, _, h2, h3⟩ := h.tick ht
      obtain ⟨i1, i2, i3⟩ := ih (if l = 1 then acc * 2 + y / 2 % 2 else acc * 16 + y) h1
      exact ⟨i1.more (by simp; omega), i2.trans h2, i3.trans h3⟩

theorem DR.put_live {d : DR} {n : Int} (h : d.Live n) (v l : Int) : (d.put v l).1.Live (n + 8) ∧ (d.put v l).1.out = d.out ∧ (d.put v l).1.most = d.most := by
  obtain ⟨h1, h2, h3⟩ := DR.sends_live (wires v l) h
  refine ⟨h1.more ?_, h2, h3⟩
  have : (wires v l).length ≤ 8 := by unfold wires; split <;> simp [bitsOf]
  omega

theorem DR.puts_append (xs ys : List Int) (l : Int) : ∀ d : DR, d.puts (xs ++ ys) l = match d.puts xs l with | (d', true) => d'.puts ys l | (d', false) => (d', false) := by
  induction xs with
  | nil => intro d; rfl
  | cons x xs ih =>
    intro d
    simp only [List.cons_append, DR.puts]
    rcases hp : d.put x l with ⟨d', t⟩
    cases t
    · rfl
    · exact ih d'
theorem DR.puts_next {d dk : DR} {ys : List Int} {l : Int} {k : Nat} (hk : k < ys.length) (h : d.puts (ys.take k) l = (dk, true)) : d.puts (ys.take (k + 1)) l = dk.put (ys.getD k 0) l := by
  rw [List.take_succ_eq_append_getElem hk, DR.puts_append, h]
  simp only [DR.puts, List.getD, List.getElem?_eq_getElem hk, Option.getD_some]
  rcases dk.put ys[k] l with ⟨d', t⟩
  cases t <;> rfl
theorem DR.puts_stop {d dk : DR} {ys : List Int} {l : Int} {k : Nat} (h : d.puts (ys.take k) l = (dk, false)) : d.puts ys l = (dk, false) := by
  have e := DR.puts_append (ys.take k) (ys.drop k) l d
  rw [List.take_append_drop, h] at e
  exact e
theorem DR.get_live {d : DR} {n : Int} (h : d.Live n) {l : Int} (hl : l = 1 ∨ l = 4) : (d.get l).1.Live (n + 8) ∧ (d.get l).1.out.length ≤ d.out.length + 1 ∧ (d.get l).1.most = d.most := by
  obtain ⟨h1, h2, h3⟩ := DR.hears_live l (8 / l).toNat (d := d) 0 h
  have h8 : (8 / l).toNat ≤ 8 := by rcases hl with rfl | rfl <;> decide
  unfold DR.get
  rcases hh : d.hears (8 / l).toNat l 0 with ⟨d', t⟩
  rw [hh] at h1 h2 h3
  cases t with
  | none => exact ⟨h1.more (by omega), by rw [h2]; omega, h3⟩
  | some b =>
    have h4 : d'.Live (n + 8) := DR.Live.more (d := d') h1 (by omega)
    have h5 : d'.out = d.out := h2
    exact ⟨⟨h4.chip, h4.sel, h4.n0, h4.n1⟩, by show (d'.out ++ [b]).length ≤ _; rw [h5]; simp, h3⟩

theorem DR.gets_add (l : Int) (i j : Nat) : ∀ d : DR, d.gets (i + j) l = match d.gets i l with | (d', true) => d'.gets j l | (d', false) => (d', false) := by
  induction i with
  | zero => intro d; rw [Nat.zero_add]; rfl
  | succ i ih =>
    intro d
    rw [show i + 1 + j = (i + j) + 1 by omega]
    simp only [DR.gets]
    rcases hp : d.get l with ⟨d', t⟩
    cases t
    · rfl
    · exact ih d'
theorem DR.gets_next {d dk : DR} {l : Int} {k : Nat} (h : d.gets k l = (dk, true)) : d.gets (k + 1) l = dk.get l := by
  rw [DR.gets_add, h]
  simp only [DR.gets]
  rcases dk.get l with ⟨d', t⟩
  cases t <;> rfl
theorem DR.gets_stop {d dk : DR} {l : Int} {k n : Nat} (hk : k ≤ n) (h : d.gets k l = (dk, false)) : d.gets n l = (dk, false) := by
  have e := DR.gets_add l k (n - k) d
  rw [show k + (n - k) = n by omega, h] at e
  exact e
end Lich
