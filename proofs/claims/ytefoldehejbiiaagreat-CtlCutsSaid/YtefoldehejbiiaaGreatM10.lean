/-

-/
import Derived.Test.YtefoldehejbiiaaGreatM02

namespace Lich

/-- Clocks without a bound; what was said is passed over. -/
def Chip.sendAll (c : Chip) (xs : List Int) : Chip := xs.foldl (fun c x => (c.clock x).1) c

def Chip.hear : Chip → Nat → Int → Int → Chip × Int
  | c, 0, _, acc => (c, acc)
  | c, k + 1, lanes, acc => (c.clock 15).1.hear k lanes (if lanes = 1 then acc * 2 + (c.clock 15).2 / 2 % 2 else acc * 16 + (c.clock 15).2)

def Chip.getAll : Chip → Nat → Int → Chip × List Int
  | c, 0, _ => (c, [])
  | c, k + 1, lanes =>
    let r := c.hear (8 / lanes).toNat lanes 0
    let q := r.1.getAll k lanes
    (q.1, r.2 :: q.2)

def Chip.putAll (c : Chip) (bs : List Int) (lanes : Int) : Chip := bs.foldl (fun c b => c.sendAll (wires b lanes)) c

def Chip.runPhase (c : Chip) (p : Phase) : Chip × List Int :=
  ((c.putAll p.bytes p.lanes).sendAll (List.replicate p.clocks.toNat 15)).getAll p.read.toNat p.lanes

def Chip.runPhases : Chip → List Phase → Chip × List Int
  | c, [] => (c, [])
  | c, p :: ps => let r := c.runPhase p; let q := r.1.runPhases ps; (q.1, r.2 ++ q.2)

/-- Is there room for so many clocks? -/
def DR.room (d : DR) (k : Int) : Prop := d.most < 0 ∨ d.n + k ≤ d.most
instance (d : DR) (k : Int) : Decidable (d.room k) := inferInstanceAs (Decidable (_ ∨ _))

theorem DR.tick_room {d : DR} (h : d.room 1) (x : Int) : d.tick x = some ({ d with chip := (d.chip.clock x).1, n := d.n + 1 }, (d.chip.clock x).2) := by
  unfold DR.room at h
  unfold DR.tick
  rw [if_neg (by omega)]

theorem DR.tick_none {d : DR} (h0 : 0 ≤ d.most) (h : d.most ≤ d.n) (x : Int) : d.tick x = none := by
  unfold DR.tick
  rw [if_pos ⟨h0, h⟩]

theorem DR.sends_room (xs : List Int) : ∀ (d : DR), d.room xs.length → d.sends xs = ({ d with chip := d.chip.sendAll xs, n := d.n + xs.length }, true) := by
  induction xs with
  | nil => intro d _; simp [DR.sends, Chip.sendAll]
  | cons x xs ih =>
    intro d h
    unfold DR.room at h
    simp only [List.length_cons] at h
    rw [DR.sends, DR.tick_room (by unfold DR.room; omega)]
    simp only
    rw [ih _ (by unfold DR.room; simp only; omega)]
    simp [Chip.sendAll]; omega

theorem DR.hears_room (lanes : Int) (k : Nat) : ∀ (d : DR) (acc : Int), d.room k → d.hears k lanes acc = ({ d with chip := (d.chip.hear k lanes acc).1, n := d.n + k }, some (d.chip.hear k lanes acc).2) := by
  induction k with
  | zero => intro d acc _; simp [DR.hears, Chip.hear]
  | succ k ih =>
    intro d acc h
    unfold DR.room at h
    rw [DR.hears, DR.tick_room (by unfold DR.room; omega)]
    simp only
    rw [ih _ _ (by unfold DR.room; simp only; omega)]
    simp [Chip.hear]; omega

theorem wires_length {lanes : Int} (h : lanes = 1 ∨ lanes = 4) (b : Int) : ((wires b lanes).length : Int) = 8 / lanes := by
  rcases h with rfl | rfl <;> simp [wires, bitsOf]

theorem DR.puts_room {lanes : Int} (hl : lanes = 1 ∨ lanes = 4) (bs : List Int) : ∀ (d : DR), d.room (bs.length * (8 / lanes)) → d.puts bs lanes = ({ d with chip := d.chip.putAll bs lanes, n := d.n + bs.length * (8 / lanes) }, true) := by
  induction bs with
  | nil => intro d _; simp [DR.puts, Chip.putAll]
  | cons b bs ih =>
    intro d h
    have hw := wires_length hl b
    have h8 : 0 ≤ 8 / lanes := by rcases hl with rfl | rfl <;> decide
    have hm : ((bs.length : Int) + 1) * (8 / lanes) = bs.length * (8 / lanes) + 8 / lanes := by rw [Int.add_mul]; omega
    have hp : 0 ≤ (bs.length : Int) * (8 / lanes) := Int.mul_nonneg (by omega) h8
    unfold DR.room at h
    simp only [List.length_cons, Int.natCast_add, Int.cast_ofNat_Int] at h
    rw [hm] at h
    rw [DR.puts, DR.put, DR.sends_room _ _ (by unfold DR.room; omega)]
    simp only
    rw [ih _ (by unfold DR.room; simp only; omega)]
    simp only [Chip.putAll, List.foldl_cons, List.length_cons, Int.natCast_add, Int.cast_ofNat_Int, hm]
    simp; omega

theorem DR.gets_room {lanes : Int} (hl : lanes = 1 ∨ lanes = 4) (k : Nat) : ∀ (d : DR), d.room (k * (8 / lanes)) →
    d.gets k lanes = ({ d with chip := (d.chip.getAll k lanes).1, out := d.out ++ (d.chip.getAll k lanes).2, n := d.n + k * (8 / lanes) }, true) := by
  induction k with
  | zero => intro d _; simp [DR.gets, Chip.getAll]
  | succ k ih =>
    intro d h
    have h8 : 0 ≤ 8 / lanes := by rcases hl with rfl | rfl <;> decide
    have ht : ((8 / lanes).toNat : Int) = 8 / lanes := Int.toNat_of_nonneg h8
    have hm : ((k : Int) + 1) * (8 / lanes) = k * (8 / lanes) + 8 / lanes := by rw [Int.add_mul]; omega
    have hp : 0 ≤ (k : Int) * (8 / lanes) := Int.mul_nonneg (by omega) h8
    unfold DR.room at h
    simp only [Int.natCast_add, Int.cast_ofNat_Int] at h
    rw [hm] at h
    rw [DR.gets, DR.get, DR.hears_room _ _ _ _ (by unfold DR.room; omega)]
    simp only
    rw [ih _ (by unfold DR.room; simp only; omega)]
    simp only [Chip.getAll, Int.natCast_add, Int.cast_ofNat_Int, hm, List.append_assoc, List.singleton_append]
    simp; omega

theorem Phase.ok_lanes {p : Phase} (h : p.okB = true) : (p.lanes = 1 ∨ p.lanes = 4) ∨ (p.lanes = 0 ∧ p.bytes = [] ∧ p.read = 0) := by
  unfold Phase.okB at h
  split at h
  · simp at h; exact .inl h.1.1.1.1
  · rename_i hb
    split at h
    · simp at h; exact .inl h.1.1
    · simp at h hb; exact .inr ⟨h.1, hb, by omega⟩

theorem Phase.ok_nonneg {p : Phase} (h : p.okB = true) : 0 ≤ p.clocks ∧ 0 ≤ p.read := by
  unfold Phase.okB at h
  split at h
  · simp at h; omega
  · split at h
    · simp at h; omega
    · simp at h; omega

theorem Phase.time_nonneg {p : Phase} (h : p.okB = true) : 0 ≤ p.time := by
  have h1 := Phase.ok_nonneg h
  unfold Phase.time
  rcases Phase.ok_lanes h with hl | ⟨h0, _, _⟩
  · have h8 : 0 ≤ 8 / p.lanes := by rcases hl with e | e <;> rw [e] <;> decide
    have : 0 ≤ (p.bytes.length + p.read) * (8 / p.lanes) := Int.mul_nonneg (by omega) h8
    split <;> omega
  · rw [h0]; simp; omega

theorem DR.phase_room {d : DR} {p : Phase} (hok : p.okB = true) (h : d.room p.time) :
    d.phase p = ({ d with chip := (d.chip.runPhase p).1, out := d.out ++ (d.chip.runPhase p).2, n := d.n + p.time }, true) := by
  have hn := Phase.ok_nonneg hok
  have hc : (p.clocks.toNat : Int) = p.clocks := Int.toNat_of_nonneg hn.1
  have hr : (p.read.toNat : Int) = p.read := Int.toNat_of_nonneg hn.2
  rcases Phase.ok_lanes hok with hl | ⟨h0, hb, hrd⟩
  · have hpos : 0 < p.lanes := by omega
    have h8 : 0 ≤ 8 / p.lanes := by rcases hl with e | e <;> rw [e] <;> decide
    have ht : p.time = p.clocks + p.bytes.length * (8 / p.lanes) + p.read * (8 / p.lanes) := by
      unfold Phase.time; rw [if_pos hpos, Int.add_mul]; omega
    have hp1 : 0 ≤ (p.bytes.length : Int) * (8 / p.lanes) := Int.mul_nonneg (by omega) h8
    have hp2 : 0 ≤ p.read * (8 / p.lanes) := Int.mul_nonneg hn.2 h8
    rw [ht] at h
    unfold DR.room at h
    rw [DR.phase, DR.puts_room hl _ _ (by unfold DR.room; omega)]
    simp only
    rw [DR.sends_room _ _ (by unfold DR.room; simp [hc]; omega)]
    simp only
    rw [DR.gets_room hl _ _ (by unfold DR.room; simp [hc, hr]; omega)]
    simp only [Chip.runPhase, ht]
    simp [hc, hr]; omega
  · have ht : p.time = p.clocks := by unfold Phase.time; rw [h0]; simp
    rw [ht] at h
    unfold DR.room at h
    rw [DR.phase, hb, hrd]
    simp only [DR.puts]
    rw [DR.sends_room _ _ (by unfold DR.room; simp [hc]; omega)]
    simp [DR.gets, Chip.runPhase, hb, hrd, Chip.putAll, Chip.getAll, ht, hc]

def timeOf (ps : List Phase) : Int := (ps.map Phase.time).sum

theorem timeOf_nonneg {ps : List Phase} (h : ps.all Phase.okB = true) : 0 ≤ timeOf ps := by
  induction ps with
  | nil => simp [timeOf]
  | cons p ps ih =>
    simp only [List.all_cons, Bool.and_eq_true] at h
    have := Phase.time_nonneg h.1
    have := ih h.2
    simp [timeOf] at *; omega

theorem DR.phases_room (ps : List Phase) : ∀ (d : DR), ps.all Phase.okB = true → d.room (timeOf ps) →
    d.phases ps = ({ d with chip := (d.chip.runPhases ps).1, out := d.out ++ (d.chip.runPhases ps).2, n := d.n + timeOf ps }, true) := by
  induction ps with
  | nil => intro d _ _; simp [DR.phases, Chip.runPhases, timeOf]
  | cons p ps ih =>
    intro d hok h
    simp only [List.all_cons, Bool.and_eq_true] at hok
    have h1 := Phase.time_nonneg hok.1
    have h2 := timeOf_nonneg hok.2
    have ht : timeOf (p :: ps) = p.time + timeOf ps := by simp [timeOf]
    rw [ht] at h
    unfold DR.room at h
    rw [DR.phases, DR.phase_room hok.1 (by unfold DR.room; omega)]
    simp only
    rw [ih _ hok.2 (by unfold DR.room; simp only; omega)]
    simp [Chip.runPhases, ht]; omega

end Lich
