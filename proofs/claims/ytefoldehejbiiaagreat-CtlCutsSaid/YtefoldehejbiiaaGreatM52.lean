/-

-/
import Derived.Test.YtefoldehejbiiaaGreatM51

namespace Lich

def Chip.tell (c : Chip) (b addr i : Int) : Int :=
  if b = 159 then (if i % 3 = 0 then 239 else if i % 3 = 1 then 64 else 12)
  else if b = 5 then c.st1
  else if b = 53 then c.st2
  else if b = 90 then ((table.getD ((addr + i) % 32).toNat 0).toNat : Int)
  else ((c.cells.getD ((addr + i) % 4096).toNat 0).toNat : Int)

theorem Chip.byteAt_tell (c : Chip) (i : Int) : c.byteAt i = c.tell c.cmd.op.byte c.cmd.addr i := rfl

theorem Chip.tell_with (c : Chip) (s : Bool) (m : Cmd) (x y i : Int) : ({ c with sel := s, cmd := m } : Chip).tell x y i = c.tell x y i := rfl
theorem Chip.takes_with (c : Chip) (s : Bool) (m : Cmd) (x : Int) : ({ c with sel := s, cmd := m } : Chip).takes x = c.takes x := rfl

theorem Chip.pass_full (c : Chip) (s : Bool) (m : Cmd) : ({ c with sel := s, cmd := m } : Chip).pass = { c.pass with sel := s, cmd := m } := by
  unfold Chip.pass
  simp only
  split
  · rfl
  · split
    · rfl
    · split <;> rfl

theorem Chip.ticks_full (n : Nat) : ∀ (c : Chip) (s : Bool) (m : Cmd), ({ c with sel := s, cmd := m } : Chip).ticks n = { c.ticks n with sel := s, cmd := m } := by
  induction n with
  | zero => intro c s m; rfl
  | succ n ih => intro c s m; rw [Chip.ticks, Chip.pass_full, ih]; rfl

/-- A chip that is selected, with a command: 'c' gives the rest. -/
def Chip.on (c : Chip) (m : Cmd) : Chip := { c with sel := true, cmd := m }

theorem Chip.on_ticks (c : Chip) (m : Cmd) (n : Nat) : (c.on m).ticks n = (c.ticks n).on m := Chip.ticks_full n c true m
theorem Chip.on_takes (c : Chip) (m : Cmd) (x : Int) : (c.on m).takes x = c.takes x := rfl
theorem Chip.on_tell (c : Chip) (m : Cmd) (x y i : Int) : (c.on m).tell x y i = c.tell x y i := rfl
theorem Chip.on_cmd (c : Chip) (m : Cmd) : (c.on m).cmd = m := rfl
theorem Chip.on_with' (c : Chip) (m m' : Cmd) : ({ c.on m with cmd := m' } : Chip) = c.on m' := rfl

/-- The byte phase of a command that is known and taken. -/
theorem Chip.on_byte {c : Chip} {o : OpD} (ho : opOf o.byte = some o) (h0 : 0 ≤ o.byte) (h1 : o.byte < 256) (htk : (c.ticks 8).takes o.byte = true) :
    ((c.on { left := 8 }).runPhase { lanes := 1, bytes := [o.byte] }) =
      ((c.ticks 8).on (if 0 < o.addr then { op := o, stage := 2, left := 24 / o.addr } else ({ op := o } : Cmd).behind), []) := by
  unfold Chip.runPhase Chip.putAll
  simp only [List.foldl_cons, List.foldl_nil, Int.toNat_zero, List.replicate_zero, Chip.getAll]
  have e : ∀ c : Chip, c.sendAll [] = c := fun _ => rfl
  rw [e, Chip.take0 _ (c.on { left := 8 }) rfl rfl (by simp [wires, bitsOf, Chip.on]) (by simp [wires, bitsOf])]
  have hl : (wires o.byte 1).length = 8 := by simp [wires, bitsOf]
  rw [hl, Chip.on_ticks]
  simp only [Chip.on_cmd]
  rw [bitsVal_one _ _ h0 h1, Chip.on_with']
  simp only [Int.zero_mul, Int.zero_add]
  unfold Chip.begins
  rw [ho]
  simp only [Chip.on_takes, htk, Bool.true_eq_false, ↓reduceIte]
  split
  · rfl
  · unfold Cmd.behind Cmd.enter
    simp only [Chip.on_cmd]
    rfl

theorem puts_flat (bs : List Int) (lanes : Int) : ∀ c : Chip, c.putAll bs lanes = c.sendAll (bs.flatMap (wires · lanes)) := by
  induction bs with
  | nil => intro c; rfl
  | cons b bs ih =>
    intro c
    rw [List.flatMap_cons, Chip.sendAll_append]
    exact ih _

/-- The address phase. -/
theorem Chip.on_addr {c : Chip} {o : OpD} (ha : o.addr = 1 ∨ o.addr = 4) {at_ : Int} (h0 : 0 ≤ at_) (h1 : at_ < 4096) :
    ((c.on { op := o, stage := 2, left := 24 / o.addr }).runPhase { lanes := o.addr, bytes := [at_ / 65536, at_ / 256 % 256, at_ % 256] }) =
      ((c.ticks (24 / o.addr).toNat).on ({ op := o, stage := 2, addr := at_ } : Cmd).behind, []) := by
  have hb : at_ / 65536 = 0 := by omega
  unfold Chip.runPhase
  simp only [Int.toNat_zero, List.replicate_zero, Chip.getAll]
  have e : ∀ c : Chip, c.sendAll [] = c := fun _ => rfl
  rw [e, puts_flat]
  have hlen : (([at_ / 65536, at_ / 256 % 256, at_ % 256].flatMap (wires · o.addr)).length : Int) = 24 / o.addr := by
    rcases ha with h | h <;> rw [h] <;> simp [wires, bitsOf]
  have hlen' : ([at_ / 65536, at_ / 256 % 256, at_ % 256].flatMap (wires · o.addr)).length = (24 / o.addr).toNat := by omega
  have hne : [at_ / 65536, at_ / 256 % 256, at_ % 256].flatMap (wires · o.addr) ≠ [] := by
    rcases ha with h | h <;> rw [h] <;> simp [wires, bitsOf]
  have hv : bitsVal o.addr.toNat 0 ([at_ / 65536, at_ / 256 % 256, at_ % 256].flatMap (wires · o.addr)) = at_ := by
    rcases ha with h | h <;> rw [h] <;> simp only [List.flatMap_cons, List.flatMap_nil, List.append_nil, bitsVal_append, Int.toNat_one, show (4 : Int).toNat = 4 from rfl]
    · rw [bitsVal_one _ _ (by omega) (by omega), bitsVal_one _ _ (by omega) (by omega), bitsVal_one _ _ (by omega) (by omega)]; omega
    · rw [bitsVal_four _ _ (by omega) (by omega), bitsVal_four _ _ (by omega) (by omega), bitsVal_four _ _ (by omega) (by omega)]; omega
  rw [Chip.take1 _ (c.on _) rfl (.inl rfl) (by rw [hlen]; rfl) hne, hlen', Chip.on_ticks]
  simp only [Chip.on_cmd, Chip.on_with']
  have hl : ({ op := o, stage := 2, left := 24 / o.addr } : Cmd).lanesAt = o.addr := by simp [Cmd.lanesAt]
  rw [hl, hv]
  have hm : at_ % 4096 = at_ := by omega
  unfold Cmd.takes
  simp only [↓reduceIte, hm]
  unfold Cmd.behind Cmd.enter
  rfl

/-- The mode bits. -/
theorem Chip.on_mode {c : Chip} {o : OpD} (ha : o.addr = 4) {at_ x : Int} (h0 : 0 ≤ x) (h1 : x < 256) :
    ((c.on { op := o, stage := 3, left := 2, addr := at_ }).runPhase { lanes := o.addr, bytes := [x] }) =
      ((c.ticks 2).on ({ op := o, stage := 3, addr := at_, mode := x, moded := true } : Cmd).behind, []) := by
  unfold Chip.runPhase
  simp only [Int.toNat_zero, List.replicate_zero, Chip.getAll]
  have e : ∀ c : Chip, c.sendAll [] = c := fun _ => rfl
  rw [e, puts_flat, ha]
  simp only [List.flatMap_cons, List.flatMap_nil, List.append_nil]
  rw [Chip.take1 _ (c.on _) rfl (.inr (.inl rfl)) (by simp [wires, Chip.on]) (by simp [wires])]
  have hl : (wires x 4).length = 2 := by simp [wires]
  rw [hl, Chip.on_ticks]
  simp only [Chip.on_cmd, Chip.on_with']
  have hl : ({ op := o, stage := 3, left := 2, addr := at_ } : Cmd).lanesAt = 4 := by simp [Cmd.lanesAt, ha]
  rw [hl, show (4 : Int).toNat = 4 from rfl, bitsVal_four _ _ h0 h1]
  unfold Cmd.takes
  simp only [show ¬ (3 : Int) = 2 from by decide, ↓reduceIte, Int.zero_mul, Int.zero_add]
  unfold Cmd.behind Cmd.enter
  rfl

/-- The clocks of nothing. -/
theorem Chip.on_dummy {c : Chip} {m : Cmd} (n : Nat) (h4 : m.stage = 4) (hl : m.left = n + 1) :
    ((c.on m).runPhase { clocks := n + 1 }) = ((c.ticks (n + 1)).on ({ m with left := 0 } : Cmd).behind, []) := by
  unfold Chip.runPhase
  simp only [Int.toNat_zero, Chip.getAll, Chip.putAll, List.foldl_nil, show ((n : Int) + 1).toNat = n + 1 from by omega]
  rw [Chip.take4 n (c.on m) rfl h4 hl, Chip.on_ticks]
  rfl

/-- The bytes that come. -/
theorem Chip.on_read {c : Chip} {m : Cmd} {l : Nat} (hl : l = 1 ∨ l = 4) (h6 : m.stage = 6) (h0 : m.left = 0) (hd : m.op.data = l) (k : Nat) :
    ∃ nw, ((c.on m).runPhase { lanes := l, read := k }) =
      ((c.ticks (k * (8 / l))).on { m with now := nw, told := m.told + k }, (List.range k).map fun i => (c.ticks (i * (8 / l) + 1)).tell m.op.byte m.addr (m.told + i)) := by
  obtain ⟨nw, hn⟩ := Chip.getAll_spec l hl k (c.on m) rfl h6 h0 hd
  refine ⟨nw, ?_⟩
  unfold Chip.runPhase
  simp only [Int.toNat_zero, List.replicate_zero, Chip.putAll, List.foldl_nil, Int.toNat_natCast]
  have e : ∀ c : Chip, c.sendAll [] = c := fun _ => rfl
  rw [e, hn, Chip.on_ticks]
  refine Prod.ext (Chip.on_with' _ _ _) ?_
  simp only [Chip.says', Chip.on_ticks]
  refine List.map_congr_left fun i _ => ?_
  rw [Chip.byteAt_tell]
  rfl

end Lich
