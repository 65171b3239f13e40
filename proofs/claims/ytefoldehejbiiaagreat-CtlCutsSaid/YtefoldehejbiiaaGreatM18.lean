/-
  What holds of a chip at each clock: bounds. No program.
-/
import Derived.Test.YtefoldehejbiiaaGreatM01
import Derived.Test.YtefoldehejbiiaaGreatM13

namespace Lich

def Room (g l n : Int) : Prop := 1 ≤ l ∧ 0 ≤ g ∧ ∃ k : Nat, g < 2 ^ k ∧ (k : Int) + l * n ≤ 24

theorem Room.bd {g l n : Int} (h : Room g l n) (hn : 0 ≤ n) : g < 1000000000 := by
  obtain ⟨hl, _, k, hk, hs⟩ := h
  have hp : 0 ≤ l * n := Int.mul_nonneg (by omega) hn
  have h24 : (2 : Nat) ^ k ≤ 2 ^ 24 := Nat.pow_le_pow_right (by omega) (by omega)
  have h25 : ((2 ^ k : Nat) : Int) ≤ ((2 ^ 24 : Nat) : Int) := Int.ofNat_le.2 h24
  rw [Int.natCast_pow] at h25
  have h26 : ((2 : Nat) : Int) ^ k = 2 ^ k := rfl
  omega
theorem Room.one {g l x : Int} (h : Room g l 1) (hl : l - 1 ≠ 0) : Room (g * 2 + x % 2) (l - 1) 1 := by
  obtain ⟨h1, h0, k, hk, hs⟩ := h
  refine ⟨by omega, by omega, k + 1, ?_, by omega⟩
  rw [Int.pow_succ]
  omega
theorem Room.four {g l x : Int} (h : Room g l 4) (hl : l - 1 ≠ 0) : Room (g * 16 + x % 16) (l - 1) 4 := by
  obtain ⟨h1, h0, k, hk, hs⟩ := h
  refine ⟨by omega, by omega, k + 4, ?_, by omega⟩
  rw [Int.pow_add]
  omega

structure OpD.Ok (o : OpD) : Prop where
  mode : o.mode = true → o.addr = 4
  data : o.data = 0 ∨ o.data = 1 ∨ o.data = 4
  addr : o.addr = 0 ∨ o.addr = 1 ∨ o.addr = 4
  dummy : 0 ≤ o.dummy ∧ o.dummy ≤ 8
  inn : o.inn = true → o.data = 1

theorem opOf_Ok {n : Int} {o : OpD} (h : opOf n = some o) : o.Ok := by
  unfold opOf at h
  repeat' split at h
  all_goals first | (simp only [Option.some.injEq] at h; subst h; constructor <;> simp) | simp at h
theorem noOp_Ok : ({} : OpD).Ok := by constructor <;> simp

structure Cmd.Ok (m : Cmd) (n : Int) : Prop where
  op : m.op.Ok
  stage : 0 ≤ m.stage ∧ m.stage ≤ 7
  told : 0 ≤ m.told ∧ m.told ≤ n
  addr : 0 ≤ m.addr ∧ m.addr < 4096
  now : 0 ≤ m.now ∧ m.now < 256
  vals : ∀ x ∈ m.data, 0 ≤ x ∧ x < 1000000000000
  many : (m.data.length : Int) ≤ n
  left : 0 ≤ m.left ∧ m.left ≤ 24
  s0 : m.stage = 0 → Room m.got m.left 1
  s2 : m.stage = 2 → m.op.addr ≠ 0 ∧ Room m.got m.left m.op.addr
  s3 : m.stage = 3 → m.op.mode = true ∧ Room m.got m.left m.op.addr
  s4 : m.stage = 4 → 1 ≤ m.left
  s5 : m.stage = 5 → m.op.data = 1 ∧ Room m.got m.left 1
  s6 : m.stage = 6 → m.op.data = 4 ∧ m.left ≤ 1 ∨ m.op.data = 1 ∧ m.left ≤ 7

theorem Cmd.Ok.more {m : Cmd} {n k : Int} (h : m.Ok n) (hk : n ≤ k) : m.Ok k :=
  { h with told := ⟨h.told.1, by have := h.told.2; omega⟩, many := by have := h.many; omega }

theorem Cmd.enter_Ok {m : Cmd} {n s l : Int} (ho : m.op.Ok) (ht : 0 ≤ m.told ∧ m.told ≤ n) (ha : 0 ≤ m.addr ∧ m.addr < 4096) (hn : 0 ≤ m.now ∧ m.now < 256) (hv : ∀ x ∈ m.data, 0 ≤ x ∧ x < 1000000000000) (hm : (m.data.length : Int) ≤ n)
    (hs : s = 1 ∧ l = 0 ∨ s = 2 ∧ m.op.addr ≠ 0 ∧ l = 24 / m.op.addr ∨ s = 3 ∧ m.op.mode = true ∧ l = 2 ∨ s = 4 ∧ 0 < m.op.dummy ∧ l = m.op.dummy ∨ s = 5 ∧ m.op.data = 1 ∧ l = 8 ∨ s = 6 ∧ m.op.data ≠ 0 ∧ l = 0 ∨ s = 7 ∧ l = 0) :
    (m.enter s l).Ok n := by
  have hd := ho.dummy
  have hda := ho.data
  have had := ho.addr
  have hl : 0 ≤ l ∧ l ≤ 24 := by
    rcases hs with h | h | h | h | h | h | h
    · omega
    · obtain ⟨_, h1, rfl⟩ := h
      rcases had with e | e | e <;> rw [e] <;> first | (exact absurd e h1) | decide
    all_goals omega
  unfold Cmd.enter
  refine ⟨ho, ?_, ht, ha, hn, hv, hm, hl, ?_, ?_, ?_, ?_, ?_, ?_⟩
  · show 0 ≤ s ∧ s ≤ 7; omega
  · intro (e : s = 0); omega
  · intro (e : s = 2)
    obtain ⟨h1, rfl⟩ : m.op.addr ≠ 0 ∧ l = 24 / m.op.addr := by
      rcases hs with h | h | h | h | h | h | h
      · omega
      · exact h.2
      all_goals omega
    refine ⟨h1, ?_⟩
    rcases had with e | e | e
    · exact absurd e h1
    · show Room 0 (24 / m.op.addr) m.op.addr
      rw [e]; exact ⟨by decide, by decide, 0, by decide, by decide⟩
    · show Room 0 (24 / m.op.addr) m.op.addr
      rw [e]; exact ⟨by decide, by decide, 0, by decide, by decide⟩
  · intro (e : s = 3)
    obtain ⟨h1, rfl⟩ : m.op.mode = true ∧ l = 2 := by
      rcases hs with h | h | h | h | h | h | h
      · omega
      · omega
      · exact h.2
      all_goals omega
    refine ⟨h1, ?_⟩
    show Room 0 2 m.op.addr
    rw [ho.mode h1]; exact ⟨by decide, by decide, 0, by decide, by decide⟩
  · intro (e : s = 4); show 1 ≤ l; omega
  · intro (e : s = 5)
    obtain ⟨h1, rfl⟩ : m.op.data = 1 ∧ l = 8 := by
      rcases hs with h | h | h | h | h | h | h
      · omega
      · omega
      · omega
      · omega
      · exact h.2
      all_goals omega
    refine ⟨h1, ?_⟩
    show Room 0 8 1
    exact ⟨by decide, by decide, 0, by decide, by decide⟩
  · intro (e : s = 6)
    show m.op.data = 4 ∧ l ≤ 1 ∨ m.op.data = 1 ∧ l ≤ 7
    omega

theorem Cmd.behind_Ok {m : Cmd} {n : Int} (ho : m.op.Ok) (ht : 0 ≤ m.told ∧ m.told ≤ n) (ha : 0 ≤ m.addr ∧ m.addr < 4096) (hn : 0 ≤ m.now ∧ m.now < 256) (hv : ∀ x ∈ m.data, 0 ≤ x ∧ x < 1000000000000) (hm : (m.data.length : Int) ≤ n) : m.behind.Ok n := by
  unfold Cmd.behind
  split
  · rename_i h
    exact Cmd.enter_Ok ho ht ha hn hv hm (by rw [ho.mode h.1]; simp [h.1])
  · split
    · rename_i h; exact Cmd.enter_Ok ho ht ha hn hv hm (by simp [h.1])
    · split
      · exact Cmd.enter_Ok ho ht ha hn hv hm (by simp)
      · split
        · rename_i h0 h
          exact Cmd.enter_Ok ho ht ha hn hv hm (by rw [ho.inn h]; simp)
        · rename_i h0 h
          exact Cmd.enter_Ok ho ht ha hn hv hm (by simp [h0])

theorem Chip.begins_cmd {c : Chip} {n : Int} (b : Int) (h : 0 ≤ c.cmd.told ∧ c.cmd.told ≤ n ∧ 0 ≤ c.cmd.addr ∧ c.cmd.addr < 4096 ∧ 0 ≤ c.cmd.now ∧ c.cmd.now < 256) (hv : ∀ x ∈ c.cmd.data, 0 ≤ x ∧ x < 1000000000000) (hm : (c.cmd.data.length : Int) ≤ n) : (c.begins b).cmd.Ok n := by
  obtain ⟨h1, h2, h3, h4, h5, h6⟩ := h
  unfold Chip.begins
  split
  · exact Cmd.enter_Ok noOp_Ok ⟨h1, h2⟩ ⟨h3, h4⟩ ⟨h5, h6⟩ hv hm (by simp)
  · rename_i o ho
    have hok := opOf_Ok ho
    split
    · exact Cmd.enter_Ok hok ⟨h1, h2⟩ ⟨h3, h4⟩ ⟨h5, h6⟩ hv hm (by simp)
    · split
      · rename_i h0
        exact Cmd.enter_Ok hok ⟨h1, h2⟩ ⟨h3, h4⟩ ⟨h5, h6⟩ hv hm (.inr (.inl ⟨rfl, by show o.addr ≠ 0; omega, rfl⟩))
      · exact Cmd.behind_Ok hok ⟨h1, h2⟩ ⟨h3, h4⟩ ⟨h5, h6⟩ hv hm

/-- The chip but for its command is the same. -/
structure Chip.Beside (c c' : Chip) : Prop where
  cells : c'.cells = c.cells
  prot : c'.prot = c.prot
  quad : c'.quad = c.quad
  wipes : c'.wipes = c.wipes
  sel : c'.sel = c.sel
  en : c'.en = c.en
  goes : c'.goes = c.goes
  job : c'.job = c.job
  busy : c'.busy = c.busy

theorem Chip.begins_beside (c : Chip) (b : Int) : c.Beside (c.begins b) := by
  unfold Chip.begins
  repeat' split
  all_goals exact ⟨rfl, rfl, rfl, rfl, rfl, rfl, rfl, rfl, rfl⟩

theorem Chip.Beside.trans {a b c : Chip} (h : a.Beside b) (k : b.Beside c) : a.Beside c :=
  ⟨k.cells.trans h.cells, k.prot.trans h.prot, k.quad.trans h.quad, k.wipes.trans h.wipes, k.sel.trans h.sel, k.en.trans h.en, k.goes.trans h.goes, k.job.trans h.job, k.busy.trans h.busy⟩

theorem Chip.step_beside (c : Chip) (x : Int) : c.Beside (c.step x).1 := by
  unfold Chip.step
  simp only
  repeat' split
  all_goals first
    | exact ⟨rfl, rfl, rfl, rfl, rfl, rfl, rfl, rfl, rfl⟩
    | exact Chip.Beside.trans (b := { c with cmd := { c.cmd with got := c.cmd.got * 2 + x % 2, left := c.cmd.left - 1 } }) ⟨rfl, rfl, rfl, rfl, rfl, rfl, rfl, rfl, rfl⟩ (Chip.begins_beside _ _)

theorem pow_four (g x : Int) (a : Int) (h : a = 4) : g * 2 ^ a.toNat + x % 2 ^ a.toNat = g * 16 + x % 16 := by subst h; rfl
theorem pow_one' (g x : Int) (a : Int) (h : a = 1) : g * 2 ^ a.toNat + x % 2 ^ a.toNat = g * 2 + x % 2 := by subst h; rfl

theorem Room.any {g l x a : Int} (ha : a = 1 ∨ a = 4) (h : Room g l a) (hl : l - 1 ≠ 0) : Room (g * 2 ^ a.toNat + x % 2 ^ a.toNat) (l - 1) a := by
  rcases ha with rfl | rfl
  · exact Room.one h hl
  · exact Room.four h hl

theorem Room.val {g l a : Int} (x : Int) (ha : a = 1 ∨ a = 4) (h : Room g l a) : 0 ≤ g * 2 ^ a.toNat + x % 2 ^ a.toNat ∧ g * 2 ^ a.toNat + x % 2 ^ a.toNat < 1000000000000 := by
  have hb := h.bd (by omega)
  have h0 := h.2.1
  rcases ha with rfl | rfl
  · show 0 ≤ g * 2 + x % 2 ∧ g * 2 + x % 2 < _; omega
  · show 0 ≤ g * 16 + x % 16 ∧ g * 16 + x % 16 < _; omega

theorem Chip.step_cmd {c : Chip} {n : Int} (h : c.cmd.Ok n) (x : Int) : (c.step x).1.cmd.Ok (n + 1) := by
  have hs := h.stage
  have hm := h.more (k := n + 1) (by omega)
  have ht := hm.told
  have hl := h.left
  unfold Chip.step
  simp only
  by_cases e0 : c.cmd.stage = 0
  · rw [if_pos e0]
    have hr := h.s0 e0
    split
    · exact Chip.begins_cmd _ ⟨ht.1, ht.2, h.addr.1, h.addr.2, h.now.1, h.now.2⟩ h.vals hm.many
    · rename_i hz
      exact { hm with left := by show 0 ≤ c.cmd.left - 1 ∧ c.cmd.left - 1 ≤ 24; have := hr.1; omega, s0 := fun _ => hr.one hz, s2 := fun (e : c.cmd.stage = 2) => by omega, s3 := fun (e : c.cmd.stage = 3) => by omega, s4 := fun (e : c.cmd.stage = 4) => by omega, s5 := fun (e : c.cmd.stage = 5) => by omega, s6 := fun (e : c.cmd.stage = 6) => by omega }
  rw [if_neg e0]
  by_cases e2 : c.cmd.stage = 2
  · rw [if_pos e2]
    obtain ⟨ha, hr⟩ := h.s2 e2
    have ha' : c.cmd.op.addr = 1 ∨ c.cmd.op.addr = 4 := by have := h.op.addr; omega
    split
    · exact Cmd.behind_Ok h.op ht ⟨by show 0 ≤ _ % 4096; omega, by show _ % 4096 < 4096; omega⟩ h.now h.vals hm.many
    · rename_i hz
      exact { hm with left := by show 0 ≤ c.cmd.left - 1 ∧ c.cmd.left - 1 ≤ 24; have := hr.1; omega, s0 := fun (e : c.cmd.stage = 0) => by omega, s2 := fun _ => ⟨ha, hr.any ha' hz⟩, s3 := fun (e : c.cmd.stage = 3) => by omega, s4 := fun (e : c.cmd.stage = 4) => by omega, s5 := fun (e : c.cmd.stage = 5) => by omega, s6 := fun (e : c.cmd.stage = 6) => by omega }
  rw [if_neg e2]
  by_cases e3 : c.cmd.stage = 3
  · rw [if_pos e3]
    obtain ⟨ha, hr⟩ := h.s3 e3
    have ha' : c.cmd.op.addr = 1 ∨ c.cmd.op.addr = 4 := .inr (h.op.mode ha)
    split
    · exact Cmd.behind_Ok h.op ht h.addr h.now h.vals hm.many
    · rename_i hz
      exact { hm with left := by show 0 ≤ c.cmd.left - 1 ∧ c.cmd.left - 1 ≤ 24; have := hr.1; omega, s0 := fun (e : c.cmd.stage = 0) => by omega, s2 := fun (e : c.cmd.stage = 2) => by omega, s3 := fun _ => ⟨ha, hr.any ha' hz⟩, s4 := fun (e : c.cmd.stage = 4) => by omega, s5 := fun (e : c.cmd.stage = 5) => by omega, s6 := fun (e : c.cmd.stage = 6) => by omega }
  rw [if_neg e3]
  by_cases e4 : c.cmd.stage = 4
  · rw [if_pos e4]
    split
    · exact Cmd.behind_Ok h.op ht h.addr h.now h.vals hm.many
    · rename_i hz
      have h4 := h.s4 e4
      exact { hm with left := by show 0 ≤ c.cmd.left - 1 ∧ c.cmd.left - 1 ≤ 24; omega, s0 := fun (e : c.cmd.stage = 0) => by omega, s2 := fun (e : c.cmd.stage = 2) => by omega, s3 := fun (e : c.cmd.stage = 3) => by omega, s4 := fun _ => by show 1 ≤ c.cmd.left - 1; omega, s5 := fun (e : c.cmd.stage = 5) => by omega, s6 := fun (e : c.cmd.stage = 6) => by omega }
  rw [if_neg e4]
  by_cases e5 : c.cmd.stage = 5
  · rw [if_pos e5]
    obtain ⟨hd, hr⟩ := h.s5 e5
    have hv := Room.val x (.inl hd) (by rw [hd]; exact hr)
    split
    · refine Cmd.behind_Ok h.op ht h.addr h.now ?_ ?_
      · intro y hy
        rcases List.mem_append.1 hy with hy | hy
        · exact h.vals y hy
        · simp only [List.mem_singleton] at hy; subst hy; exact hv
      · have := h.many; show ((c.cmd.data ++ _).length : Int) ≤ n + 1; simp; omega
    · rename_i hz
      exact { hm with left := by show 0 ≤ c.cmd.left - 1 ∧ c.cmd.left - 1 ≤ 24; have := hr.1; omega, s0 := fun (e : c.cmd.stage = 0) => by omega, s2 := fun (e : c.cmd.stage = 2) => by omega, s3 := fun (e : c.cmd.stage = 3) => by omega, s4 := fun (e : c.cmd.stage = 4) => by omega, s5 := fun _ => ⟨hd, by show Room (c.cmd.got * 2 ^ c.cmd.op.data.toNat + x % 2 ^ c.cmd.op.data.toNat) (c.cmd.left - 1) 1; rw [hd]; exact hr.one hz⟩, s6 := fun (e : c.cmd.stage = 6) => by omega }
  rw [if_neg e5]
  by_cases e6 : c.cmd.stage = 6
  · rw [if_pos e6]
    have h6 := h.s6 e6
    have hby := c.byteAt_bd c.cmd.told
    unfold Chip.says
    simp only
    refine { hm with told := ?_, now := ?_, left := ?_, s0 := fun (e : c.cmd.stage = 0) => by omega, s2 := fun (e : c.cmd.stage = 2) => by omega, s3 := fun (e : c.cmd.stage = 3) => by omega, s4 := fun (e : c.cmd.stage = 4) => by omega, s5 := fun (e : c.cmd.stage = 5) => by omega, s6 := fun _ => ?_ }
    · show 0 ≤ (if c.cmd.left = 0 then c.cmd.told + 1 else c.cmd.told) ∧ (if c.cmd.left = 0 then c.cmd.told + 1 else c.cmd.told) ≤ n + 1
      have := h.told
      split <;> omega
    · show 0 ≤ (if c.cmd.left = 0 then c.byteAt c.cmd.told else c.cmd.now) ∧ (if c.cmd.left = 0 then c.byteAt c.cmd.told else c.cmd.now) < 256
      split
      · exact hby
      · exact h.now
    · show 0 ≤ (if c.cmd.left = 0 then 8 / c.cmd.op.data else c.cmd.left) - 1 ∧ (if c.cmd.left = 0 then 8 / c.cmd.op.data else c.cmd.left) - 1 ≤ 24
      have hl' := h.left
      rcases h6 with ⟨e, _⟩ | ⟨e, _⟩ <;> (try rw [e]) <;> split <;> omega
    · show c.cmd.op.data = 4 ∧ (if c.cmd.left = 0 then 8 / c.cmd.op.data else c.cmd.left) - 1 ≤ 1 ∨ c.cmd.op.data = 1 ∧ (if c.cmd.left = 0 then 8 / c.cmd.op.data else c.cmd.left) - 1 ≤ 7
      rcases h6 with ⟨e, _⟩ | ⟨e, _⟩ <;> (try rw [e]) <;> split <;> omega
  rw [if_neg e6]
  by_cases e7 : c.cmd.stage = 7
  · rw [if_pos e7]
    exact { hm with s0 := fun (e : c.cmd.stage = 0) => by omega, s2 := fun (e : c.cmd.stage = 2) => by omega, s3 := fun (e : c.cmd.stage = 3) => by omega, s4 := fun (e : c.cmd.stage = 4) => by omega, s5 := fun (e : c.cmd.stage = 5) => by omega, s6 := fun (e : c.cmd.stage = 6) => by omega }
  rw [if_neg e7]
  exact hm
end Lich
