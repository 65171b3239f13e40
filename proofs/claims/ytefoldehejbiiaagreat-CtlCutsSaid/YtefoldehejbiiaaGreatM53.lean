/-
  What a reading command on an idle chip tells, and how long it takes. No program.
-/
import Derived.Test.YtefoldehejbiiaaGreatM50
import Derived.Test.YtefoldehejbiiaaGreatM52
import Derived.Test.YtefoldehejbiiaaGreatM37

namespace Lich
open Go.Proofs.YtefoldehejbiiaaGreat

theorem Chip.select_on {c : Chip} (hg : c.goes = false) : c.select = c.on { left := 8 } := by
  show (if c.goes = true then _ else _) = _
  rw [if_neg (by simp [hg])]
  rfl

theorem Chip.runPhases_append (xs ys : List Phase) : ∀ c : Chip, c.runPhases (xs ++ ys) = (((c.runPhases xs).1.runPhases ys).1, (c.runPhases xs).2 ++ ((c.runPhases xs).1.runPhases ys).2) := by
  induction xs with
  | nil => intro c; simp [Chip.runPhases]
  | cons x xs ih => intro c; simp [Chip.runPhases, ih]

/-- The bytes that come at a command's end, if any are asked for. -/
theorem Chip.read_end {c : Chip} {m : Cmd} {l : Nat} (hj : c.job = none) (hl : l = 1 ∨ l = 4) (h6 : m.stage = 6) (h0 : m.left = 0) (hd : m.op.data = l) (ht : m.told = 0) (r : Nat) :
    ∃ nw tl, (c.on m).runPhases (if 0 < (r : Int) then [{ lanes := l, read := r }] else []) = (c.on { m with now := nw, told := tl }, (List.range r).map fun i : Nat => c.tell m.op.byte m.addr (i : Int)) := by
  by_cases hr : 0 < (r : Int)
  · obtain ⟨nw, hn⟩ := Chip.on_read (c := c) hl h6 h0 hd r
    refine ⟨nw, m.told + r, ?_⟩
    rw [if_pos hr, Chip.runPhases, Chip.runPhases, hn]
    simp only [List.append_nil, Chip.ticks_none _ c hj, ht, Int.zero_add]
  · have : r = 0 := by omega
    subst this
    exact ⟨m.now, m.told, rfl⟩

/-- Commands that tell bytes, without mode bits. -/
def OpD.tells (o : OpD) : Prop := o.inn = false ∧ o.mode = false ∧ (o.data = 1 ∨ o.data = 4)

theorem tells_list {o : OpD} (ho : opOf o.byte = some o) (h : o.tells) : o = { byte := 159, data := 1 } ∨ o = { byte := 5, data := 1 } ∨ o = { byte := 53, data := 1 } ∨ o = { byte := 3, addr := 1, data := 1 } ∨ o = { byte := 90, addr := 1, dummy := 8, data := 1 } ∨ o = { byte := 107, addr := 1, dummy := 8, data := 4 } := by
  obtain ⟨h1, h2, h3⟩ := h
  unfold opOf at ho
  repeat' split at ho
  all_goals first
    | (simp only [Option.some.injEq] at ho
       subst ho
       first
         | (exfalso; simp at h1 h2 h3; done)
         | simp)
    | (simp only [Option.some.injEq] at ho
       rename_i hb
       rcases hb with hb | hb | hb | hb <;> rw [hb] at ho <;> rw [← ho] at h3 <;> simp at h3)
    | (simp only [Option.some.injEq] at ho
       rename_i hb
       rcases hb with hb | hb | hb <;> rw [hb] at ho <;> rw [← ho] <;> simp)
    | simp at ho

/-- How long a reading command takes. -/
def OpD.time (o : OpD) (r : Int) : Int := 8 + (if 0 < o.addr then 24 / o.addr else 0) + o.dummy + r * (8 / o.data)

theorem tells_time {o : OpD} (ho : opOf o.byte = some o) (h : o.tells) (at_ : Int) (r : Nat) : timeOf (cmdPhases o at_ [] r) = o.time r := by
  rcases tells_list ho h with rfl | rfl | rfl | rfl | rfl | rfl
  all_goals
    unfold cmdPhases OpD.time timeOf
    by_cases hr : 0 < r
    · have hr' : 0 < (r : Int) := by omega
      simp [hr, Phase.time]
      try omega
    · have : r = 0 := by omega
      subst this
      simp [Phase.time]

theorem Chip.tell_noaddr (c : Chip) {b : Int} (hb : b = 159 ∨ b = 5 ∨ b = 53) (x y i : Int) : c.tell b x i = c.tell b y i := by
  unfold Chip.tell
  rcases hb with rfl | rfl | rfl <;> rfl

/-- What a reading command on an idle chip tells. -/
theorem Chip.reads {c : Chip} (hj : c.job = none) (hg : c.goes = false) {o : OpD} (ho : opOf o.byte = some o) (h : o.tells) (htk : c.takes o.byte = true) {at_ : Int} (h0 : 0 ≤ at_) (h1 : at_ < 4096) (r : Nat) :
    ∃ m : Cmd, c.select.runPhases (cmdPhases o at_ [] r) = (c.on m, (List.range r).map fun i : Nat => c.tell o.byte at_ (i : Int)) ∧ m.op = o ∧ m.stage = 6 := by
  have hb : (c.on { left := 8 }).runPhase { lanes := 1, bytes := [o.byte] } = _ := Chip.on_byte (c := c) ho (by rcases tells_list ho h with rfl | rfl | rfl | rfl | rfl | rfl <;> decide) (by rcases tells_list ho h with rfl | rfl | rfl | rfl | rfl | rfl <;> decide) (by rw [Chip.ticks_none _ c hj]; exact htk)
  rw [Chip.ticks_none _ c hj] at hb
  rw [Chip.select_on hg]
  unfold cmdPhases
  obtain ⟨t1, t2, t3⟩ := h
  obtain ⟨l, hl, hd⟩ : ∃ l : Nat, (l = 1 ∨ l = 4) ∧ o.data = l := by
    rcases t3 with e | e
    · exact ⟨1, .inl rfl, e⟩
    · exact ⟨4, .inr rfl, e⟩
  have hd0 : ¬ o.data = 0 := by omega
  have h6 : ∀ m : Cmd, m.op = o → (o.dummy = 0 ∨ m.stage = 4) → m.behind = m.enter 6 0 := fun m hm hs => by
    unfold Cmd.behind
    rw [hm, t1, t2, if_neg (by simp), if_neg (by omega), if_neg hd0, if_neg (by simp)]
  have hA : o.addr = 0 ∧ o.dummy = 0 ∧ (o.byte = 159 ∨ o.byte = 5 ∨ o.byte = 53) ∨ (o.addr = 1 ∧ (o.dummy = 0 ∨ o.dummy = 8)) := by
    rcases tells_list ho ⟨t1, t2, t3⟩ with rfl | rfl | rfl | rfl | rfl | rfl <;> simp
  rw [if_neg (show ¬ o.mode = true by simp [t2]), if_neg (show ¬ (o.inn = true ∧ ([] : List Int) ≠ []) by simp), hd]
  have hend : ∀ (ps : List Phase) (m : Cmd), (c.on { left := 8 }).runPhases ps = (c.on m, []) → m.op = o → m.stage = 6 → m.left = 0 → m.told = 0 → (m.addr = at_ ∨ (o.byte = 159 ∨ o.byte = 5 ∨ o.byte = 53)) →
      ∃ m' : Cmd, (c.on { left := 8 }).runPhases (ps ++ (if 0 < (r : Int) then [{ lanes := l, read := r }] else [])) = (c.on m', (List.range r).map fun i : Nat => c.tell o.byte at_ (i : Int)) ∧ m'.op = o ∧ m'.stage = 6 := by
    intro ps m hp e1 e2 e3 e4 e5
    obtain ⟨nw, tl, he⟩ := Chip.read_end (c := c) (m := m) hj hl e2 e3 (by rw [e1]; exact hd) e4 r
    refine ⟨{ m with now := nw, told := tl }, ?_, e1, e2⟩
    rw [Chip.runPhases_append, hp]
    simp only [he, List.nil_append, e1]
    refine Prod.ext rfl (List.map_congr_left fun i _ => ?_)
    rcases e5 with e | e
    · rw [e]
    · exact Chip.tell_noaddr c e _ _ _
  have hrun : ∀ (x : Chip) (p : Phase) (y : Chip), x.runPhase p = (y, []) → x.runPhases [p] = (y, []) := fun x p y hx => by
    rw [Chip.runPhases, hx]; rfl
  rcases hA with ⟨a1, a2, a3⟩ | ⟨a1, a2⟩
  · rw [if_neg (by omega), h6 _ rfl (.inl a2)] at hb
    rw [if_neg (by omega), if_neg (by omega)]
    exact hend [{ lanes := 1, bytes := [o.byte] }] (({ op := o } : Cmd).enter 6 0) (hrun _ _ _ hb) rfl rfl rfl rfl (.inr a3)
  · rw [if_pos (by omega)] at hb
    have ha := Chip.on_addr (c := c) (o := o) (.inl a1) h0 h1
    rw [Chip.ticks_none _ c hj] at ha
    rw [if_pos (by omega)]
    have h2 : (c.on { left := 8 }).runPhases ([{ lanes := 1, bytes := [o.byte] }] ++ [{ lanes := o.addr, bytes := [at_ / 65536, at_ / 256 % 256, at_ % 256] }]) = (c.on ({ op := o, stage := 2, addr := at_ } : Cmd).behind, []) := by
      rw [Chip.runPhases_append, hrun _ _ _ hb, hrun _ _ _ ha]; rfl
    rcases a2 with a2 | a2
    · rw [h6 _ rfl (.inl a2)] at h2
      rw [if_neg (by omega)]
      have := hend _ _ h2 rfl rfl rfl rfl (.inl rfl)
      simpa only [List.append_nil] using this
    · have hm : ({ op := o, stage := 2, addr := at_ } : Cmd).behind = ({ op := o, stage := 2, addr := at_ } : Cmd).enter 4 8 := by
        unfold Cmd.behind
        rw [if_neg (by simp [t2]), if_pos (by simp [a2]), a2]
      rw [hm] at h2
      have hdm := Chip.on_dummy (c := c) (m := ({ op := o, stage := 2, addr := at_ } : Cmd).enter 4 8) 7 rfl rfl
      rw [Chip.ticks_none _ c hj, h6 _ rfl (.inr rfl)] at hdm
      rw [if_pos (by omega), a2]
      have h3 : (c.on { left := 8 }).runPhases ([{ lanes := 1, bytes := [o.byte] }] ++ [{ lanes := o.addr, bytes := [at_ / 65536, at_ / 256 % 256, at_ % 256] }] ++ [{ clocks := 8 }]) = (c.on (({ op := o, stage := 4, addr := at_ } : Cmd).enter 6 0), []) := by
        rw [Chip.runPhases_append, h2]
        exact Prod.ext (congrArg Prod.fst (hrun _ _ _ hdm)) (congrArg Prod.snd (hrun _ _ _ hdm))
      have := hend _ _ h3 rfl rfl rfl rfl (.inl rfl)
      simpa only [List.append_nil] using this

/-- What is left of a reading command when the wires let go. -/
theorem Chip.deselect_tells {c : Chip} {m : Cmd} (h6 : m.stage = 6) (ho : opOf m.op.byte = some m.op) (h : m.op.tells) : (c.on m).deselect = { c with sel := false, cmd := m } := by
  have hl := tells_list ho h
  obtain ⟨t1, t2, t3⟩ := h
  have hw : m.whole = true := by unfold Cmd.whole; rw [t1, if_neg (by simp), if_neg (by omega)]
  have hb : m.op.byte = 159 ∨ m.op.byte = 5 ∨ m.op.byte = 53 ∨ m.op.byte = 3 ∨ m.op.byte = 90 ∨ m.op.byte = 107 := by
    rcases hl with e | e | e | e | e | e <;> rw [e] <;> simp
  show Chip.ends { c with sel := false, cmd := m } = _
  unfold Chip.ends
  simp only
  rw [if_neg (by rw [hw, h6]; simp)]
  repeat' rw [if_neg (by omega)]

/-- A reading command with room. -/
theorem Ctl.run_tells {k : Ctl} (hl : k.lost = false) (hs : k.chip.sel = false) (hj : k.chip.job = none) (hg : k.goes = false) (hcg : k.chip.goes = false) {o : OpD} (ho : opOf o.byte = some o) (h : o.tells)
    (htk : k.chip.takes o.byte = true) {at_ : Int} (h0 : 0 ≤ at_) (h1 : at_ < 4096) (ha : o.addr = 0 → at_ = 0) {r : Nat} (hr : r ≤ 512) (hroom : k.left < 0 ∨ o.time r ≤ k.left) :
    ∃ m : Cmd, k.run o.byte at_ [] r = ({ k with chip := { k.chip with cmd := m }, clocks := k.clocks + o.time r, left := if 0 ≤ k.left then k.left - o.time r else k.left }, (List.range r).map fun i : Nat => k.chip.tell o.byte at_ (i : Int), 0) := by
  have hok : CmdOk o at_ [] r := ⟨h0, h1, fun e => e.2 (ha e.1), by simp, by simp, by omega, by omega, by
    rcases tells_list ho h with rfl | rfl | rfl | rfl | rfl | rfl <;> simp [fitsB]⟩
  obtain ⟨hall, hlen⟩ := cmdPhases_ok ho hok
  obtain ⟨m, hm, hmo, hm6⟩ := Chip.reads hj hcg ho h htk h0 h1 r
  refine ⟨m, ?_⟩
  rw [Ctl.run_plain hl ho (commandOf_good ho hok) hg]
  unfold Ctl.fin
  rw [Ctl.drive_room hall hs (by rw [tells_time ho h]; exact hroom), tells_time ho h, hm, Chip.deselect_tells hm6 (by rw [hmo]; exact ho) (by rw [hmo]; exact h)]
  have hb : ¬ o.byte = 235 := by rcases tells_list ho h with rfl | rfl | rfl | rfl | rfl | rfl <;> decide
  simp [hb, hg, hs]

/-- A reading command without room. -/
theorem Ctl.run_tells_cut {k : Ctl} (hf : k.Fine) (hl : k.lost = false) (hg : k.goes = false) {o : OpD} (ho : opOf o.byte = some o) (h : o.tells)
    {at_ : Int} (h0 : 0 ≤ at_) (h1 : at_ < 4096) (ha : o.addr = 0 → at_ = 0) {r : Nat} (hr : r ≤ 512) (h2 : 0 ≤ k.left) (h3 : k.left < o.time r) :
    ∃ c' : Chip, k.run o.byte at_ [] r = ({ k with chip := c', clocks := k.clocks + k.left, left := 0, lost := true }, [], 1101) := by
  have hok : CmdOk o at_ [] r := ⟨h0, h1, fun e => e.2 (ha e.1), by simp, by simp, by omega, by omega, by
    rcases tells_list ho h with rfl | rfl | rfl | rfl | rfl | rfl <;> simp [fitsB]⟩
  obtain ⟨hall, hlen⟩ := cmdPhases_ok ho hok
  obtain ⟨c', hd⟩ := Ctl.drive_cut hf.chip hall (by omega) (hf.sel hl) h2 (by rw [tells_time ho h]; exact h3)
  refine ⟨c', ?_⟩
  rw [Ctl.run_plain hl ho (commandOf_good ho hok) hg]
  unfold Ctl.fin
  rw [hd]
  simp
end Lich
