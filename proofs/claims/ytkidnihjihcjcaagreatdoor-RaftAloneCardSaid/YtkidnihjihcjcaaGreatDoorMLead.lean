/- The plain law of one who is alone: new, waiting, leading. -/
import Derived.Test.YtkidnihjihcjcaaGreatDoorWCore11
import Derived.Test.YtkidnihjihcjcaaGreatDoorWCore12
import Derived.Test.YtkidnihjihcjcaaGreatDoorWCore13
set_option linter.unusedSimpArgs false
set_option linter.unusedVariables false
namespace Go.Sx
open Go.Proofs
/-- One who is alone, and leads; n entries, m rounds. -/
structure Lead (c : Core) (n m : Nat) : Prop where
  alone : c.alone
  id : c.id = 1
  role : c.role = 2
  leader : c.leader = 1
  term : c.term = 1
  may : c.log.may = true
  base : c.log.base = 0
  len : c.log.l.length = n
  pos : 1 ≤ n
  last : c.log.last.2 = 1
  commit : c.commit = n
  wf : c.wf
  round : c.round = m
theorem Lead.lastT {c : Core} {n m : Nat} (h : Lead c n m) : c.log.lastT.1 = n := by
  have := c.log.may_last h.may
  rw [h.base, h.len] at this
  rw [Lg.lastT, if_pos h.may, this]; omega
theorem Lead.ours {c : Core} {n m : Nat} (h : Lead c n m) : c.ours = true := by
  have h1 := Lg.tell_last h.may (by rw [h.len]; exact h.pos)
  have h2 := h.lastT
  rw [Lg.lastT, if_pos h.may] at h2
  rw [h2, h.last, ← h.commit] at h1
  simp [Core.ours, h1, h.term]
theorem Lead.gone {c : Core} {n m : Nat} (h : Lead c n m) (g : Int) : Lead { c with gone := g } n m :=
  ⟨⟨h.alone.conf, h.alone.plain⟩, h.id, h.role, h.leader, h.term, h.may, h.base, h.len, h.pos, h.last, h.commit, ⟨⟨h.wf.kept.log, h.wf.kept.conf, h.wf.kept.snap⟩, h.wf.term, h.wf.commit, h.wf.votes⟩, h.round⟩
theorem Lead.read {c : Core} {n m : Nat} (h : Lead c n m) : Lead { c with round := c.round + 1 } n (m + 1) :=
  ⟨⟨h.alone.conf, h.alone.plain⟩, h.id, h.role, h.leader, h.term, h.may, h.base, h.len, h.pos, h.last, h.commit, ⟨⟨h.wf.kept.log, h.wf.kept.conf, h.wf.kept.snap⟩, h.wf.term, h.wf.commit, h.wf.votes⟩, by show c.round + 1 = _; rw [h.round]; omega⟩
theorem Lead.add {c : Core} {n m : Nat} (h : Lead c n m) {data : List UInt8} (hd : data.length ≤ 4096) (hn : n ≤ 1000) :
    ∃ g' : Lg, c.log.add c.term 1 data = (g', none) ∧ g'.wf ∧ Lead { c with log := g', commit := (n : Int) + 1 } (n + 1) m ∧ (g'.l.getD n ent0).data = data := by
  have hl := h.lastT
  rw [Lg.lastT, if_pos h.may] at hl
  have h2 := h.last
  have h3 := h.len
  have h4 := h.term
  have ha : c.log.add c.term 1 data = (⟨c.log.base, c.log.term, c.log.l ++ [⟨c.log.last.1 + 1, c.term, 1, data⟩]⟩, none) := by
    rw [Lg.add, if_pos h.may, if_neg (by rw [hl, h2, h4]; omega), if_neg (by omega), if_neg (by omega)]
  have hw : (⟨c.log.base, c.log.term, c.log.l ++ [⟨c.log.last.1 + 1, c.term, 1, data⟩]⟩ : Lg).wf := by
    refine ⟨h.wf.log.base, h.wf.log.term, fun e he => ?_, by simp; omega⟩
    rcases List.mem_append.1 he with he | he
    · exact h.wf.log.ents e he
    · obtain rfl := List.mem_singleton.1 he
      refine ⟨?_, ?_, ?_⟩ <;> (unfold I64; simp only; omega)
  obtain ⟨k1, k2⟩ := Lg.add_may ha
  refine ⟨_, ha, hw, ⟨⟨h.alone.conf, fun e he => ?_⟩, h.id, h.role, h.leader, h.term, k1, h.base, by show (c.log.l ++ [_]).length = n + 1; simp [h3], by omega, by rw [k2]; exact h4, by show (n : Int) + 1 = _; omega, ⟨⟨hw, h.wf.kept.conf, h.wf.kept.snap⟩, h.wf.term, (by show I64 ((n : Int) + 1); unfold I64; omega), h.wf.votes⟩, h.round⟩, ?_⟩
  · have he : e ∈ c.log.l ++ [⟨c.log.last.1 + 1, c.term, 1, data⟩] := he
    rcases List.mem_append.1 he with he | he
    · exact h.alone.plain e he
    · obtain rfl := List.mem_singleton.1 he; show (1 : Int) ≠ 2; decide
  · simp [← h3]
theorem Lead.long {c : Core} {n m : Nat} (h : Lead c n m) {data : List UInt8} (hd : 4096 < data.length) (hn : n ≤ 1000) : (c.log.add c.term 1 data).2 = some 2 := by
  have hl := h.lastT
  rw [Lg.lastT, if_pos h.may] at hl
  have h2 := h.last
  have h4 := h.term
  rw [Lg.add, if_pos h.may, if_neg (by rw [hl, h2, h4]; omega), if_pos (by omega)]
/-- What a new one keeps. -/
def kept1 : Kept := ⟨0, 0, lg0, [1], []⟩
theorem kept1_wf : kept1.wf := ⟨⟨by unfold I64; decide, by unfold I64; decide, fun e h => (nomatch h), by decide⟩, by decide, by decide⟩
theorem lg0_may : lg0.may = true := by decide
/-- The log of one who has begun to lead. -/
def lg1 : Lg := ⟨0, 0, [⟨1, 1, 0, []⟩]⟩
theorem lg0_add : lg0.add 1 0 [] = (lg1, none) := by rfl
theorem lg1_wf : lg1.wf := ⟨by unfold I64; decide, by unfold I64; decide, fun e he => by
  obtain rfl := List.mem_singleton.1 he
  refine ⟨?_, ?_, ?_⟩ <;> (unfold I64; decide), by decide⟩
theorem lg1_may : lg1.may = true := by decide
theorem led_lead {span draw draw' : Int} {g : Int} : Lead (({ Core.new 1 span kept1 draw with gone := g } : Core).stood draw' lg1) 1 0 := by
  refine ⟨⟨rfl, fun e he => ?_⟩, rfl, rfl, rfl, rfl, lg1_may, rfl, rfl, Nat.le_refl _, rfl, rfl, ⟨⟨lg1_wf, kept1_wf.conf, kept1_wf.snap⟩, ?_, ?_, ?_⟩, rfl⟩
  · have he : e ∈ lg1.l := he
    obtain rfl := List.mem_singleton.1 he; show (0 : Int) ≠ 2; decide
  · show I64 (0 + 1); unfold I64; decide
  · show I64 (lg0.lastT.1 + 1); unfold I64; decide
  · show (1 : Nat) ≤ _; decide
theorem waitM_bounds {span draw : Int} (h1 : 2 ≤ span) (h2 : span ≤ 1000) : span ≤ waitM span draw ∧ waitM span draw ≤ 2 * span := by
  unfold waitM
  rw [wrap_i64 (x := span + 1) (by omega) (by omega)]
  have e : IntKind.u64.wrap (span + 1) = span + 1 := by rw [IntKind.wrap_u64]; omega
  rw [e]
  have h3 : 0 ≤ IntKind.u64.wrap draw := by rw [IntKind.wrap_u64]; omega
  have h4 : 0 ≤ (IntKind.u64.wrap draw).tmod (span + 1) := Int.tmod_nonneg _ h3
  have h5 : (IntKind.u64.wrap draw).tmod (span + 1) < span + 1 := Int.tmod_lt_of_pos _ (by omega)
  rw [wrap_i64 (x := (IntKind.u64.wrap draw).tmod (span + 1)) (by omega) (by omega), wrap_i64 (by omega) (by omega)]
  omega
end Go.Sx
