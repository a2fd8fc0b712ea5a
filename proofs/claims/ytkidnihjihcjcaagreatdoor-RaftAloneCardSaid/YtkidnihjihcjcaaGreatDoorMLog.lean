/- The plain law of logs: what may be, what is last. -/
import Derived.Test.YtkidnihjihcjcaaGreatDoorSxB
set_option linter.unusedSimpArgs false
set_option linter.unusedVariables false
namespace Go.Sx
structure Ent where
  index : Int
  term : Int
  kind : Int
  data : List UInt8
def ent0 : Ent := ⟨0, 0, 0, []⟩
def I64 (x : Int) : Prop := -9223372036854775808 ≤ x ∧ x ≤ 9223372036854775807
structure Ent.wf (e : Ent) : Prop where
  index : I64 e.index
  term : I64 e.term
  kind : I64 e.kind
def Ent.fits (index : Int) (i : Nat) (term : Int) (e : Ent) : Bool :=
  decide (1 ≤ e.index ∧ e.index - i - 1 = index ∧ e.index ≤ 1099511627776 ∧ max term 1 ≤ e.term ∧ e.term ≤ 1099511627776 ∧ 0 ≤ e.kind ∧ e.kind ≤ 2 ∧ e.data.length ≤ 4096)
def rightM (index : Int) : Nat → Int → List Ent → Bool
  | _, _, [] => true
  | i, term, e :: l => e.fits index i term && rightM index (i + 1) e.term l
theorem drop_getD {α : Type} {l : List α} {i : Nat} (h : i < l.length) (d : α) : l.drop i = l.getD i d :: l.drop (i + 1) := by
  rw [List.drop_eq_getElem_cons h]
  simp [h]
structure Lg where
  base : Int
  term : Int
  l : List Ent
structure Lg.wf (g : Lg) : Prop where
  base : I64 g.base
  term : I64 g.term
  ents : ∀ e ∈ g.l, e.wf
  small : g.l.length ≤ 1099511627776
def Lg.last (g : Lg) : Int × Int := if 0 < g.l.length then ((g.l.getD (g.l.length - 1) ent0).index, (g.l.getD (g.l.length - 1) ent0).term) else (g.base, g.term)
def Lg.may (g : Lg) : Bool :=
  (decide (g.base = 0 ∧ g.term = 0) || decide (1 ≤ g.base ∧ g.base ≤ 1099511627776 ∧ 1 ≤ g.term ∧ g.term ≤ 1099511627776)) && decide (g.l.length ≤ 4096) && rightM g.base 0 g.term g.l
/-- The term of an index, or the error. -/
def Lg.termOf (g : Lg) (index : Int) : Int × Option Int :=
  if index > g.last.1 ∨ index < 0 then (0, some 8) else if index < g.base then (0, some 22) else if index = g.base then (g.term, none)
  else ((g.l.getD (index - g.base - 1).toNat ent0).term, none)
def lg0 : Lg := ⟨0, 0, []⟩
def Lg.compact (g : Lg) (index : Int) : Lg × Option Int :=
  if g.may then match (g.termOf index).2 with
    | some e => (lg0, some e)
    | none => (⟨index, (g.termOf index).1, g.l.drop (index - g.base).toNat⟩, none)
  else (lg0, some 1)
def Lg.add (g : Lg) (term kind : Int) (data : List UInt8) : Lg × Option Int :=
  if g.may then
    if term < max g.last.2 1 ∨ term > 1099511627776 ∨ kind < 0 ∨ kind > 2 ∨ g.last.1 ≥ 1099511627776 then (lg0, some 1)
    else if data.length > 4096 then (lg0, some 2) else if g.l.length ≥ 4096 then (lg0, some 10)
    else (⟨g.base, g.term, g.l ++ [⟨g.last.1 + 1, term, kind, data⟩]⟩, none)
  else (lg0, some 1)
theorem rightM_get {index : Int} : ∀ {l : List Ent} {i : Nat} {t : Int}, rightM index i t l = true → ∀ j, j < l.length →
    (l.getD j ent0).index = index + i + j + 1 ∧ 1 ≤ (l.getD j ent0).index ∧ (l.getD j ent0).index ≤ 1099511627776 ∧ 1 ≤ (l.getD j ent0).term ∧ t ≤ (l.getD j ent0).term ∧ (l.getD j ent0).term ≤ 1099511627776 ∧
      0 ≤ (l.getD j ent0).kind ∧ (l.getD j ent0).kind ≤ 2 ∧ (l.getD j ent0).data.length ≤ 4096
  | [], _, _, _, j, hj => by simp at hj
  | e :: l, i, t, h, j, hj => by
    simp only [rightM, Bool.and_eq_true] at h
    have hf : _ := h.1
    simp only [Ent.fits, decide_eq_true_eq] at hf
    cases j with
    | zero => simp only [List.getD_cons_zero]; omega
    | succ j =>
      have := rightM_get h.2 j (by simpa using hj)
      simp only [List.getD_cons_succ]
      omega
theorem Lg.may_get {g : Lg} (h : g.may = true) : ((g.base = 0 ∧ g.term = 0) ∨ (1 ≤ g.base ∧ g.base ≤ 1099511627776 ∧ 1 ≤ g.term ∧ g.term ≤ 1099511627776)) ∧ g.l.length ≤ 4096 ∧ rightM g.base 0 g.term g.l = true := by
  simp only [Lg.may, Bool.and_eq_true, Bool.or_eq_true, decide_eq_true_eq] at h
  exact ⟨h.1.1, h.1.2, h.2⟩
theorem Lg.may_at {g : Lg} (h : g.may = true) {j : Nat} (hj : j < g.l.length) :
    (g.l.getD j ent0).index = g.base + j + 1 ∧ (g.l.getD j ent0).index ≤ 1099511627776 ∧ 1 ≤ (g.l.getD j ent0).term ∧ g.term ≤ (g.l.getD j ent0).term ∧ (g.l.getD j ent0).term ≤ 1099511627776 ∧
      0 ≤ (g.l.getD j ent0).kind ∧ (g.l.getD j ent0).kind ≤ 2 ∧ (g.l.getD j ent0).data.length ≤ 4096 := by
  have := rightM_get (g.may_get h).2.2 j hj
  omega
theorem Lg.may_last {g : Lg} (h : g.may = true) : g.last.1 = g.base + g.l.length := by
  unfold Lg.last
  split
  · have := g.may_at h (j := g.l.length - 1) (by omega)
    simp only
    omega
  · simp only
    omega
theorem Lg.may_bounds {g : Lg} (h : g.may = true) : 0 ≤ g.base ∧ g.base ≤ 1099511627776 ∧ 0 ≤ g.term ∧ g.term ≤ 1099511627776 ∧ g.l.length ≤ 4096 ∧ 0 ≤ g.last.1 ∧ g.last.1 ≤ 1099511627776 ∧ 0 ≤ g.last.2 ∧ g.last.2 ≤ 1099511627776 := by
  have h1 := g.may_get h
  unfold Lg.last
  split
  · have := g.may_at h (j := g.l.length - 1) (by omega)
    simp only
    omega
  · simp only
    omega
theorem Lg.termOf_none {g : Lg} (h : g.may = true) {index : Int} (he : (g.termOf index).2 = none) : g.base ≤ index ∧ index ≤ g.base + g.l.length := by
  have := g.may_last h
  have := g.may_bounds h
  unfold Lg.termOf at he
  split at he
  · cases he
  · split at he
    · cases he
    · omega
theorem Lg.may_data {g : Lg} (h : g.may = true) (x : Ent) (hx : x ∈ g.l) : x.data.length ≤ 1099511627776 := by
  obtain ⟨j, hj, rfl⟩ := List.mem_iff_getElem.1 hx
  have := g.may_at h hj
  simp [hj] at this
  omega
end Go.Sx
