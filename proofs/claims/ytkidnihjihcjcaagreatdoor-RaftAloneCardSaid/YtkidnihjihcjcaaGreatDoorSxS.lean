/- The engine's soundness, first half: what a state says of a frame and a world, and that one operation keeps it. -/
import Derived.Test.YtkidnihjihcjcaaGreatDoorSx
set_option linter.unusedVariables false
set_option linter.unusedSimpArgs false
namespace Go.Sx

/-- What is of J, and was there in b, is in w as it was. -/
structure Since (b : World) (J : Nat → Prop) (w : World) : Prop where
  os : w.os = b.os
  tape : w.tape = b.tape
  output : w.output = b.output
  size : b.heap.size ≤ w.heap.size
  block : ∀ k, J k → k < b.heap.size → w.heap[k]? = b.heap[k]?

def SV.at (ρ : Env) (tm : Array Value) : SV → Value
  | .gd j w v => match tm[j]? with
    | some (.bool b) => if b = w then v.den ρ else Go.undef
    | _ => Go.undef
  | v => v.den ρ

/-- A row's facts at a world. -/
def RowAt (ρ : Env) (w : World) (id sz n : Nat) (el : Nat → List SV) : Prop :=
  ∀ i, i < n → ∃ ad : Addr, ρ.al id = some ad ∧ ad.spot = none ∧ ad.block < w.heap.size ∧ (el i).length = sz ∧
    ∀ j v, (el i)[j]? = some v → w.cell? ⟨ad.block, ad.off + i * sz + j, none⟩ = some (v.den ρ)

/-- A gd holds none. -/
def flat : SV → Bool
  | .gd _ _ (.gd _ _ _) => false
  | _ => true
abbrev Bases := List (World × (Nat → Prop))

structure Heap (ρ : Env) (B : Bases) (st : St) (w : World) : Prop where
  cells : ∀ id cs t, (id, Blk.cells cs t) ∈ st.tbl → w.heap[ρ.nu id]? = some (.cells (denL ρ cs).toArray t (0, 0))
  rows : ∀ id sz n el, (id, Blk.row sz n el) ∈ st.tbl → RowAt ρ w id sz n el
  rowNe : ∀ id sz n el, (id, Blk.row sz n el) ∈ st.tbl → 0 < n → ∀ id' cs t, (id', Blk.cells cs t) ∈ st.tbl → ∀ ad, ρ.al id = some ad → ρ.nu id' ≠ ad.block
  apart : ∀ id cs t id' cs' t', (id, Blk.cells cs t) ∈ st.tbl → (id', Blk.cells cs' t') ∈ st.tbl → id ≠ id' → ρ.nu id ≠ ρ.nu id'
  ids : ∀ id b, (id, b) ∈ st.tbl → id < st.nid
  clt : ∀ id cs t, (id, Blk.cells cs t) ∈ st.tbl → ltL st.nid cs = true
  rlt : ∀ id sz n el, (id, Blk.row sz n el) ∈ st.tbl → ∀ i, ltL st.nid (el i) = true
  base : ∀ b J, (b, J) ∈ B → Since b J w
  free : ∀ b J, (b, J) ∈ B → ∀ id cs t, (id, Blk.cells cs t) ∈ st.tbl → J (ρ.nu id) → b.heap.size ≤ ρ.nu id

structure Rep (ρ : Env) (B : Bases) (N : Nat) (st : St) (a : Act) (w : World) : Prop where
  size : a.tmps.size = N
  defers : a.defers = []
  slots : ∀ i v, (i, v) ∈ st.slots → a.tmps[i]? = some (v.at ρ a.tmps) ∧ v.lt st.nid = true ∧ flat v = true
  heap : Heap ρ B st w

/-- The same up to n. -/
def Env.Same (n : Nat) (ρ ρ' : Env) : Prop := ∀ i, i < n → ρ.nu i = ρ'.nu i ∧ ρ.al i = ρ'.al i

mutual
theorem SV.den_same {n : Nat} {ρ ρ' : Env} (h : Env.Same n ρ ρ') : ∀ v : SV, v.lt n = true → v.den ρ = v.den ρ'
  | .ptr id off, hl => by simp [SV.lt] at hl; simp [SV.den, (h id hl).1]
  | .ep id sz i off, hl => by simp [SV.lt] at hl; simp [SV.den, Env.ad, (h id hl).2]
  | .sl id k c, hl => by simp [SV.lt] at hl; simp [SV.den, (h id hl).2]
  | .csl id o k c, hl => by simp [SV.lt] at hl; simp [SV.den, (h id hl).1]
  | .agg l, hl => by simp [SV.lt] at hl; simp only [SV.den, denL_same h l hl]
  | .tup l, hl => by simp [SV.lt] at hl; simp only [SV.den, denL_same h l hl]
  | .undef, _ => rfl
  | .int _ _, _ => rfl
  | .lit _, _ => rfl
  | .bool _, _ => rfl
  | .err _ _, _ => rfl
  | .gd _ _ _, _ => rfl
  | .val _, _ => rfl
theorem denL_same {n : Nat} {ρ ρ' : Env} (h : Env.Same n ρ ρ') : ∀ l : List SV, ltL n l = true → denL ρ l = denL ρ' l
  | [], _ => rfl
  | v :: l, hl => by
    simp [ltL] at hl
    simp only [denL, SV.den_same h v hl.1, denL_same h l hl.2]
end
mutual
theorem SV.lt_mono {n m : Nat} (h : n ≤ m) : ∀ v : SV, v.lt n = true → v.lt m = true
  | .ptr id off, hl => by simp [SV.lt] at hl ⊢; omega
  | .ep id sz i off, hl => by simp [SV.lt] at hl ⊢; omega
  | .sl id k c, hl => by simp [SV.lt] at hl ⊢; omega
  | .csl id o k c, hl => by simp [SV.lt] at hl ⊢; omega
  | .agg l, hl => by simp only [SV.lt] at hl ⊢; exact ltL_mono h l hl
  | .tup l, hl => by simp only [SV.lt] at hl ⊢; exact ltL_mono h l hl
  | .gd j w v, hl => by simp only [SV.lt] at hl ⊢; exact SV.lt_mono h v hl
  | .undef, _ => rfl
  | .int _ _, _ => rfl
  | .lit _, _ => rfl
  | .bool _, _ => rfl
  | .err _ _, _ => rfl
  | .val _, _ => rfl
theorem ltL_mono {n m : Nat} (h : n ≤ m) : ∀ l : List SV, ltL n l = true → ltL m l = true
  | [], _ => rfl
  | v :: l, hl => by
    simp [ltL] at hl ⊢
    exact ⟨SV.lt_mono h v hl.1, ltL_mono h l hl.2⟩
end
theorem SV.at_same {n : Nat} {ρ ρ' : Env} (h : Env.Same n ρ ρ') (tm : Array Value) (v : SV) (hl : v.lt n = true) : v.at ρ tm = v.at ρ' tm := by
  cases v <;> first
    | exact SV.den_same h _ hl
    | (simp only [SV.lt] at hl; simp only [SV.at, SV.den_same h _ hl])
theorem Env.Same.mono {n m : Nat} {ρ ρ' : Env} (h : Env.Same m ρ ρ') (hn : n ≤ m) : Env.Same n ρ ρ' := fun i hi => h i (by omega)

theorem nbeq_t {a b : Nat} (h : a.beq b = true) : a = b := Nat.eq_of_beq_eq_true h
theorem nbeq_f {a b : Nat} (h : a.beq b = false) : a ≠ b := Nat.ne_of_beq_eq_false h
theorem nblt_t {a b : Nat} (h : a.blt b = true) : a < b := by simp [Nat.blt] at h; omega
theorem nble_t {a b : Nat} (h : a.ble b = true) : a ≤ b := Nat.le_of_ble_eq_true h
theorem getS_mem {l : List (Nat × SV)} {i : Nat} {v : SV} (h : getS l i = some v) : (i, v) ∈ l := by
  induction l with
  | nil => simp [getS] at h
  | cons p l ih =>
    obtain ⟨k, u⟩ := p
    simp only [getS] at h
    cases hk : k.beq i with
    | true => rw [hk] at h; simp at h; subst h; have := nbeq_t hk; subst this; simp
    | false => rw [hk] at h; simp at h; exact List.mem_cons_of_mem _ (ih h)
theorem dropS_mem {l : List (Nat × SV)} {i k : Nat} {v : SV} (h : (k, v) ∈ dropS l i) : (k, v) ∈ l ∧ k ≠ i ∧ gdOn i v = false := by
  induction l with
  | nil => simp [dropS] at h
  | cons p l ih =>
    obtain ⟨k', u⟩ := p
    simp only [dropS] at h
    cases hk : (k'.beq i || gdOn i u) with
    | true => rw [hk] at h; simp at h; exact ⟨List.mem_cons_of_mem _ (ih h).1, (ih h).2⟩
    | false =>
      rw [hk] at h
      simp at h
      rcases h with ⟨rfl, rfl⟩ | h
      · simp only [Bool.or_eq_false_iff] at hk; exact ⟨List.mem_cons_self, nbeq_f hk.1, hk.2⟩
      · exact ⟨List.mem_cons_of_mem _ (ih h).1, (ih h).2⟩
theorem getT_mem {l : List (Nat × Blk)} {i : Nat} {v : Blk} (h : getT l i = some v) : (i, v) ∈ l := by
  induction l with
  | nil => simp [getT] at h
  | cons p l ih =>
    obtain ⟨k, u⟩ := p
    simp only [getT] at h
    cases hk : k.beq i with
    | true => rw [hk] at h; simp at h; subst h; have := nbeq_t hk; subst this; simp
    | false => rw [hk] at h; simp at h; exact List.mem_cons_of_mem _ (ih h)
theorem dropT_mem {l : List (Nat × Blk)} {i k : Nat} {v : Blk} (h : (k, v) ∈ dropT l i) : (k, v) ∈ l ∧ k ≠ i := by
  induction l with
  | nil => simp [dropT] at h
  | cons p l ih =>
    obtain ⟨k', u⟩ := p
    simp only [dropT] at h
    cases hk : k'.beq i with
    | true => rw [hk] at h; simp at h; exact ⟨List.mem_cons_of_mem _ (ih h).1, (ih h).2⟩
    | false =>
      rw [hk] at h
      simp at h
      rcases h with ⟨rfl, rfl⟩ | h
      · exact ⟨List.mem_cons_self, nbeq_f hk⟩
      · exact ⟨List.mem_cons_of_mem _ (ih h).1, (ih h).2⟩

theorem SV.at_set {ρ : Env} {tm : Array Value} {i : Nat} {x : Value} {v : SV} (h : gdOn i v = false) : v.at ρ (tm.setIfInBounds i x) = v.at ρ tm := by
  cases v with
  | gd j w v =>
    simp [gdOn] at h
    simp only [SV.at]
    rw [Array.getElem?_setIfInBounds_ne (fun e => nbeq_f h e.symm)]
  | _ => rfl

/-- A value is put into a slot. -/
theorem Rep.put {ρ : Env} {B : Bases} {N : Nat} {st : St} {a : Act} {w : World} (h : Rep ρ B N st a w) {d : Nat} (hd : d < N) {v : SV} {x : Value}
    (hv : v.at ρ (a.tmps.setIfInBounds d x) = x) (hl : v.lt st.nid = true) (hf : flat v = true) : Rep ρ B N (st.put d v) (a.put (some d) x) w := by
  refine ⟨by simp [Act.put, h.size], h.defers, ?_, ⟨h.heap.cells, h.heap.rows, h.heap.rowNe, h.heap.apart, h.heap.ids, h.heap.clt, h.heap.rlt, h.heap.base, h.heap.free⟩⟩
  intro i u hm
  simp only [St.put, List.mem_cons, Prod.mk.injEq] at hm
  simp only [Act.put, St.put]
  rcases hm with ⟨rfl, rfl⟩ | hm
  · refine ⟨?_, hl, hf⟩
    rw [hv, Array.getElem?_setIfInBounds_self_of_lt (by rw [h.size]; exact hd)]
  · obtain ⟨h1, h2, h3⟩ := dropS_mem hm
    refine ⟨?_, (h.slots i u h1).2⟩
    rw [Array.getElem?_setIfInBounds_ne (fun e => h2 e.symm), SV.at_set h3]
    exact (h.slots i u h1).1
theorem Rep.puto {ρ : Env} {B : Bases} {N : Nat} {st : St} {a : Act} {w : World} (h : Rep ρ B N st a w) {d : Option Nat} (hd : fitD N d = true) {v : SV}
    (hg : ∀ j, gdOn j v = false) (hl : v.lt st.nid = true) : Rep ρ B N (st.puto d v) (a.put d (v.den ρ)) w := by
  cases d with
  | none => exact h
  | some d =>
    have hd' : d < N := by simpa [fitD] using hd
    refine h.put hd' ?_ hl ?_ <;> (cases v <;> first | rfl | (rename_i j w v; have := hg j; simp [gdOn] at this))
theorem SV.at_den {ρ : Env} {tm : Array Value} {v : SV} (hg : ∀ j, gdOn j v = false) : v.at ρ tm = v.den ρ := by
  cases v <;> first | rfl | (rename_i j w v; have := hg j; simp [gdOn] at this)

theorem ofVal_den (ρ : Env) (v : Value) : (ofVal v).den ρ = v ∧ (∀ n, (ofVal v).lt n = true) ∧ ∀ j, gdOn j (ofVal v) = false := by
  cases v <;> exact ⟨rfl, fun _ => rfl, fun _ => rfl⟩
theorem ofVals_den (ρ : Env) (l : List Value) : denL ρ (ofVals l) = l ∧ ∀ n, ltL n (ofVals l) = true := by
  induction l with
  | nil => exact ⟨rfl, fun _ => rfl⟩
  | cons v l ih => exact ⟨by simp [ofVals, denL, (ofVal_den ρ v).1, ih.1], fun n => by simp [ofVals, ltL, (ofVal_den ρ v).2.1 n, ih.2 n]⟩

/-- A known value: what is in the slot; it is no gd, and its numbers are known. -/
structure Knows (ρ : Env) (n : Nat) (v : SV) (x : Value) : Prop where
  den : v.den ρ = x
  lt : v.lt n = true
  gd : ∀ j, gdOn j v = false
theorem oneVal_cells {v : Value} (h : oneVal v = true) : v.cells = #[v] ∧ v.oneCell' = true := by
  cases v <;> first | exact ⟨rfl, rfl⟩ | (simp [oneVal] at h)
theorem one_cells {ρ : Env} {v : SV} (h : one v = true) : (v.den ρ).cells = #[v.den ρ] ∧ (v.den ρ).oneCell' = true := by
  cases v with
  | val v => exact oneVal_cells h
  | err t o => cases o <;> exact ⟨rfl, rfl⟩
  | _ => first | exact ⟨rfl, rfl⟩ | (simp [one] at h)
theorem ones_cells {ρ : Env} {l : List SV} (h : ones l = true) : ∀ u ∈ denL ρ l, u.oneCell' = true := by
  induction l with
  | nil => simp [denL]
  | cons v l ih =>
    simp [ones] at h
    intro u hu
    simp only [denL, List.mem_cons] at hu
    rcases hu with rfl | hu
    · exact (one_cells h.1).2
    · exact ih h.2 u hu
theorem denL_length (ρ : Env) (l : List SV) : (denL ρ l).length = l.length := by
  induction l with
  | nil => rfl
  | cons v l ih => simp [denL, ih]
theorem denL_append (ρ : Env) (l r : List SV) : denL ρ (l ++ r) = denL ρ l ++ denL ρ r := by
  induction l with
  | nil => rfl
  | cons v l ih => simp [denL, ih]
theorem denL_map (ρ : Env) (l : List SV) : denL ρ l = l.map (SV.den ρ) := by
  induction l with
  | nil => rfl
  | cons v l ih => simp [denL, ih]
theorem ltL_all {n : Nat} {l : List SV} : ltL n l = true ↔ ∀ v ∈ l, v.lt n = true := by
  induction l with
  | nil => simp [ltL]
  | cons v l ih => simp [ltL, ih]
theorem cellsOf_den {ρ : Env} {v : SV} {cs : List SV} (h : cellsOf v = some cs) :
    (v.den ρ).cells = (denL ρ cs).toArray ∧ (∀ u ∈ denL ρ cs, u.oneCell' = true) ∧ ∀ n, v.lt n = true → ltL n cs = true := by
  have lone : ∀ v : SV, one v = true → (v.den ρ).cells = (denL ρ [v]).toArray ∧ (∀ u ∈ denL ρ [v], u.oneCell' = true) ∧ ∀ n, v.lt n = true → ltL n [v] = true := fun v hv =>
    ⟨by simp [denL, (one_cells (ρ := ρ) hv).1], by simp [denL, (one_cells (ρ := ρ) hv).2], fun n hn => by simp [ltL, hn]⟩
  cases v with
  | agg l =>
    simp only [cellsOf] at h
    cases ho : ones l with
    | false => rw [ho] at h; cases h
    | true => rw [ho] at h; simp at h; subst h; exact ⟨rfl, ones_cells ho, fun n hn => by simpa [SV.lt] using hn⟩
  | _ =>
    simp only [cellsOf] at h
    revert h
    generalize hv : one _ = b
    intro h
    cases b with
    | false => cases h
    | true => injection h with h; subst h; exact lone _ hv

/-- What is known of the slots alone. -/
structure Slots (ρ : Env) (N : Nat) (st : St) (a : Act) : Prop where
  size : a.tmps.size = N
  slots : ∀ i v, (i, v) ∈ st.slots → a.tmps[i]? = some (v.at ρ a.tmps) ∧ v.lt st.nid = true ∧ flat v = true
theorem Rep.sl {ρ : Env} {B : Bases} {N : Nat} {st : St} {a : Act} {w : World} (h : Rep ρ B N st a w) : Slots ρ N st a := ⟨h.size, h.slots⟩
theorem Slots.knows {ρ : Env} {N : Nat} {st : St} {a : Act} (h : Slots ρ N st a) {x : Operand} {v : SV} (hg : st.get x = some v) : Knows ρ st.nid v (a.eval x) := by
  cases x with
  | tmp t =>
    simp only [St.get] at hg
    split at hg
    · cases hg
    · rename_i hne
      have hk := h.slots t v (getS_mem hg)
      have hgd : ∀ j, gdOn j v = false := by
        intro j
        cases v <;> first | rfl | exact absurd hg (hne _ _ _)
      refine ⟨?_, hk.2.1, hgd⟩
      rw [SV.at_den hgd] at hk
      simp [Act.eval, hk.1]
  | const c =>
    cases c with
    | nilIface => injection hg with hg; subst hg; exact ⟨rfl, rfl, fun _ => rfl⟩
    | _ => injection hg with hg; subst hg; exact ⟨(ofVal_den ρ _).1, (ofVal_den ρ _).2.1 _, (ofVal_den ρ _).2.2⟩
  | global g => injection hg with hg; subst hg; exact ⟨rfl, rfl, fun _ => rfl⟩
  | func f => injection hg with hg; subst hg; exact ⟨rfl, rfl, fun _ => rfl⟩
theorem Slots.bare {ρ : Env} {N : Nat} {st : St} {a : Act} (h : Slots ρ N st a) {j : Nat} {w : Bool} (hj : a.tmps[j]? = some (.bool w)) : Slots ρ N { st with slots := bareS j w st.slots } a := by
  refine ⟨h.size, fun i v hm => ?_⟩
  have key : ∀ l : List (Nat × SV), (i, v) ∈ bareS j w l → ∃ u, (i, u) ∈ l ∧ v = bareV j w u := by
    intro l
    induction l with
    | nil => intro h; simp [bareS] at h
    | cons p l ih =>
      obtain ⟨k, u⟩ := p
      intro hm
      simp only [bareS, List.mem_cons, Prod.mk.injEq] at hm
      rcases hm with ⟨rfl, rfl⟩ | hm
      · exact ⟨u, List.mem_cons_self, rfl⟩
      · obtain ⟨u', h1, h2⟩ := ih hm
        exact ⟨u', List.mem_cons_of_mem _ h1, h2⟩
  obtain ⟨u, hu, rfl⟩ := key _ hm
  obtain ⟨h1, h2⟩ := h.slots i u hu
  cases u with
  | gd j' w' u =>
    simp only [bareV]
    cases hb : (j.beq j' && (w == w')) with
    | false => exact ⟨h1, h2⟩
    | true =>
      simp only [Bool.and_eq_true] at hb
      have e1 := nbeq_t hb.1
      have e2 : w = w' := by simpa using hb.2
      subst e1; subst e2
      simp only [SV.at, hj, if_true] at h1
      simp only [SV.lt] at h2
      have e : u.at ρ a.tmps = u.den ρ ∧ flat u = true := by
        cases u <;> first | exact ⟨rfl, rfl⟩ | (have := h2.2; simp [flat] at this)
      exact ⟨by rw [h1]; simp only [cond_true]; rw [e.1], h2.1, e.2⟩
  | _ => exact ⟨h1, h2⟩
end Go.Sx
