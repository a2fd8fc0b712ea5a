/- Rows as lists of cells; bytes, ints. -/
import Derived.Test.YtkidnihjihcjcaaGreatDoorSxL
set_option linter.unusedVariables false
set_option linter.unusedSimpArgs false
namespace Go.Sx
abbrev env0 : Env := ⟨fun _ => 0, fun _ => none⟩
/-- A row's cells, one behind the other. -/
def rcells (n : Nat) (el : Nat → List SV) : List Value := (List.range n).flatMap fun i => denL env0 (el i)
theorem rcells_zero (el : Nat → List SV) : rcells 0 el = [] := rfl
theorem rcells_succ (n : Nat) (el : Nat → List SV) : rcells (n + 1) el = rcells n el ++ denL env0 (el n) := by
  simp [rcells, List.range_succ]
theorem rcells_congr {n : Nat} {el el' : Nat → List SV} (h : ∀ i, i < n → el i = el' i) : rcells n el = rcells n el' := by
  induction n with
  | zero => rfl
  | succ n ih => rw [rcells_succ, rcells_succ, ih (fun i hi => h i (by omega)), h n (by omega)]
theorem rcells_append (n m : Nat) (el el' : Nat → List SV) : rcells n el ++ rcells m el' = rcells (n + m) fun i => if i < n then el i else el' (i - n) := by
  induction m with
  | zero => simp only [rcells_zero, List.append_nil, Nat.add_zero]; exact rcells_congr fun i hi => by simp [hi]
  | succ m ih =>
    rw [rcells_succ, ← List.append_assoc, ih, ← Nat.add_assoc, rcells_succ]
    have : ¬ n + m < n := by omega
    simp [this]
theorem rcells_length {n sz : Nat} {el : Nat → List SV} (h : ∀ i, i < n → (el i).length = sz) : (rcells n el).length = n * sz := by
  induction n with
  | zero => simp [rcells]
  | succ n ih => rw [rcells_succ, List.length_append, ih (fun i hi => h i (by omega)), denL_length, h n (by omega), Nat.succ_mul]
theorem rcells_get {n sz : Nat} {el : Nat → List SV} (h : ∀ i, i < n → (el i).length = sz) {i j : Nat} (hi : i < n) (hj : j < sz) : (rcells n el)[i * sz + j]? = (denL env0 (el i))[j]? := by
  induction n with
  | zero => omega
  | succ n ih =>
    rw [rcells_succ]
    have hl := rcells_length (n := n) (sz := sz) (el := el) (fun i hi => h i (by omega))
    by_cases hin : i < n
    · have : i * sz + j < n * sz := by
        have := Nat.mul_le_mul_right sz (show i + 1 ≤ n by omega)
        rw [Nat.add_mul, Nat.one_mul] at this
        omega
      rw [List.getElem?_append_left (by rw [hl]; exact this)]
      exact ih (fun i hi => h i (by omega)) hin
    · have : i = n := by omega
      subst this
      rw [List.getElem?_append_right (by rw [hl]; omega), hl]
      congr 1
      omega
section
variable {P : Program} {ρ : Env} {w w' : World} {J J' : Nat → Prop} {A : Option Addr} {sz n : Nat} {el : Nat → List SV} {base : Nat} {e : TypeId} {v : Value}
theorem Row.get (h : Row J w A sz n el) {ad : Addr} (hA : A = some ad) {k : Nat} {u : Value} (hu : (rcells n el)[k]? = some u) : w.cell? (ad.add k) = some u := by
  have hl := rcells_length (n := n) (sz := sz) (el := el) (fun i hi => by obtain ⟨_, _, _, _, _, h4, _⟩ := h i hi; exact h4)
  have hk : k < n * sz := by rw [← hl]; exact (List.getElem?_eq_some_iff.1 hu).1
  have hsz : 0 < sz := by
    rcases Nat.eq_zero_or_pos sz with h0 | h0
    · subst h0; simp at hk
    · exact h0
  have hi : k / sz < n := Nat.div_lt_of_lt_mul (by rw [Nat.mul_comm]; exact hk)
  have hj : k % sz < sz := Nat.mod_lt _ hsz
  have hd : k / sz * sz + k % sz = k := by rw [Nat.mul_comm]; exact Nat.div_add_mod k sz
  rw [← hd, rcells_get (fun i hi => by obtain ⟨_, _, _, _, _, h4, _⟩ := h i hi; exact h4) hi hj] at hu
  obtain ⟨ad', h1, h2, h3, hJ, h4, h5, h6⟩ := h _ hi
  rw [hA] at h1
  injection h1 with h1
  subst h1
  have hlt : k % sz < (el (k / sz)).length := by rw [h4]; exact hj
  have hv : (el (k / sz))[k % sz]? = some (el (k / sz))[k % sz] := List.getElem?_eq_getElem hlt
  have := h6 _ _ hv
  rw [getElem_denL hv] at hu
  injection hu with hu
  rw [addr_add h2, ← hu, ← this]
  congr 2
  omega
/-- What was built by appends, read as a row. -/
theorem Row.ofOwns (h : w.ownsRow base e sz v n (rcells n el)) (hel : ∀ i, i < n → (el i).length = sz) (hlt : ∀ i, i < n → ltL 0 (el i) = true) :
    ∃ A c, v = .slice A n c ∧ n ≤ c ∧ Row (fun k => base ≤ k) w A sz n el := by
  rcases h.2 with ⟨rfl, rfl⟩ | ⟨g, cap, cur, rfl, hb, hg, hnc, hcm, hcs, htake⟩
  · exact ⟨none, 0, rfl, Nat.le_refl _, Row.nil _ _ _ _ _⟩
  · refine ⟨_, cap, rfl, hnc, fun i hi => ⟨_, rfl, rfl, (Array.getElem?_eq_some_iff.1 hg).1, hb, hel i hi, hlt i hi, fun j u hu => ?_⟩⟩
    have hj : j < sz := by rw [← hel i hi]; exact (List.getElem?_eq_some_iff.1 hu).1
    have hk : i * sz + j < n * sz := by
      have := Nat.mul_le_mul_right sz (show i + 1 ≤ n by omega)
      rw [Nat.add_mul, Nat.one_mul] at this
      omega
    have hr := rcells_get hel hi hj
    rw [getElem_denL hu, ← htake, List.getElem?_take, if_pos hk] at hr
    simp only [Nat.zero_add]
    rw [cell_of_row w g _ cur e (0, 0) hg, ← hr]
    simp
theorem Feed.row {t : TypeId} {c : Nat} (h : Row J w A sz n el) (h1 : ∀ i, i < n → ∀ u ∈ denL env0 (el i), u.oneCell' = true) : Feed P w t e sz t (.slice A n c) n (rcells n el) := by
  cases A with
  | none =>
    cases n with
    | zero => exact .none c
    | succ n =>
      obtain ⟨_, h, _⟩ := h 0 (by omega)
      cases h
  | some ad =>
    refine .cells ad n c _ (rcells_length fun i hi => by obtain ⟨_, _, _, _, _, h4, _⟩ := h i hi; exact h4) (fun j u hu => h.get rfl hu) fun u hu => ?_
    simp only [rcells, List.mem_flatMap, List.mem_range] at hu
    obtain ⟨i, hi, hu⟩ := hu
    exact h1 i hi u hu
theorem Row.none_zero (h : Row J w none sz n el) : n = 0 := by
  cases n with
  | zero => rfl
  | succ n =>
    obtain ⟨_, h, _⟩ := h 0 (by omega)
    cases h
/-- A row of the table, read outside it. -/
theorem Row.ofAt {id : Nat} (h : RowAt ρ w id sz n el) (hl : ∀ i, ltL 0 (el i) = true) : Row (fun _ => True) w (ρ.al id) sz n el := fun i hi => by
  obtain ⟨ad, h1, h2, h3, h4, h5⟩ := h i hi
  refine ⟨ad, h1, h2, h3, trivial, h4, hl i, fun j v hv => ?_⟩
  rw [h5 j v hv, SV.den_same (n := 0) (ρ' := env0) (fun i hi => (by omega)) v (ltL_all.1 (hl i) v (List.mem_of_getElem? hv))]
/-- A slice value that reads as a row. -/
def Slc (J : Nat → Prop) (w : World) (v : Value) (sz n : Nat) (el : Nat → List SV) : Prop := ∃ A c, v = .slice A n c ∧ n ≤ c ∧ Row J w A sz n el
theorem Slc.keep (h : Slc J w v sz n el) (hs : Since w J' w') (hJ : ∀ k, J k → k < w.heap.size → J' k) : Slc J w' v sz n el := by
  obtain ⟨A, c, h1, h2, h4⟩ := h
  exact ⟨A, c, h1, h2, h4.keep hs hJ⟩
theorem Slc.weak (h : Slc J w v sz n el) (hJ : ∀ k, J k → J' k) : Slc J' w v sz n el := by
  obtain ⟨A, c, h1, h2, h4⟩ := h
  exact ⟨A, c, h1, h2, h4.weak hJ⟩
theorem Slc.form (h : Slc J w v sz n el) : ∃ A c, v = .slice A n c := by
  obtain ⟨A, c, h1, _⟩ := h
  exact ⟨A, c, h1⟩
/-- On to another world, as in other blocks. -/
theorem Slc.to {J'' : Nat → Prop} (h : Slc J w v sz n el) (hs : Since w J' w') (hJ : ∀ k, J k → k < w.heap.size → J' k ∧ J'' k) : Slc J'' w' v sz n el := by
  obtain ⟨A, c, h1, h2, h4⟩ := h
  refine ⟨A, c, h1, h2, fun i hi => ?_⟩
  obtain ⟨ad, g1, g2, g3, g4, g5⟩ := h4 i hi
  obtain ⟨ad', k1, k2, k3, k4, k5⟩ := (h4.keep hs fun k hk hlt => (hJ k hk hlt).1) i hi
  rw [g1] at k1
  injection k1 with k1
  subst k1
  exact ⟨ad, g1, k2, k3, (hJ _ g4 g3).2, k5⟩
theorem Slc.same (h : Slc J w v sz n el) {el' : Nat → List SV} (he : ∀ i, i < n → el' i = el i) : Slc J w v sz n el' := by
  obtain ⟨A, c, h1, h2, h4⟩ := h
  exact ⟨A, c, h1, h2, h4.same he⟩
theorem Slc.feed {t : TypeId} (h : Slc J w v sz n el) (h1 : ∀ i, i < n → ∀ u ∈ denL env0 (el i), u.oneCell' = true) : Feed P w t e sz t v n (rcells n el) := by
  obtain ⟨A, c, rfl, h2, h4⟩ := h
  exact Feed.row h4 h1
theorem Rep.ev {B : Bases} {N : Nat} {st : St} {a : Act} (hR : Rep ρ B N st a w) (x : Operand) (v : SV) (h : st.get x = some v) : a.eval x = v.den ρ := (hR.sl.knows h).1.symm
/-- A block that is known whole, taken for a row of one's own. -/
theorem Rep.own {B : Bases} {N : Nat} {st : St} {a : Act} (hR : Rep ρ B N st a w) (id : Nat) (cs : List SV) (t : TypeId) (n sz : Nat) (h : getT st.tbl id = some (.cells cs t)) (hl : cs.length = n * sz) (hn : n ≤ maxLen) (hb : base ≤ ρ.nu id) :
    w.ownsRow base t sz (.slice (some ⟨ρ.nu id, 0, none⟩) n n) n (denL ρ cs) := by
  refine ⟨by rw [denL_length, hl], .inr ⟨ρ.nu id, n, (denL ρ cs).toArray, rfl, hb, hR.heap.cells id cs t (getT_mem h), Nat.le_refl _, hn, by simp [denL_length, hl], ?_⟩⟩
  simp [← hl, List.take_of_length_le, denL_length]
theorem Heap.fresh {B : Bases} {st : St} (h : Heap ρ B st w) {b : World} (hb : (b, fun _ => True) ∈ B) (id : Nat) (cs : List SV) (t : TypeId) (hT : getT st.tbl id = some (.cells cs t)) : b.heap.size ≤ ρ.nu id :=
  h.free b _ hb id cs t (getT_mem hT) trivial
theorem Rep.resV {B : Bases} {N : Nat} {st : St} {a : Act} (hR : Rep ρ B N st a w) (d : Nat) (x : Value) (hd : d.blt N = true) : Rep ρ B N (st.put d (.val x)) (a.put (some d) x) w := hR.res hd rfl rfl rfl
theorem ownsRow_form {xs : List Value} (h : w.ownsRow base e sz v n xs) : ∃ A c, v = .slice A n c := by
  rcases h.2 with ⟨rfl, rfl⟩ | ⟨g, cap, cur, rfl, _⟩
  · exact ⟨_, _, rfl⟩
  · exact ⟨_, _, rfl⟩
theorem grown_since {row : Option Nat} (hg : w.grownBy w' row) (hJ : ∀ k, J k → some k ≠ row) : Since w J w' := ⟨hg.os, hg.tape, hg.output, hg.size, fun k hk hlt => hg.block k hlt (hJ k hk)⟩
theorem ownsRow_keep {xs : List Value} (h : w.ownsRow base e sz v n xs) (hs : Since w J w') (hJ : ∀ k, v.ownBlock = some k → J k) : w'.ownsRow base e sz v n xs := by
  refine ⟨h.1, ?_⟩
  rcases h.2 with hn | ⟨g, cap, cur, rfl, hb, hgg, rest⟩
  · exact .inl hn
  · refine .inr ⟨g, cap, cur, rfl, hb, ?_, rest⟩
    rw [hs.block g (hJ g rfl) (Array.getElem?_eq_some_iff.1 hgg).1, hgg]
theorem Slc.ofOwns (h : w.ownsRow base e sz v n (rcells n el)) (hel : ∀ i, i < n → (el i).length = sz) (hlt : ∀ i, i < n → ltL 0 (el i) = true) : Slc (fun k => base ≤ k) w v sz n el := Row.ofOwns h hel hlt
def noCells : List (Nat × Blk) → Bool
  | [] => true
  | (_, .cells _ _) :: _ => false
  | _ :: l => noCells l
theorem noCells_all : ∀ {l : List (Nat × Blk)}, noCells l = true → ∀ id cs t, (id, Blk.cells cs t) ∉ l
  | [], _, _, _, _, h => by cases h
  | (i, .cells _ _) :: l, hn, _, _, _, h => by cases hn
  | (i, .row _ _ _) :: l, hn, id, cs, t, h => by
    rcases List.mem_cons.1 h with h | h
    · cases h
    · exact noCells_all (l := l) hn id cs t h
theorem Rest.none {st : St} (h : noCells st.tbl = true) (k : Nat) : Rest ρ st k := fun id cs t hm => (noCells_all h id cs t hm).elim
/-- A block that is known whole can be appended. -/
theorem Rep.feed {B : Bases} {N : Nat} {st : St} {a : Act} (hR : Rep ρ B N st a w) {t : TypeId} (id : Nat) (cs : List SV) (ct : TypeId) (n c : Nat) (h : getT st.tbl id = some (.cells cs ct)) (hl : cs.length = n * sz) (h1 : ones cs = true) : Feed P w t e sz t ((SV.csl id 0 n c).den ρ) n (denL ρ cs) := by
  refine .cells ⟨ρ.nu id, 0, Option.none⟩ n c _ (by rw [denL_length, hl]) (fun j u hu => ?_) (fun u hu => ?_)
  · have hlt : j < cs.length := by have := (List.getElem?_eq_some_iff.1 hu).1; rwa [denL_length] at this
    have hv : cs[j]? = some cs[j] := List.getElem?_eq_getElem hlt
    rw [getElem_denL hv] at hu
    injection hu with hu
    subst hu
    rw [addr_add rfl]
    simpa using cells_cell (hR.heap.cells id cs ct (getT_mem h)) hv
  · exact ones_cells h1 u hu
def elI (l : List Int) (i : Nat) : List SV := [.int .i64 (l.getD i 0)]
def elB (l : List UInt8) (i : Nat) : List SV := [.int .u8 ((l.getD i 0).toNat : Int)]
abbrev Ints (J : Nat → Prop) (w : World) (v : Value) (l : List Int) : Prop := Slc J w v 1 l.length (elI l)
abbrev Bytes (J : Nat → Prop) (w : World) (v : Value) (l : List UInt8) : Prop := Slc J w v 1 l.length (elB l)
/-- The bases of a function that changes nothing that was there. -/
abbrev B0 (w0 : World) : Bases := [(w0, fun _ => True)]
theorem Heap.since0 {w0 : World} {st : St} (h : Heap ρ (B0 w0) st w) : Since w0 (fun _ => True) w := h.base _ _ (List.mem_singleton.2 rfl)
theorem Heap.since1 {w1 : World} {B : Bases} {st : St} (h : Heap ρ ((w1, J) :: B) st w) : Since w1 J w := h.base _ _ List.mem_cons_self
theorem Heap.tail {x : World × (Nat → Prop)} {B : Bases} {st : St} (h : Heap ρ (x :: B) st w) : Heap ρ B st w :=
  ⟨h.cells, h.rows, h.rowNe, h.apart, h.ids, h.clt, h.rlt, fun b J hm => h.base b J (List.mem_cons_of_mem _ hm), fun b J hm => h.free b J (List.mem_cons_of_mem _ hm)⟩
/-- The begin of a call that changes nothing that was there. -/
theorem enterP {fn : Func} {R : Ending → World → Prop} {f : FuncId} (N : Nat) (vs : List SV) (hf : P.funcs[f]? = some fn) (hb : fn.body.isSome = true) (hN : fn.ntmps = N) (hl : Nat.ble vs.length N = true) (hlt : ltL 0 vs = true) (hg : gdFree vs = true)
    (h : ∀ a, Rep env0 (B0 w) N ⟨initS 0 vs, [], 0⟩ a w → Kh P fn R (fun _ _ _ => False) (fun _ => True) [.code (bodyOf fn)] a w) : Calls P f (denL env0 vs).toArray w R :=
  enter (ρ0 := env0) (n0 := 0) (tbl := []) (B := B0 w) N vs hf hb hN (Nat.le_of_ble_eq_true hl) hlt hg (Heap.nil _ _ _ fun b J h => by
    obtain ⟨rfl, rfl⟩ := Prod.mk.inj (List.mem_singleton.1 h)
    exact Since.refl _ _) h
/-- The same, one row being read from the begin on: number 0. -/
theorem enterR {fn : Func} {R : Ending → World → Prop} {f : FuncId} (N : Nat) (vs : List SV) (hr : Row J w A sz n el) (hel : ∀ i, ltL 0 (el i) = true) (hf : P.funcs[f]? = some fn) (hb : fn.body.isSome = true) (hN : fn.ntmps = N) (hl : Nat.ble vs.length N = true) (hlt : ltL 1 vs = true) (hg : gdFree vs = true)
    (h : ∀ a, Rep ⟨fun _ => 0, fun _ => A⟩ (B0 w) N ⟨initS 0 vs, [(0, .row sz n el)], 1⟩ a w → Kh P fn R (fun _ _ _ => False) (fun _ => True) [.code (bodyOf fn)] a w) : Calls P f (denL ⟨fun _ => 0, fun _ => A⟩ vs).toArray w R :=
  enter (ρ0 := ⟨fun _ => 0, fun _ => A⟩) (n0 := 1) (tbl := [(0, .row sz n el)]) (B := B0 w) N vs hf hb hN (Nat.le_of_ble_eq_true hl) hlt hg (Heap.addRow (Heap.nil _ _ _ fun b J h => by
    obtain ⟨rfl, rfl⟩ := Prod.mk.inj (List.mem_singleton.1 h)
    exact Since.refl _ _) (hr.rowAt rfl) (by decide) (fun i => ltL_mono (Nat.zero_le _) _ (hel i)) fun _ _ _ _ h => nomatch h) h
section
variable {B : Bases} {N : Nat} {st st' : St} {a : Act}
/-- A slice in a slot is opened: its elements can be read. -/
theorem Rep.opens (hR : Rep ρ B N st a w) (d c : Nat) (hr : Row J w A sz n el) (hd : getS st.slots d = some (.val (.slice A n c))) (hl : ∀ i, ltL 0 (el i) = true)
    (hne : ∀ id cs t, (id, Blk.cells cs t) ∈ st.tbl → ∀ k, k < w.heap.size → J k → ρ.nu id ≠ k) :
    ∃ ρ', Env.Same st.nid ρ ρ' ∧ ρ'.al st.nid = A ∧ Rep ρ' B N ((st.new (.row sz n el)).put d (.sl st.nid n c)) a w := by
  obtain ⟨ρ', h1, h2, h3⟩ := hR.row (A := A) hr.rowIs (fun i => ltL_mono (Nat.zero_le _) _ (hl i)) (fun h0 id cs t hm ad had => by
    obtain ⟨h4, h5⟩ := hr.block h0 had
    exact hne id cs t hm _ h5 h4)
  refine ⟨ρ', h1, h2, h3.size, h3.defers, fun i v hm => ?_, h3.heap.slots _⟩
  simp only [St.put, List.mem_cons, Prod.mk.injEq] at hm
  rcases hm with ⟨rfl, rfl⟩ | hm
  · have := h3.slots i _ (getS_mem hd)
    refine ⟨?_, ?_, rfl⟩
    · rw [this.1]
      show some (Value.slice A n c) = some (.slice (ρ'.al st.nid) n c)
      rw [h2]
    · show st.nid.blt (st.nid + 1) = true
      simp [Nat.blt]
  · exact h3.slots i v (dropS_mem hm).1
theorem Rep.below (hR : Rep ρ B N st a w) {id : Nat} {cs : List SV} {t : TypeId} (h : (id, Blk.cells cs t) ∈ st.tbl) : ρ.nu id < w.heap.size := (Array.getElem?_eq_some_iff.1 (hR.heap.cells id cs t h)).1
theorem Rep.rest (hR : Rep ρ B N st a w) {k : Nat} (h : w.heap.size ≤ k) : Rest ρ st k := fun id cs t hm e => by
  have := hR.below hm
  omega
/-- A slot's value, spelt otherwise. -/
theorem Rep.respell (h : Rep ρ B N st a w) (d : Nat) {u v : SV} (hg : getS st.slots d = some u) (hu : gdFree [u] = true) (hv : gdFree [v] = true) (e : u.den ρ = v.den ρ) (hl : v.lt st.nid = true) : Rep ρ B N (st.put d v) a w := by
  refine ⟨h.size, h.defers, fun i x hm => ?_, h.heap.slots _⟩
  simp only [St.put, List.mem_cons, Prod.mk.injEq] at hm
  rcases hm with ⟨rfl, rfl⟩ | hm
  · obtain ⟨h1, h2, h3⟩ := h.slots i u (getS_mem hg)
    refine ⟨?_, hl, flat_of (gdFree_all hv x List.mem_cons_self)⟩
    rw [h1, SV.at_den (gdFree_all hu u List.mem_cons_self), SV.at_den (gdFree_all hv x List.mem_cons_self), e]
  · exact h.slots i x (dropS_mem hm).1
/-- An append onto a row of one's own; of the state is kept what st' says; and what is known to come. -/
theorem append_step {o : Oper} {Q : Exit → Act → World → Prop} {K : Act → World → Prop} (d : Nat) (s x : Operand) (t tx : TypeId) (hd : o.dst = some d) (ho : o.op = .call { callee := .builtin .append, args := #[s, x], argTypes := #[t, tx] })
    (base : Nat) (e : TypeId) (sz bytes : Nat) (hE : elemOk P t e sz bytes = true) (hR : Rep ρ B N st a w) (st' : St) (hs : pickS st.slots (keysS st'.slots) = st'.slots) (ht : pickT st.tbl (keysT st'.tbl) = st'.tbl) (hl : ltS st'.nid st'.slots = true) (hlt : ltT st'.nid st'.tbl) (hdN : d.blt N = true)
    {u y : SV} {n m : Nat} {xs news : List Value} (hu : st.get s = some u) (hy : st.get x = some y) (hown : w.ownsRow base e sz (u.den ρ) n xs) (hf : Feed P w t e sz tx (y.den ρ) m news) (hbytes : (n + m) * bytes ≤ 140737488355328) (h63 : n + m ≤ 140737488355328) (hbase : base ≤ w.heap.size)
    (hc : ∀ id cs t, (id, Blk.cells cs t) ∈ st'.tbl → ∀ k, (u.den ρ).ownBlock = some k → ρ.nu id ≠ k) (hr : ∀ id sz n el, (id, Blk.row sz n el) ∈ st'.tbl → 0 < n → ∀ ad, ρ.al id = some ad → ∀ k, (u.den ρ).ownBlock = some k → ad.block ≠ k)
    (hB : ∀ b J, (b, J) ∈ B → b.heap.size ≤ base ∨ ∀ k, (u.den ρ).ownBlock = some k → ¬ J k)
    (h : ∀ v' w', w'.ownsRow base e sz v' (n + m) (xs ++ news) → w.grownBy w' (u.den ρ).ownBlock → (v'.ownBlock = (u.den ρ).ownBlock ∨ v'.ownBlock = some w.heap.size) → Rep ρ B N (st'.put d (.val v')) (a.put (some d) v') w' → K (a.put (some d) v') w') : o.wp P a w K Q := by
  refine hand_append (some d) s x t tx hd ho hE (hR.ev s u hu) (hR.ev x y hy) hown hf hbytes h63 hbase fun v' w' hown' hg hnew => h v' w' hown' hg hnew ?_
  refine Rep.resV (Rep.grown (hR.into hs ht hl hlt) hg (fun id cs t hm he => hc id cs t hm _ he.symm rfl) (fun id sz n el hm h0 ad had he => hr id sz n el hm h0 ad had _ he.symm rfl) fun b J hb k hk hJ => ?_) d v' hdN
  rcases hB b J hb with h | h
  · exact Nat.le_trans h (hown.lt k hk).1
  · exact (h k hk hJ).elim
/-- An append onto a row of one's own; the state is kept. -/
theorem append_same {o : Oper} {Q : Exit → Act → World → Prop} {K : Act → World → Prop} (d : Nat) (s x : Operand) (t tx : TypeId) (hd : o.dst = some d) (ho : o.op = .call { callee := .builtin .append, args := #[s, x], argTypes := #[t, tx] })
    (base : Nat) (e : TypeId) (sz bytes : Nat) (hE : elemOk P t e sz bytes = true) (hR : Rep ρ B N st a w) (hdN : d.blt N = true)
    {u y : SV} {n m : Nat} {xs news : List Value} (hu : st.get s = some u) (hy : st.get x = some y) (hown : w.ownsRow base e sz (u.den ρ) n xs) (hf : Feed P w t e sz tx (y.den ρ) m news) (hbytes : (n + m) * bytes ≤ 140737488355328) (h63 : n + m ≤ 140737488355328) (hbase : base ≤ w.heap.size)
    (hc : ∀ id cs t, (id, Blk.cells cs t) ∈ st.tbl → ∀ k, (u.den ρ).ownBlock = some k → ρ.nu id ≠ k) (hr : ∀ id sz n el, (id, Blk.row sz n el) ∈ st.tbl → 0 < n → ∀ ad, ρ.al id = some ad → ∀ k, (u.den ρ).ownBlock = some k → ad.block ≠ k)
    (hB : ∀ b J, (b, J) ∈ B → b.heap.size ≤ base ∨ ∀ k, (u.den ρ).ownBlock = some k → ¬ J k)
    (h : ∀ v' w', w'.ownsRow base e sz v' (n + m) (xs ++ news) → w.grownBy w' (u.den ρ).ownBlock → (v'.ownBlock = (u.den ρ).ownBlock ∨ v'.ownBlock = some w.heap.size) → Rep ρ B N (st.put d (.val v')) (a.put (some d) v') w' → K (a.put (some d) v') w') : o.wp P a w K Q := by
  refine hand_append (some d) s x t tx hd ho hE (hR.ev s u hu) (hR.ev x y hy) hown hf hbytes h63 hbase fun v' w' hown' hg hnew => h v' w' hown' hg hnew ?_
  refine Rep.resV (Rep.grown hR hg (fun id cs t hm he => hc id cs t hm _ he.symm rfl) (fun id sz n el hm h0 ad had he => hr id sz n el hm h0 ad had _ he.symm rfl) fun b J hb k hk hJ => ?_) d v' hdN
  rcases hB b J hb with h | h
  · exact Nat.le_trans h (hown.lt k hk).1
  · exact (h k hk hJ).elim
theorem noB0 {w0 : World} {r : Option Nat} {base : Nat} (h : w0.heap.size ≤ base) : ∀ b J, (b, J) ∈ B0 w0 → b.heap.size ≤ base ∨ ∀ k, r = some k → ¬ J k := fun b J hb => by
  obtain ⟨rfl, rfl⟩ := Prod.mk.inj (List.mem_singleton.1 hb)
  exact .inl h
end
end
theorem Rep.spell64 {B : Bases} {N : Nat} {st : St} {a : Act} {ρ : Env} {w : World} (h : Rep ρ B N st a w) (d : Nat) (x y : Int) (hg : getS st.slots d = some (.int .i64 x)) (e : x = y) : Rep ρ B N (st.put d (.int .i64 y)) a w := h.spell d hg e
theorem wrap_i64 {x : Int} (h1 : -9223372036854775808 ≤ x) (h2 : x ≤ 9223372036854775807) : IntKind.i64.wrap x = x := by
  rw [IntKind.wrap_i64]
  omega
theorem wrap_nat {n : Nat} (h2 : n ≤ 9223372036854775807) : IntKind.i64.wrap (n : Int) = n := wrap_i64 (by omega) (by omega)
theorem wrap_succ {n : Nat} (h2 : n < 9223372036854775807) : IntKind.i64.wrap ((n : Int) + 1) = ((n + 1 : Nat) : Int) := wrap_i64 (by omega) (by omega)
end Go.Sx
