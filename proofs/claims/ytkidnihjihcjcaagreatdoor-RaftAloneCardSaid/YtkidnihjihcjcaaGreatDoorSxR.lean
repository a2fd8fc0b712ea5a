/- The engine's soundness: code as a whole: if the obligations of the run's tree hold, so does the call's end. -/
import Derived.Test.YtkidnihjihcjcaaGreatDoorSxW
set_option linter.unusedVariables false
set_option linter.unusedSimpArgs false
namespace Go.Sx
section
variable {P : Program} {ρ : Env} {N : Nat} {st st' : St} {a : Act} {v : SV} {B : Bases} {w : World}

theorem step1_ok {o : Oper} (h : step1 P st o = .ok v st') : step P st o = .ok v st' ∧ needs o.op = false := by
  unfold step1 at h
  split at h
  · cases hb : needs o.op with
    | true => rw [hb] at h; cases h
    | false => rw [hb] at h; injection h with h1 h2; subst h1; subst h2; exact ⟨by assumption, rfl⟩
  · cases hb : mayNeed o.op <;> rw [hb] at h <;> cases h
  · cases h
theorem step1_need {o : Oper} {c : Bool} (h : step1 P st o = .need c v st') : step P st o = .need c v st' ∧ mayNeed o.op = true := by
  unfold step1 at h
  split at h
  · cases hb : needs o.op <;> rw [hb] at h <;> cases h
  · cases hb : mayNeed o.op with
    | false => rw [hb] at h; cases h
    | true => rw [hb] at h; injection h with h0 h1 h2; subst h0; subst h1; subst h2; exact ⟨by assumption, rfl⟩
  · cases h
/-- One step of whatever operation that is carried out at once. -/
theorem step_good {o : Oper} (hR : Rep ρ B N st a w) (h : step1 P st o = .ok v st') : ∃ ρ' x w', Good P ρ B N st a w o v st' ρ' x w' := by
  have y1 : ∀ {o : Oper}, (st' = st ∧ Yields1 P ρ st a o v) → ∃ ρ' x w', Good P ρ B N st a w o v st' ρ' x w' := by
    intro o ⟨h1, h2⟩
    subst h1
    exact ⟨_, _, _, hR.good1 h2⟩
  obtain ⟨h, hn⟩ := step1_ok h
  obtain ⟨dst, op, ty, pos, after, g⟩ := o
  cases op with
  | move x => exact y1 (y_move hR.sl h)
  | assign x => exact y1 (y_assign hR.sl h)
  | binOp op t x y t' => exact y1 (y_binOp hR.sl h)
  | unOp op t x => cases op with
    | not => exact y1 (y_not hR.sl h)
    | neg => exact y1 (y_neg hR.sl h)
    | _ => cases h
  | pick c x y => exact y1 (y_pick hR.sl h)
  | convert s d x => exact y1 (y_convert hR.sl h)
  | makeInterface t x => exact y1 (y_makeInterface hR.sl h)
  | extract x i => exact y1 (y_extract hR.sl h)
  | field t x f => exact y1 (y_field hR.sl h)
  | fieldAddr t x f => exact y1 (y_fieldAddr hR.sl h)
  | nilCheck x => exact y1 (y_nilCheck hR.sl h)
  | build t p => exact y1 (y_build hR.sl h)
  | load t x =>
    obtain ⟨h1, h2, h3, id, off, b, h4, h5, h6⟩ := y_load hR.sl hR.heap h
    subst h1
    exact ⟨ρ, _, w, .inl (h6 w (hR.heap.entry h5)), fun _ _ => ⟨rfl, rfl⟩, Nat.le_refl _, hR, rfl, h2, h3, fun _ _ _ _ => Iff.rfl⟩
  | alloc t => exact good_alloc hR h
  | box t x => exact good_box hR h
  | store t x y => exact good_store hR h
  | buildSlice t n p => exact good_buildSlice hR h
  | indexAddr t x i => cases hn
  | slice t x lo hi mx => cases hn
  | call c =>
    cases hc : c.callee with
    | builtin b => cases b with
      | len => exact y1 (y_len (x := .global 0) hc hR.sl h)
      | max => exact y1 (y_max hc hR.sl h)
      | min => exact y1 (y_min hc hR.sl h)
      | _ => simp only [step, hc] at h; cases h
    | _ => simp only [step, hc] at h; cases h
  | _ => cases h
theorem step_need {o : Oper} {c : Bool} (hR : Rep ρ B N st a w) (h : step1 P st o = .need c v st') (hc : c = true) : ∃ ρ' x w', Good P ρ B N st a w o v st' ρ' x w' := by
  have y1 : ∀ {o : Oper}, (st' = st ∧ Yields1 P ρ st a o v) → ∃ ρ' x w', Good P ρ B N st a w o v st' ρ' x w' := by
    intro o ⟨h1, h2⟩
    subst h1
    exact ⟨_, _, _, hR.good1 h2⟩
  obtain ⟨h, hn⟩ := step1_need h
  obtain ⟨dst, op, ty, pos, after, g⟩ := o
  cases op with
  | indexAddr t x i => exact y1 (y_indexAddr hR.sl hR.heap h hc)
  | binOp op t x y t' => exact y1 (y_div hR.sl h hc)
  | load t x =>
    obtain ⟨h1, h2, h3, id, sz, i, off, b, h4, h5, h6⟩ := y_loadE hR.sl hR.heap h hc
    subst h1
    exact ⟨ρ, _, w, .inl (h6 w (hR.heap.entry h5)), fun _ _ => ⟨rfl, rfl⟩, Nat.le_refl _, hR, rfl, h2, h3, fun _ _ _ _ => Iff.rfl⟩
  | slice t x lo hi mx => exact good_slice hR h hc
  | _ => cases hn

theorem Heap.slots (h : Heap ρ B st w) (s : List (Nat × SV)) : Heap ρ B { st with slots := s } w :=
  ⟨h.cells, h.rows, h.rowNe, h.apart, h.ids, h.clt, h.rlt, h.base, h.free⟩
/-- A pure operation, from what is known of the slots and of the world. -/
theorem pure_yields {o : Oper} (hS : Slots ρ N st a) (hH : Heap ρ B st w) (hp : pureOp o.op = true) (h : step1 P st o = .ok v st') :
    v.lt st.nid = true ∧ (∀ j, gdOn j v = false) ∧ (execOp a.eval o).run P w = .ok (.value (v.den ρ)) w := by
  have y1 : ∀ {o : Oper}, (st' = st ∧ Yields1 P ρ st a o v) → v.lt st.nid = true ∧ (∀ j, gdOn j v = false) ∧ (execOp a.eval o).run P w = .ok (.value (v.den ρ)) w :=
    fun h => ⟨h.2.lt, h.2.gd, h.2.run w⟩
  obtain ⟨h, hn⟩ := step1_ok h
  obtain ⟨dst, op, ty, pos, after, g⟩ := o
  cases op with
  | move x => exact y1 (y_move hS h)
  | assign x => exact y1 (y_assign hS h)
  | binOp op t x y t' => exact y1 (y_binOp hS h)
  | unOp op t x => cases op with
    | not => exact y1 (y_not hS h)
    | neg => exact y1 (y_neg hS h)
    | _ => cases h
  | pick c x y => exact y1 (y_pick hS h)
  | convert s d x => exact y1 (y_convert hS h)
  | makeInterface t x => exact y1 (y_makeInterface hS h)
  | extract x i => exact y1 (y_extract hS h)
  | field t x f => exact y1 (y_field hS h)
  | fieldAddr t x f => exact y1 (y_fieldAddr hS h)
  | nilCheck x => exact y1 (y_nilCheck hS h)
  | build t p => exact y1 (y_build hS h)
  | load t x =>
    obtain ⟨h1, h2, h3, id, off, b, h4, h5, h6⟩ := y_load hS hH h
    exact ⟨h2, h3, h6 w (hH.entry h5)⟩
  | call c =>
    cases hc : c.callee with
    | builtin b => cases b with
      | len => exact y1 (y_len (x := .global 0) hc hS h)
      | max => exact y1 (y_max hc hS h)
      | min => exact y1 (y_min hc hS h)
      | _ => simp only [step, hc] at h; cases h
    | _ => simp only [step, hc] at h; cases h
  | _ => cases hp

/-- What is held reads at a world as the table says. -/
def HoldOk (ρ : Env) (st : St) (hold : List Nat) (w : World) : Prop := ∀ id, id ∈ hold → ∀ b, (id, b) ∈ st.tbl → EntryAt ρ w id b
def SOk (S : World → Prop) (ρ : Env) (st : St) : List It → Prop
  | .any _ hold _ _ :: _ => (∀ id, id ∈ hold → id < st.nid) ∧ ∀ w, S w ↔ HoldOk ρ st hold w
  | _ => True

section
variable (P : Program) (fn : Func) (R : Ending → World → Prop) (M : Nat → Act → World → Prop)
def Kq : List It → Exit → Act → World → Prop
  | [], e, a, w => bodyPost P fn R e a w
  | .blk id :: k, .exit id', a, w => if id' = id then Kq k .normal a w else Kq k (.exit id') a w
  | .blk _ :: k, e, a, w => Kq k e a w
  | .code c :: k, .normal, a, w => c.wp P (Kq k) a w
  | .ops all l :: k, .normal, a, w => wpList P all.toArray (Kq k) l a w
  | .mark m :: _, .normal, a, w => M m a w
  | .any f _ ops listed :: k, .normal, a, w => ∃ S : World → Prop, S w ∧ wpAnyH P .any ops.toArray (Kq k) S f listed.toArray a w
  | _ :: k, e, a, w => Kq k e a w
def Kh (S : World → Prop) : List It → Act → World → Prop
  | .any f _ ops listed :: k, a, w => S w ∧ wpAnyH P .any ops.toArray (Kq P fn R M k) S f listed.toArray a w
  | k, a, w => Kq P fn R M k .normal a w
def Holds (B : Bases) (N : Nat) (ρ0 : Env) (n0 : Nat) : Tree → Prop
  | .br c t e => (c = true → Holds B N ρ0 n0 t) ∧ (c = false → Holds B N ρ0 n0 e)
  | .need c t => c = true ∧ Holds B N ρ0 n0 t
  | .both t e => Holds B N ρ0 n0 t ∧ Holds B N ρ0 n0 e
  | .ret v st => ∀ ρ w, Env.Same n0 ρ0 ρ → Heap ρ B st w → R (.returned (v.den ρ)) w
  | .mark m st => ∀ ρ a w, Env.Same n0 ρ0 ρ → Rep ρ B N st a w → M m a w
  | .call f args d k st => ∀ S ρ a w, Env.Same n0 ρ0 ρ → Rep ρ B N st a w → SOk S ρ st k →
      Calls P f (denL ρ args).toArray w fun e w' => ∃ v, e = .returned v ∧ Kh P fn R M S k (a.put d v) w'
  | .stop k st => ∀ S ρ a w, Env.Same n0 ρ0 ρ → Rep ρ B N st a w → SOk S ρ st k → Kh P fn R M S k a w
  | .hand o k st => ∀ S ρ a w, Env.Same n0 ρ0 ρ → Rep ρ B N st a w → SOk S ρ st k → ∀ Q, o.wp P a w (fun a' w' => Kh P fn R M S k a' w') Q
  | .done => True
  | .fail => False
end
section
variable {fn : Func} {R : Ending → World → Prop} {M : Nat → Act → World → Prop}
theorem partOn_ok {B : Bases} {N : Nat} {ρ0 : Env} {n0 : Nat} {st : St} {j : Nat} {t : St → Tree} (h : Holds P fn R M B N ρ0 n0 (partOn st j t)) :
    ∃ b, getS st.slots j = some (.bool b) ∧ (b = true → Holds P fn R M B N ρ0 n0 (t (st.know j true))) ∧ (b = false → Holds P fn R M B N ρ0 n0 (t (st.know j false))) := by
  unfold partOn at h
  split at h
  · exact ⟨_, by assumption, h.1, h.2⟩
  · exact h.elim
theorem Kh.kq {S : World → Prop} {k : List It} {a : Act} {w : World} (h : Kh P fn R M S k a w) : Kq P fn R M k .normal a w := by
  cases k with
  | nil => exact h
  | cons it k => cases it with
    | any f hold ops listed => exact ⟨S, h⟩
    | _ => exact h
theorem Kq_exit (id : Nat) (a : Act) (w : World) : ∀ k k', exitTo id k = some k' → Kq P fn R M k' .normal a w → Kq P fn R M k (.exit id) a w
  | [], k', h, _ => by cases h
  | .blk j :: k, k', hne, h => by
    simp only [exitTo] at hne
    cases hj : j.beq id with
    | true =>
      rw [hj] at hne
      have := nbeq_t hj
      subst this
      injection hne with hne
      subst hne
      simp only [Kq, if_true]
      exact h
    | false =>
      rw [hj] at hne
      have := nbeq_f hj
      simp only [Kq]
      rw [if_neg (fun e => this e.symm)]
      exact Kq_exit id a w k k' hne h
  | .code _ :: k, k', hne, h => Kq_exit id a w k k' hne h
  | .ops _ _ :: k, k', hne, h => Kq_exit id a w k k' hne h
  | .mark _ :: k, k', hne, h => Kq_exit id a w k k' hne h
  | .any _ _ _ _ :: k, k', hne, h => Kq_exit id a w k k' hne h
/-- An exit to a block that ends the function's last. -/
theorem Kq_ret (a : Act) (w : World) (h : bodyPost P fn R .ret a w) : ∀ k, Kq P fn R M k .ret a w
  | [] => h
  | .blk _ :: k => Kq_ret a w h k
  | .code _ :: k => Kq_ret a w h k
  | .ops _ _ :: k => Kq_ret a w h k
  | .mark _ :: k => Kq_ret a w h k
  | .any _ _ _ _ :: k => Kq_ret a w h k
theorem Kq_panic (c : List PanicEntry) (a : Act) (w : World) : ∀ k, Kq P fn R M k (.panic c) a w ↔ bodyPost P fn R (.panic c) a w
  | [] => Iff.rfl
  | .blk _ :: k => Kq_panic c a w k
  | .code _ :: k => Kq_panic c a w k
  | .ops _ _ :: k => Kq_panic c a w k
  | .mark _ :: k => Kq_panic c a w k
  | .any _ _ _ _ :: k => Kq_panic c a w k
theorem Kq_seq (x y : Code) (k : List It) (a : Act) (w : World) (h : Kq P fn R M (.code x :: .code y :: k) .normal a w) : Kq P fn R M (.code (.seq x y) :: k) .normal a w := by
  show (Code.seq x y).wp P _ a w
  refine wp_seq (wp_mono (show x.wp P (Kq P fn R M (.code y :: k)) a w from h) fun e a w hq => ?_)
  cases e <;> exact hq
theorem Kq_block (id : Nat) (c : Code) (k : List It) (a : Act) (w : World) (h : Kq P fn R M (.code c :: .blk id :: k) .normal a w) : Kq P fn R M (.code (.block id c) :: k) .normal a w := by
  show (Code.block id c).wp P _ a w
  refine wp_block (wp_mono (show c.wp P (Kq P fn R M (.blk id :: k)) a w from h) fun e a w hq => ?_)
  cases e <;> exact hq
def resRun (tm : Array Value) : ResultVar → Sem Value
  | .tmp t => pure (tm.getD t Go.undef)
  | .cell x t => do loadVar t (← asAddr (tm.getD x Go.undef))
theorem resV_ok (hR : Rep ρ B N st a w) {r : ResultVar} {u : SV} (h : resV P st r = some u) :
    (resRun a.tmps r).run P w = .ok (u.den ρ) w := by
  cases r with
  | tmp t =>
    have h' : st.get (.tmp t) = some u := h
    have := (hR.sl.knows h').den
    simp only [Act.eval] at this
    simp [resRun, ← this]
  | cell x t =>
    simp only [resV] at h
    split at h
    · rename_i id off ag n hx hag hn
      cases hb : (ag || n.beq 1) with
      | false => rw [hb] at h; cases h
      | true =>
        rw [hb] at h
        simp only [cond_true] at h
        obtain ⟨cs, ct, hT⟩ := loadP_cells h
        have hk := hR.slots x _ (getS_mem hx)
        have e : a.tmps.getD x Go.undef = .pointer (some ⟨ρ.nu id, off, none⟩) := by simp [hk.1, SV.at, SV.den]
        have := loadP_run (ρ := ρ) hag hn hb hT (hR.heap.cells _ _ _ (getT_mem hT)) h
        simp only [resRun, e]
        simp [asAddr, this]
    · cases h
theorem resL_ok (hR : Rep ρ B N st a w) : ∀ (rs : List ResultVar) (l : List SV), resL P st rs = some l →
    (rs.mapM (resRun a.tmps)).run P w = .ok (denL ρ l) w
  | [], l, h => by injection h with h; subst h; rfl
  | r :: rs, l, h => by
    simp only [resL] at h
    split at h
    · rename_i u l' hu hl
      injection h with h
      subst h
      have h1 := resV_ok hR hu
      have h2 := resL_ok hR rs l' hl
      simp only [List.mapM_cons, Sem.run_bind, h1, Result.andThen_ok, h2, Sem.run_pure, denL]
    · cases h
theorem resOf_ok (hR : Rep ρ B N st a w) {u : SV} (h : resOf P st fn.results.toList = some u) : (results fn a.tmps).run P w = .ok (u.den ρ) w := by
  unfold resOf at h
  have key : ∀ l, resL P st fn.results.toList = some l → (results fn a.tmps).run P w = .ok (if h : (denL ρ l).toArray.size = 1 then (denL ρ l).toArray[0] else .tuple (denL ρ l).toArray) w := by
    intro l hl
    have := resL_ok hR _ _ hl
    have e : results fn a.tmps = (do let vs ← fn.results.mapM (resRun a.tmps); pure (if h : vs.size = 1 then vs[0] else .tuple vs)) := by
      unfold results
      congr
    rw [e, Array.mapM_eq_mapM_toList]
    simp only [Sem.run_bind, Sem.run_map, this, Result.andThen_ok, Sem.run_pure]
  split at h
  · rename_i v hl
    injection h with h
    subst h
    rw [key _ hl]
    simp [denL]
  · rename_i l hne hl
    injection h with h
    subst h
    rw [key _ hl]
    have : ¬ (denL ρ l).toArray.size = 1 := by
      intro e
      simp [denL_length] at e
      obtain ⟨x, rfl⟩ := List.length_eq_one_iff.1 e
      exact hne x rfl
    rw [dif_neg this]
    rfl
  · cases h

theorem good_wp {Q : Exit → Act → World → Prop} {o : Oper} {ρ' : Env} {x : Value} {w' : World} (hG : Good P ρ B N st a w o v st' ρ' x w') {K : Act → World → Prop} (h : K (a.put o.dst x) w') : o.wp P a w K Q := by
  unfold Oper.wp
  rcases hG.run with hr | ⟨hr, rfl⟩
  · rw [hr]; exact h
  · rw [hr]; exact h
theorem good_put {o : Oper} {ρ' : Env} {x : Value} {w' : World} (hG : Good P ρ B N st a w o v st' ρ' x w') (hd : fitD N o.dst = true) : Rep ρ' B N (st'.puto o.dst v) (a.put o.dst x) w' := by
  have := hG.rep.puto hd hG.gd hG.lt
  rwa [hG.den] at this
theorem wanted_none {o : Oper} {y : Nat → Option Bool} (h : o.guard = none) : Region.wanted o y = true := by simp [Region.wanted, h]
theorem yielded_at {all : List Oper} {g j : Nat} (h : dstOf all g = some j) (tm : Array Value) : yielded all.toArray tm g = match tm[j]? with | some (.bool b) => some b | _ => none := by
  unfold dstOf at h
  split at h
  · rename_i o ho
    simp only [yielded, List.getElem?_toArray, ho, Option.bind_some, h]
    rfl
  · cases h
theorem yielded_none {all : List Oper} {g : Nat} (h : dstOf all g = none) (tm : Array Value) : yielded all.toArray tm g = none := by
  unfold dstOf at h
  split at h
  · rename_i o ho
    simp only [yielded, List.getElem?_toArray, ho, Option.bind_some, h, Option.bind_none]
  · rename_i ho
    simp only [yielded, List.getElem?_toArray, ho, Option.bind_none]
theorem how_plain {all : List Oper} {o : Oper} (hS : Slots ρ N st a) (h : how all st o = .plain) : Region.wanted o (yielded all.toArray a.tmps) = true := by
  unfold how at h
  split at h
  · rename_i hg; exact wanted_none hg
  · rename_i g w hg
    split at h
    · cases h
    · rename_i j hj
      split at h
      · rename_i b hb
        cases hw : (b == w) with
        | false => rw [hw] at h; cases h
        | true =>
          have hk := (hS.slots j _ (getS_mem hb)).1
          have : b = w := by simpa using hw
          subst this
          have hk' : a.tmps[j]? = some (.bool b) := hk
          simp [Region.wanted, hg, yielded_at hj, hk']
      · revert h; cases pureOp o.op <;> (intro h; cases h)
      · revert h; cases pureOp o.op <;> (intro h; cases h)
      · cases h
      · cases h
theorem how_skip {all : List Oper} {o : Oper} (hS : Slots ρ N st a) (h : how all st o = .skip) : Region.wanted o (yielded all.toArray a.tmps) = false := by
  unfold how at h
  split at h
  · cases h
  · rename_i g w hg
    split at h
    · rename_i hj
      simp [Region.wanted, hg, yielded_none hj]
    · rename_i j hj
      split at h
      · rename_i b hb
        cases hw : (b == w) with
        | true => rw [hw] at h; cases h
        | false =>
          have hk := (hS.slots j _ (getS_mem hb)).1
          have : b ≠ w := by simpa using hw
          have hk' : a.tmps[j]? = some (.bool b) := hk
          simp [Region.wanted, hg, yielded_at hj, hk', this]
      · revert h; cases pureOp o.op <;> (intro h; cases h)
      · revert h; cases pureOp o.op <;> (intro h; cases h)
      · rename_i hb
        have hk := (hS.slots j _ (getS_mem hb)).1
        have hk' : a.tmps[j]? = some Go.undef := hk
        simp [Region.wanted, hg, yielded_at hj, hk', Go.undef]
      · cases h
theorem how_open {all : List Oper} {o : Oper} {j : Nat} {b : Bool} (h : how all st o = .open_ j b) : pureOp o.op = true ∧ ∀ tm : Array Value,
    Region.wanted o (yielded all.toArray tm) = match tm[j]? with | some (.bool c) => c == b | _ => false := by
  unfold how at h
  split at h
  · cases h
  · rename_i g w hg
    split at h
    · cases h
    · rename_i j' hj
      have key : How.open_ j' w = .open_ j b → pureOp o.op = true → pureOp o.op = true ∧ ∀ tm : Array Value,
          Region.wanted o (yielded all.toArray tm) = match tm[j]? with | some (.bool c) => c == b | _ => false := by
        intro e hp
        injection e with e1 e2
        subst e1; subst e2
        refine ⟨hp, fun tm => ?_⟩
        simp only [Region.wanted, hg, yielded_at hj]
        split <;> first | rfl | simp_all
      split at h
      · rename_i b' hb
        revert h; cases (b' == w) <;> (intro h; cases h)
      · cases hp : pureOp o.op with
        | true => rw [hp] at h; exact ⟨rfl, (key h hp).2⟩
        | false => rw [hp] at h; cases h
      · cases hp : pureOp o.op with
        | true => rw [hp] at h; exact ⟨rfl, (key h hp).2⟩
        | false => rw [hp] at h; cases h
      · cases h
      · cases h
theorem how_part {all : List Oper} {o : Oper} {j : Nat} {b : Bool} (h : how all st o = .part j b) : getS st.slots j = some (.bool b) := by
  unfold how at h
  split at h
  · cases h
  · rename_i g w hg
    split at h
    · cases h
    · rename_i j' hj
      split at h
      · rename_i b' hb
        revert h; cases (b' == w) <;> (intro h; cases h)
      · rename_i b' hb
        revert h
        cases pureOp o.op
        · intro h; injection h with h1 h2; subst h1; subst h2; exact hb
        · intro h; cases h
      · revert h; cases pureOp o.op <;> (intro h; cases h)
      · cases h
      · cases h
theorem knowS_all {j : Nat} {b : Bool} {T : Nat → SV → Prop} (h1 : ∀ k w v, T k (.gd j w v) → T k (bif w == b then v else .undef)) (h2 : ∀ u, T j u → T j (.lit b)) :
    ∀ l : List (Nat × SV), (∀ k u, (k, u) ∈ l → T k u) → ∀ k u, (k, u) ∈ knowS j b l → T k u
  | [], _, k, u, h => by simp [knowS] at h
  | (k', u') :: l, hl, k, u, h => by
    have ih := knowS_all h1 h2 l (fun k u h => hl k u (List.mem_cons_of_mem _ h))
    have h0 := hl k' u' List.mem_cons_self
    cases u' with
    | gd j' w v =>
      simp only [knowS] at h
      cases hj : j.beq j' with
      | true =>
        rw [hj] at h
        have := nbeq_t hj
        subst this
        simp only [cond_true, List.mem_cons, Prod.mk.injEq] at h
        rcases h with ⟨rfl, rfl⟩ | h
        · exact h1 _ _ _ h0
        · exact ih k u h
      | false =>
        rw [hj] at h
        simp only [cond_false, List.mem_cons, Prod.mk.injEq] at h
        rcases h with ⟨rfl, rfl⟩ | h
        · exact h0
        · exact ih k u h
    | _ =>
      simp only [knowS, List.mem_cons, Prod.mk.injEq] at h
      rcases h with ⟨rfl, rfl⟩ | h
      · cases hj : Nat.beq _ j with
        | true => have := nbeq_t hj; subst this; exact h2 _ h0
        | false => exact h0
      · exact ih k u h
theorem Rep.know (hR : Rep ρ B N st a w) {j : Nat} {b : Bool} (hj : a.tmps[j]? = some (.bool b)) : Rep ρ B N (st.know j b) a w := by
  refine ⟨hR.size, hR.defers, ?_, hR.heap.slots _⟩
  refine knowS_all (T := fun k u => a.tmps[k]? = some (u.at ρ a.tmps) ∧ u.lt st.nid = true ∧ flat u = true) ?_ ?_ _ hR.slots
  · intro k w' v ⟨e1, e2, e3⟩
    simp only [SV.at, hj] at e1
    simp only [SV.lt] at e2
    have hf : v.at ρ a.tmps = v.den ρ ∧ flat v = true := by cases v <;> first | exact ⟨rfl, rfl⟩ | (simp [flat] at e3)
    cases hw : (w' == b) with
    | true =>
      have : w' = b := by simpa using hw
      subst this
      simp only [if_true] at e1
      exact ⟨by rw [e1]; simp only [cond_true]; rw [hf.1], e2, hf.2⟩
    | false =>
      have : ¬ b = w' := fun e => by subst e; simp at hw
      rw [if_neg this] at e1
      exact ⟨e1, rfl, rfl⟩
  · intro u _
    exact ⟨hj, rfl, rfl⟩
theorem forceV_eq {β : Type} : (∀ (v : SV) (k : SV → β), forceV v k = k v) ∧ ∀ (l : List SV) (k : List SV → β), forceL l k = k l := by
  refine ⟨fun v => ?_, fun l => ?_⟩
  · exact SV.rec (motive_1 := fun v => ∀ k : SV → β, forceV v k = k v) (motive_2 := fun l => ∀ k : List SV → β, forceL l k = k l)
      (fun _ => by simp [forceV]) (fun _ _ _ => by simp [forceV]) (fun b _ => by cases b <;> simp [forceV]) (fun _ _ => by simp [forceV]) (fun _ _ _ => by simp [forceV]) (fun _ _ _ _ _ => by simp [forceV])
      (fun _ _ _ _ => by simp [forceV]) (fun _ _ _ _ _ => by simp [forceV]) (fun l ih k => by simp [forceV, ih]) (fun l ih k => by simp [forceV, ih]) (fun _ _ _ => by simp [forceV]) (fun _ _ _ ih k => by simp [forceV, ih]) (fun _ _ => by simp [forceV])
      (fun _ => by simp [forceL]) (fun v l ihv ihl k => by simp [forceL, ihv, ihl]) v
  · exact SV.rec_1 (motive_1 := fun v => ∀ k : SV → β, forceV v k = k v) (motive_2 := fun l => ∀ k : List SV → β, forceL l k = k l)
      (fun _ => by simp [forceV]) (fun _ _ _ => by simp [forceV]) (fun b _ => by cases b <;> simp [forceV]) (fun _ _ => by simp [forceV]) (fun _ _ _ => by simp [forceV]) (fun _ _ _ _ _ => by simp [forceV])
      (fun _ _ _ _ => by simp [forceV]) (fun _ _ _ _ _ => by simp [forceV]) (fun l ih k => by simp [forceV, ih]) (fun l ih k => by simp [forceV, ih]) (fun _ _ _ => by simp [forceV]) (fun _ _ _ ih k => by simp [forceV, ih]) (fun _ _ => by simp [forceV])
      (fun _ => by simp [forceL]) (fun v l ihv ihl k => by simp [forceL, ihv, ihl]) l
theorem forceS_eq {β : Type} : ∀ (l : List (Nat × SV)) (k : List (Nat × SV) → β), forceS l k = k l
  | [], k => rfl
  | (i, v) :: l, k => by simp [forceS, forceV_eq.1, forceS_eq l]
theorem forceT_eq {β : Type} : ∀ (l : List (Nat × Blk)) (k : List (Nat × Blk) → β), forceT l k = k l
  | [], k => rfl
  | (i, .cells cs t) :: l, k => by simp [forceT, forceV_eq.2, forceT_eq l]
  | (i, .row sz n el) :: l, k => by simp [forceT, forceT_eq l]
theorem force_eq {β : Type} (st : St) (k : St → β) : force st k = k st := by
  obtain ⟨s, t, n⟩ := st
  simp [force, forceS_eq, forceT_eq]

/-- A pure operation under a guard that is open. -/
theorem open_step {all : List Oper} {o : Oper} {j : Nat} {b : Bool} {d : Nat} (hR : Rep ρ B N st a w) (hh : how all st o = .open_ j b) (hd : o.dst = some d) (hdN : d < N) (hdj : d ≠ j)
    (hs : step1 P { st with slots := bareS j b st.slots } o = .ok v st') (hg : ∀ i, gdOn i v = false) (hl : v.lt st.nid = true) :
    ∃ x, Rep ρ B N (st.put d (.gd j b v)) (a.put o.dst x) w ∧
      ((Region.wanted o (yielded all.toArray a.tmps) = true ∧ (execOp a.eval o).run P w = .ok (.value x) w) ∨ (Region.wanted o (yielded all.toArray a.tmps) = false ∧ x = Go.undef)) := by
  obtain ⟨hp, hw⟩ := how_open hh
  have hw := hw a.tmps
  have hlt : ∀ x, (a.tmps.setIfInBounds d x)[j]? = a.tmps[j]? := fun x => Array.getElem?_setIfInBounds_ne hdj
  by_cases hj : a.tmps[j]? = some (.bool b)
  · obtain ⟨h1, h2, h3⟩ := pure_yields (hR.sl.bare hj) (hR.heap.slots _) hp hs
    refine ⟨v.den ρ, ?_, .inl ⟨by rw [hw, hj]; simp, h3⟩⟩
    rw [hd]
    refine hR.put hdN ?_ (by simpa [SV.lt] using h1) (by cases v <;> first | rfl | (rename_i i w v; have := hg i; simp [gdOn] at this))
    simp only [SV.at, hlt, hj, if_true]
  · refine ⟨Go.undef, ?_, .inr ⟨?_, rfl⟩⟩
    · rw [hd]
      refine hR.put hdN ?_ (by simpa [SV.lt] using hl) (by cases v <;> first | rfl | (rename_i i w v; have := hg i; simp [gdOn] at this))
      simp only [SV.at, hlt]
      split
      · rename_i c hc
        rw [if_neg (by rintro rfl; exact hj hc)]
      · rfl
    · rw [hw]
      split
      · rename_i c hc
        have : c ≠ b := by rintro rfl; exact hj hc
        simpa using this
      · rfl

theorem getL_args {S0 : Slots ρ N st a} : ∀ {xs : List Operand} {args : List SV}, getL st xs = some args → xs.map a.eval = denL ρ args := fun h => (getL_knows S0 _ _ h).1
/-- A call of a Go function, as it stands. -/
theorem call_wp {o : Oper} {f : FuncId} {xs : List Operand} {args : List SV} (hR : Rep ρ B N st a w) (hc : calleeOf o.op = some (f, xs)) (ha : getL st xs = some args) (hb : callable P f = true)
    {Q : Exit → Act → World → Prop} {K : Act → World → Prop} (h : Calls P f (denL ρ args).toArray w fun e w' => ∃ v, e = .returned v ∧ K (a.put o.dst v) w') : o.wp P a w K Q := by
  obtain ⟨dst, op, ty, pos, after, g⟩ := o
  cases op with
  | call c =>
    obtain ⟨cal, as, at_⟩ := c
    simp only [calleeOf] at hc
    split at hc
    · rename_i cal' f'
      injection hc with hc
      injection hc with h1 h2
      subst h1; subst h2
      have ha' : as.toList.map a.eval = denL ρ args := (getL_knows hR.sl _ _ ha).1
      have ha'' : as.map a.eval = (denL ρ args).toArray := by
        apply Array.ext'
        simp [ha']
      unfold callable at hb
      split at hb
      · rename_i fn hfn
        simp only [Bool.and_eq_true, Bool.not_eq_true'] at hb
        have hnone : fn.body.isNone = false := by
          cases hbd : fn.body with
          | none => rw [hbd] at hb; simp at hb
          | some c => rfl
        have hrun : (execOp a.eval ⟨dst, .call ⟨.value (.func f'), as, at_⟩, ty, pos, after, g⟩).run P w = .ok (.enter f' (denL ρ args).toArray) w := by
          have hnm : ¬ fn.name = "runtime.NumGoroutine" := by simpa using hb.2
          have hbn : ¬ fn.body = none := by intro e; rw [e] at hnone; cases hnone
          simp [execOp, resolve, Act.eval, Deferred.ofValue, invoke, callFunc, hfn, hnm, hbn, ha'']
        unfold Oper.wp
        rw [hrun]
        refine Calls.mono h fun e w' he => ?_
        obtain ⟨v, rfl, hk⟩ := he
        exact hk
      · cases hb
    · cases hc
  | _ => cases hc

theorem wpList_do {ops : Array Oper} {Q : Exit → Act → World → Prop} {rest : List Oper} {o : Oper} (hw : Region.wanted o (yielded ops a.tmps) = true) (h : o.wp P a w (wpList P ops Q rest) Q) :
    wpList P ops Q (o :: rest) a w := by
  unfold wpList
  rw [if_pos hw]
  exact .inl h
theorem wpOp_do {ops : Array Oper} {Q : Exit → Act → World → Prop} {i : Nat} {o : Oper} {K : Act → World → Prop} (hi : ops[i]? = some o) (hw : Region.wanted o (yielded ops a.tmps) = true) (h : o.wp P a w K Q) :
    wpOp P ops Q i K a w := by
  unfold wpOp
  simp only [hi, hw, if_true]
  exact .inl h
theorem Same.trans {n m : Nat} {ρ0 ρ ρ' : Env} (h : Env.Same n ρ0 ρ) (h' : Env.Same m ρ ρ') (hn : n ≤ m) : Env.Same n ρ0 ρ' := fun i hi => by
  obtain ⟨e1, e2⟩ := h i hi
  obtain ⟨e3, e4⟩ := h' i (by omega)
  exact ⟨e1.trans e3, e2.trans e4⟩
theorem EntryAt.same {n : Nat} {ρ ρ' : Env} (hs : Env.Same n ρ ρ') {w : World} {id : Nat} {b : Blk} (hid : id < n) (hc : ∀ cs t, b = .cells cs t → ltL n cs = true) (hr : ∀ sz m el, b = .row sz m el → ∀ i, ltL n (el i) = true) :
    EntryAt ρ w id b ↔ EntryAt ρ' w id b := by
  cases b with
  | cells cs t => simp only [EntryAt, (hs id hid).1, denL_same hs _ (hc cs t rfl)]
  | row sz m el => exact ⟨fun h => RowAt.env hs hid (hr _ _ _ rfl) h, fun h => RowAt.env (fun i hi => ⟨(hs i hi).1.symm, (hs i hi).2.symm⟩) hid (hr _ _ _ rfl) h⟩
/-- What is held stays held. -/
theorem SOk.good {S : World → Prop} {o : Oper} {ρ' : Env} {x : Value} {w' : World} (hR : Rep ρ B N st a w) (hG : Good P ρ B N st a w o v st' ρ' x w') {hold : List Nat} (hsafe : safe st hold o.op = true) {d : Option Nat} {u : SV}
    (h : (∀ id, id ∈ hold → id < st.nid) ∧ ∀ w, S w ↔ HoldOk ρ st hold w) : (∀ id, id ∈ hold → id < (st'.puto d u).nid) ∧ ∀ w, S w ↔ HoldOk ρ' (st'.puto d u) hold w := by
  have htbl : (st'.puto d u).tbl = st'.tbl ∧ (st'.puto d u).nid = st'.nid := by cases d <;> exact ⟨rfl, rfl⟩
  refine ⟨fun id hid => by rw [htbl.2]; exact Nat.lt_of_lt_of_le (h.1 id hid) hG.nid, fun w1 => ?_⟩
  rw [h.2 w1]
  unfold HoldOk
  rw [htbl.1]
  have hns : ∀ id, id ∈ hold → ∀ t x y off, o.op = .store t x y → st.get x ≠ some (.ptr id off) := by
    intro id hid t x y off ho hx
    rw [ho] at hsafe
    simp only [safe, hx] at hsafe
    have : hold.any (id.beq ·) = true := List.any_eq_true.2 ⟨id, hid, by simp⟩
    rw [this] at hsafe
    cases hsafe
  constructor
  · intro hh id hid b hb
    have hb' := (hG.keepT id b (h.1 id hid) (hns id hid)).1 hb
    exact (EntryAt.same hG.same (h.1 id hid) (fun cs t e => by subst e; exact hR.heap.clt _ _ _ hb') (fun sz m el e => by subst e; exact hR.heap.rlt _ _ _ _ hb')).1 (hh id hid b hb')
  · intro hh id hid b hb
    have hb' := (hG.keepT id b (h.1 id hid) (hns id hid)).2 hb
    exact (EntryAt.same hG.same (h.1 id hid) (fun cs t e => by subst e; exact hR.heap.clt _ _ _ hb) (fun sz m el e => by subst e; exact hR.heap.rlt _ _ _ _ hb)).2 (hh id hid b hb')
theorem SOk.tbl {S : World → Prop} {st st' : St} {hold : List Nat} (ht : st'.tbl = st.tbl) (hn : st'.nid = st.nid)
    (h : (∀ id, id ∈ hold → id < st.nid) ∧ ∀ w, S w ↔ HoldOk ρ st hold w) : (∀ id, id ∈ hold → id < st'.nid) ∧ ∀ w, S w ↔ HoldOk ρ st' hold w :=
  ⟨by rw [hn]; exact h.1, fun w => by rw [h.2 w]; unfold HoldOk; rw [ht]⟩
theorem Rep.holds (hR : Rep ρ B N st a w) (hold : List Nat) : HoldOk ρ st hold w := fun id _ b hb => by
  cases b with
  | cells cs t => exact hR.heap.cells _ _ _ hb
  | row sz n el => exact hR.heap.rows _ _ _ _ hb
/-- What may be taken first yields in every world in which what is held reads as it does. -/
theorem take_ok {o : Oper} {hold : List Nat} (hR : Rep ρ B N st a w) (ht : takes st hold o = true) (h : step1 P st o = .ok v st') :
    st'.nid = st.nid ∧ v.lt st.nid = true ∧ (∀ j, gdOn j v = false) ∧ ∀ w', HoldOk ρ st hold w' → (execOp a.eval o).run P w' = .ok (.value (v.den ρ)) w' := by
  have y1 : ∀ {o : Oper}, (st' = st ∧ Yields1 P ρ st a o v) → st'.nid = st.nid ∧ v.lt st.nid = true ∧ (∀ j, gdOn j v = false) ∧ ∀ w', HoldOk ρ st hold w' → (execOp a.eval o).run P w' = .ok (.value (v.den ρ)) w' :=
    fun h => ⟨by rw [h.1], h.2.lt, h.2.gd, fun w' _ => h.2.run w'⟩
  have hS := hR.sl
  obtain ⟨h, hn⟩ := step1_ok h
  obtain ⟨dst, op, ty, pos, after, g⟩ := o
  cases op with
  | move x => exact y1 (y_move hS h)
  | assign x => exact y1 (y_assign hS h)
  | binOp op t x y t' => exact y1 (y_binOp hS h)
  | unOp op t x => cases op with
    | not => exact y1 (y_not hS h)
    | neg => exact y1 (y_neg hS h)
    | _ => cases h
  | pick c x y => exact y1 (y_pick hS h)
  | convert s d x => exact y1 (y_convert hS h)
  | makeInterface t x => exact y1 (y_makeInterface hS h)
  | extract x i => exact y1 (y_extract hS h)
  | field t x f => exact y1 (y_field hS h)
  | fieldAddr t x f => exact y1 (y_fieldAddr hS h)
  | nilCheck x => exact y1 (y_nilCheck hS h)
  | build t p => exact y1 (y_build hS h)
  | load t x =>
    obtain ⟨h1, h2, h3, id, off, b, h4, h5, h6⟩ := y_load hS hR.heap h
    refine ⟨by rw [h1], h2, h3, fun w' hw' => h6 w' ?_⟩
    simp only [takes, h4] at ht
    obtain ⟨i, hi, he⟩ := List.any_eq_true.1 ht
    have := nbeq_t he
    subst this
    exact hw' _ hi _ (getT_mem h5)
  | call c =>
    cases hc : c.callee with
    | builtin b => cases b with
      | len => exact y1 (y_len (x := .global 0) hc hS h)
      | max => exact y1 (y_max hc hS h)
      | min => exact y1 (y_min hc hS h)
      | _ => simp only [step, hc] at h; cases h
    | _ => simp only [step, hc] at h; cases h
  | _ => first | (cases ht; done) | cases hn
theorem take_need {o : Oper} {hold : List Nat} {c : Bool} (hR : Rep ρ B N st a w) (ht : takes st hold o = true) (h : step1 P st o = .need c v st') (hc : c = true) :
    st'.nid = st.nid ∧ v.lt st.nid = true ∧ (∀ j, gdOn j v = false) ∧ ∀ w', HoldOk ρ st hold w' → (execOp a.eval o).run P w' = .ok (.value (v.den ρ)) w' := by
  have hS := hR.sl
  obtain ⟨h, hn⟩ := step1_need h
  obtain ⟨dst, op, ty, pos, after, g⟩ := o
  cases op with
  | indexAddr t x i =>
    have h := y_indexAddr hS hR.heap h hc
    exact ⟨by rw [h.1], h.2.lt, h.2.gd, fun w' _ => h.2.run w'⟩
  | binOp op t x y t' =>
    have h := y_div hS h hc
    exact ⟨by rw [h.1], h.2.lt, h.2.gd, fun w' _ => h.2.run w'⟩
  | load t x =>
    obtain ⟨h1, h2, h3, id, sz, i, off, b, h4, h5, h6⟩ := y_loadE hS hR.heap h hc
    refine ⟨by rw [h1], h2, h3, fun w' hw' => h6 w' ?_⟩
    simp only [takes, h4] at ht
    obtain ⟨i, hi, he⟩ := List.any_eq_true.1 ht
    have := nbeq_t he
    subst this
    exact hw' _ hi _ (getT_mem h5)
  | slice t x lo hi mx => cases ht
  | _ => cases hn

theorem Rep.bare (hR : Rep ρ B N st a w) {j : Nat} {b : Bool} (hj : a.tmps[j]? = some (.bool b)) : Rep ρ B N { st with slots := bareS j b st.slots } a w :=
  ⟨hR.size, hR.defers, (hR.sl.bare hj).slots, hR.heap.slots _⟩
/-- Taken first, under a guard that is open. -/
theorem open_take {S : World → Prop} {all : List Oper} {hold : List Nat} {o : Oper} {j : Nat} {b : Bool} {d : Nat} (hR : Rep ρ B N st a w) (hh : how all st o = .open_ j b) (hd : o.dst = some d) (hdN : d < N) (hdj : d ≠ j)
    (ht : takes { st with slots := bareS j b st.slots } hold o = true) (hS : ∀ w, S w ↔ HoldOk ρ st hold w)
    (hs : step1 P { st with slots := bareS j b st.slots } o = .ok v st') (hg : ∀ i, gdOn i v = false) (hl : v.lt st.nid = true) :
    ∃ x, Rep ρ B N (st.put d (.gd j b v)) (a.put o.dst x) w ∧ YieldsIf P all.toArray S o x a := by
  obtain ⟨hp, hw⟩ := how_open hh
  have hw := hw a.tmps
  have hlt : ∀ x, (a.tmps.setIfInBounds d x)[j]? = a.tmps[j]? := fun x => Array.getElem?_setIfInBounds_ne hdj
  have hfl : flat (.gd j b v) = true := by cases v <;> first | rfl | (rename_i i w v; have := hg i; simp [gdOn] at this)
  by_cases hj : a.tmps[j]? = some (.bool b)
  · obtain ⟨h0, h1, h2, h3⟩ := take_ok (hR.bare hj) ht hs
    refine ⟨v.den ρ, ?_, .inl ⟨by rw [hw, hj]; simp, fun w' hw' => h3 w' ((hS w').1 hw')⟩⟩
    rw [hd]
    refine hR.put hdN ?_ (by simpa [SV.lt] using hl) hfl
    simp only [SV.at, hlt, hj, if_true]
  · refine ⟨Go.undef, ?_, .inr ⟨?_, rfl⟩⟩
    · rw [hd]
      refine hR.put hdN ?_ (by simpa [SV.lt] using hl) hfl
      simp only [SV.at, hlt]
      split
      · rename_i c hc
        rw [if_neg (by rintro rfl; exact hj hc)]
      · rfl
    · rw [hw]
      split
      · rename_i c hc
        have : c ≠ b := by rintro rfl; exact hj hc
        simpa using this
      · rfl
theorem tail_ok {ρ0 : Env} {n0 : Nat} {k : List It} {t : Tree} (h : Holds P fn R M B N ρ0 n0 (tail k t)) : Holds P fn R M B N ρ0 n0 t ∧ ∀ S ρ st, SOk S ρ st k := by
  cases k with
  | nil => exact ⟨h, fun _ _ _ => trivial⟩
  | cons it k => cases it with
    | any f hold ops listed => exact h.elim
    | _ => exact ⟨h, fun _ _ _ => trivial⟩
theorem each_ok {ρ0 : Env} {n0 : Nat} {f : Nat → Tree} : ∀ (l : List Nat), Holds P fn R M B N ρ0 n0 (each f l) → ∀ i, i ∈ l → Holds P fn R M B N ρ0 n0 (f i)
  | [], h, i, hi => by cases hi
  | [j], h, i, hi => by
    rcases List.mem_cons.1 hi with rfl | hi
    · exact h
    · cases hi
  | j :: j' :: l, h, i, hi => by
    rcases List.mem_cons.1 hi with rfl | hi
    · exact h.1
    · exact each_ok (j' :: l) h.2 i hi
theorem firstTake_ok {hold : List Nat} {ops : List Oper} {listed : List Bool} {i : Nat} {o : Oper} : ∀ (l : List Nat), firstTake st hold ops listed l = some (i, o) →
    i ∈ l ∧ ops[i]? = some o ∧ (takes st hold o = true ∨ how ops st o = .skip) ∧ Region.free .any ops.toArray listed.toArray i = true
  | [], h => by cases h
  | j :: l, h => by
    simp only [firstTake] at h
    split at h
    · rename_i o' ho
      cases hb : ((takes st hold o' || isSkip (how ops st o')) && Region.free .any ops.toArray listed.toArray j) with
      | true =>
        rw [hb] at h
        injection h with h
        injection h with h1 h2
        subst h1; subst h2
        simp only [Bool.and_eq_true, Bool.or_eq_true] at hb
        refine ⟨List.mem_cons_self, ho, ?_, hb.2⟩
        rcases hb.1 with h | h
        · exact .inl h
        · right
          revert h
          cases how ops st o' <;> simp [isSkip]
      | false =>
        rw [hb] at h
        obtain ⟨h1, h2⟩ := firstTake_ok l h
        exact ⟨List.mem_cons_of_mem _ h1, h2⟩
    · obtain ⟨h1, h2⟩ := firstTake_ok l h
      exact ⟨List.mem_cons_of_mem _ h1, h2⟩
theorem put_listed (listed : List Bool) (i : Nat) : listed.toArray.setIfInBounds i true = (listed.set i true).toArray := by simp
theorem Kq_panic_put (k : List It) (d : Option Tmp) (x : Value) (c : List PanicEntry) (a : Act) (w : World) : Kq P fn R M k (.panic c) (a.put d x) w → Kq P fn R M k (.panic c) a w := by
  rw [Kq_panic, Kq_panic]
  cases d <;> exact id
theorem puto_tbl (st : St) (d : Option Nat) (v : SV) : (st.puto d v).tbl = st.tbl ∧ (st.puto d v).nid = st.nid := by cases d <;> exact ⟨rfl, rfl⟩

set_option maxHeartbeats 1000000 in
theorem run_sound {rs : List ResultVar} (hrs : fn.results.toList = rs) {ρ0 : Env} {n0 : Nat} : ∀ (n : Nat) (k : List It) (st : St), Holds P fn R M B N ρ0 n0 (run P N rs n k st) →
    ∀ (S : World → Prop) (ρ : Env) (a : Act) (w : World), Env.Same n0 ρ0 ρ → n0 ≤ st.nid → Rep ρ B N st a w → SOk S ρ st k → Kh P fn R M S k a w := by
  subst hrs
  intro n
  induction n with
  | zero => intro k st h S ρ a w hs hn hR hS; exact h S ρ a w hs hR hS
  | succ n ih =>
    intro k st h S ρ a w hs hn hR hS
    have next : ∀ {k' : List It}, SOk S ρ st k' → Holds P fn R M B N ρ0 n0 (run P N fn.results.toList n k' st) → Kh P fn R M S k' a w := fun hS' h' => ih _ st h' S ρ a w hs hn hR hS'
    cases k with
    | nil =>
      simp only [run] at h
      split at h
      · rename_i v hv
        exact ⟨hR.defers, _, resOf_ok hR hv, h ρ w hs hR.heap⟩
      · exact h.elim
    | cons it k =>
      cases it with
      | mark m => exact h ρ a w hs hR
      | blk id =>
        obtain ⟨h1, h2⟩ := tail_ok h
        exact (next (h2 _ _ _) h1).kq
      | code c =>
        cases c with
        | seq x y =>
          have := next (k' := .code x :: .code y :: k) trivial h
          exact Kq_seq x y k a w this
        | skip =>
          obtain ⟨h1, h2⟩ := tail_ok h
          exact wp_skip (next (h2 _ _ _) h1).kq
        | ret =>
          simp only [run] at h
          split at h
          · rename_i v hv
            exact wp_ret (Kq_ret a w ⟨hR.defers, _, resOf_ok hR hv, h ρ w hs hR.heap⟩ k)
          · exact h.elim
        | block id c =>
          have := next (k' := .code c :: .blk id :: k) trivial h
          exact Kq_block id c k a w this
        | exit id =>
          simp only [run] at h
          split at h
          · exact h.elim
          · rename_i hne
            obtain ⟨h1, h2⟩ := tail_ok h
            exact wp_exit (Kq_exit id a w k _ hne (next (h2 _ _ _) h1).kq)
        | cond c x y =>
          simp only [run] at h
          split at h
          · rename_i b hb
            have hc : a.eval c = .bool b := (hR.sl.knows hb).den.symm
            have := next (k' := .code (bif b then x else y) :: k) trivial h
            refine wp_cond hc ?_
            cases b <;> exact this
          · rename_i b hb
            have hc : a.eval c = .bool b := (hR.sl.knows hb).den.symm
            split at h
            · rename_i j
              have hj : a.tmps[j]? = some (.bool b) := by
                have hb' : st.get (.tmp j) = some (.bool b) := hb
                simp only [St.get] at hb'
                split at hb'
                · cases hb'
                · exact (hR.slots j _ (getS_mem hb')).1
              refine wp_cond hc ?_
              cases b with
              | true => exact ih _ _ (h.1 rfl) S ρ a w hs hn (hR.know hj) trivial
              | false => exact ih _ _ (h.2 rfl) S ρ a w hs hn (hR.know hj) trivial
            · exact h.elim
          · exact h.elim
        | region id ops dr =>
          cases dr with
          | false =>
            have := next (k' := .ops ops.toList ops.toList :: k) trivial h
            refine wp_region_list ?_
            have e : wpList P ops.toList.toArray (Kq P fn R M k) ops.toList a w := this
            simpa using e
          | true =>
            simp only [run] at h
            cases hb : (P.follows .mixedOrders && Region.noSelect ops) with
            | false => rw [hb] at h; exact h.elim
            | true =>
              rw [hb] at h
              simp only [Bool.and_eq_true] at hb
              simp only [cond_true] at h
              have hR' : Rep ρ B N st a { w with drawn := w.drawn + 1 } := ⟨hR.size, hR.defers, hR.slots,
                ⟨hR.heap.cells, hR.heap.rows, hR.heap.rowNe, hR.heap.apart, hR.heap.ids, hR.heap.clt, hR.heap.rlt, fun b J hb => ⟨(hR.heap.base b J hb).os, (hR.heap.base b J hb).tape, (hR.heap.base b J hb).output, (hR.heap.base b J hb).size, (hR.heap.base b J hb).block⟩, hR.heap.free⟩⟩
              have hid : ∀ (acc : List Nat) (t : List (Nat × Blk)) (i : Nat), i ∈ idsBut acc t → ∃ b, (i, b) ∈ t := by
                intro acc t
                induction t with
                | nil => intro i hi; cases hi
                | cons p t iht =>
                  obtain ⟨j, b⟩ := p
                  intro i hi
                  simp only [idsBut] at hi
                  cases hq : acc.any (j.beq ·) with
                  | true => rw [hq] at hi; obtain ⟨b', hb'⟩ := iht i hi; exact ⟨b', List.mem_cons_of_mem _ hb'⟩
                  | false =>
                    rw [hq] at hi
                    rcases List.mem_cons.1 hi with rfl | hi
                    · exact ⟨b, List.mem_cons_self⟩
                    · obtain ⟨b', hb'⟩ := iht i hi; exact ⟨b', List.mem_cons_of_mem _ hb'⟩
              have := ih _ _ h (HoldOk ρ st _) ρ a _ hs hn hR' ⟨fun i hi => by obtain ⟨b, hb⟩ := hid _ _ i hi; exact hR.heap.ids i b hb, fun _ => Iff.rfl⟩
              refine wp_region_held (S := HoldOk ρ st (idsBut (stored P st ops.toList []) st.tbl)) hb.1 ?_
              have e := this.2
              simp only [Array.toArray_toList] at e
              have e2 : (List.replicate ops.size false).toArray = Array.replicate ops.size false := by simp
              rw [e2] at e
              exact e
        | _ => exact h S ρ a w hs hR trivial
      | ops all l =>
        cases l with
        | nil =>
          obtain ⟨h1, h2⟩ := tail_ok h
          exact (next (h2 _ _ _) h1).kq
        | cons o l =>
          simp only [run] at h
          show wpList P all.toArray (Kq P fn R M k) (o :: l) a w
          split at h
          · rename_i hh
            cases hd : fitD N o.dst with
            | false => rw [hd] at h; exact h.elim
            | true =>
              rw [hd, force_eq] at h
              have hw := how_skip hR.sl hh
              have hR' := hR.puto (v := .undef) hd (fun _ => rfl) rfl
              refine wpList_skip hw ?_
              have ht := puto_tbl st o.dst .undef
              exact ih _ _ h S ρ _ w hs (by rw [ht.2]; exact hn) hR' trivial
          · rename_i hh
            cases hd : fitD N o.dst with
            | false => rw [hd] at h; exact h.elim
            | true =>
              rw [hd] at h
              simp only [cond_true] at h
              have hw := how_plain hR.sl hh
              split at h
              · rename_i f xs hc
                split at h
                · rename_i args hargs
                  cases hcb : callable P f with
                  | true =>
                    rw [hcb] at h
                    exact wpList_do hw (call_wp hR hc hargs hcb (h S ρ a w hs hR trivial))
                  | false =>
                    rw [hcb] at h
                    exact wpList_do hw (h S ρ a w hs hR trivial _)
                · exact wpList_do hw (h S ρ a w hs hR trivial _)
              · rename_i hc
                split at h
                · rename_i v st' hst
                  rw [force_eq] at h
                  obtain ⟨ρ', x, w', hG⟩ := step_good hR hst
                  have ht := puto_tbl st' o.dst v
                  exact wpList_do hw (good_wp hG (ih _ _ h S ρ' _ w' (Same.trans hs hG.same hn) (by rw [ht.2]; exact Nat.le_trans hn hG.nid) (good_put hG hd) trivial))
                · rename_i c v st' hst
                  obtain ⟨hc1, h⟩ := h
                  rw [force_eq] at h
                  obtain ⟨ρ', x, w', hG⟩ := step_need hR hst hc1
                  have ht := puto_tbl st' o.dst v
                  exact wpList_do hw (good_wp hG (ih _ _ h S ρ' _ w' (Same.trans hs hG.same hn) (by rw [ht.2]; exact Nat.le_trans hn hG.nid) (good_put hG hd) trivial))
                · exact wpList_do hw (h S ρ a w hs hR trivial _)
          · rename_i j b hh
            cases hd : fitD N o.dst with
            | false => rw [hd] at h; exact h.elim
            | true =>
              rw [hd] at h
              simp only [cond_true] at h
              split at h
              · rename_i d v st' hdst hst
                split at h
                · exact h.elim
                · rename_i hngd
                  cases hdj : (d.beq j || !v.lt st.nid) with
                  | true => rw [hdj] at h; exact h.elim
                  | false =>
                    rw [hdj, cond_false, force_eq] at h
                    simp only [Bool.or_eq_false_iff, Bool.not_eq_false'] at hdj
                    have hdN : d < N := by rw [hdst] at hd; exact nblt_t hd
                    obtain ⟨x, hR', hx⟩ := open_step hR hh hdst hdN (nbeq_f hdj.1) hst (fun i => by cases v <;> first | rfl | exact absurd rfl (hngd _ _ _)) hdj.2
                    have hK := ih _ _ h S ρ _ w hs hn hR' trivial
                    rcases hx with ⟨hw, hrun⟩ | ⟨hw, rfl⟩
                    · refine wpList_do hw ?_
                      unfold Oper.wp
                      rw [hrun]
                      exact hK
                    · exact wpList_skip hw hK
              · obtain ⟨b, hb, h⟩ := partOn_ok h
                have hj := (hR.slots j _ (getS_mem hb)).1
                cases b with
                | true => exact ih _ _ (h.1 rfl) S ρ a w hs hn (hR.know hj) trivial
                | false => exact ih _ _ (h.2 rfl) S ρ a w hs hn (hR.know hj) trivial
          · rename_i j b hh
            have hj : a.tmps[j]? = some (.bool b) := (hR.slots j _ (getS_mem (how_part hh))).1
            cases b with
            | true => exact ih _ _ (h.1 rfl) S ρ a w hs hn (hR.know hj) trivial
            | false => exact ih _ _ (h.2 rfl) S ρ a w hs hn (hR.know hj) trivial
          · exact h.elim
      | any f hold ops listed =>
        have hSw : S w := (hS.2 w).2 (hR.holds hold)
        refine ⟨hSw, ?_⟩
        simp only [run] at h
        split at h
        · rename_i hrd
          obtain ⟨h1, h2⟩ := tail_ok h
          exact wpAnyH_done hrd (next (h2 _ _ _) h1).kq _
        · exact h.elim
        · rename_i f r l hrd
          split at h
          · rename_i i o hft
            obtain ⟨hmem, hio, htk, hfree⟩ := firstTake_ok _ hft
            cases hns : Region.noSelect ops.toArray with
            | false => rw [hns] at h; exact h.elim
            | true =>
              rw [hns, cond_true] at h
              have hi' : ops.toArray[i]? = some o := by simpa using hio
              have hrc : (Region.ready .any ops.toArray listed.toArray).contains i = true := by rw [hrd]; simpa using hmem
              have fin : ∀ (x : Value) (st2 : St), st2.tbl = st.tbl → st2.nid = st.nid → Rep ρ B N st2 (a.put o.dst x) w → YieldsIf P ops.toArray S o x a →
                  Holds P fn R M B N ρ0 n0 (run P N fn.results.toList n (.any f hold ops (listed.set i true) :: k) st2) → wpAnyH P .any ops.toArray (Kq P fn R M k) S (f + 1) listed.toArray a w := by
                intro x st2 e1 e2 hR2 hy hh
                have hK := ih _ _ hh S ρ _ w hs (by rw [e2]; exact hn) hR2 (SOk.tbl e1 e2 hS)
                refine wpAnyH_take hi' hns hfree hrc (fun c a w => Kq_panic_put k o.dst x c a w) hy hSw ?_
                rw [put_listed]
                exact hK.2
              split at h
              · rename_i hh
                cases hd : fitD N o.dst with
                | false => rw [hd] at h; exact h.elim
                | true =>
                  rw [hd, cond_true, force_eq] at h
                  have ht := puto_tbl st o.dst .undef
                  exact fin Go.undef _ ht.1 ht.2 (hR.puto (v := .undef) hd (fun _ => rfl) rfl) (.inr ⟨how_skip hR.sl hh, rfl⟩) h
              · rename_i hh
                have htk : takes st hold o = true := by
                  rcases htk with h | h
                  · exact h
                  · rw [h] at hh; cases hh
                have hw := how_plain hR.sl hh
                cases hd : fitD N o.dst with
                | false => rw [hd] at h; exact h.elim
                | true =>
                  rw [hd, cond_true] at h
                  split at h
                  · rename_i v st' hst
                    rw [force_eq] at h
                    obtain ⟨g0, g1, g2, g3⟩ := take_ok hR htk hst
                    have ht := puto_tbl st o.dst v
                    exact fin (v.den ρ) _ ht.1 ht.2 (hR.puto hd g2 g1) (.inl ⟨hw, fun w' hw' => g3 w' ((hS.2 w').1 hw')⟩) h
                  · rename_i c v st' hst
                    obtain ⟨hc1, h⟩ := h
                    rw [force_eq] at h
                    obtain ⟨g0, g1, g2, g3⟩ := take_need hR htk hst hc1
                    have ht := puto_tbl st o.dst v
                    exact fin (v.den ρ) _ ht.1 ht.2 (hR.puto hd g2 g1) (.inl ⟨hw, fun w' hw' => g3 w' ((hS.2 w').1 hw')⟩) h
                  · exact (h S ρ a w hs hR hS).2
              · rename_i j b hh
                cases hd : (fitD N o.dst && takes { st with slots := bareS j b st.slots } hold o) with
                | false =>
                  rw [hd, cond_false] at h
                  obtain ⟨b, hb, h⟩ := partOn_ok h
                  have hj := (hR.slots j _ (getS_mem hb)).1
                  cases b with
                  | true => exact (ih _ _ (h.1 rfl) S ρ a w hs hn (hR.know hj) (SOk.tbl rfl rfl hS)).2
                  | false => exact (ih _ _ (h.2 rfl) S ρ a w hs hn (hR.know hj) (SOk.tbl rfl rfl hS)).2
                | true =>
                  rw [hd, cond_true] at h
                  simp only [Bool.and_eq_true] at hd
                  split at h
                  · rename_i d v st' hdst hst
                    split at h
                    · exact h.elim
                    · rename_i hngd
                      cases hdj : (d.beq j || !v.lt st.nid) with
                      | true => rw [hdj] at h; exact h.elim
                      | false =>
                        rw [hdj, cond_false, force_eq] at h
                        simp only [Bool.or_eq_false_iff, Bool.not_eq_false'] at hdj
                        have hdN : d < N := by have := hd.1; rw [hdst] at this; exact nblt_t this
                        obtain ⟨x, hR', hy⟩ := open_take hR hh hdst hdN (nbeq_f hdj.1) hd.2 hS.2 hst (fun i => by cases v <;> first | rfl | exact absurd rfl (hngd _ _ _)) hdj.2
                        exact fin x (st.put d (.gd j b v)) rfl rfl hR' hy h
                  · obtain ⟨b, hb, h⟩ := partOn_ok h
                    have hj := (hR.slots j _ (getS_mem hb)).1
                    cases b with
                    | true => exact (ih _ _ (h.1 rfl) S ρ a w hs hn (hR.know hj) (SOk.tbl rfl rfl hS)).2
                    | false => exact (ih _ _ (h.2 rfl) S ρ a w hs hn (hR.know hj) (SOk.tbl rfl rfl hS)).2
              · rename_i j b hh
                have hj : a.tmps[j]? = some (.bool b) := (hR.slots j _ (getS_mem (how_part hh))).1
                cases b with
                | true => exact (ih _ _ (h.1 rfl) S ρ a w hs hn (hR.know hj) (SOk.tbl rfl rfl hS)).2
                | false => exact (ih _ _ (h.2 rfl) S ρ a w hs hn (hR.know hj) (SOk.tbl rfl rfl hS)).2
              · exact h.elim
          · refine wpAnyH_all hrd (by simp) fun i hi => ?_
            have h := each_ok _ h i hi
            split at h
            · exact h.elim
            · rename_i o hio
              have hi' : ops.toArray[i]? = some o := by simpa using hio
              split at h
              · rename_i hh
                have hw := how_plain hR.sl hh
                have hand : Holds P fn R M B N ρ0 n0 (.hand o (.any f hold ops (listed.set i true) :: k) st) → wpOp P ops.toArray (Kq P fn R M k) i (fun a w => S w ∧ wpAnyH P .any ops.toArray (Kq P fn R M k) S f (listed.toArray.setIfInBounds i true) a w) a w := fun h => by
                  rw [put_listed]
                  exact wpOp_do hi' hw (h S ρ a w hs hR hS _)
                cases hd : fitD N o.dst with
                | false => rw [hd] at h; exact h.elim
                | true =>
                  rw [hd, cond_true] at h
                  split at h
                  · rename_i f' xs hc
                    split at h
                    · rename_i args hargs
                      cases hcb : callable P f' with
                      | true =>
                        rw [hcb] at h
                        refine wpOp_do hi' hw (call_wp hR hc hargs hcb (Calls.mono (h S ρ a w hs hR hS) fun e w' he => ?_))
                        obtain ⟨v, e1, e2⟩ := he
                        refine ⟨v, e1, e2.1, ?_⟩
                        have := e2.2
                        rw [← put_listed] at this
                        exact this
                      | false => rw [hcb] at h; exact hand h
                    · exact hand h
                  · cases hsf : safe st hold o.op with
                    | false => rw [hsf] at h; exact h.elim
                    | true =>
                      rw [hsf, cond_true] at h
                      split at h
                      · rename_i v st' hst
                        rw [force_eq] at h
                        obtain ⟨ρ', x, w', hG⟩ := step_good hR hst
                        have ht := puto_tbl st' o.dst v
                        have hK := ih _ _ h S ρ' _ w' (Same.trans hs hG.same hn) (by rw [ht.2]; exact Nat.le_trans hn hG.nid) (good_put hG hd) (SOk.good hR hG hsf hS)
                        refine wpOp_do hi' hw (good_wp hG ⟨hK.1, ?_⟩)
                        have := hK.2
                        rw [← put_listed] at this
                        exact this
                      · rename_i c v st' hst
                        obtain ⟨hc1, h⟩ := h
                        rw [force_eq] at h
                        obtain ⟨ρ', x, w', hG⟩ := step_need hR hst hc1
                        have ht := puto_tbl st' o.dst v
                        have hK := ih _ _ h S ρ' _ w' (Same.trans hs hG.same hn) (by rw [ht.2]; exact Nat.le_trans hn hG.nid) (good_put hG hd) (SOk.good hR hG hsf hS)
                        refine wpOp_do hi' hw (good_wp hG ⟨hK.1, ?_⟩)
                        have := hK.2
                        rw [← put_listed] at this
                        exact this
                      · exact hand h
              · rename_i j b hh
                have hj : a.tmps[j]? = some (.bool b) := (hR.slots j _ (getS_mem (how_part hh))).1
                cases b with
                | true => exact (ih _ _ (h.1 rfl) S ρ a w hs hn (hR.know hj) (SOk.tbl rfl rfl hS)).2.2 i (by rw [hrd]; exact hi)
                | false => exact (ih _ _ (h.2 rfl) S ρ a w hs hn (hR.know hj) (SOk.tbl rfl rfl hS)).2.2 i (by rw [hrd]; exact hi)
              · rename_i j _ hh
                obtain ⟨b, hb, h⟩ := partOn_ok h
                have hj := (hR.slots j _ (getS_mem hb)).1
                cases b with
                | true => exact (ih _ _ (h.1 rfl) S ρ a w hs hn (hR.know hj) (SOk.tbl rfl rfl hS)).2.2 i (by rw [hrd]; exact hi)
                | false => exact (ih _ _ (h.2 rfl) S ρ a w hs hn (hR.know hj) (SOk.tbl rfl rfl hS)).2.2 i (by rw [hrd]; exact hi)
              · exact h.elim
end
end
end Go.Sx
