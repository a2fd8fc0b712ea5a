/- The engine's rule for a call that is walked in place: the callee begins with all that the caller knows, and the caller goes on with all that the callee leaves. -/
import Derived.Test.YtkidnihjihcjcaaGreatDoorSxB
set_option linter.unusedSimpArgs false
set_option linter.unusedVariables false
namespace Go.Sx
section
variable {P : Program} {ρ ρ' : Env} {N : Nat} {st s' : St} {a : Act} {B : Bases} {w w' : World} {fn : Func} {R : Ending → World → Prop} {M : Nat → Act → World → Prop}
/-- The caller goes on. -/
theorem Rep.back (hR : Rep ρ B N st a w) (hs : Env.Same st.nid ρ ρ') (hn : st.nid.ble s'.nid = true) (hH : Heap ρ' B s' w') : Rep ρ' B N ⟨st.slots, s'.tbl, s'.nid⟩ a w' :=
  ⟨hR.size, hR.defers, fun i v hm => by
    obtain ⟨h1, h2, h3⟩ := hR.slots i v hm
    exact ⟨by rw [← SV.at_same hs _ v h2]; exact h1, SV.lt_mono (nble_t hn) v h2, h3⟩, hH.slots _⟩
/-- The callee begins. -/
theorem inline (hR : Rep ρ B N st a w) {f : FuncId} (N' : Nat) (args : List SV) (hf : P.funcs[f]? = some fn) (hb : fn.body.isSome = true) (hN : fn.ntmps = N') (hl : Nat.ble args.length N' = true) (hlt : ltL st.nid args = true) (hg : gdFree args = true)
    (h : ∀ a', Rep ρ B N' ⟨initS 0 args, st.tbl, st.nid⟩ a' w → Kh P fn R M (fun _ => True) [.code (bodyOf fn)] a' w) : Calls P f (denL ρ args).toArray w R :=
  enter N' args hf hb hN (Nat.le_of_ble_eq_true hl) hlt hg (hR.heap.slots _) h
theorem Env.Same.trans {n m : Nat} {ρ ρ' ρ'' : Env} (h : Env.Same n ρ ρ') (h' : Env.Same m ρ' ρ'') (hn : n ≤ m) : Env.Same n ρ ρ'' := fun i hi => ⟨(h i hi).1.trans (h' i (by omega)).1, (h i hi).2.trans (h' i (by omega)).2⟩
/-- Behind a call that changes but what is not of J'. -/
theorem Rep.since {J' : Nat → Prop} (h : Rep ρ B N st a w) (hc : Since w J' w') (hcell : ∀ id cs t, (id, Blk.cells cs t) ∈ st.tbl → J' (ρ.nu id)) (hrow : ∀ id sz n el, (id, Blk.row sz n el) ∈ st.tbl → 0 < n → ∀ ad, ρ.al id = some ad → J' ad.block)
    (hB : ∀ b J, (b, J) ∈ B → ∀ k, J k → k < b.heap.size → J' k) : Rep ρ B N st a w' := by
  refine ⟨h.size, h.defers, h.slots, h.heap.world (fun id cs t hm => hc.block _ (hcell id cs t hm) (Array.getElem?_eq_some_iff.1 (h.heap.cells id cs t hm)).1) (fun id sz n el hm h0 ad had => ?_) hc.size (fun b J hb => (h.heap.base b J hb).trans hc fun k hk hlt => hB b J hb k hk hlt)⟩
  obtain ⟨ad', h1, _, h3, _⟩ := h.heap.rows id sz n el hm 0 h0
  rw [h1] at had
  injection had with had
  subst had
  exact hc.block _ (hrow id sz n el hm h0 _ h1) h3
/-- Behind a call that changes a block that is known whole. -/
theorem Rep.recell (hR : Rep ρ B N st a w) (id : Nat) (cs cs' : List SV) (t : TypeId) (hT : getT st.tbl id = some (.cells cs t)) (hc : Since w (fun k => k ≠ ρ.nu id) w') (hnew : w'.heap[ρ.nu id]? = some (.cells (denL ρ cs').toArray t (0, 0))) (hl : ltL st.nid cs' = true) : Rep ρ B N (st.setT id (.cells cs' t)) a w' := by
  have hm := getT_mem hT
  have lt_of : ∀ {k c t}, (k, Blk.cells c t) ∈ st.tbl → ρ.nu k < w.heap.size := fun h => (Array.getElem?_eq_some_iff.1 (hR.heap.cells _ _ _ h)).1
  have mem : ∀ {k b}, (k, b) ∈ (st.setT id (.cells cs' t)).tbl → (k = id ∧ b = .cells cs' t) ∨ ((k, b) ∈ st.tbl ∧ k ≠ id) := by
    intro k b h
    simp only [St.setT, List.mem_cons, Prod.mk.injEq] at h
    rcases h with h | h
    · exact .inl h
    · exact .inr (dropT_mem h)
  refine ⟨hR.size, hR.defers, hR.slots, ?_⟩
  refine ⟨?_, ?_, ?_, ?_, ?_, ?_, ?_, ?_, ?_⟩
  · intro k c1 t1 h
    rcases mem h with ⟨rfl, he⟩ | ⟨h, hne⟩
    · injection he with h1 h2; subst h1; subst h2; exact hnew
    · rw [hc.block _ (hR.heap.apart _ _ _ _ _ _ h hm hne) (lt_of h)]; exact hR.heap.cells _ _ _ h
  · intro k sz n el h
    rcases mem h with ⟨rfl, he⟩ | ⟨h, hne⟩
    · cases he
    · refine (hR.heap.rows k sz n el h).keep hc.size fun ad had hn0 => ?_
      obtain ⟨ad', h1, _, h3, _⟩ := hR.heap.rows k sz n el h 0 hn0
      rw [h1] at had
      injection had with had
      subst had
      exact hc.block _ (fun e => hR.heap.rowNe k sz n el h hn0 id cs t hm _ h1 e.symm) h3
  · intro k sz n el h hn0 id' c1 t1 h' ad had
    rcases mem h with ⟨rfl, he⟩ | ⟨h, hne⟩
    · cases he
    · rcases mem h' with ⟨e, _⟩ | ⟨h', _⟩
      · rw [e]; exact hR.heap.rowNe k sz n el h hn0 _ cs t hm ad had
      · exact hR.heap.rowNe k sz n el h hn0 _ _ _ h' ad had
  · intro k c1 t1 k' c2 t2 h h' hne
    rcases mem h with ⟨e, _⟩ | ⟨h, _⟩ <;> rcases mem h' with ⟨e', _⟩ | ⟨h', _⟩
    · exact (hne (e.trans e'.symm)).elim
    · rw [e] at hne ⊢; exact hR.heap.apart _ _ _ _ _ _ hm h' hne
    · rw [e'] at hne ⊢; exact hR.heap.apart _ _ _ _ _ _ h hm hne
    · exact hR.heap.apart _ _ _ _ _ _ h h' hne
  · intro k b h
    rcases mem h with ⟨rfl, _⟩ | ⟨h, _⟩
    · exact hR.heap.ids _ _ hm
    · exact hR.heap.ids _ _ h
  · intro k c1 t1 h
    rcases mem h with ⟨rfl, he⟩ | ⟨h, _⟩
    · injection he with h1 h2; subst h1; exact hl
    · exact hR.heap.clt _ _ _ h
  · intro k sz n el h i
    rcases mem h with ⟨rfl, he⟩ | ⟨h, _⟩
    · cases he
    · exact hR.heap.rlt _ _ _ _ h i
  · intro b J hb
    refine (hR.heap.base b J hb).trans hc fun k hk hlt e => ?_
    have := hR.heap.free b J hb id cs t hm (e ▸ hk)
    omega
  · intro b J hb k c1 t1 h hJ
    rcases mem h with ⟨rfl, _⟩ | ⟨h, _⟩
    · exact hR.heap.free b J hb _ _ _ hm hJ
    · exact hR.heap.free b J hb _ _ _ h hJ
/-- Less is asked of the base. -/
theorem Rep.weaken {w0 : World} (h : Rep ρ (B0 w0) N st a w) (J : Nat → Prop) (hf : ∀ id cs t, (id, Blk.cells cs t) ∈ st.tbl → J (ρ.nu id) → w0.heap.size ≤ ρ.nu id := by exact fun _ _ _ h => nomatch h) : Rep ρ [(w0, J)] N st a w :=
  ⟨h.size, h.defers, h.slots, ⟨h.heap.cells, h.heap.rows, h.heap.rowNe, h.heap.apart, h.heap.ids, h.heap.clt, h.heap.rlt, fun b J' hm => by
    obtain ⟨rfl, rfl⟩ := Prod.mk.inj (List.mem_singleton.1 hm)
    exact h.heap.since0.mono fun _ _ _ => trivial, fun b J' hm => by
    obtain ⟨rfl, rfl⟩ := Prod.mk.inj (List.mem_singleton.1 hm)
    exact hf⟩⟩
/-- An operation that yields a value, by hand. -/
theorem hand_val {o : Oper} {Q : Exit → Act → World → Prop} {K : Act → World → Prop} {x : Value} (d : Option Tmp) (hd : o.dst = d) (hr : (execOp a.eval o).run P w = .ok (.value x) w') (h : K (a.put d x) w') : o.wp P a w K Q := by
  subst hd
  unfold Oper.wp
  rw [hr]
  exact h
/-- A call of a closure, by hand. -/
theorem hand_closure {o : Oper} {Q : Exit → Act → World → Prop} {K : Act → World → Prop} {f : FuncId} {lb : Array Value} {cv : Operand} {xs : Array Operand} {ts : Array TypeId} (d : Option Tmp) (hd : o.dst = d) (ho : o.op = .call { callee := .value cv, args := xs, argTypes := ts })
    (hf : P.funcs[f]? = some fn) (hb : fn.body.isSome = true) (hn : fn.name ≠ "runtime.NumGoroutine") (hcv : a.eval cv = .func (.func f) #[] lb)
    (h : Calls P f (xs.map a.eval ++ lb) w fun e w' => ∃ v, e = .returned v ∧ K (a.put d v) w') : o.wp P a w K Q := by
  subst hd
  have hbn : fn.body.isNone = false := by
    cases hbd : fn.body with
    | none => rw [hbd] at hb; simp at hb
    | some c => rfl
  have hbn' : ¬ fn.body = none := by intro e; rw [e] at hbn; cases hbn
  have hrun : (execOp a.eval o).run P w = .ok (.enter f (xs.map a.eval ++ lb)) w := by
    simp [execOp, ho, resolve, hcv, Deferred.ofValue, invoke, callFunc, hf, hn, hbn']
  unfold Oper.wp
  rw [hrun]
  refine Calls.mono h fun e w' he => ?_
  obtain ⟨v, rfl, hk⟩ := he
  exact hk
end
end Go.Sx
