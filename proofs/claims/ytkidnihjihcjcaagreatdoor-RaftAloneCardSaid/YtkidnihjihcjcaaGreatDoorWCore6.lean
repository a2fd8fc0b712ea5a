/- Walks of package raft, sixth part: what is committed by one who is alone. -/
import Derived.Test.YtkidnihjihcjcaaGreatDoorWCore5
import Derived.Test.YtkidnihjihcjcaaGreatDoorWConf4
import Derived.Maps.RangeRun
set_option linter.unusedSimpArgs false
set_option linter.unusedVariables false
set_option maxRecDepth 20000
namespace Go.Sx
open Go.Proofs
variable {J : Nat → Prop} {w0 : World} {b : Nat} {c : Core} {x : CoreV}
abbrev envW (b : Nat) : Env := ⟨fun _ => b, fun _ => none⟩
abbrev BW (w : World) (b : Nat) : Bases := [(w, fun k => k ≠ b)]
/-- The begin of a call that writes a member. -/
theorem enterW {w : World} {P : Program} {fn : Func} {R : Ending → World → Prop} {f : FuncId} (h : CoreR J w b c x) (N : Nat) (vs : List SV) (hf : P.funcs[f]? = some fn) (hb : fn.body.isSome = true) (hN : fn.ntmps = N) (hl : Nat.ble (vs.length + 1) N = true) (hlt : ltL 1 vs = true) (hg : gdFree vs = true)
    (hk : ∀ a, Rep (envW b) (BW w b) N ⟨(0, .ptr 0 0) :: initS 1 vs, [(0, .cells (coreS c x) 59)], 1⟩ a w → Env.Same 1 (envW b) (envW b) → Kh P fn R (fun _ _ _ => False) (fun _ => True) [.code (bodyOf fn)] a w) : Calls P f (coreP b :: denL (envW b) vs).toArray w R := by
  have := enter (ρ0 := envW b) (n0 := 1) (B := BW w b) (tbl := [(0, .cells (coreS c x) 59)]) N (.ptr 0 0 :: vs) hf hb hN (Nat.le_of_ble_eq_true hl) (by simp [ltL, SV.lt, hlt, Nat.blt]) hg
    (Heap.addCells (Heap.nil _ _ _ fun b' J' h => by
      obtain ⟨rfl, rfl⟩ := Prod.mk.inj (List.mem_singleton.1 h)
      exact Since.refl _ _) (by rw [h.cell]; rfl) (by decide) rfl (fun _ _ _ h => nomatch h) (fun _ _ _ _ h => nomatch h) (fun b' J' hm hJ => by
      obtain ⟨rfl, rfl⟩ := Prod.mk.inj (List.mem_singleton.1 hm)
      exact (hJ rfl).elim)) fun a hR => hk a hR (Env.Same.refl _ _)
  exact this
theorem CoreR.move {w : World} (h : CoreR J w0 b c x) (hs : Since w0 (fun k => k ≠ b) w) (hJ : ¬ J b) (c' : Core) (hc : w.heap[b]? = some (.cells (denL env0 (coreS c' x)).toArray 59 (0, 0))) (h1 : c'.log.l = c.log.l) (h2 : c'.conf = c.conf) (h3 : c'.snap = c.snap) (h4 : c'.votes = c.votes) : CoreR J w b c' x := by
  have hj : ∀ k, J k → k < w0.heap.size → k ≠ b := fun k hk _ e => hJ (e ▸ hk)
  refine ⟨hc, ⟨?_, ?_, ?_⟩, ?_, ?_, h.pj⟩
  · have := h.kept.log.keep hs hj
    show Ents J w (.slice x.k.LA c'.log.l.length x.k.Lc) c'.log.l
    rw [h1]; exact this
  · have := h.kept.conf.keep hs hj
    show Ints J w (.slice x.k.CA c'.conf.length x.k.Cc) c'.conf
    rw [h2]; exact this
  · have := h.kept.snap.keep hs hj
    show Bytes J w (.slice x.k.SA c'.snap.length x.k.Sc) c'.snap
    rw [h3]; exact this
  · have := h.votes.keep hs hj
    rw [h4]; exact this
  · have hlt := (Array.getElem?_eq_some_iff.1 h.peers).1
    rw [hs.block _ (hj _ h.pj hlt) hlt, h.peers]
theorem denW {ρ : Env} {b : Nat} (hs : Env.Same 1 (envW b) ρ) : (SV.ptr 0 0).den ρ = coreP b := by
  simp [SV.den, ← (hs 0 (by decide)).1]
/-- The member as the state has it. -/
theorem CoreR.now {ρ : Env} {w : World} {st : St} {B : Bases} (h : CoreR J w0 b c x) (hJ : ¬ J b) (hs : Env.Same 1 (envW b) ρ) (hH : Heap ρ B st w) (hB : Since w0 (fun k => k ≠ b) w) (c' : Core) (hT : getT st.tbl 0 = some (.cells (coreS c' x) 59)) (h1 : c'.log.l = c.log.l) (h2 : c'.conf = c.conf) (h3 : c'.snap = c.snap) (h4 : c'.votes = c.votes) : CoreR J w b c' x := by
  refine h.move hB hJ c' ?_ h1 h2 h3 h4
  have := hH.cells 0 _ _ (getT_mem hT)
  rw [← (hs 0 (by decide)).1] at this
  rw [this]
  rfl
theorem CoreR.weak {J' : Nat → Prop} {w : World} (h : CoreR J w b c x) (hJ : ∀ k, J k → J' k) : CoreR J' w b c x := ⟨h.cell, h.kept.weak hJ, h.votes.weak hJ, h.peers, hJ _ h.pj⟩
/-- The member as the state has it, its log another one. -/
theorem CoreR.nowL {J' : Nat → Prop} {ρ : Env} {w : World} {st : St} {B : Bases} (h : CoreR J w0 b c x) (hJ : ¬ J b) (hs : Env.Same 1 (envW b) ρ) (hH : Heap ρ B st w) (hB : Since w0 (fun k => k ≠ b) w) (c' : Core) (A2 : Option Addr) (k2 : Nat)
    (hT : getT st.tbl 0 = some (.cells (coreS c' { x with k := { x.k with LA := A2, Lc := k2 } }) 59)) (hE : Ents J' w (.slice A2 c'.log.l.length k2) c'.log.l) (hJJ : ∀ k, J k → J' k) (h2 : c'.conf = c.conf) (h3 : c'.snap = c.snap) (h4 : c'.votes = c.votes) :
    CoreR J' w b c' { x with k := { x.k with LA := A2, Lc := k2 } } := by
  have hj : ∀ k, J k → k < w0.heap.size → k ≠ b := fun k hk _ e => hJ (e ▸ hk)
  refine ⟨?_, ⟨hE, ?_, ?_⟩, ?_, ?_, hJJ _ h.pj⟩
  · have := hH.cells 0 _ _ (getT_mem hT)
    rw [← (hs 0 (by decide)).1] at this
    rw [this]
    rfl
  · have := h.kept.conf.keep hB hj
    show Ints J' w (.slice x.k.CA c'.conf.length x.k.Cc) c'.conf
    rw [h2]; exact this.weak hJJ
  · have := h.kept.snap.keep hB hj
    show Bytes J' w (.slice x.k.SA c'.snap.length x.k.Sc) c'.snap
    rw [h3]; exact this.weak hJJ
  · have := h.votes.keep hB hj
    show Ints J' w (.slice x.VA c'.votes.length x.Vc) c'.votes
    rw [h4]; exact this.weak hJJ
  · have hlt := (Array.getElem?_eq_some_iff.1 h.peers).1
    show w.heap[x.pe]? = _
    rw [hB.block _ (hj _ h.pj hlt) hlt, h.peers]
theorem hand_range {P : Program} {ρ : Env} {B : Bases} {N : Nat} {st : St} {a : Act} {w : World} {o : Oper} {Q : Exit → Act → World → Prop} {K : Act → World → Prop} {t k e : TypeId} {y : Operand} {bm : Nat} (d : Nat) (hd : o.dst = some d) (ho : o.op = .range t y) (ht : P.underlying t = some (.map k e)) (hR : Rep ρ B N st a w) (hdN : d.blt N = true)
    (hy : a.eval y = .map (some bm)) (hm : w.heap[bm]? = some (.map #[] 0))
    (h : ∀ w', Since w (fun _ => True) w' → w'.heap[w.heap.size]? = some (.mapIter (some bm) 0 #[] 0) → Rep ρ B N (st.put d (.val (.pointer (some ⟨w.heap.size, 0, none⟩)))) (a.put (some d) (.pointer (some ⟨w.heap.size, 0, none⟩))) w' → K (a.put (some d) (.pointer (some ⟨w.heap.size, 0, none⟩))) w') : o.wp P a w K Q := by
  have hs : Since w (fun _ => True) (w.alloc (.mapIter (some bm) 0 #[] 0)) := (Since.refl w _).alloc _
  refine hand_val (some d) hd (x := .pointer (some ⟨w.heap.size, 0, none⟩)) (w' := w.alloc (.mapIter (some bm) 0 #[] 0)) ?_ (h _ hs (heap_alloc_new w _) ((hR.pure hs).resV d _ hdN))
  simp only [execOp, ho, hy, Sem.run_bind, run_range_map w t k e bm #[] 0 ht hm, Result.andThen_ok, Sem.run_pure]
theorem hand_next {P : Program} {ρ : Env} {B : Bases} {N : Nat} {st : St} {a : Act} {w : World} {o : Oper} {Q : Exit → Act → World → Prop} {K : Act → World → Prop} {y : Operand} {bm r : Nat} (d : Nat) (hd : o.dst = some d) (ho : o.op = .next y false) (hR : Rep ρ B N st a w) (hdN : d.blt N = true)
    (hy : a.eval y = .pointer (some ⟨r, 0, none⟩)) (hr : w.heap[r]? = some (.mapIter (some bm) 0 #[] 0)) (hm : w.heap[bm]? = some (.map #[] 0))
    (h : Rep ρ B N (st.put d (.tup [.lit false])) (a.put (some d) (.tuple #[.bool false])) w → K (a.put (some d) (.tuple #[.bool false])) w) : o.wp P a w K Q := by
  refine hand_val (some d) hd (x := .tuple #[.bool false]) (w' := w) ?_ (h (hR.res (d := d) (v := .tup [.lit false]) hdN rfl rfl rfl))
  rcases run_next_at (P := P) w o.type r bm 0 0 #[] #[] 0 hr hm (fun _ h => by simp at h) (Nat.le_refl _) with ⟨_, hrun⟩ | ⟨e, he, _⟩
  · simp only [execOp, ho, hy, Sem.run_bind, hrun, Result.andThen_ok, Sem.run_pure]
  · simp [leftOf] at he
theorem Rep.restObj {ρ : Env} {B : Bases} {N : Nat} {st : St} {a : Act} {w : World} (hR : Rep ρ B N st a w) {k : Nat} {o : Obj} (h : w.heap[k]? = some o) (ho : o.isCells = false) : Rest ρ st k := fun id cs t hm e => by
  have := hR.heap.cells id cs t hm
  rw [← e, h] at this
  injection this with this
  subst this
  cases ho
theorem Since.at {b w : World} {J : Nat → Prop} (hs : Since b J w) {k : Nat} {o : Obj} (h : b.heap[k]? = some o) (hJ : J k) : w.heap[k]? = some o := by
  rw [hs.block k hJ (Array.getElem?_eq_some_iff.1 h).1, h]
/-- A row of one, in a block that is known whole. -/
theorem Rep.slc1 {ρ : Env} {B : Bases} {N : Nat} {st : St} {a : Act} {w : World} (hR : Rep ρ B N st a w) (id : Nat) (cs : List SV) (t : TypeId) (hT : getT st.tbl id = some (.cells cs t)) (hl : ltL 0 cs = true) : Slc (fun k => k = ρ.nu id) w (.slice (some ⟨ρ.nu id, 0, none⟩) 1 1) cs.length 1 fun _ => cs :=
  ⟨_, 1, rfl, Nat.le_refl _, fun i hi => by
    obtain rfl : i = 0 := by omega
    refine ⟨⟨ρ.nu id, 0, none⟩, rfl, rfl, hR.below (getT_mem hT), rfl, rfl, hl, fun j v hv => ?_⟩
    have := cells_cell (hR.heap.cells id cs t (getT_mem hT)) hv
    simp only [Nat.zero_mul, Nat.zero_add]
    rw [this]
    rw [SV.den_same (n := 0) (ρ := ⟨fun _ => 0, fun _ => none⟩) (ρ' := ρ) (fun i hi => (by omega)) v (ltL_all.1 hl v (List.mem_of_getElem? hv))]⟩
end Go.Sx
