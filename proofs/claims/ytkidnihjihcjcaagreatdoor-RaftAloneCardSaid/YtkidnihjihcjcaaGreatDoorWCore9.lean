/- Walks of package raft, ninth part: one who is alone begins to lead. -/
import Derived.Test.YtkidnihjihcjcaaGreatDoorWCore8
set_option linter.unusedSimpArgs false
set_option linter.unusedVariables false
set_option maxRecDepth 20000
namespace Go.Sx
open Go.Proofs
variable {J J' : Nat → Prop} {w0 : World} {b : Nat} {c : Core} {x : CoreV}
/-- What a member's cells lead to. -/
structure CoreO (J : Nat → Prop) (w : World) (c : Core) (x : CoreV) : Prop where
  kept : KeptR J w c.kept x.k
  votes : Ints J w (.slice x.VA c.votes.length x.Vc) c.votes
  peers : w.heap[x.pe]? = some (.map #[] 0)
  pj : J x.pe
theorem CoreR.o {w : World} (h : CoreR J w b c x) : CoreO J w c x := ⟨h.kept, h.votes, h.peers, h.pj⟩
theorem CoreO.keep {J1 : Nat → Prop} {w w' : World} (h : CoreO J w c x) (hs : Since w J1 w') (hJ : ∀ k, J k → k < w.heap.size → J1 k) : CoreO J w' c x := by
  have hlt := (Array.getElem?_eq_some_iff.1 h.peers).1
  exact ⟨h.kept.keep hs hJ, h.votes.keep hs hJ, by rw [hs.block _ (hJ _ h.pj hlt) hlt, h.peers], h.pj⟩
theorem CoreO.weak {w : World} (h : CoreO J w c x) (hJ : ∀ k, J k → J' k) : CoreO J' w c x := ⟨h.kept.weak hJ, h.votes.weak hJ, h.peers, hJ _ h.pj⟩
theorem CoreO.r {w : World} (h : CoreO J w c x) (hc : w.heap[b]? = some (.cells (denL env0 (coreS c x)).toArray 59 (0, 0))) : CoreR J w b c x := ⟨hc, h.kept, h.votes, h.peers, h.pj⟩
/-- The cells as the state has them. -/
theorem cellW {ρ : Env} {B : Bases} {st : St} {w : World} {cs : List SV} {t : TypeId} (hs : Env.Same 1 (envW b) ρ) (hH : Heap ρ B st w) (hT : getT st.tbl 0 = some (.cells cs t)) : w.heap[b]? = some (.cells (denL ρ cs).toArray t (0, 0)) := by
  have := hH.cells 0 _ _ (getT_mem hT)
  rwa [← (hs 0 (by decide)).1] at this
theorem CoreO.relog {J2 J8 J9 : Nat → Prop} {w2 w8 w : World} (hO : CoreO J w2 c x) (hs2 : Since w2 J2 w) (hj2 : ∀ k, J k → k < w2.heap.size → J2 k) {A8 : Option Addr} {k8 : Nat} {g' : Lg} (hE : Ents J8 w8 (.slice A8 g'.l.length k8) g'.l) (hs8 : Since w8 J9 w) (hj8 : ∀ k, J8 k → k < w8.heap.size → J9 k) (hj : ∀ k, J8 k → J k)
    (c' : Core) (e1 : c'.log = g') (e2 : c'.conf = c.conf) (e3 : c'.snap = c.snap) (e4 : c'.votes = c.votes) (hcell : w.heap[b]? = some (.cells (denL env0 (coreS c' { x with k := { x.k with LA := A8, Lc := k8 } })).toArray 59 (0, 0))) : CoreR J w b c' { x with k := { x.k with LA := A8, Lc := k8 } } := by
  have hO' := hO.keep hs2 hj2
  subst e1
  refine ⟨hcell, ⟨(hE.keep hs8 hj8).weak hj, ?_, ?_⟩, ?_, hO'.peers, hO'.pj⟩
  · show Ints J w (.slice x.k.CA c'.conf.length x.k.Cc) c'.conf
    rw [e2]; exact hO'.kept.conf
  · show Bytes J w (.slice x.k.SA c'.snap.length x.k.Sc) c'.snap
    rw [e3]; exact hO'.kept.snap
  · show Ints J w (.slice x.VA c'.votes.length x.Vc) c'.votes
    rw [e4]; exact hO'.votes
theorem keysT_mem : ∀ {l : List (Nat × Blk)} {id : Nat} {b : Blk}, (id, b) ∈ l → id ∈ keysT l
  | [], _, _, h => by cases h
  | (i, b') :: l, id, b, h => by
    rcases List.mem_cons.1 h with h | h
    · injection h with h1 _; subst h1; exact List.mem_cons_self
    · exact List.mem_cons_of_mem _ (keysT_mem h)
theorem Rest.one {ρ : Env} {st : St} {k b : Nat} (h : ρ.nu 0 = b) (hT : keysT st.tbl = [0]) (hk : k ≠ b) : Rest ρ st k := fun id cs t hm e => by
  have := keysT_mem hm
  rw [hT] at this
  obtain rfl := List.mem_singleton.1 this
  exact hk (e.trans h)
theorem hand_makeMap {P : Program} {ρ : Env} {B : Bases} {N : Nat} {st : St} {a : Act} {w : World} {o : Oper} {Q : Exit → Act → World → Prop} {K : Act → World → Prop} {t : TypeId} (d : Nat) (hd : o.dst = some d) (ho : o.op = .makeMap t none) (hR : Rep ρ B N st a w) (hdN : d.blt N = true)
    (h : ∀ w', Since w (fun _ => True) w' → w'.heap[w.heap.size]? = some (.map #[] 0) → Rep ρ B N (st.put d (.val (.map (some w.heap.size)))) (a.put (some d) (.map (some w.heap.size))) w' → K (a.put (some d) (.map (some w.heap.size))) w') : o.wp P a w K Q := by
  have hs : Since w (fun _ => True) (w.alloc (.map #[] 0)) := (Since.refl w _).alloc _
  refine hand_val (some d) hd (x := .map (some w.heap.size)) (w' := w.alloc (.map #[] 0)) ?_ (h _ hs (heap_alloc_new w _) ((hR.pure hs).resV d _ hdN))
  have hr : (Instr.makeMap t none).run P w = .ok (.map (some w.heap.size)) (w.alloc (.map #[] 0)) := rfl
  simp only [execOp, ho, Option.map, Sem.run_bind, hr, Result.andThen_ok, Sem.run_pure]
theorem lead_c {g' : Lg} (h : CoreR J w0 b c x) (hJ : ¬ J b) (hw : c.wf) (ha : c.alone) (h1 : 1 ≤ c.id) (h2 : c.id ≤ 64) (hcl : c.commit ≤ c.log.lastT.1) (hg : g'.wf) (he : c.log.add c.term 0 [] = (g', none)) :
    Calls Tryz.prog 44 #[coreP b] w0 (fun r w' => (∃ A k, r = .returned (.slice A 0 k)) ∧
      (∃ x', CoreR (fun k => J k ∨ w0.heap.size ≤ k) w' b { c with role := 2, leader := c.id, gone := 0, log := g', commit := c.log.lastT.1 + 1 } x') ∧ Since w0 (fun k => k ≠ b) w') := by
  have hbl : b < w0.heap.size := (Array.getElem?_eq_some_iff.1 h.cell).1
  have hJ' : ¬ (J b ∨ w0.heap.size ≤ b) := by rintro (hk | hk); exact hJ hk; omega
  have hjb : ∀ k, J k → k < w0.heap.size → k ≠ b := fun k hk _ e => hJ (e ▸ hk)
  obtain ⟨hadv, hlast⟩ := Core.add_adv he hcl
  have hgm := (Lg.add_may he).1
  have hgl : g'.l = c.log.l ++ [⟨c.log.last.1 + 1, c.term, 0, []⟩] := by rw [(Lg.add_ok he).2.2.2.2.2.2.2.2]
  refine enterW h 70 [] Tryz.func44 rfl rfl rfl rfl rfl fun a hR hs => ?_
  refine go [ResultVar.tmp 2] 200 (fun r => .hand (opNth (bodyOf Go.Proofs.Tryz.f44) [1, 0] 8) [.ops (opsAt (bodyOf Go.Proofs.Tryz.f44) [1, 0]) (List.drop 9 (opsAt (bodyOf Go.Proofs.Tryz.f44) [1, 0])), .code (codeAt (bodyOf Go.Proofs.Tryz.f44) [1, 1])] (⟨[(14, .int .i64 (c.id)), (10, .ptr 0 0), (9, .ptr 0 0), (8, .ptr 0 0), (7, .ptr 0 0), (2, .val (Value.slice none 0 0)), (0, .ptr 0 0)], [(0, .cells [.int .i64 (c.term), .int .i64 (c.vote), .int .i64 (c.log.base), .int .i64 (c.log.term), .val (Value.slice x.k.LA c.log.l.length x.k.Lc), .val (Value.slice x.k.CA c.conf.length x.k.Cc), .val (Value.slice x.k.SA c.snap.length x.k.Sc), .int .i64 (c.role), .int .i64 (c.leader), .int .i64 (c.commit), .int .i64 (c.round), .int .i64 (c.id), .int .i64 (c.span), .int .i64 (c.gone), .int .i64 (c.wait), .val (Value.slice x.VA c.votes.length x.Vc), .val (Value.map (some x.pe)), .int .i64 (x.bk), .val (Value.slice x.bA x.bn x.bc)] 59)], 1⟩ : St)) rfl (by kernel_rfl) (by kernel_rfl) (by kernel_rfl) hs hR ?_
  refine shand fun S ρ a w1 hs hR1 hS Q => ?_
  refine hand_makeMap 15 (by kernel_rfl) (t := 55) (by kernel_rfl) hR1 rfl fun w2 hs2 hm2 hR2 => ?_
  have hz1 := hR1.heap.since1.size
  have hrs2 := hR2.restObj hm2 rfl
  generalize hq : w1.heap.size = q at hm2 hR2 hrs2 ⊢
  have hR := hR2.snap
  have hO2 : CoreO (fun k => J k ∨ w0.heap.size ≤ k) w2 { c with role := 2, leader := c.id, gone := 0 } { x with pe := q } := by
    have h2 := ((h.o.keep hR1.heap.since1 hjb).keep hs2 fun _ _ _ => trivial).weak (J' := fun k => J k ∨ w0.heap.size ≤ k) fun k hk => .inl hk
    exact ⟨⟨h2.kept.log, h2.kept.conf, h2.kept.snap⟩, h2.votes, hm2, .inr (by show w0.heap.size ≤ q; omega)⟩
  have hne : ∀ k, (J k ∨ w0.heap.size ≤ k) → k ≠ b := fun k hk e => hJ' (e ▸ hk)
  have en : ρ.nu 0 = b := (hs 0 (by decide)).1.symm
  refine go [ResultVar.tmp 2] 200 (fun r => .call 38 [.ptr 0 0] (some 27) [.ops (opsAt (bodyOf Go.Proofs.Tryz.f44) [1, 1, 0, 0]) (List.drop 2 (opsAt (bodyOf Go.Proofs.Tryz.f44) [1, 1, 0, 0])), .code (codeAt (bodyOf Go.Proofs.Tryz.f44) [1, 1, 0, 1]), .code (codeAt (bodyOf Go.Proofs.Tryz.f44) [1, 1, 1])] (⟨[(2, .val (Value.slice none 0 0)), (0, .ptr 0 0)], [(0, .cells [.int .i64 (c.term), .int .i64 (c.vote), .int .i64 (c.log.base), .int .i64 (c.log.term), .val (Value.slice x.k.LA c.log.l.length x.k.Lc), .val (Value.slice x.k.CA c.conf.length x.k.Cc), .val (Value.slice x.k.SA c.snap.length x.k.Sc), .int .i64 (2), .int .i64 (c.id), .int .i64 (c.commit), .int .i64 (c.round), .int .i64 (c.id), .int .i64 (c.span), .int .i64 (0), .int .i64 (c.wait), .val (Value.slice x.VA c.votes.length x.Vc), .val (Value.map (some q)), .int .i64 (x.bk), .val (Value.slice x.bA x.bn x.bc)] 59)], 1⟩ : St)) rfl (by kernel_rfl) (by kernel_rfl) (by kernel_rfl) hs hR ?_
  refine scall fun S ρ a w3 hs hR3 hS => ?_
  have hC3 := (hO2.keep hR3.heap.since1 fun k hk _ => Rest.one en rfl (hne k hk)).r (b := b) (by rw [cellW hs hR3.heap rfl]; rfl)
  rw [denL, denW hs]
  have hw3 : ({ c with role := 2, leader := c.id, gone := 0 } : Core).wf := ⟨hw.kept, hw.term, hw.commit, hw.votes⟩
  have ha3 : ({ c with role := 2, leader := c.id, gone := 0 } : Core).alone := ⟨ha.conf, ha.plain⟩
  refine Calls.mono (othersA_c hC3 hw3 ha3) fun r w4 hq4 => ?_
  obtain ⟨A4, k4, rfl, hsn4⟩ := hq4
  refine ⟨_, rfl, ?_⟩
  have hR := (hR3.pure hsn4).resV 27 (.slice A4 0 k4) rfl
  refine go [ResultVar.tmp 2] 200 (fun r => .stop [.code (codeAt (bodyOf Go.Proofs.Tryz.f44) [1, 1, 0, 1, 0]), .blk 0, .code (codeAt (bodyOf Go.Proofs.Tryz.f44) [1, 1, 1])] (⟨[(29, .int .i64 (0)), (28, .int .i64 ((↑0 : Int))), (27, .val (Value.slice A4 0 k4)), (2, .val (Value.slice none 0 0)), (0, .ptr 0 0)], [(0, .cells [.int .i64 (c.term), .int .i64 (c.vote), .int .i64 (c.log.base), .int .i64 (c.log.term), .val (Value.slice x.k.LA c.log.l.length x.k.Lc), .val (Value.slice x.k.CA c.conf.length x.k.Cc), .val (Value.slice x.k.SA c.snap.length x.k.Sc), .int .i64 (2), .int .i64 (c.id), .int .i64 (c.commit), .int .i64 (c.round), .int .i64 (c.id), .int .i64 (c.span), .int .i64 (0), .int .i64 (c.wait), .val (Value.slice x.VA c.votes.length x.Vc), .val (Value.map (some q)), .int .i64 (x.bk), .val (Value.slice x.bA x.bn x.bc)] 59)], 1⟩ : St)) rfl (by kernel_rfl) (by kernel_rfl) (by kernel_rfl) hs hR ?_
  refine sstop fun S ρ a w5 hs hR5 hS => ?_
  let F : Nat → St := fun _ => ⟨[(0, .ptr 0 0), (28, .int .i64 0), (29, .int .i64 0)], [(0, .cells (coreS { c with role := 2, leader := c.id, gone := 0 } { x with pe := q }) 59)], 1⟩
  refine loopF (N := 70) 0 F (fun _ w => True) (fun i => i) 0 (by kernel_rfl) (by kernel_rfl) hs trivial (hR5.into (by kernel_rfl) (by kernel_rfl) rfl (ltT_cells rfl rfl (ltT_nil _))) ?_
  rintro i ρ a w6 hs _ hR6
  refine go [ResultVar.tmp 2] 400 (fun r => .br (false) (.hand (opNth (bodyOf Go.Proofs.Tryz.f44) [1, 1, 0, 1, 0, 0, 1, 1, 0, 0, 0] 0) [.ops (opsAt (bodyOf Go.Proofs.Tryz.f44) [1, 1, 0, 1, 0, 0, 1, 1, 0, 0, 0]) (List.drop 1 (opsAt (bodyOf Go.Proofs.Tryz.f44) [1, 1, 0, 1, 0, 0, 1, 1, 0, 0, 0])), .code (codeAt (bodyOf Go.Proofs.Tryz.f44) [1, 1, 0, 1, 0, 0, 1, 1, 0, 0, 1]), .blk 1, .code (codeAt (bodyOf Go.Proofs.Tryz.f44) [1, 1, 0, 1, 0, 0, 1, 1, 1]), .mark 0, .code (codeAt (bodyOf Go.Proofs.Tryz.f44) [1, 1, 0, 1, 0]), .blk 0, .code (codeAt (bodyOf Go.Proofs.Tryz.f44) [1, 1, 1])] (⟨[(30, .lit true), (0, .ptr 0 0), (28, .int .i64 (0)), (29, .int .i64 (0))], [(0, .cells [.int .i64 (c.term), .int .i64 (c.vote), .int .i64 (c.log.base), .int .i64 (c.log.term), .val (Value.slice x.k.LA c.log.l.length x.k.Lc), .val (Value.slice x.k.CA c.conf.length x.k.Cc), .val (Value.slice x.k.SA c.snap.length x.k.Sc), .int .i64 (2), .int .i64 (c.id), .int .i64 (c.commit), .int .i64 (c.round), .int .i64 (c.id), .int .i64 (c.span), .int .i64 (0), .int .i64 (c.wait), .val (Value.slice x.VA c.votes.length x.Vc), .val (Value.map (some q)), .int .i64 (x.bk), .val (Value.slice x.bA x.bn x.bc)] 59)], 1⟩ : St)) (.both (.call 21 [.agg [.int .i64 (c.log.base), .int .i64 (c.log.term), .val (Value.slice x.k.LA c.log.l.length x.k.Lc)], .int .i64 (c.term), .int .i64 (0), .val (Value.slice none 0 0)] (some 53) [.any 6 [0] (opsAt (bodyOf Go.Proofs.Tryz.f44) [1, 1, 1, 0]) [true, true, true, true, true, true, true, true, true, true, true, false, false, false, false, false, false], .code (codeAt (bodyOf Go.Proofs.Tryz.f44) [1, 1, 1, 1])] (⟨[(0, .ptr 0 0)], [(0, .cells [.int .i64 (c.term), .int .i64 (c.vote), .int .i64 (c.log.base), .int .i64 (c.log.term), .val (Value.slice x.k.LA c.log.l.length x.k.Lc), .val (Value.slice x.k.CA c.conf.length x.k.Cc), .val (Value.slice x.k.SA c.snap.length x.k.Sc), .int .i64 (2), .int .i64 (c.id), .int .i64 (c.commit), .int .i64 (c.round), .int .i64 (c.id), .int .i64 (c.span), .int .i64 (0), .int .i64 (c.wait), .val (Value.slice x.VA c.votes.length x.Vc), .val (Value.map (some q)), .int .i64 (x.bk), .val (Value.slice x.bA x.bn x.bc)] 59)], 1⟩ : St)) (.call 21 [.agg [.int .i64 (c.log.base), .int .i64 (c.log.term), .val (Value.slice x.k.LA c.log.l.length x.k.Lc)], .int .i64 (c.term), .int .i64 (0), .val (Value.slice none 0 0)] (some 53) [.any 5 [0] (opsAt (bodyOf Go.Proofs.Tryz.f44) [1, 1, 1, 0]) [true, true, true, true, true, true, true, true, true, true, true, false, false, false, true, false, false], .code (codeAt (bodyOf Go.Proofs.Tryz.f44) [1, 1, 1, 1])] (⟨[(5, .ptr 1 0), (0, .ptr 0 0)], [(1, .cells [.int .i64 (0), .int .i64 (0), .val (Value.slice none 0 0)] 32), (0, .cells [.int .i64 (c.term), .int .i64 (c.vote), .int .i64 (c.log.base), .int .i64 (c.log.term), .val (Value.slice x.k.LA c.log.l.length x.k.Lc), .val (Value.slice x.k.CA c.conf.length x.k.Cc), .val (Value.slice x.k.SA c.snap.length x.k.Sc), .int .i64 (2), .int .i64 (c.id), .int .i64 (c.commit), .int .i64 (c.round), .int .i64 (c.id), .int .i64 (c.span), .int .i64 (0), .int .i64 (c.wait), .val (Value.slice x.VA c.votes.length x.Vc), .val (Value.map (some q)), .int .i64 (x.bk), .val (Value.slice x.bA x.bn x.bc)] 59)], 2⟩ : St)))) rfl (by kernel_rfl) (by kernel_rfl) (by kernel_rfl) hs hR6 ?_
  refine sbr (fun h1 => absurd h1 (by decide)) (fun _ => sboth (scall ?_) (scall ?_))
  all_goals
    intro S ρ a w7 hs hR7 hS
    have hO7 := hO2.keep hR7.heap.since1 fun k hk _ => Rest.one en rfl (hne k hk)
    have hz7 := hR7.heap.tail.since1.size
    have hnil : Bytes (fun _ => True) w7 (.slice none 0 0) [] := ⟨none, 0, rfl, Nat.le_refl _, Row.nil _ _ _ _ _⟩
    refine Calls.mono (Add_c c.term 0 (hO7.kept.log.weak (J' := fun _ => True) fun _ _ => trivial) hw.log hnil) fun r w8 hq8 => ?_
    rw [he] at hq8
    obtain ⟨v8, rfl, hE8, hsn8⟩ := hq8
    obtain ⟨A8, k8, rfl⟩ := hE8.form
    refine ⟨_, rfl, ?_⟩
    have hR := ((hR7.pure hsn8).res (d := 53) (v := .tup [.agg [.int .i64 g'.base, .int .i64 g'.term, .val (.slice A8 g'.l.length k8)], .err 54 none]) rfl rfl rfl rfl).snap
    have hS := hS.put 53 (.tup [.agg [.int .i64 g'.base, .int .i64 g'.term, .val (.slice A8 g'.l.length k8)], .err 54 none])
    refine goA [ResultVar.tmp 2] 400 (fun r => .br (false) (.call 52 [.ptr 0 0, .int .i64 (0)] (some 59) [.ops (opsAt (bodyOf Go.Proofs.Tryz.f44) [1, 1, 1, 1, 0, 1, 0, 0]) (List.drop 2 (opsAt (bodyOf Go.Proofs.Tryz.f44) [1, 1, 1, 1, 0, 1, 0, 0])), .code (codeAt (bodyOf Go.Proofs.Tryz.f44) [1, 1, 1, 1, 0, 1, 0, 1]), .code (codeAt (bodyOf Go.Proofs.Tryz.f44) [1, 1, 1, 1, 1])] (⟨[(5, .ptr 1 0), (0, .ptr 0 0)], [(1, .cells [.int .i64 (g'.base), .int .i64 (g'.term), .val (Value.slice A8 g'.l.length k8)] 32), (0, .cells [.int .i64 (c.term), .int .i64 (c.vote), .int .i64 (c.log.base), .int .i64 (c.log.term), .val (Value.slice x.k.LA c.log.l.length x.k.Lc), .val (Value.slice x.k.CA c.conf.length x.k.Cc), .val (Value.slice x.k.SA c.snap.length x.k.Sc), .int .i64 (2), .int .i64 (c.id), .int .i64 (c.commit), .int .i64 (c.round), .int .i64 (c.id), .int .i64 (c.span), .int .i64 (0), .int .i64 (c.wait), .val (Value.slice x.VA c.votes.length x.Vc), .val (Value.map (some q)), .int .i64 (x.bk), .val (Value.slice x.bA x.bn x.bc)] 59)], 2⟩ : St)) (.call 17 [.ptr 0 0] (some 66) [.ops (opsAt (bodyOf Go.Proofs.Tryz.f44) [1, 1, 1, 1, 1, 1, 0]) (List.drop 2 (opsAt (bodyOf Go.Proofs.Tryz.f44) [1, 1, 1, 1, 1, 1, 0])), .code (codeAt (bodyOf Go.Proofs.Tryz.f44) [1, 1, 1, 1, 0, 1, 0, 1, 1])] (⟨[(0, .ptr 0 0)], [(0, .cells [.int .i64 (c.term), .int .i64 (c.vote), .int .i64 (g'.base), .int .i64 (g'.term), .val (Value.slice A8 g'.l.length k8), .val (Value.slice x.k.CA c.conf.length x.k.Cc), .val (Value.slice x.k.SA c.snap.length x.k.Sc), .int .i64 (2), .int .i64 (c.id), .int .i64 (c.commit), .int .i64 (c.round), .int .i64 (c.id), .int .i64 (c.span), .int .i64 (0), .int .i64 (c.wait), .val (Value.slice x.VA c.votes.length x.Vc), .val (Value.map (some q)), .int .i64 (x.bk), .val (Value.slice x.bA x.bn x.bc)] 59), (1, .cells [.int .i64 (g'.base), .int .i64 (g'.term), .val (Value.slice A8 g'.l.length k8)] 32)], 2⟩ : St))) rfl (by kernel_rfl) hS (by kernel_rfl) hs hR ?_
    refine sbr (fun h1 => absurd h1 (by decide)) (fun _ => scall fun S ρ a w9 hs hR9 hS => ?_)
    have hw9 : ({ c with role := 2, leader := c.id, gone := 0, log := g' } : Core).wf := ⟨⟨hg, hw.kept.conf, hw.kept.snap⟩, hw.term, hw.commit, hw.votes⟩
    have ha9 : ({ c with role := 2, leader := c.id, gone := 0, log := g' } : Core).alone := ⟨ha.conf, fun e hm => by
      have hm : e ∈ g'.l := hm
      rw [hgl] at hm
      rcases List.mem_append.1 hm with hm | hm
      · exact ha.plain e hm
      · obtain rfl := List.mem_singleton.1 hm; show (0 : Int) ≠ 2; decide⟩
    have hC9 := hO2.relog (b := b) hR9.heap.tail.since1 (fun k hk _ => Rest.one en rfl (hne k hk)) hE8 hR9.heap.since1 (fun k hk _ => hR7.rest hk) (fun k hk => .inr (Nat.le_trans hz7 hk)) { c with role := 2, leader := c.id, gone := 0, log := g' } rfl rfl rfl rfl (by rw [cellW hs hR9.heap rfl]; rfl)
    rw [denL, denW hs]
    refine Calls.mono (sendAllA_c hC9 hw9 ha9) fun r w10 hq10 => ?_
    obtain ⟨rfl, hsn10⟩ := hq10
    refine ⟨_, rfl, ?_⟩
    have hR := (hR9.pure hsn10).resV 66 (.slice none 0 0) rfl
    refine go [ResultVar.tmp 2] 200 (fun r => .call 23 [.ptr 0 0] (some 68) [.ops (opsAt (bodyOf Go.Proofs.Tryz.f44) [1, 1, 1, 1, 1, 1, 0]) (List.drop 4 (opsAt (bodyOf Go.Proofs.Tryz.f44) [1, 1, 1, 1, 1, 1, 0])), .code (codeAt (bodyOf Go.Proofs.Tryz.f44) [1, 1, 1, 1, 0, 1, 0, 1, 1])] (⟨[(66, .val (Value.slice none 0 0))], [(0, .cells [.int .i64 (c.term), .int .i64 (c.vote), .int .i64 (g'.base), .int .i64 (g'.term), .val (Value.slice A8 g'.l.length k8), .val (Value.slice x.k.CA c.conf.length x.k.Cc), .val (Value.slice x.k.SA c.snap.length x.k.Sc), .int .i64 (2), .int .i64 (c.id), .int .i64 (c.commit), .int .i64 (c.round), .int .i64 (c.id), .int .i64 (c.span), .int .i64 (0), .int .i64 (c.wait), .val (Value.slice x.VA c.votes.length x.Vc), .val (Value.map (some q)), .int .i64 (x.bk), .val (Value.slice x.bA x.bn x.bc)] 59), (1, .cells [.int .i64 (g'.base), .int .i64 (g'.term), .val (Value.slice A8 g'.l.length k8)] 32)], 2⟩ : St)) rfl (by kernel_rfl) (by kernel_rfl) (by kernel_rfl) hs hR ?_
    refine scall fun S ρ a w11 hs hR11 hS => ?_
    have hC11 := hO2.relog (b := b) hR11.heap.tail.since1 (fun k hk _ => Rest.one en rfl (hne k hk)) hE8 hR11.heap.since1 (fun k hk _ => hR7.rest hk) (fun k hk => .inr (Nat.le_trans hz7 hk)) { c with role := 2, leader := c.id, gone := 0, log := g' } rfl rfl rfl rfl (by rw [cellW hs hR11.heap rfl]; rfl)
    rw [denL, denW hs]
    refine Calls.mono (advanceA_c hC11 hJ' hw9 ha9 h1 h2 hgm hadv) fun r w12 hq12 => ?_
    obtain ⟨rfl, hC12, hsn12⟩ := hq12
    refine ⟨_, rfl, ?_⟩
    have en12 : ρ.nu 0 = b := (hs 0 (by decide)).1.symm
    have hR := ((hR11.recell 0 _ (coreS { c with role := 2, leader := c.id, gone := 0, log := g', commit := g'.lastT.1 } { x with pe := q, k := { x.k with LA := A8, Lc := k8 } }) _ rfl (hsn12.mono fun k hk _ => by rw [en12] at hk; exact hk) (by rw [en12, hC12.cell]; rfl) rfl).resV 68 (.slice none 0 0) rfl)
    refine go [ResultVar.tmp 2] 200 (fun r => .hand (opNth (bodyOf Go.Proofs.Tryz.f44) [1, 1, 1, 1, 1, 1, 0] 4) [.ops (opsAt (bodyOf Go.Proofs.Tryz.f44) [1, 1, 1, 1, 1, 1, 0]) (List.drop 5 (opsAt (bodyOf Go.Proofs.Tryz.f44) [1, 1, 1, 1, 1, 1, 0])), .code (codeAt (bodyOf Go.Proofs.Tryz.f44) [1, 1, 1, 1, 0, 1, 0, 1, 1])] (⟨[(68, .val (Value.slice none 0 0)), (66, .val (Value.slice none 0 0))], [(0, .cells [.int .i64 (c.term), .int .i64 (c.vote), .int .i64 (g'.base), .int .i64 (g'.term), .val (Value.slice A8 g'.l.length k8), .val (Value.slice x.k.CA c.conf.length x.k.Cc), .val (Value.slice x.k.SA c.snap.length x.k.Sc), .int .i64 (2), .int .i64 (c.id), .int .i64 (g'.lastT.fst), .int .i64 (c.round), .int .i64 (c.id), .int .i64 (c.span), .int .i64 (0), .int .i64 (c.wait), .val (Value.slice x.VA c.votes.length x.Vc), .val (Value.map (some q)), .int .i64 (x.bk), .val (Value.slice x.bA x.bn x.bc)] 59), (1, .cells [.int .i64 (g'.base), .int .i64 (g'.term), .val (Value.slice A8 g'.l.length k8)] 32)], 2⟩ : St)) rfl (by kernel_rfl) (by kernel_rfl) (by kernel_rfl) hs hR ?_
    refine shand fun S ρ a w13 hs hR13 hS Q => ?_
    refine hand_appendNil 69 (by kernel_rfl) (s := .tmp 66) (y := .tmp 68) (by kernel_rfl) (t := 36) (e := 86) (by kernel_rfl) (by kernel_rfl) hR13 rfl (hR13.ev (.tmp 66) (.val (.slice none 0 0)) rfl) (hR13.ev (.tmp 68) (.val (.slice none 0 0)) rfl) fun hR14 => ?_
    have hR := hR14
    refine go [ResultVar.tmp 2] 200 (fun r => .ret (.val (Value.slice none 0 0)) (⟨[], [(0, .cells [.int .i64 (c.term), .int .i64 (c.vote), .int .i64 (g'.base), .int .i64 (g'.term), .val (Value.slice A8 g'.l.length k8), .val (Value.slice x.k.CA c.conf.length x.k.Cc), .val (Value.slice x.k.SA c.snap.length x.k.Sc), .int .i64 (2), .int .i64 (c.id), .int .i64 (g'.lastT.fst), .int .i64 (c.round), .int .i64 (c.id), .int .i64 (c.span), .int .i64 (0), .int .i64 (c.wait), .val (Value.slice x.VA c.votes.length x.Vc), .val (Value.map (some q)), .int .i64 (x.bk), .val (Value.slice x.bA x.bn x.bc)] 59), (1, .cells [.int .i64 (g'.base), .int .i64 (g'.term), .val (Value.slice A8 g'.l.length k8)] 32)], 2⟩ : St)) rfl (by kernel_rfl) (by kernel_rfl) (by kernel_rfl) hs hR ?_
    refine sret fun ρ w hs hH => ⟨⟨none, 0, rfl⟩, ⟨_, hO2.relog (b := b) hH.tail.since1 (fun k hk _ => Rest.one en rfl (hne k hk)) hE8 hH.since1 (fun k hk _ => hR7.rest hk) (fun k hk => .inr (Nat.le_trans hz7 hk)) { c with role := 2, leader := c.id, gone := 0, log := g', commit := c.log.lastT.1 + 1 } rfl rfl rfl rfl (by rw [← hlast, cellW hs hH rfl]; rfl)⟩, hH.tail.tail.since1⟩
end Go.Sx
