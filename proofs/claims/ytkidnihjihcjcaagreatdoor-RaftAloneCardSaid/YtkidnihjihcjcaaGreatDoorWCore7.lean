/- Walks of package raft, seventh part: a wait, a follower, what is committed. -/
import Derived.Test.YtkidnihjihcjcaaGreatDoorWCore6
set_option linter.unusedSimpArgs false
set_option linter.unusedVariables false
set_option maxRecDepth 20000
namespace Go.Sx
open Go.Proofs
variable {J : Nat → Prop} {w0 : World} {b : Nat} {c : Core} {x : CoreV}
def waitM (span draw : Int) : Int := IntKind.i64.wrap (span + IntKind.i64.wrap ((IntKind.u64.wrap draw).tmod (IntKind.u64.wrap (IntKind.i64.wrap (span + 1)))))
def Core.draws (c : Core) (draw : Int) : Core := { c with gone := 0, wait := waitM c.span draw }
theorem draws_c (h : CoreR J w0 b c x) (hJ : ¬ J b) (draw : Int) (hs1 : 2 ≤ c.span) (hs2 : c.span ≤ 1000) :
    Calls Tryz.prog 16 #[coreP b, .int .i64 draw] w0 (fun r w' => r = .returned (.tuple #[]) ∧ CoreR J w' b (c.draws draw) x ∧ Since w0 (fun k => k ≠ b) w') := by
  refine enterW h 25 [.int .i64 draw] Tryz.func16 rfl rfl rfl rfl rfl fun a hR hs => ?_
  refine go [] 200 (fun r => .both (.need (decide (0 < IntKind.u64.wrap (IntKind.i64.wrap (c.span + 1)))) (.ret (.tup []) (⟨[], [(0, .cells [.int .i64 (c.term), .int .i64 (c.vote), .int .i64 (c.log.base), .int .i64 (c.log.term), .val (Value.slice x.k.LA c.log.l.length x.k.Lc), .val (Value.slice x.k.CA c.conf.length x.k.Cc), .val (Value.slice x.k.SA c.snap.length x.k.Sc), .int .i64 (c.role), .int .i64 (c.leader), .int .i64 (c.commit), .int .i64 (c.round), .int .i64 (c.id), .int .i64 (c.span), .int .i64 (0), .int .i64 (IntKind.i64.wrap (c.span + IntKind.i64.wrap ((IntKind.u64.wrap draw).tmod (IntKind.u64.wrap (IntKind.i64.wrap (c.span + 1)))))), .val (Value.slice x.VA c.votes.length x.Vc), .val (Value.map (some x.pe)), .int .i64 (x.bk), .val (Value.slice x.bA x.bn x.bc)] 59)], 1⟩ : St))) (.need (decide (0 < IntKind.u64.wrap (IntKind.i64.wrap (c.span + 1)))) (.ret (.tup []) (⟨[], [(0, .cells [.int .i64 (c.term), .int .i64 (c.vote), .int .i64 (c.log.base), .int .i64 (c.log.term), .val (Value.slice x.k.LA c.log.l.length x.k.Lc), .val (Value.slice x.k.CA c.conf.length x.k.Cc), .val (Value.slice x.k.SA c.snap.length x.k.Sc), .int .i64 (c.role), .int .i64 (c.leader), .int .i64 (c.commit), .int .i64 (c.round), .int .i64 (c.id), .int .i64 (c.span), .int .i64 (0), .int .i64 (IntKind.i64.wrap (c.span + IntKind.i64.wrap ((IntKind.u64.wrap draw).tmod (IntKind.u64.wrap (IntKind.i64.wrap (c.span + 1)))))), .val (Value.slice x.VA c.votes.length x.Vc), .val (Value.map (some x.pe)), .int .i64 (x.bk), .val (Value.slice x.bA x.bn x.bc)] 59)], 1⟩ : St)))) rfl (by kernel_rfl) (by kernel_rfl) (by kernel_rfl) hs hR ?_
  have hwr : 0 < IntKind.u64.wrap (IntKind.i64.wrap (c.span + 1)) := by
    rw [wrap_i64 (x := c.span + 1) (by omega) (by omega), IntKind.wrap_u64]; omega
  refine sboth (sneed (by simpa using hwr) ?_) (sneed (by simpa using hwr) ?_)
  all_goals exact sret fun ρ w hs hH => ⟨rfl, h.now hJ hs hH hH.since1 (c.draws draw) rfl rfl rfl rfl rfl, hH.since1⟩
def Core.follow (c : Core) (l : Int) : Core := { c with role := 0, leader := l }
theorem follow_c (h : CoreR J w0 b c x) (hJ : ¬ J b) (l : Int) :
    Calls Tryz.prog 52 #[coreP b, .int .i64 l] w0 (fun r w' => r = .returned (.tuple #[]) ∧ CoreR J w' b (c.follow l) x ∧ Since w0 (fun k => k ≠ b) w') := by
  refine enterW h 13 [.int .i64 l] Tryz.func52 rfl rfl rfl rfl rfl fun a hR hs => ?_
  refine go [] 200 (fun r => .ret (.tup []) (⟨[], [(0, .cells [.int .i64 (c.term), .int .i64 (c.vote), .int .i64 (c.log.base), .int .i64 (c.log.term), .val (Value.slice x.k.LA c.log.l.length x.k.Lc), .val (Value.slice x.k.CA c.conf.length x.k.Cc), .val (Value.slice x.k.SA c.snap.length x.k.Sc), .int .i64 (0), .int .i64 (l), .int .i64 (c.commit), .int .i64 (c.round), .int .i64 (c.id), .int .i64 (c.span), .int .i64 (c.gone), .int .i64 (c.wait), .val (Value.slice x.VA c.votes.length x.Vc), .val (Value.map (some x.pe)), .int .i64 (x.bk), .val (Value.slice x.bA x.bn x.bc)] 59)], 1⟩ : St)) rfl (by kernel_rfl) (by kernel_rfl) (by kernel_rfl) hs hR ?_
  exact sret fun ρ w hs hH => ⟨rfl, h.now hJ hs hH hH.since1 (c.follow l) rfl rfl rfl rfl rfl, hH.since1⟩
/-- Nothing appended to nothing. -/
theorem hand_appendNil {P : Program} {ρ : Env} {B : Bases} {N : Nat} {st : St} {a : Act} {w : World} {o : Oper} {Q : Exit → Act → World → Prop} {K : Act → World → Prop} {t e : TypeId} {s y : Operand} (d : Nat) (hd : o.dst = some d) (ho : o.op = .call { callee := .builtin .append, args := #[s, y], argTypes := #[t, t] })
    (ht : P.underlying t = some (.slice e)) (hi : (P.info? e).isSome = true) (hR : Rep ρ B N st a w) (hdN : d.blt N = true) (hs : a.eval s = .slice none 0 0) (hy : a.eval y = .slice none 0 0)
    (h : Rep ρ B N (st.put d (.val (.slice none 0 0))) (a.put (some d) (.slice none 0 0)) w → K (a.put (some d) (.slice none 0 0)) w) : o.wp P a w K Q := by
  obtain ⟨i, hi⟩ := Option.isSome_iff_exists.1 hi
  have hr : (Builtin.append_ #[t, t] o.type #[.slice none 0 0, .slice none 0 0]).run P w = .ok (.slice none 0 0) w := by
    simp [Builtin.append_, run_underlying ht, sizeOf, typeInfo, hi, Builtin.lenOf, Builtin.firstCells]
  refine hand_val (some d) hd (x := .slice none 0 0) (w' := w) ?_ (h (hR.resV d _ hdN))
  simp only [execOp, ho, resolve, invoke, builtin, Sem.run_bind, Sem.run_pure, Result.andThen_ok, List.map_toArray, List.map_cons, List.map_nil, hs, hy, hr]
/-- What one who is alone commits. -/
def Core.advOk (c : Core) : Prop := c.commit < c.log.lastT.1 ∧ (c.log.tell c.log.lastT.1).2 = none ∧ (c.log.tell c.log.lastT.1).1 = c.term
theorem advanceA_c (h : CoreR J w0 b c x) (hJ : ¬ J b) (hw : c.wf) (ha : c.alone) (h1 : 1 ≤ c.id) (h2 : c.id ≤ 64) (hm : c.log.may = true) (hadv : c.advOk) :
    Calls Tryz.prog 23 #[coreP b] w0 (fun r w' => r = .returned (.slice none 0 0) ∧ CoreR J w' b { c with commit := c.log.lastT.1 } x ∧ Since w0 (fun k => k ≠ b) w') := by
  refine enterW h 107 [] Tryz.func23 rfl rfl rfl rfl rfl fun a hR hs => ?_
  refine go [ResultVar.tmp 2] 200 (fun r => .call 22 [.ptr 0 0] (some 16) [.any 3 [0] (opsAt (bodyOf Go.Proofs.Tryz.f23) [1, 0]) [true, true, true, true, true, true, false, false, false], .code (codeAt (bodyOf Go.Proofs.Tryz.f23) [1, 1])] (⟨[(14, .int .i64 (c.id)), (2, .val (Value.slice none 0 0)), (0, .ptr 0 0)], [(0, .cells [.int .i64 (c.term), .int .i64 (c.vote), .int .i64 (c.log.base), .int .i64 (c.log.term), .val (Value.slice x.k.LA c.log.l.length x.k.Lc), .val (Value.slice x.k.CA c.conf.length x.k.Cc), .val (Value.slice x.k.SA c.snap.length x.k.Sc), .int .i64 (c.role), .int .i64 (c.leader), .int .i64 (c.commit), .int .i64 (c.round), .int .i64 (c.id), .int .i64 (c.span), .int .i64 (c.gone), .int .i64 (c.wait), .val (Value.slice x.VA c.votes.length x.Vc), .val (Value.map (some x.pe)), .int .i64 (x.bk), .val (Value.slice x.bA x.bn x.bc)] 59)], 1⟩ : St)) rfl (by kernel_rfl) (by kernel_rfl) (by kernel_rfl) hs hR ?_
  refine scall fun S ρ a w1 hs hR1 hS => ?_
  rw [denL, denW hs]
  refine Calls.mono (coreLast_c (h.now hJ hs hR1.heap hR1.heap.since1 c rfl rfl rfl rfl rfl) hw) fun r w2 he => ?_
  obtain ⟨rfl, hsn⟩ := he
  refine ⟨_, rfl, ?_⟩
  have hR := (hR1.pure hsn).res (d := 16) (v := .int .i64 c.log.lastT.1) rfl rfl rfl rfl
  have hS := hS.put 16 (.int .i64 c.log.lastT.1)
  refine goA [ResultVar.tmp 2] 200 (fun r => .hand (opNth (bodyOf Go.Proofs.Tryz.f23) [1, 1, 0, 0] 4) [.ops (opsAt (bodyOf Go.Proofs.Tryz.f23) [1, 1, 0, 0]) (List.drop 5 (opsAt (bodyOf Go.Proofs.Tryz.f23) [1, 1, 0, 0])), .code (codeAt (bodyOf Go.Proofs.Tryz.f23) [1, 1, 0, 1]), .code (codeAt (bodyOf Go.Proofs.Tryz.f23) [1, 1, 1])] (⟨[(22, .val (Value.map (some x.pe))), (3, .csl 1 0 (1) (1)), (2, .val (Value.slice none 0 0)), (0, .ptr 0 0)], [(1, .cells [.int .i64 (c.id), .int .i64 (c.log.lastT.fst)] 98), (0, .cells [.int .i64 (c.term), .int .i64 (c.vote), .int .i64 (c.log.base), .int .i64 (c.log.term), .val (Value.slice x.k.LA c.log.l.length x.k.Lc), .val (Value.slice x.k.CA c.conf.length x.k.Cc), .val (Value.slice x.k.SA c.snap.length x.k.Sc), .int .i64 (c.role), .int .i64 (c.leader), .int .i64 (c.commit), .int .i64 (c.round), .int .i64 (c.id), .int .i64 (c.span), .int .i64 (c.gone), .int .i64 (c.wait), .val (Value.slice x.VA c.votes.length x.Vc), .val (Value.map (some x.pe)), .int .i64 (x.bk), .val (Value.slice x.bA x.bn x.bc)] 59)], 2⟩ : St)) rfl (by kernel_rfl) hS (by kernel_rfl) hs hR ?_
  refine shand fun S ρ a w3 hs3 hR3 hS Q => ?_
  have hpe3 := (h.now hJ hs3 hR3.heap hR3.heap.since1 c rfl rfl rfl rfl rfl).peers
  refine hand_range 23 (by kernel_rfl) (t := 55) (y := .tmp 22) (by kernel_rfl) (k := 3) (e := 72) (by kernel_rfl) hR3 rfl (hR3.ev (.tmp 22) (.val (.map (some x.pe))) rfl) hpe3 fun w4 hs4 hit4 hR4 => ?_
  have hpe4 := hs4.at hpe3 trivial
  generalize w3.heap.size = q at hit4 hR4 ⊢
  have hR := hR4.snap
  have hrs := hR4.restObj hit4 rfl
  have hps := hR4.restObj hpe4 rfl
  have hs := hs3
  refine go [ResultVar.tmp 2] 200 (fun r => .stop [.code (codeAt (bodyOf Go.Proofs.Tryz.f23) [1, 1, 0, 1, 0]), .blk 0, .code (codeAt (bodyOf Go.Proofs.Tryz.f23) [1, 1, 1])] (⟨[(23, .val (Value.pointer (some { block := q, off := 0 }))), (3, .csl 1 0 (1) (1)), (2, .val (Value.slice none 0 0)), (0, .ptr 0 0)], [(1, .cells [.int .i64 (c.id), .int .i64 (c.log.lastT.fst)] 98), (0, .cells [.int .i64 (c.term), .int .i64 (c.vote), .int .i64 (c.log.base), .int .i64 (c.log.term), .val (Value.slice x.k.LA c.log.l.length x.k.Lc), .val (Value.slice x.k.CA c.conf.length x.k.Cc), .val (Value.slice x.k.SA c.snap.length x.k.Sc), .int .i64 (c.role), .int .i64 (c.leader), .int .i64 (c.commit), .int .i64 (c.round), .int .i64 (c.id), .int .i64 (c.span), .int .i64 (c.gone), .int .i64 (c.wait), .val (Value.slice x.VA c.votes.length x.Vc), .val (Value.map (some x.pe)), .int .i64 (x.bk), .val (Value.slice x.bA x.bn x.bc)] 59)], 2⟩ : St)) rfl (by kernel_rfl) (by kernel_rfl) (by kernel_rfl) hs hR ?_
  refine sstop fun S ρ a w5 hs hR5 hS => ?_
  have hit5 := hR5.heap.since1.at hit4 hrs
  have hpe5 := hR5.heap.since1.at hpe4 hps
  let F : Nat → St := fun _ => ⟨[(0, .ptr 0 0), (3, .csl 1 0 1 1), (23, .val (.pointer (some ⟨q, 0, none⟩)))], [(1, .cells [.int .i64 c.id, .int .i64 c.log.lastT.1] 98), (0, .cells (coreS c x) 59)], 2⟩
  refine loopF (N := 107) (B := BW w0 b) 0 F (fun _ w => w.heap[q]? = some (.mapIter (some x.pe) 0 #[] 0) ∧ w.heap[x.pe]? = some (.map #[] 0)) (fun i => i) 0 (by kernel_rfl) (by kernel_rfl) hs ⟨hit5, hpe5⟩ (hR5.unbase.into (by kernel_rfl) (by kernel_rfl) rfl (ltT_cells rfl rfl (ltT_cells rfl rfl (ltT_nil _)))) ?_
  rintro i ρ a w6 hs ⟨hit6, hpe6⟩ hR6
  have hrs6 := hR6.restObj hit6 rfl
  have hps6 := hR6.restObj hpe6 rfl
  have hR := hR6.snap
  refine go [ResultVar.tmp 2] 200 (fun r => .hand (opNth (bodyOf Go.Proofs.Tryz.f23) [1, 1, 0, 1, 0, 0, 0] 0) [.ops (opsAt (bodyOf Go.Proofs.Tryz.f23) [1, 1, 0, 1, 0, 0, 0]) (List.drop 1 (opsAt (bodyOf Go.Proofs.Tryz.f23) [1, 1, 0, 1, 0, 0, 0])), .code (codeAt (bodyOf Go.Proofs.Tryz.f23) [1, 1, 0, 1, 0, 0, 1]), .mark 0, .code (codeAt (bodyOf Go.Proofs.Tryz.f23) [1, 1, 0, 1, 0]), .blk 0, .code (codeAt (bodyOf Go.Proofs.Tryz.f23) [1, 1, 1])] (⟨[(0, .ptr 0 0), (3, .csl 1 0 (1) (1)), (23, .val (Value.pointer (some { block := q, off := 0 })))], [(1, .cells [.int .i64 (c.id), .int .i64 (c.log.lastT.fst)] 98), (0, .cells [.int .i64 (c.term), .int .i64 (c.vote), .int .i64 (c.log.base), .int .i64 (c.log.term), .val (Value.slice x.k.LA c.log.l.length x.k.Lc), .val (Value.slice x.k.CA c.conf.length x.k.Cc), .val (Value.slice x.k.SA c.snap.length x.k.Sc), .int .i64 (c.role), .int .i64 (c.leader), .int .i64 (c.commit), .int .i64 (c.round), .int .i64 (c.id), .int .i64 (c.span), .int .i64 (c.gone), .int .i64 (c.wait), .val (Value.slice x.VA c.votes.length x.Vc), .val (Value.map (some x.pe)), .int .i64 (x.bk), .val (Value.slice x.bA x.bn x.bc)] 59)], 2⟩ : St)) rfl (by kernel_rfl) (by kernel_rfl) (by kernel_rfl) hs hR ?_
  refine shand fun S ρ a w7 hs hR7 hS Q => ?_
  refine hand_next 24 (by kernel_rfl) (y := .tmp 23) (by kernel_rfl) hR7.unbase rfl (hR7.ev (.tmp 23) (.val (.pointer (some ⟨q, 0, none⟩))) rfl) (hR7.heap.since1.at hit6 hrs6) (hR7.heap.since1.at hpe6 hps6) fun hR8 => ?_
  have hR := hR8
  refine go [ResultVar.tmp 2] 200 (fun r => .call 30 [.ptr 0 0] (some 37) [.ops (opsAt (bodyOf Go.Proofs.Tryz.f23) [1, 1, 1, 0]) (List.drop 2 (opsAt (bodyOf Go.Proofs.Tryz.f23) [1, 1, 1, 0])), .code (codeAt (bodyOf Go.Proofs.Tryz.f23) [1, 1, 1, 1])] (⟨[(0, .ptr 0 0), (3, .csl 1 0 (1) (1))], [(1, .cells [.int .i64 (c.id), .int .i64 (c.log.lastT.fst)] 98), (0, .cells [.int .i64 (c.term), .int .i64 (c.vote), .int .i64 (c.log.base), .int .i64 (c.log.term), .val (Value.slice x.k.LA c.log.l.length x.k.Lc), .val (Value.slice x.k.CA c.conf.length x.k.Cc), .val (Value.slice x.k.SA c.snap.length x.k.Sc), .int .i64 (c.role), .int .i64 (c.leader), .int .i64 (c.commit), .int .i64 (c.round), .int .i64 (c.id), .int .i64 (c.span), .int .i64 (c.gone), .int .i64 (c.wait), .val (Value.slice x.VA c.votes.length x.Vc), .val (Value.map (some x.pe)), .int .i64 (x.bk), .val (Value.slice x.bA x.bn x.bc)] 59)], 2⟩ : St)) rfl (by kernel_rfl) (by kernel_rfl) (by kernel_rfl) hs hR ?_
  refine scall fun S ρ9 a w9 hs hR9 hS => ?_
  rw [denL, denW hs]
  refine Calls.mono (membersR_c (h.now hJ hs hR9.heap hR9.heap.since1 c rfl rfl rfl rfl rfl) hw ha.plain) fun r w10 he => ?_
  obtain ⟨A10, k10, rfl, hI10, hsn⟩ := he
  refine ⟨_, rfl, ?_⟩
  have hR := ((hR9.pure hsn).resV 37 (.slice A10 c.conf.length k10) rfl).snap
  refine go [ResultVar.tmp 2] 200 (fun r => .call 50 [.val (Value.slice A10 c.conf.length k10), .csl 1 0 (1) (1)] (some 40) [.ops (opsAt (bodyOf Go.Proofs.Tryz.f23) [1, 1, 1, 1, 0]) (List.drop 3 (opsAt (bodyOf Go.Proofs.Tryz.f23) [1, 1, 1, 1, 0])), .code (codeAt (bodyOf Go.Proofs.Tryz.f23) [1, 1, 1, 1, 1])] (⟨[(6, .val (Value.slice A10 c.conf.length k10)), (0, .ptr 0 0)], [(1, .cells [.int .i64 (c.id), .int .i64 (c.log.lastT.fst)] 98), (0, .cells [.int .i64 (c.term), .int .i64 (c.vote), .int .i64 (c.log.base), .int .i64 (c.log.term), .val (Value.slice x.k.LA c.log.l.length x.k.Lc), .val (Value.slice x.k.CA c.conf.length x.k.Cc), .val (Value.slice x.k.SA c.snap.length x.k.Sc), .int .i64 (c.role), .int .i64 (c.leader), .int .i64 (c.commit), .int .i64 (c.round), .int .i64 (c.id), .int .i64 (c.span), .int .i64 (c.gone), .int .i64 (c.wait), .val (Value.slice x.VA c.votes.length x.Vc), .val (Value.map (some x.pe)), .int .i64 (x.bk), .val (Value.slice x.bA x.bn x.bc)] 59)], 2⟩ : St)) rfl (by kernel_rfl) (by kernel_rfl) (by kernel_rfl) hs hR ?_
  refine scall fun S ρ a w11 hs hR11 hS => ?_
  have hI11 := hI10.keep hR11.heap.since1 fun k hk _ => hR9.rest hk
  have hmk : Marks (fun k => k = ρ.nu 1) w11 (.slice (some ⟨ρ.nu 1, 0, none⟩) 1 1) [(c.id, c.log.lastT.1)] := (hR11.slc1 1 _ _ rfl rfl).same fun i hi => by
    obtain rfl : i = 0 := by omega
    rfl
  have hmay : confMay c.conf = true := by rw [ha.conf]; exact confOne_may h1 h2
  refine Calls.mono (agreed_c (hI11.weak (J' := fun _ => True) fun _ _ => trivial) hw.kept.conf (hmk.weak (J' := fun _ => True) fun _ _ => trivial) (by simp) hmay (by rw [ha.conf]; rfl)) fun r w12 he => ?_
  obtain ⟨rfl, hsn12⟩ := he
  have hl0 : 0 ≤ c.log.lastT.1 := by
    have := c.log.may_bounds hm
    unfold Lg.lastT; rw [if_pos hm]; omega
  have hre : reachM [(c.id, c.log.lastT.1)] (c.conf.getD 0 0) = c.log.lastT.1 := by
    rw [ha.conf]
    simp [reachM]
    omega
  rw [hre]
  refine ⟨_, rfl, ?_⟩
  have hR := (hR11.pure hsn12).res (d := 40) (v := .int .i64 c.log.lastT.1) rfl rfl rfl rfl
  refine go [ResultVar.tmp 2] 200 (fun r => .call 51 [.agg [.int .i64 (c.log.base), .int .i64 (c.log.term), .val (Value.slice x.k.LA c.log.l.length x.k.Lc)], .int .i64 (c.log.lastT.fst)] (some 48) [.ops (opsAt (bodyOf Go.Proofs.Tryz.f23) [1, 1, 1, 1, 1, 0, 0]) (List.drop 7 (opsAt (bodyOf Go.Proofs.Tryz.f23) [1, 1, 1, 1, 1, 0, 0])), .code (codeAt (bodyOf Go.Proofs.Tryz.f23) [1, 1, 1, 1, 1, 0, 1]), .code (codeAt (bodyOf Go.Proofs.Tryz.f23) [1, 1, 1, 1, 1, 1])] (⟨[(7, .int .i64 (c.log.lastT.fst)), (6, .val (Value.slice A10 c.conf.length k10)), (0, .ptr 0 0)], [(1, .cells [.int .i64 (c.id), .int .i64 (c.log.lastT.fst)] 98), (0, .cells [.int .i64 (c.term), .int .i64 (c.vote), .int .i64 (c.log.base), .int .i64 (c.log.term), .val (Value.slice x.k.LA c.log.l.length x.k.Lc), .val (Value.slice x.k.CA c.conf.length x.k.Cc), .val (Value.slice x.k.SA c.snap.length x.k.Sc), .int .i64 (c.role), .int .i64 (c.leader), .int .i64 (c.commit), .int .i64 (c.round), .int .i64 (c.id), .int .i64 (c.span), .int .i64 (c.gone), .int .i64 (c.wait), .val (Value.slice x.VA c.votes.length x.Vc), .val (Value.map (some x.pe)), .int .i64 (x.bk), .val (Value.slice x.bA x.bn x.bc)] 59)], 2⟩ : St)) rfl (by kernel_rfl) (by kernel_rfl) (by kernel_rfl) hs hR ?_
  refine scall fun S ρ a w13 hs hR13 hS => ?_
  have hC13 := h.now hJ hs hR13.heap hR13.heap.tail.since1 c rfl rfl rfl rfl rfl
  have hil : I64 c.log.lastT.1 := by
    have := c.log.may_bounds hm
    unfold Lg.lastT; rw [if_pos hm]; unfold I64; omega
  refine Calls.mono (TermT_c c.log.lastT.1 hC13.log hw.log hil) fun r w14 he => ?_
  rw [hadv.2.1, hadv.2.2] at he
  obtain ⟨rfl, hsn14⟩ := he
  refine ⟨_, rfl, ?_⟩
  have hR := (hR13.pure hsn14).res (d := 48) (v := .tup [.int .i64 c.term, .err 54 none]) rfl rfl rfl rfl
  refine go [ResultVar.tmp 2] 400 (fun r => .br (decide (c.log.lastT.fst ≤ c.commit) || !isNoneI none || c.term != c.term) (.ret (.val (Value.slice none 0 0)) (⟨[], [(1, .cells [.int .i64 (c.id), .int .i64 (c.log.lastT.fst)] 98), (0, .cells [.int .i64 (c.term), .int .i64 (c.vote), .int .i64 (c.log.base), .int .i64 (c.log.term), .val (Value.slice x.k.LA c.log.l.length x.k.Lc), .val (Value.slice x.k.CA c.conf.length x.k.Cc), .val (Value.slice x.k.SA c.snap.length x.k.Sc), .int .i64 (c.role), .int .i64 (c.leader), .int .i64 (c.commit), .int .i64 (c.round), .int .i64 (c.id), .int .i64 (c.span), .int .i64 (c.gone), .int .i64 (c.wait), .val (Value.slice x.VA c.votes.length x.Vc), .val (Value.map (some x.pe)), .int .i64 (x.bk), .val (Value.slice x.bA x.bn x.bc)] 59)], 2⟩ : St)) (.call 22 [.ptr 0 0] (some 78) [.ops (opsAt (bodyOf Go.Proofs.Tryz.f23) [1, 1, 1, 1, 1, 1, 1, 0, 0]) (List.drop 3 (opsAt (bodyOf Go.Proofs.Tryz.f23) [1, 1, 1, 1, 1, 1, 1, 0, 0])), .code (codeAt (bodyOf Go.Proofs.Tryz.f23) [1, 1, 1, 1, 1, 1, 1, 0, 1]), .code (codeAt (bodyOf Go.Proofs.Tryz.f23) [1, 1, 1, 1, 1, 1, 1, 1])] (⟨[(76, .ptr 0 0), (6, .val (Value.slice A10 c.conf.length k10)), (0, .ptr 0 0)], [(0, .cells [.int .i64 (c.term), .int .i64 (c.vote), .int .i64 (c.log.base), .int .i64 (c.log.term), .val (Value.slice x.k.LA c.log.l.length x.k.Lc), .val (Value.slice x.k.CA c.conf.length x.k.Cc), .val (Value.slice x.k.SA c.snap.length x.k.Sc), .int .i64 (c.role), .int .i64 (c.leader), .int .i64 (c.log.lastT.fst), .int .i64 (c.round), .int .i64 (c.id), .int .i64 (c.span), .int .i64 (c.gone), .int .i64 (c.wait), .val (Value.slice x.VA c.votes.length x.Vc), .val (Value.map (some x.pe)), .int .i64 (x.bk), .val (Value.slice x.bA x.bn x.bc)] 59), (1, .cells [.int .i64 (c.id), .int .i64 (c.log.lastT.fst)] 98)], 2⟩ : St))) rfl (by kernel_rfl) (by kernel_rfl) (by kernel_rfl) hs hR ?_
  refine sbr (fun hc => ?_) (fun _ => scall fun S ρ a w15 hs hR15 hS => ?_)
  · exfalso
    have := hadv.1
    simp [isNoneI] at hc
    omega
  rw [denL, denW hs]
  have hC15 := h.now hJ hs hR15.heap hR15.heap.tail.since1 { c with commit := c.log.lastT.1 } rfl rfl rfl rfl rfl
  have hw' : ({ c with commit := c.log.lastT.1 } : Core).wf := ⟨hw.kept, hw.term, hil, hw.votes⟩
  refine Calls.mono (coreLast_c hC15 hw') fun r w16 he => ?_
  obtain ⟨rfl, hsn16⟩ := he
  refine ⟨_, rfl, ?_⟩
  have hR := (hR15.pure hsn16).res (d := 78) (v := .int .i64 c.log.lastT.1) rfl rfl rfl rfl
  refine go [ResultVar.tmp 2] 200 (fun r => .call 42 [.ptr 0 0, .int .i64 (c.log.lastT.fst)] (some 79) [.ops (opsAt (bodyOf Go.Proofs.Tryz.f23) [1, 1, 1, 1, 1, 1, 1, 0, 0]) (List.drop 4 (opsAt (bodyOf Go.Proofs.Tryz.f23) [1, 1, 1, 1, 1, 1, 1, 0, 0])), .code (codeAt (bodyOf Go.Proofs.Tryz.f23) [1, 1, 1, 1, 1, 1, 1, 0, 1]), .code (codeAt (bodyOf Go.Proofs.Tryz.f23) [1, 1, 1, 1, 1, 1, 1, 1])] (⟨[(6, .val (Value.slice A10 c.conf.length k10)), (0, .ptr 0 0)], [(0, .cells [.int .i64 (c.term), .int .i64 (c.vote), .int .i64 (c.log.base), .int .i64 (c.log.term), .val (Value.slice x.k.LA c.log.l.length x.k.Lc), .val (Value.slice x.k.CA c.conf.length x.k.Cc), .val (Value.slice x.k.SA c.snap.length x.k.Sc), .int .i64 (c.role), .int .i64 (c.leader), .int .i64 (c.log.lastT.fst), .int .i64 (c.round), .int .i64 (c.id), .int .i64 (c.span), .int .i64 (c.gone), .int .i64 (c.wait), .val (Value.slice x.VA c.votes.length x.Vc), .val (Value.map (some x.pe)), .int .i64 (x.bk), .val (Value.slice x.bA x.bn x.bc)] 59), (1, .cells [.int .i64 (c.id), .int .i64 (c.log.lastT.fst)] 98)], 2⟩ : St)) rfl (by kernel_rfl) (by kernel_rfl) (by kernel_rfl) hs hR ?_
  refine scall fun S ρ a w17 hs hR17 hS => ?_
  rw [denL, denW hs]
  have hC17 := h.now hJ hs hR17.heap hR17.heap.tail.since1 { c with commit := c.log.lastT.1 } rfl rfl rfl rfl rfl
  refine Calls.mono (memberN_c hC17 hw' ha.plain c.log.lastT.1) fun r w18 he => ?_
  obtain ⟨rfl, hsn18⟩ := he
  refine ⟨_, rfl, ?_⟩
  have hR := (hR17.pure hsn18).resV 79 (.pointer none) rfl
  refine go [ResultVar.tmp 2] 400 (fun r => .call 41 [.val (Value.slice A10 c.conf.length k10), .int .i64 (c.id)] (some 85) [.any 17 [0, 1] (opsAt (bodyOf Go.Proofs.Tryz.f23) [1, 1, 1, 1, 1, 1, 1, 0, 1, 0]) [true, true, true, true, true, true, false, false, false, false, false, false, false, false, false, false, false, false, false, false, false, false, false], .code (codeAt (bodyOf Go.Proofs.Tryz.f23) [1, 1, 1, 1, 1, 1, 1, 0, 1, 1]), .code (codeAt (bodyOf Go.Proofs.Tryz.f23) [1, 1, 1, 1, 1, 1, 1, 1])] (⟨[(10, .val (Value.pointer none)), (0, .ptr 0 0)], [(0, .cells [.int .i64 (c.term), .int .i64 (c.vote), .int .i64 (c.log.base), .int .i64 (c.log.term), .val (Value.slice x.k.LA c.log.l.length x.k.Lc), .val (Value.slice x.k.CA c.conf.length x.k.Cc), .val (Value.slice x.k.SA c.snap.length x.k.Sc), .int .i64 (c.role), .int .i64 (c.leader), .int .i64 (c.log.lastT.fst), .int .i64 (c.round), .int .i64 (c.id), .int .i64 (c.span), .int .i64 (c.gone), .int .i64 (c.wait), .val (Value.slice x.VA c.votes.length x.Vc), .val (Value.map (some x.pe)), .int .i64 (x.bk), .val (Value.slice x.bA x.bn x.bc)] 59), (1, .cells [.int .i64 (c.id), .int .i64 (c.log.lastT.fst)] 98)], 2⟩ : St)) rfl (by kernel_rfl) (by kernel_rfl) (by kernel_rfl) hs hR ?_
  refine scall fun S ρ a w19 hs hR19 hS => Calls.mono (Has_c c.id (hI10.keep hR19.heap.since1 fun k hk _ => hR9.rest hk) hw.kept.conf) fun r w20 he => ?_
  obtain ⟨rfl, hsn20⟩ := he
  have et : (confMay c.conf && decide (c.id ∈ c.conf)) = true := by rw [hmay, ha.conf]; simp
  rw [et]
  refine ⟨_, rfl, ?_⟩
  have hR := (hR19.pure hsn20).res (d := 85) (v := .lit true) rfl rfl rfl rfl
  have hS := hS.put 85 (.lit true)
  refine goA [ResultVar.tmp 2] 400 (fun r => .call 17 [.ptr 0 0] (some 106) [.ops (opsAt (bodyOf Go.Proofs.Tryz.f23) [1, 1, 1, 1, 1, 1, 1, 1, 0]) (List.drop 2 (opsAt (bodyOf Go.Proofs.Tryz.f23) [1, 1, 1, 1, 1, 1, 1, 1, 0])), .code (codeAt (bodyOf Go.Proofs.Tryz.f23) [1, 1, 1, 1, 1, 0, 1, 1, 0, 1])] (⟨[], [(0, .cells [.int .i64 (c.term), .int .i64 (c.vote), .int .i64 (c.log.base), .int .i64 (c.log.term), .val (Value.slice x.k.LA c.log.l.length x.k.Lc), .val (Value.slice x.k.CA c.conf.length x.k.Cc), .val (Value.slice x.k.SA c.snap.length x.k.Sc), .int .i64 (c.role), .int .i64 (c.leader), .int .i64 (c.log.lastT.fst), .int .i64 (c.round), .int .i64 (c.id), .int .i64 (c.span), .int .i64 (c.gone), .int .i64 (c.wait), .val (Value.slice x.VA c.votes.length x.Vc), .val (Value.map (some x.pe)), .int .i64 (x.bk), .val (Value.slice x.bA x.bn x.bc)] 59), (1, .cells [.int .i64 (c.id), .int .i64 (c.log.lastT.fst)] 98)], 2⟩ : St)) rfl (by kernel_rfl) hS (by kernel_rfl) hs hR ?_
  refine scall fun S ρ a w21 hs hR21 hS => ?_
  rw [denL, denW hs]
  have hC21 := h.now hJ hs hR21.heap hR21.heap.tail.since1 { c with commit := c.log.lastT.1 } rfl rfl rfl rfl rfl
  refine Calls.mono (sendAllA_c hC21 hw' ⟨ha.conf, ha.plain⟩) fun r w22 he => ?_
  obtain ⟨rfl, hsn22⟩ := he
  refine ⟨_, rfl, ?_⟩
  have hR := (hR21.pure hsn22).resV 106 (.slice none 0 0) rfl
  refine go [ResultVar.tmp 2] 100 (fun r => .ret (.val (Value.slice none 0 0)) (⟨[], [(0, .cells [.int .i64 (c.term), .int .i64 (c.vote), .int .i64 (c.log.base), .int .i64 (c.log.term), .val (Value.slice x.k.LA c.log.l.length x.k.Lc), .val (Value.slice x.k.CA c.conf.length x.k.Cc), .val (Value.slice x.k.SA c.snap.length x.k.Sc), .int .i64 (c.role), .int .i64 (c.leader), .int .i64 (c.log.lastT.fst), .int .i64 (c.round), .int .i64 (c.id), .int .i64 (c.span), .int .i64 (c.gone), .int .i64 (c.wait), .val (Value.slice x.VA c.votes.length x.Vc), .val (Value.map (some x.pe)), .int .i64 (x.bk), .val (Value.slice x.bA x.bn x.bc)] 59), (1, .cells [.int .i64 (c.id), .int .i64 (c.log.lastT.fst)] 98)], 2⟩ : St)) rfl (by kernel_rfl) (by kernel_rfl) (by kernel_rfl) hs hR ?_
  exact sret fun ρ w hs hH => ⟨rfl, h.now hJ hs hH hH.tail.since1 { c with commit := c.log.lastT.1 } rfl rfl rfl rfl rfl, hH.tail.since1⟩
end Go.Sx
