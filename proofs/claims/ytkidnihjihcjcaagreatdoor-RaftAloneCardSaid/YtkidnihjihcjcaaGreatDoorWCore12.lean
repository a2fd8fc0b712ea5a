/- Walks of package raft, twelfth part: rounds of one who is alone. -/
import Derived.Test.YtkidnihjihcjcaaGreatDoorWCore9
set_option linter.unusedSimpArgs false
set_option linter.unusedVariables false
set_option maxRecDepth 20000
namespace Go.Sx
open Go.Proofs
variable {J J' : Nat → Prop} {w0 : World} {b : Nat} {c : Core} {x : CoreV}
theorem Read_c (h : CoreR J w0 b c x) (hJ : ¬ J b) (hw : c.wf) (ha : c.alone) (hr : c.role = 2) (ho : c.ours = true) (hg1 : 0 ≤ c.round) (hg3 : c.round ≤ 1000000) :
    Calls Tryz.prog 12 #[coreP b] w0 (fun r w' => r = .returned (.tuple #[.int .i64 (c.round + 1), .int .i64 c.commit, .slice none 0 0, .nilIface]) ∧ CoreR J w' b { c with round := c.round + 1 } x ∧ Since w0 (fun k => k ≠ b) w') := by
  have hgw : IntKind.i64.wrap (c.round + 1) = c.round + 1 := wrap_i64 (by omega) (by omega)
  refine enterW h 44 [] Tryz.func12 rfl rfl rfl rfl rfl fun a hR hs => ?_
  refine go [ResultVar.tmp 2, ResultVar.tmp 3, ResultVar.tmp 4, ResultVar.tmp 5] 200 (fun r => .br (c.role != 2) (.ret (.tup [.int .i64 (0), .int .i64 (0), .val (Value.slice none 0 0), .err 54 (some 30)]) (⟨[], [(0, .cells [.int .i64 (c.term), .int .i64 (c.vote), .int .i64 (c.log.base), .int .i64 (c.log.term), .val (Value.slice x.k.LA c.log.l.length x.k.Lc), .val (Value.slice x.k.CA c.conf.length x.k.Cc), .val (Value.slice x.k.SA c.snap.length x.k.Sc), .int .i64 (c.role), .int .i64 (c.leader), .int .i64 (c.commit), .int .i64 (c.round), .int .i64 (c.id), .int .i64 (c.span), .int .i64 (c.gone), .int .i64 (c.wait), .val (Value.slice x.VA c.votes.length x.Vc), .val (Value.map (some x.pe)), .int .i64 (x.bk), .val (Value.slice x.bA x.bn x.bc)] 59)], 1⟩ : St)) (.call 28 [.ptr 0 0] (some 20) [.ops (opsAt (bodyOf Go.Proofs.Tryz.f12) [1, 0, 0, 1, 1, 1, 1, 0]) (List.drop 2 (opsAt (bodyOf Go.Proofs.Tryz.f12) [1, 0, 0, 1, 1, 1, 1, 0])), .code (codeAt (bodyOf Go.Proofs.Tryz.f12) [1, 0, 0, 1, 1, 1, 1, 1]), .blk 0, .code (codeAt (bodyOf Go.Proofs.Tryz.f12) [1, 1])] (⟨[(5, .err 0 (none)), (4, .val (Value.slice none 0 0)), (3, .int .i64 (0)), (2, .int .i64 (0)), (0, .ptr 0 0)], [(0, .cells [.int .i64 (c.term), .int .i64 (c.vote), .int .i64 (c.log.base), .int .i64 (c.log.term), .val (Value.slice x.k.LA c.log.l.length x.k.Lc), .val (Value.slice x.k.CA c.conf.length x.k.Cc), .val (Value.slice x.k.SA c.snap.length x.k.Sc), .int .i64 (c.role), .int .i64 (c.leader), .int .i64 (c.commit), .int .i64 (c.round), .int .i64 (c.id), .int .i64 (c.span), .int .i64 (c.gone), .int .i64 (c.wait), .val (Value.slice x.VA c.votes.length x.Vc), .val (Value.map (some x.pe)), .int .i64 (x.bk), .val (Value.slice x.bA x.bn x.bc)] 59)], 1⟩ : St))) rfl (by kernel_rfl) (by kernel_rfl) (by kernel_rfl) hs hR ?_
  refine sbr (fun h1 => ?_) (fun _ => scall fun S ρ a w1 hs hR1 hS => ?_)
  · simp [hr] at h1
  rw [denL, denW hs]
  refine Calls.mono (ours_c (h.now hJ hs hR1.heap hR1.heap.since1 c rfl rfl rfl rfl rfl) hw) fun r w2 hq => ?_
  rw [ho] at hq
  obtain ⟨rfl, hsn⟩ := hq
  refine ⟨_, rfl, ?_⟩
  have hR := (hR1.pure hsn).res (d := 20) (v := .lit true) rfl rfl rfl rfl
  refine go [ResultVar.tmp 2, ResultVar.tmp 3, ResultVar.tmp 4, ResultVar.tmp 5] 200 (fun r => .call 17 [.ptr 0 0] (some 43) [.any 4 [0] (opsAt (bodyOf Go.Proofs.Tryz.f12) [1, 1, 1, 0]) [true, true, true, true, true, true, true, true, true, true, true, true, false, false, false, false], .code (codeAt (bodyOf Go.Proofs.Tryz.f12) [1, 0, 0, 1, 0, 1])] (⟨[(41, .int .i64 (c.commit)), (36, .int .i64 (IntKind.i64.wrap (c.round + 1))), (5, .err 0 (none)), (4, .val (Value.slice none 0 0)), (3, .int .i64 (0)), (2, .int .i64 (0))], [(0, .cells [.int .i64 (c.term), .int .i64 (c.vote), .int .i64 (c.log.base), .int .i64 (c.log.term), .val (Value.slice x.k.LA c.log.l.length x.k.Lc), .val (Value.slice x.k.CA c.conf.length x.k.Cc), .val (Value.slice x.k.SA c.snap.length x.k.Sc), .int .i64 (c.role), .int .i64 (c.leader), .int .i64 (c.commit), .int .i64 (IntKind.i64.wrap (c.round + 1)), .int .i64 (c.id), .int .i64 (c.span), .int .i64 (c.gone), .int .i64 (c.wait), .val (Value.slice x.VA c.votes.length x.Vc), .val (Value.map (some x.pe)), .int .i64 (x.bk), .val (Value.slice x.bA x.bn x.bc)] 59)], 1⟩ : St)) rfl (by kernel_rfl) (by kernel_rfl) (by kernel_rfl) hs hR ?_
  refine scall fun S ρ a w3 hs hR3 hS => ?_
  have hC3 := h.move hR3.heap.since1 hJ { c with round := c.round + 1 } (by rw [cellW hs hR3.heap rfl, hgw]; rfl) rfl rfl rfl rfl
  rw [denL, denW hs]
  refine Calls.mono (sendAllA_c hC3 ⟨⟨hw.kept.log, hw.kept.conf, hw.kept.snap⟩, hw.term, hw.commit, hw.votes⟩ ⟨ha.conf, ha.plain⟩) fun r w4 hq => ?_
  obtain ⟨rfl, hsn4⟩ := hq
  refine ⟨_, rfl, ?_⟩
  have hR := (hR3.pure hsn4).resV 43 (.slice none 0 0) rfl
  have hS := hS.put 43 (.val (.slice none 0 0))
  refine goA [ResultVar.tmp 2, ResultVar.tmp 3, ResultVar.tmp 4, ResultVar.tmp 5] 200 (fun r => .ret (.tup [.int .i64 (IntKind.i64.wrap (c.round + 1)), .int .i64 (c.commit), .val (Value.slice none 0 0), .err 0 (none)]) (⟨[], [(0, .cells [.int .i64 (c.term), .int .i64 (c.vote), .int .i64 (c.log.base), .int .i64 (c.log.term), .val (Value.slice x.k.LA c.log.l.length x.k.Lc), .val (Value.slice x.k.CA c.conf.length x.k.Cc), .val (Value.slice x.k.SA c.snap.length x.k.Sc), .int .i64 (c.role), .int .i64 (c.leader), .int .i64 (c.commit), .int .i64 (IntKind.i64.wrap (c.round + 1)), .int .i64 (c.id), .int .i64 (c.span), .int .i64 (c.gone), .int .i64 (c.wait), .val (Value.slice x.VA c.votes.length x.Vc), .val (Value.map (some x.pe)), .int .i64 (x.bk), .val (Value.slice x.bA x.bn x.bc)] 59)], 1⟩ : St)) rfl (by kernel_rfl) hS (by kernel_rfl) hs hR ?_
  refine sret fun ρ w hs hH => ⟨?_, h.move hH.since1 hJ { c with round := c.round + 1 } (by rw [cellW hs hH rfl, hgw]; rfl) rfl rfl rfl rfl, hH.since1⟩
  rw [hgw]
  rfl
theorem Heard_c (round : Int) (h : CoreR J w0 b c x) (hw : c.wf) (ha : c.alone) (h1 : 1 ≤ c.id) (h2 : c.id ≤ 64) (hr : c.role = 2) (hg1 : 1 ≤ round) (hg3 : round ≤ c.round) :
    Calls Tryz.prog 13 #[coreP b, .int .i64 round] w0 (fun r w' => r = .returned (.bool true) ∧ Since w0 (fun _ => True) w') := by
  refine enterC h 58 [.int .i64 round] Tryz.func13 rfl rfl rfl rfl rfl fun a hR hs => ?_
  refine go [ResultVar.tmp 4] 300 (fun r => .need (true) (.br (c.role != 2 || decide (round < 1)) (.ret (.lit false) (⟨[], [(0, .row 19 (1) (fun x_1 ↦ coreS c x))], 1⟩ : St)) (.need (true) (.br (decide (round > c.round)) (.ret (.lit false) (⟨[], [(0, .row 19 (1) (fun x_1 ↦ coreS c x))], 1⟩ : St)) (.need (true) (.need (true) (.hand (opNth (bodyOf Go.Proofs.Tryz.f13) [1, 1, 1, 0, 0] 4) [.ops (opsAt (bodyOf Go.Proofs.Tryz.f13) [1, 1, 1, 0, 0]) (List.drop 5 (opsAt (bodyOf Go.Proofs.Tryz.f13) [1, 1, 1, 0, 0])), .code (codeAt (bodyOf Go.Proofs.Tryz.f13) [1, 1, 1, 0, 1]), .code (codeAt (bodyOf Go.Proofs.Tryz.f13) [1, 1, 1, 1])] (⟨[(39, .val (Value.map (some x.pe))), (5, .csl 1 0 (1) (1)), (4, .lit false), (0, .ep 0 19 (0) 0), (1, .int .i64 (round))], [(1, .cells [.int .i64 (c.id)] 3), (0, .row 19 (1) (fun x_1 ↦ coreS c x))], 2⟩ : St)))))))) rfl (by kernel_rfl) (by kernel_rfl) (by kernel_rfl) hs hR ?_
  refine sneed (by decide) (sbr (fun h1 => ?_) (fun _ => sneed (by decide) (sbr (fun h1 => ?_) (fun _ => sneed (by decide) (sneed (by decide) (shand fun S ρ a w1 hs1 hR1 hS Q => ?_))))))
  · simp [hr] at h1
    omega
  · simp at h1
    omega
  have hpe := (h.all (J' := J) hR1.heap.since0).peers
  refine hand_range 40 (by kernel_rfl) (t := 55) (y := .tmp 39) (by kernel_rfl) (k := 3) (e := 72) (by kernel_rfl) hR1 rfl (hR1.ev (.tmp 39) (.val (.map (some x.pe))) rfl) hpe fun w2 hs2 hit2 hR2 => ?_
  have hpe2 := hs2.at hpe trivial
  generalize w1.heap.size = q at hit2 hR2 ⊢
  have hR := hR2.snap
  have hrs := hR2.restObj hit2 rfl
  have hps := hR2.restObj hpe2 rfl
  have hs := hs1
  refine go [ResultVar.tmp 4] 200 (fun r => .stop [.code (codeAt (bodyOf Go.Proofs.Tryz.f13) [1, 1, 1, 0, 1, 0]), .blk 0, .code (codeAt (bodyOf Go.Proofs.Tryz.f13) [1, 1, 1, 1])] (⟨[(40, .val (Value.pointer (some { block := q, off := 0 }))), (5, .csl 1 0 (1) (1)), (4, .lit false), (0, .ep 0 19 (0) 0), (1, .int .i64 (round))], [(1, .cells [.int .i64 (c.id)] 3), (0, .row 19 (1) (fun x_1 ↦ coreS c x))], 2⟩ : St)) rfl (by kernel_rfl) (by kernel_rfl) (by kernel_rfl) hs hR ?_
  refine sstop fun S ρ a w5 hs hR5 hS => ?_
  have hit5 := hR5.heap.since1.at hit2 hrs
  have hpe5 := hR5.heap.since1.at hpe2 hps
  let F : Nat → St := fun _ => ⟨[(0, .ep 0 19 0 0), (5, .csl 1 0 1 1), (40, .val (.pointer (some ⟨q, 0, none⟩)))], [(1, .cells [.int .i64 c.id] 3), (0, .row 19 1 fun _ => coreS c x)], 2⟩
  refine loopF (N := 58) (B := B0 w0) 0 F (fun _ w => w.heap[q]? = some (.mapIter (some x.pe) 0 #[] 0) ∧ w.heap[x.pe]? = some (.map #[] 0)) (fun i => i) 0 (by kernel_rfl) (by kernel_rfl) hs ⟨hit5, hpe5⟩ (hR5.unbase.into (by kernel_rfl) (by kernel_rfl) rfl (ltT_cells rfl rfl (ltT_row rfl (fun _ => rfl) (ltT_nil _)))) ?_
  rintro i ρ a w6 hs ⟨hit6, hpe6⟩ hR6
  have hrs6 := hR6.restObj hit6 rfl
  have hps6 := hR6.restObj hpe6 rfl
  have hR := hR6.snap
  refine go [ResultVar.tmp 4] 200 (fun r => .hand (opNth (bodyOf Go.Proofs.Tryz.f13) [1, 1, 1, 0, 1, 0, 0, 0] 0) [.ops (opsAt (bodyOf Go.Proofs.Tryz.f13) [1, 1, 1, 0, 1, 0, 0, 0]) (List.drop 1 (opsAt (bodyOf Go.Proofs.Tryz.f13) [1, 1, 1, 0, 1, 0, 0, 0])), .code (codeAt (bodyOf Go.Proofs.Tryz.f13) [1, 1, 1, 0, 1, 0, 0, 1]), .mark 0, .code (codeAt (bodyOf Go.Proofs.Tryz.f13) [1, 1, 1, 0, 1, 0]), .blk 0, .code (codeAt (bodyOf Go.Proofs.Tryz.f13) [1, 1, 1, 1])] (⟨[(0, .ep 0 19 (0) 0), (5, .csl 1 0 (1) (1)), (40, .val (Value.pointer (some { block := q, off := 0 })))], [(1, .cells [.int .i64 (c.id)] 3), (0, .row 19 (1) (fun x_1 ↦ coreS c x))], 2⟩ : St)) rfl (by kernel_rfl) (by kernel_rfl) (by kernel_rfl) hs hR ?_
  refine shand fun S ρ a w7 hs hR7 hS Q => ?_
  refine hand_next 41 (by kernel_rfl) (y := .tmp 40) (by kernel_rfl) hR7.unbase rfl (hR7.ev (.tmp 40) (.val (.pointer (some ⟨q, 0, none⟩))) rfl) (hR7.heap.since1.at hit6 hrs6) (hR7.heap.since1.at hpe6 hps6) fun hR8 => ?_
  have hR := hR8
  refine go [ResultVar.tmp 4] 200 (fun r => .call 30 [.ep 0 19 (0) 0] (some 55) [.ops (opsAt (bodyOf Go.Proofs.Tryz.f13) [1, 1, 1, 1, 0]) (List.drop 2 (opsAt (bodyOf Go.Proofs.Tryz.f13) [1, 1, 1, 1, 0])), .code (codeAt (bodyOf Go.Proofs.Tryz.f13) [1, 0, 1, 0, 1])] (⟨[(5, .csl 1 0 (1) (1))], [(1, .cells [.int .i64 (c.id)] 3), (0, .row 19 (1) (fun x_1 ↦ coreS c x))], 2⟩ : St)) rfl (by kernel_rfl) (by kernel_rfl) (by kernel_rfl) hs hR ?_
  refine scall fun S ρ a w9 hs hR9 hS => ?_
  rw [denL, denE hs]
  refine Calls.mono (membersR_c (h.all (J' := J) hR9.heap.since0) hw ha.plain) fun r w10 hq => ?_
  obtain ⟨A10, k10, rfl, hI10, hsn⟩ := hq
  refine ⟨_, rfl, ?_⟩
  have hR := ((hR9.pure hsn).resV 55 (.slice A10 c.conf.length k10) rfl).snap
  refine go [ResultVar.tmp 4] 200 (fun r => .call 29 [.val (Value.slice A10 c.conf.length k10), .csl 1 0 (1) (1)] (some 57) [.ops (opsAt (bodyOf Go.Proofs.Tryz.f13) [1, 1, 1, 1, 0]) (List.drop 4 (opsAt (bodyOf Go.Proofs.Tryz.f13) [1, 1, 1, 1, 0])), .code (codeAt (bodyOf Go.Proofs.Tryz.f13) [1, 0, 1, 0, 1])] (⟨[], [(1, .cells [.int .i64 (c.id)] 3), (0, .row 19 (1) (fun x_1 ↦ coreS c x))], 2⟩ : St)) rfl (by kernel_rfl) (by kernel_rfl) (by kernel_rfl) hs hR ?_
  refine scall fun S ρ a w11 hs hR11 hS => ?_
  have hI11 := hI10.keep hR11.heap.since1 fun k hk _ => hR9.rest hk
  have hv : Ints (fun k => k = ρ.nu 1) w11 (.slice (some ⟨ρ.nu 1, 0, none⟩) 1 1) [c.id] := (hR11.slc1 1 [.int .i64 c.id] 3 rfl rfl).same (el' := elI [c.id]) fun i hi => by
    obtain rfl : i = 0 := by omega
    rfl
  refine Calls.mono (Quorum_c (hI11.weak (J' := fun _ => True) fun _ _ => trivial) hw.kept.conf (hv.weak (J' := fun _ => True) fun _ _ => trivial) (by simp)) fun r w12 hq => ?_
  obtain ⟨rfl, hsn12⟩ := hq
  have hqt : quorumM c.conf [c.id] = true := by
    rw [ha.conf]
    simp [quorumM, confOne_may h1 h2, cntM]
  rw [hqt]
  refine ⟨_, rfl, ?_⟩
  have hR := (hR11.pure hsn12).res (d := 57) (v := .lit true) rfl rfl rfl rfl
  refine go [ResultVar.tmp 4] 200 (fun r => .ret (.lit true) (⟨[], [(1, .cells [.int .i64 (c.id)] 3), (0, .row 19 (1) (fun x_1 ↦ coreS c x))], 2⟩ : St)) rfl (by kernel_rfl) (by kernel_rfl) (by kernel_rfl) hs hR ?_
  exact sret fun ρ w hs hH => ⟨rfl, hH.tail.since0⟩
end Go.Sx
