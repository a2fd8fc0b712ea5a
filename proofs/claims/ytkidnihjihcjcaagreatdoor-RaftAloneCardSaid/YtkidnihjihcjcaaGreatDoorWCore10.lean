/- Walks of package raft, tenth part: one who is alone stands for an election, and wins. -/
import Derived.Test.YtkidnihjihcjcaaGreatDoorWCore9
set_option linter.unusedSimpArgs false
set_option linter.unusedVariables false
set_option maxRecDepth 20000
namespace Go.Sx
open Go.Proofs
variable {J J' : Nat → Prop} {w0 : World} {b : Nat} {c : Core} {x : CoreV}
def Core.stood (c : Core) (draw : Int) (g' : Lg) : Core :=
  { c with term := c.term + 1, vote := c.id, votes := [c.id], wait := waitM c.span draw, role := 2, leader := c.id, gone := 0, log := g', commit := c.log.lastT.1 + 1 }
theorem stand_c {g' : Lg} (draw : Int) (h : CoreR J w0 b c x) (hJ : ¬ J b) (hw : c.wf) (ha : c.alone) (h1 : 1 ≤ c.id) (h2 : c.id ≤ 64) (hs1 : 2 ≤ c.span) (hs2 : c.span ≤ 1000) (ht1 : 0 ≤ c.term) (ht2 : c.term < 1099511627776) (hcl : c.commit ≤ c.log.lastT.1) (hg : g'.wf) (he : c.log.add (c.term + 1) 0 [] = (g', none)) :
    Calls Tryz.prog 19 #[coreP b, .int .i64 draw] w0 (fun r w' => (∃ A k, r = .returned (.slice A 0 k)) ∧
      (∃ x', CoreR (fun k => J k ∨ w0.heap.size ≤ k) w' b (c.stood draw g') x') ∧ Since w0 (fun k => k ≠ b) w') := by
  have hbl : b < w0.heap.size := (Array.getElem?_eq_some_iff.1 h.cell).1
  have hJ' : ¬ (J b ∨ w0.heap.size ≤ b) := by rintro (hk | hk); exact hJ hk; omega
  have hjb : ∀ k, J k → k < w0.heap.size → k ≠ b := fun k hk _ e => hJ (e ▸ hk)
  refine enterW h 81 [.int .i64 draw] Tryz.func19 rfl rfl rfl rfl rfl fun a hR hs => ?_
  refine go [ResultVar.tmp 4] 200 (fun r => .both (.both (.call 16 [.ptr 0 0, .int .i64 (draw)] (some 44) [.ops (opsAt (bodyOf Go.Proofs.Tryz.f19) [1, 1, 1, 0]) (List.drop 3 (opsAt (bodyOf Go.Proofs.Tryz.f19) [1, 1, 1, 0])), .code (codeAt (bodyOf Go.Proofs.Tryz.f19) [1, 1, 1, 1])] (⟨[(4, .val (Value.slice none 0 0)), (0, .ptr 0 0)], [(0, .cells [.int .i64 (IntKind.i64.wrap (c.term + 1)), .int .i64 (c.id), .int .i64 (c.log.base), .int .i64 (c.log.term), .val (Value.slice x.k.LA c.log.l.length x.k.Lc), .val (Value.slice x.k.CA c.conf.length x.k.Cc), .val (Value.slice x.k.SA c.snap.length x.k.Sc), .int .i64 (1), .int .i64 (0), .int .i64 (c.commit), .int .i64 (c.round), .int .i64 (c.id), .int .i64 (c.span), .int .i64 (c.gone), .int .i64 (c.wait), .csl 1 0 (1) (1), .val (Value.map (some x.pe)), .int .i64 (x.bk), .val (Value.slice x.bA x.bn x.bc)] 59), (1, .cells [.int .i64 (c.id)] 3)], 2⟩ : St)) (.both (.call 16 [.ptr 0 0, .int .i64 (draw)] (some 44) [.ops (opsAt (bodyOf Go.Proofs.Tryz.f19) [1, 1, 1, 0]) (List.drop 3 (opsAt (bodyOf Go.Proofs.Tryz.f19) [1, 1, 1, 0])), .code (codeAt (bodyOf Go.Proofs.Tryz.f19) [1, 1, 1, 1])] (⟨[(4, .val (Value.slice none 0 0)), (0, .ptr 0 0)], [(0, .cells [.int .i64 (IntKind.i64.wrap (c.term + 1)), .int .i64 (c.id), .int .i64 (c.log.base), .int .i64 (c.log.term), .val (Value.slice x.k.LA c.log.l.length x.k.Lc), .val (Value.slice x.k.CA c.conf.length x.k.Cc), .val (Value.slice x.k.SA c.snap.length x.k.Sc), .int .i64 (1), .int .i64 (0), .int .i64 (c.commit), .int .i64 (c.round), .int .i64 (c.id), .int .i64 (c.span), .int .i64 (c.gone), .int .i64 (c.wait), .csl 1 0 (1) (1), .val (Value.map (some x.pe)), .int .i64 (x.bk), .val (Value.slice x.bA x.bn x.bc)] 59), (1, .cells [.int .i64 (c.id)] 3)], 2⟩ : St)) (.both (.call 16 [.ptr 0 0, .int .i64 (draw)] (some 44) [.ops (opsAt (bodyOf Go.Proofs.Tryz.f19) [1, 1, 1, 0]) (List.drop 3 (opsAt (bodyOf Go.Proofs.Tryz.f19) [1, 1, 1, 0])), .code (codeAt (bodyOf Go.Proofs.Tryz.f19) [1, 1, 1, 1])] (⟨[(4, .val (Value.slice none 0 0)), (0, .ptr 0 0)], [(0, .cells [.int .i64 (IntKind.i64.wrap (c.term + 1)), .int .i64 (c.id), .int .i64 (c.log.base), .int .i64 (c.log.term), .val (Value.slice x.k.LA c.log.l.length x.k.Lc), .val (Value.slice x.k.CA c.conf.length x.k.Cc), .val (Value.slice x.k.SA c.snap.length x.k.Sc), .int .i64 (1), .int .i64 (0), .int .i64 (c.commit), .int .i64 (c.round), .int .i64 (c.id), .int .i64 (c.span), .int .i64 (c.gone), .int .i64 (c.wait), .csl 1 0 (1) (1), .val (Value.map (some x.pe)), .int .i64 (x.bk), .val (Value.slice x.bA x.bn x.bc)] 59), (1, .cells [.int .i64 (c.id)] 3)], 2⟩ : St)) (.call 16 [.ptr 0 0, .int .i64 (draw)] (some 44) [.ops (opsAt (bodyOf Go.Proofs.Tryz.f19) [1, 1, 1, 0]) (List.drop 3 (opsAt (bodyOf Go.Proofs.Tryz.f19) [1, 1, 1, 0])), .code (codeAt (bodyOf Go.Proofs.Tryz.f19) [1, 1, 1, 1])] (⟨[(4, .val (Value.slice none 0 0)), (0, .ptr 0 0)], [(0, .cells [.int .i64 (IntKind.i64.wrap (c.term + 1)), .int .i64 (c.id), .int .i64 (c.log.base), .int .i64 (c.log.term), .val (Value.slice x.k.LA c.log.l.length x.k.Lc), .val (Value.slice x.k.CA c.conf.length x.k.Cc), .val (Value.slice x.k.SA c.snap.length x.k.Sc), .int .i64 (1), .int .i64 (0), .int .i64 (c.commit), .int .i64 (c.round), .int .i64 (c.id), .int .i64 (c.span), .int .i64 (c.gone), .int .i64 (c.wait), .csl 1 0 (1) (1), .val (Value.map (some x.pe)), .int .i64 (x.bk), .val (Value.slice x.bA x.bn x.bc)] 59), (1, .cells [.int .i64 (c.id)] 3)], 2⟩ : St))))) (.both (.both (.call 16 [.ptr 0 0, .int .i64 (draw)] (some 44) [.ops (opsAt (bodyOf Go.Proofs.Tryz.f19) [1, 1, 1, 0]) (List.drop 3 (opsAt (bodyOf Go.Proofs.Tryz.f19) [1, 1, 1, 0])), .code (codeAt (bodyOf Go.Proofs.Tryz.f19) [1, 1, 1, 1])] (⟨[(4, .val (Value.slice none 0 0)), (0, .ptr 0 0)], [(0, .cells [.int .i64 (IntKind.i64.wrap (c.term + 1)), .int .i64 (c.id), .int .i64 (c.log.base), .int .i64 (c.log.term), .val (Value.slice x.k.LA c.log.l.length x.k.Lc), .val (Value.slice x.k.CA c.conf.length x.k.Cc), .val (Value.slice x.k.SA c.snap.length x.k.Sc), .int .i64 (1), .int .i64 (0), .int .i64 (c.commit), .int .i64 (c.round), .int .i64 (c.id), .int .i64 (c.span), .int .i64 (c.gone), .int .i64 (c.wait), .csl 1 0 (1) (1), .val (Value.map (some x.pe)), .int .i64 (x.bk), .val (Value.slice x.bA x.bn x.bc)] 59), (1, .cells [.int .i64 (c.id)] 3)], 2⟩ : St)) (.both (.call 16 [.ptr 0 0, .int .i64 (draw)] (some 44) [.ops (opsAt (bodyOf Go.Proofs.Tryz.f19) [1, 1, 1, 0]) (List.drop 3 (opsAt (bodyOf Go.Proofs.Tryz.f19) [1, 1, 1, 0])), .code (codeAt (bodyOf Go.Proofs.Tryz.f19) [1, 1, 1, 1])] (⟨[(4, .val (Value.slice none 0 0)), (0, .ptr 0 0)], [(0, .cells [.int .i64 (IntKind.i64.wrap (c.term + 1)), .int .i64 (c.id), .int .i64 (c.log.base), .int .i64 (c.log.term), .val (Value.slice x.k.LA c.log.l.length x.k.Lc), .val (Value.slice x.k.CA c.conf.length x.k.Cc), .val (Value.slice x.k.SA c.snap.length x.k.Sc), .int .i64 (1), .int .i64 (0), .int .i64 (c.commit), .int .i64 (c.round), .int .i64 (c.id), .int .i64 (c.span), .int .i64 (c.gone), .int .i64 (c.wait), .csl 1 0 (1) (1), .val (Value.map (some x.pe)), .int .i64 (x.bk), .val (Value.slice x.bA x.bn x.bc)] 59), (1, .cells [.int .i64 (c.id)] 3)], 2⟩ : St)) (.both (.call 16 [.ptr 0 0, .int .i64 (draw)] (some 44) [.ops (opsAt (bodyOf Go.Proofs.Tryz.f19) [1, 1, 1, 0]) (List.drop 3 (opsAt (bodyOf Go.Proofs.Tryz.f19) [1, 1, 1, 0])), .code (codeAt (bodyOf Go.Proofs.Tryz.f19) [1, 1, 1, 1])] (⟨[(4, .val (Value.slice none 0 0)), (0, .ptr 0 0)], [(0, .cells [.int .i64 (IntKind.i64.wrap (c.term + 1)), .int .i64 (c.id), .int .i64 (c.log.base), .int .i64 (c.log.term), .val (Value.slice x.k.LA c.log.l.length x.k.Lc), .val (Value.slice x.k.CA c.conf.length x.k.Cc), .val (Value.slice x.k.SA c.snap.length x.k.Sc), .int .i64 (1), .int .i64 (0), .int .i64 (c.commit), .int .i64 (c.round), .int .i64 (c.id), .int .i64 (c.span), .int .i64 (c.gone), .int .i64 (c.wait), .csl 1 0 (1) (1), .val (Value.map (some x.pe)), .int .i64 (x.bk), .val (Value.slice x.bA x.bn x.bc)] 59), (1, .cells [.int .i64 (c.id)] 3)], 2⟩ : St)) (.call 16 [.ptr 0 0, .int .i64 (draw)] (some 44) [.ops (opsAt (bodyOf Go.Proofs.Tryz.f19) [1, 1, 1, 0]) (List.drop 3 (opsAt (bodyOf Go.Proofs.Tryz.f19) [1, 1, 1, 0])), .code (codeAt (bodyOf Go.Proofs.Tryz.f19) [1, 1, 1, 1])] (⟨[(4, .val (Value.slice none 0 0)), (0, .ptr 0 0)], [(0, .cells [.int .i64 (IntKind.i64.wrap (c.term + 1)), .int .i64 (c.id), .int .i64 (c.log.base), .int .i64 (c.log.term), .val (Value.slice x.k.LA c.log.l.length x.k.Lc), .val (Value.slice x.k.CA c.conf.length x.k.Cc), .val (Value.slice x.k.SA c.snap.length x.k.Sc), .int .i64 (1), .int .i64 (0), .int .i64 (c.commit), .int .i64 (c.round), .int .i64 (c.id), .int .i64 (c.span), .int .i64 (c.gone), .int .i64 (c.wait), .csl 1 0 (1) (1), .val (Value.map (some x.pe)), .int .i64 (x.bk), .val (Value.slice x.bA x.bn x.bc)] 59), (1, .cells [.int .i64 (c.id)] 3)], 2⟩ : St))))) (.call 16 [.ptr 0 0, .int .i64 (draw)] (some 44) [.ops (opsAt (bodyOf Go.Proofs.Tryz.f19) [1, 1, 1, 0]) (List.drop 3 (opsAt (bodyOf Go.Proofs.Tryz.f19) [1, 1, 1, 0])), .code (codeAt (bodyOf Go.Proofs.Tryz.f19) [1, 1, 1, 1])] (⟨[(4, .val (Value.slice none 0 0)), (0, .ptr 0 0)], [(0, .cells [.int .i64 (IntKind.i64.wrap (c.term + 1)), .int .i64 (c.id), .int .i64 (c.log.base), .int .i64 (c.log.term), .val (Value.slice x.k.LA c.log.l.length x.k.Lc), .val (Value.slice x.k.CA c.conf.length x.k.Cc), .val (Value.slice x.k.SA c.snap.length x.k.Sc), .int .i64 (1), .int .i64 (0), .int .i64 (c.commit), .int .i64 (c.round), .int .i64 (c.id), .int .i64 (c.span), .int .i64 (c.gone), .int .i64 (c.wait), .csl 1 0 (1) (1), .val (Value.map (some x.pe)), .int .i64 (x.bk), .val (Value.slice x.bA x.bn x.bc)] 59), (1, .cells [.int .i64 (c.id)] 3)], 2⟩ : St)))) rfl (by kernel_rfl) (by kernel_rfl) (by kernel_rfl) hs hR ?_
  refine sboth (sboth ?k (sboth ?k (sboth ?k ?k))) (sboth (sboth ?k (sboth ?k (sboth ?k ?k))) ?k)
  refine scall fun S ρ1 a w1 hs hR1 hS => ?_
  have ew : IntKind.i64.wrap (c.term + 1) = c.term + 1 := wrap_i64 (by omega) (by omega)
  have hz1 := hR1.heap.since1.size
  have en1 : ρ1.nu 0 = b := (hs 0 (by decide)).1.symm
  have hn1 : ρ1.nu 1 ≠ b := fun e => hR1.heap.apart 1 _ _ 0 _ _ (getT_mem rfl) (getT_mem rfl) (by decide) (e.trans en1.symm)
  have hf1 : w0.heap.size ≤ ρ1.nu 1 := hR1.heap.free w0 _ List.mem_cons_self 1 _ _ (getT_mem rfl) hn1
  have hv1 : Ints (fun k => J k ∨ w0.heap.size ≤ k) w1 (.slice (some ⟨ρ1.nu 1, 0, none⟩) 1 1) [c.id] := ((hR1.slc1 1 [.int .i64 c.id] 3 rfl rfl).same (el' := elI [c.id]) fun i hi => by
    obtain rfl : i = 0 := by omega
    rfl).weak fun k hk => by subst hk; exact .inr hf1
  have hO1 : CoreO (fun k => J k ∨ w0.heap.size ≤ k) w1 { c with term := c.term + 1, vote := c.id, role := 1, leader := 0, votes := [c.id] } { x with VA := some ⟨ρ1.nu 1, 0, none⟩, Vc := 1 } := by
    have h2 := (h.o.keep hR1.heap.since1 hjb).weak (J' := fun k => J k ∨ w0.heap.size ≤ k) fun k hk => .inl hk
    exact ⟨⟨h2.kept.log, h2.kept.conf, h2.kept.snap⟩, hv1, h2.peers, h2.pj⟩
  have hC1 := hO1.r (b := b) (by rw [cellW hs hR1.heap rfl, ew]; rfl)
  rw [denL, denW hs]
  refine Calls.mono (draws_c hC1 hJ' draw hs1 hs2) fun r w2 hq2 => ?_
  obtain ⟨rfl, hC2, hsn2⟩ := hq2
  have hwl : (({ c with term := c.term + 1, vote := c.id, role := 1, leader := 0, votes := [c.id] } : Core).draws draw).wf := ⟨⟨hw.kept.log, hw.kept.conf, hw.kept.snap⟩, (by show I64 (c.term + 1); unfold I64; omega), hw.commit, (by show [c.id].length ≤ _; simp)⟩
  have hal : (({ c with term := c.term + 1, vote := c.id, role := 1, leader := 0, votes := [c.id] } : Core).draws draw).alone := ⟨ha.conf, ha.plain⟩
  obtain ⟨c2, hc2⟩ : ∃ c2 : Core, c2 = ({ c with term := c.term + 1, vote := c.id, role := 1, leader := 0, votes := [c.id] } : Core).draws draw := ⟨_, rfl⟩
  rw [← hc2] at hC2 hwl hal
  have hO2 := hC2.o
  refine ⟨_, rfl, ?_⟩
  have hR := (((hR1.recell 0 _ (coreS c2 { x with VA := some ⟨ρ1.nu 1, 0, none⟩, Vc := 1 }) _ rfl (hsn2.mono fun k hk _ => by rw [en1] at hk; exact hk) (by rw [en1, hC2.cell]; rfl) rfl).resV 44 (.tuple #[]) rfl).into (st' := ⟨[(0, .ptr 0 0)], [(0, .cells (coreS c2 { x with VA := some ⟨ρ1.nu 1, 0, none⟩, Vc := 1 }) 59)], 1⟩) (by kernel_rfl) (by kernel_rfl) rfl (ltT_cells rfl rfl (ltT_nil _))).snap
  have hne : ∀ k, (J k ∨ w0.heap.size ≤ k) → k ≠ b := fun k hk e => hJ' (e ▸ hk)
  refine go [ResultVar.tmp 4] 200 (fun r => .call 30 [.ptr 0 0] (some 46) [.any 1 [0] (opsAt (bodyOf Go.Proofs.Tryz.f19) [1, 1, 1, 1, 0, 0]) [true, true, true, true, true, true, false], .code (codeAt (bodyOf Go.Proofs.Tryz.f19) [1, 1, 1, 1, 0, 1]), .code (codeAt (bodyOf Go.Proofs.Tryz.f19) [1, 1, 1, 1, 1])] (⟨[(50, .val (Value.slice (some { block := ρ1.nu 1, off := 0 }) c2.votes.length 1)), (0, .ptr 0 0)], [(0, .cells [.int .i64 (c2.term), .int .i64 (c2.vote), .int .i64 (c2.log.base), .int .i64 (c2.log.term), .val (Value.slice x.k.LA c2.log.l.length x.k.Lc), .val (Value.slice x.k.CA c2.conf.length x.k.Cc), .val (Value.slice x.k.SA c2.snap.length x.k.Sc), .int .i64 (c2.role), .int .i64 (c2.leader), .int .i64 (c2.commit), .int .i64 (c2.round), .int .i64 (c2.id), .int .i64 (c2.span), .int .i64 (c2.gone), .int .i64 (c2.wait), .val (Value.slice (some { block := ρ1.nu 1, off := 0 }) c2.votes.length 1), .val (Value.map (some x.pe)), .int .i64 (x.bk), .val (Value.slice x.bA x.bn x.bc)] 59)], 1⟩ : St)) rfl (by kernel_rfl) (by kernel_rfl) (by kernel_rfl) hs hR ?_
  refine scall fun S ρ a w3 hs hR3 hS => ?_
  have hO3 := hO2.keep hR3.heap.since1 fun k hk _ => Rest.one en1 rfl (hne k hk)
  rw [denL, denW hs]
  refine Calls.mono (membersR_c (hO3.r (b := b) (by rw [cellW hs hR3.heap rfl]; rfl)) hwl hal.plain) fun r w4 hq4 => ?_
  obtain ⟨A4, k4, rfl, hI4, hsn4⟩ := hq4
  refine ⟨_, rfl, ?_⟩
  have hR := ((hR3.pure hsn4).resV 46 (.slice A4 c2.conf.length k4) rfl).snap
  have hS := hS.put 46 (.val (.slice A4 c2.conf.length k4))
  refine goA [ResultVar.tmp 4] 200 (fun r => .call 29 [.val (Value.slice A4 c2.conf.length k4), .val (Value.slice (some { block := ρ1.nu 1, off := 0 }) c2.votes.length 1)] (some 51) [.any 0 [0] (opsAt (bodyOf Go.Proofs.Tryz.f19) [1, 1, 1, 1, 0, 0]) [true, true, true, true, true, true, true], .code (codeAt (bodyOf Go.Proofs.Tryz.f19) [1, 1, 1, 1, 0, 1]), .code (codeAt (bodyOf Go.Proofs.Tryz.f19) [1, 1, 1, 1, 1])] (⟨[(0, .ptr 0 0)], [(0, .cells [.int .i64 (c2.term), .int .i64 (c2.vote), .int .i64 (c2.log.base), .int .i64 (c2.log.term), .val (Value.slice x.k.LA c2.log.l.length x.k.Lc), .val (Value.slice x.k.CA c2.conf.length x.k.Cc), .val (Value.slice x.k.SA c2.snap.length x.k.Sc), .int .i64 (c2.role), .int .i64 (c2.leader), .int .i64 (c2.commit), .int .i64 (c2.round), .int .i64 (c2.id), .int .i64 (c2.span), .int .i64 (c2.gone), .int .i64 (c2.wait), .val (Value.slice (some { block := ρ1.nu 1, off := 0 }) c2.votes.length 1), .val (Value.map (some x.pe)), .int .i64 (x.bk), .val (Value.slice x.bA x.bn x.bc)] 59)], 1⟩ : St)) rfl (by kernel_rfl) hS (by kernel_rfl) hs hR ?_
  refine scall fun S ρ a w5 hs hR5 hS => ?_
  have hO5 := hO2.keep hR5.heap.tail.since1 fun k hk _ => Rest.one en1 rfl (hne k hk)
  have hI5 := hI4.keep hR5.heap.since1 fun k hk _ => hR3.rest hk
  refine Calls.mono (Quorum_c (hI5.weak (J' := fun _ => True) fun _ _ => trivial) hwl.kept.conf (hO5.votes.weak (J' := fun _ => True) fun _ _ => trivial) hwl.votes) fun r w6 hq6 => ?_
  obtain ⟨rfl, hsn6⟩ := hq6
  have hqt : quorumM c2.conf c2.votes = true := by
    have e1 : c2.conf = [c.id] := by rw [hc2]; exact ha.conf
    have e2 : c2.votes = [c.id] := by rw [hc2]; rfl
    rw [e1, e2]
    simp [quorumM, confOne_may h1 h2, cntM]
  rw [hqt]
  refine ⟨_, rfl, ?_⟩
  have hR := (hR5.pure hsn6).res (d := 51) (v := .lit true) rfl rfl rfl rfl
  have hS := hS.put 51 (.lit true)
  refine goA [ResultVar.tmp 4] 200 (fun r => .call 44 [.ptr 0 0] (some 53) [.ops (opsAt (bodyOf Go.Proofs.Tryz.f19) [1, 1, 1, 1, 0, 1, 0, 0]) (List.drop 2 (opsAt (bodyOf Go.Proofs.Tryz.f19) [1, 1, 1, 1, 0, 1, 0, 0])), .code (codeAt (bodyOf Go.Proofs.Tryz.f19) [1, 1, 1, 1, 0, 1, 0, 1]), .code (codeAt (bodyOf Go.Proofs.Tryz.f19) [1, 1, 1, 1, 1])] (⟨[(0, .ptr 0 0)], [(0, .cells [.int .i64 (c2.term), .int .i64 (c2.vote), .int .i64 (c2.log.base), .int .i64 (c2.log.term), .val (Value.slice x.k.LA c2.log.l.length x.k.Lc), .val (Value.slice x.k.CA c2.conf.length x.k.Cc), .val (Value.slice x.k.SA c2.snap.length x.k.Sc), .int .i64 (c2.role), .int .i64 (c2.leader), .int .i64 (c2.commit), .int .i64 (c2.round), .int .i64 (c2.id), .int .i64 (c2.span), .int .i64 (c2.gone), .int .i64 (c2.wait), .val (Value.slice (some { block := ρ1.nu 1, off := 0 }) c2.votes.length 1), .val (Value.map (some x.pe)), .int .i64 (x.bk), .val (Value.slice x.bA x.bn x.bc)] 59)], 1⟩ : St)) rfl (by kernel_rfl) hS (by kernel_rfl) hs hR ?_
  refine scall fun S ρ a w7 hs hR7 hS => ?_
  have hO7 := hO2.keep hR7.heap.tail.since1 fun k hk _ => Rest.one en1 rfl (hne k hk)
  have hz7 := hR7.heap.tail.tail.since1.size
  have en7 : ρ.nu 0 = b := (hs 0 (by decide)).1.symm
  rw [denL, denW hs]
  have he2 : c2.log.add c2.term 0 [] = (g', none) := by rw [hc2]; exact he
  have hcl2 : c2.commit ≤ c2.log.lastT.1 := by rw [hc2]; exact hcl
  have hi2 : c2.id = c.id := by rw [hc2]; rfl
  refine Calls.mono (lead_c (hO7.r (b := b) (by rw [cellW hs hR7.heap rfl]; rfl)) hJ' hwl hal (by rw [hi2]; exact h1) (by rw [hi2]; exact h2) hcl2 hg he2) fun r w8 hq8 => ?_
  obtain ⟨⟨A8, k8, rfl⟩, ⟨x8, hC8⟩, hsn8⟩ := hq8
  have hst : ({ c2 with role := 2, leader := c2.id, gone := 0, log := g', commit := c2.log.lastT.1 + 1 } : Core) = c.stood draw g' := by rw [hc2]; rfl
  rw [hst] at hC8
  refine ⟨_, rfl, ?_⟩
  have hR := ((hR7.recell 0 _ (coreS (c.stood draw g') x8) _ rfl (hsn8.mono fun k hk _ => by rw [en7] at hk; exact hk) (by rw [en7, hC8.cell]; rfl) rfl).resV 53 (.slice A8 0 k8) rfl).snap
  refine go [ResultVar.tmp 4] 200 (fun r => .ret (.val (Value.slice A8 0 k8)) (⟨[], [(0, .cells [.int .i64 ((c.stood draw g').term), .int .i64 ((c.stood draw g').vote), .int .i64 ((c.stood draw g').log.base), .int .i64 ((c.stood draw g').log.term), .val (Value.slice x8.k.LA (c.stood draw g').log.l.length x8.k.Lc), .val (Value.slice x8.k.CA (c.stood draw g').conf.length x8.k.Cc), .val (Value.slice x8.k.SA (c.stood draw g').snap.length x8.k.Sc), .int .i64 ((c.stood draw g').role), .int .i64 ((c.stood draw g').leader), .int .i64 ((c.stood draw g').commit), .int .i64 ((c.stood draw g').round), .int .i64 ((c.stood draw g').id), .int .i64 ((c.stood draw g').span), .int .i64 ((c.stood draw g').gone), .int .i64 ((c.stood draw g').wait), .val (Value.slice x8.VA (c.stood draw g').votes.length x8.Vc), .val (Value.map (some x8.pe)), .int .i64 (x8.bk), .val (Value.slice x8.bA x8.bn x8.bc)] 59)], 1⟩ : St)) rfl (by kernel_rfl) (by kernel_rfl) (by kernel_rfl) hs hR ?_
  refine sret fun ρ w hs hH => ⟨⟨A8, k8, rfl⟩, ⟨x8, ?_⟩, hH.tail.tail.tail.since1⟩
  have hO8 := (hC8.o.keep hH.since1 fun k hk _ => Rest.one en7 rfl ?_).weak (J' := fun k => J k ∨ w0.heap.size ≤ k) fun k hk => ?_
  · exact hO8.r (by rw [cellW hs hH rfl]; rfl)
  · rcases hk with hk | hk
    · exact hne k hk
    · intro e; subst e; omega
  · rcases hk with hk | hk
    · exact hk
    · exact .inr (by omega)
end Go.Sx
