/- Walks of package raft, second part: what is kept, of its own. -/
import Derived.Test.YtkidnihjihcjcaaGreatDoorWCore1
set_option linter.unusedSimpArgs false
set_option linter.unusedVariables false
namespace Go.Sx
open Go.Proofs
variable {J : Nat → Prop} {w0 : World} {b : Nat} {c : Core} {x : CoreV}
theorem Lg.compact_self {g : Lg} (hm : g.may = true) : g.compact g.base = (g, none) := by
  have h1 := g.may_last hm
  have h2 := g.may_bounds hm
  have e : g.termOf g.base = (g.term, none) := by
    rw [Lg.termOf, if_neg (by omega), if_neg (by omega), if_pos rfl]
  simp [Lg.compact, hm, e]
theorem own_kept_c {s : Kept} {x : KV} (h : KeptR J w0 s x) (hw : s.wf) (hm : s.log.may = true) :
    Calls Tryz.prog 15 #[(keptS s x).den env0] w0 (fun r w' => ∃ y, r = .returned ((keptS s y).den env0) ∧ KeptR (fun k => w0.heap.size ≤ k) w' s y ∧ Since w0 (fun _ => True) w') := by
  refine enterP 22 [keptS s x] Tryz.func15 rfl rfl rfl rfl rfl fun a hR => ?_
  have hs := Env.Same.refl 0 env0
  refine go [ResultVar.cell 2 35] 200 (fun r => .call 35 [.agg [.int .i64 (s.log.base), .int .i64 (s.log.term), .val (Value.slice x.LA s.log.l.length x.Lc)], .int .i64 (s.log.base)] (some 9) [.ops (opsAt (bodyOf Go.Proofs.Tryz.f15) [1, 0]) (List.drop 6 (opsAt (bodyOf Go.Proofs.Tryz.f15) [1, 0])), .code (codeAt (bodyOf Go.Proofs.Tryz.f15) [1, 1])] (⟨[(2, .ptr 1 0), (1, .ptr 0 0)], [(1, .cells [.int .i64 (0), .int .i64 (0), .int .i64 (0), .int .i64 (0), .val (Value.slice none 0 0), .val (Value.slice none 0 0), .val (Value.slice none 0 0)] 35), (0, .cells [.int .i64 (s.term), .int .i64 (s.vote), .int .i64 (s.log.base), .int .i64 (s.log.term), .val (Value.slice x.LA s.log.l.length x.Lc), .val (Value.slice x.CA s.conf.length x.Cc), .val (Value.slice x.SA s.snap.length x.Sc)] 35)], 2⟩ : St)) rfl (by kernel_rfl) (by kernel_rfl) (by kernel_rfl) hs hR ?_
  refine scall fun S ρ a w hs hR1 hS => Calls.mono (Compact_c s.log.base (h.log.keep hR1.heap.since0 fun _ _ _ => trivial) hw.log hw.log.base) fun r w' he => ?_
  rw [Lg.compact_self hm] at he
  obtain ⟨v', rfl, hl, hsn⟩ := he
  obtain ⟨A', k', rfl⟩ := hl.form
  refine ⟨_, rfl, ?_⟩
  have hz1 := hR1.heap.since0.size
  have hR := ((hR1.pure hsn).res (d := 9) (v := .tup [.agg [.int .i64 s.log.base, .int .i64 s.log.term, .val (.slice A' s.log.l.length k')], .err 54 none]) rfl rfl rfl rfl).snap
  refine go [ResultVar.cell 2 35] 200 (fun r => .both (.both (.call 36 [.val (Value.slice x.CA s.conf.length x.Cc)] (some 15) [.any 6 [1] (opsAt (bodyOf Go.Proofs.Tryz.f15) [1, 1, 0]) [true, true, true, true, false, false, false, false, false, false], .code (codeAt (bodyOf Go.Proofs.Tryz.f15) [1, 1, 1])] (⟨[(16, .ptr 0 6), (2, .ptr 1 0), (1, .ptr 0 0)], [(0, .cells [.int .i64 (s.term), .int .i64 (s.vote), .int .i64 (s.log.base), .int .i64 (s.log.term), .val (Value.slice A' s.log.l.length k'), .val (Value.slice x.CA s.conf.length x.Cc), .val (Value.slice x.SA s.snap.length x.Sc)] 35), (1, .cells [.int .i64 (0), .int .i64 (0), .int .i64 (0), .int .i64 (0), .val (Value.slice none 0 0), .val (Value.slice none 0 0), .val (Value.slice none 0 0)] 35)], 2⟩ : St)) (.call 36 [.val (Value.slice x.CA s.conf.length x.Cc)] (some 15) [.any 5 [1] (opsAt (bodyOf Go.Proofs.Tryz.f15) [1, 1, 0]) [true, true, true, true, true, false, false, false, false, false], .code (codeAt (bodyOf Go.Proofs.Tryz.f15) [1, 1, 1])] (⟨[(17, .val (Value.slice x.SA s.snap.length x.Sc)), (2, .ptr 1 0), (1, .ptr 0 0)], [(0, .cells [.int .i64 (s.term), .int .i64 (s.vote), .int .i64 (s.log.base), .int .i64 (s.log.term), .val (Value.slice A' s.log.l.length k'), .val (Value.slice x.CA s.conf.length x.Cc), .val (Value.slice x.SA s.snap.length x.Sc)] 35), (1, .cells [.int .i64 (0), .int .i64 (0), .int .i64 (0), .int .i64 (0), .val (Value.slice none 0 0), .val (Value.slice none 0 0), .val (Value.slice none 0 0)] 35)], 2⟩ : St))) (.call 36 [.val (Value.slice x.CA s.conf.length x.Cc)] (some 15) [.any 5 [1] (opsAt (bodyOf Go.Proofs.Tryz.f15) [1, 1, 0]) [true, true, true, true, true, false, false, false, false, false], .code (codeAt (bodyOf Go.Proofs.Tryz.f15) [1, 1, 1])] (⟨[(17, .val (Value.slice x.SA s.snap.length x.Sc)), (2, .ptr 1 0), (1, .ptr 0 0)], [(0, .cells [.int .i64 (s.term), .int .i64 (s.vote), .int .i64 (s.log.base), .int .i64 (s.log.term), .val (Value.slice A' s.log.l.length k'), .val (Value.slice x.CA s.conf.length x.Cc), .val (Value.slice x.SA s.snap.length x.Sc)] 35), (1, .cells [.int .i64 (0), .int .i64 (0), .int .i64 (0), .int .i64 (0), .val (Value.slice none 0 0), .val (Value.slice none 0 0), .val (Value.slice none 0 0)] 35)], 2⟩ : St))) rfl (by kernel_rfl) (by kernel_rfl) (by kernel_rfl) hs hR ?_
  refine sboth (sboth (scall ?_) (scall ?_)) (scall ?_)
  all_goals
    intro S ρ a w2 hs hR2 hS
    refine Calls.mono (cloneConf_c (h.conf.keep hR2.heap.tail.since0 fun _ _ _ => trivial) hw.conf) fun r w3 he => ?_
    obtain ⟨v3, rfl, ho, hsn3⟩ := he
    obtain ⟨A3, k3, rfl⟩ := ownsRow_form ho
    refine ⟨_, rfl, ?_⟩
    have hz2 := hR2.heap.tail.since0.size
    have hR := ((hR2.pure hsn3).resV 15 (.slice A3 s.conf.length k3) rfl).snap
    have hS := hS.put 15 (.val (.slice A3 s.conf.length k3))
    refine goA [ResultVar.cell 2 35] 200 (fun r => .call 37 [.val (Value.slice x.SA s.snap.length x.Sc)] (some 18) [.any 3 [1] (opsAt (bodyOf Go.Proofs.Tryz.f15) [1, 1, 0]) [true, true, true, true, true, true, true, false, false, false], .code (codeAt (bodyOf Go.Proofs.Tryz.f15) [1, 1, 1])] (⟨[(19, .ptr 0 5), (15, .val (Value.slice A3 s.conf.length k3)), (2, .ptr 1 0), (1, .ptr 0 0)], [(0, .cells [.int .i64 (s.term), .int .i64 (s.vote), .int .i64 (s.log.base), .int .i64 (s.log.term), .val (Value.slice A' s.log.l.length k'), .val (Value.slice x.CA s.conf.length x.Cc), .val (Value.slice x.SA s.snap.length x.Sc)] 35), (1, .cells [.int .i64 (0), .int .i64 (0), .int .i64 (0), .int .i64 (0), .val (Value.slice none 0 0), .val (Value.slice none 0 0), .val (Value.slice none 0 0)] 35)], 2⟩ : St)) rfl (by kernel_rfl) hS (by kernel_rfl) hs hR ?_
    refine scall fun S ρ a w4 hs hR4 hS => Calls.mono (clone_bytes (h.snap.keep hR4.heap.tail.tail.since0 fun _ _ _ => trivial) hw.snap) fun r w5 he => ?_
    obtain ⟨v5, rfl, hb, hsn5⟩ := he
    obtain ⟨A5, k5, rfl⟩ := hb.form
    refine ⟨_, rfl, ?_⟩
    have hz4 := hR4.heap.tail.tail.since0.size
    have hR := ((hR4.pure hsn5).resV 18 (.slice A5 s.snap.length k5) rfl).snap
    have hS := hS.put 18 (.val (.slice A5 s.snap.length k5))
    refine goA [ResultVar.cell 2 35] 200 (fun r => .ret (.agg [.int .i64 (s.term), .int .i64 (s.vote), .int .i64 (s.log.base), .int .i64 (s.log.term), .val (Value.slice A' s.log.l.length k'), .val (Value.slice A3 s.conf.length k3), .val (Value.slice A5 s.snap.length k5)]) (⟨[], [(1, .cells [.int .i64 (s.term), .int .i64 (s.vote), .int .i64 (s.log.base), .int .i64 (s.log.term), .val (Value.slice A' s.log.l.length k'), .val (Value.slice A3 s.conf.length k3), .val (Value.slice A5 s.snap.length k5)] 35), (0, .cells [.int .i64 (s.term), .int .i64 (s.vote), .int .i64 (s.log.base), .int .i64 (s.log.term), .val (Value.slice A' s.log.l.length k'), .val (Value.slice A3 s.conf.length k3), .val (Value.slice A5 s.snap.length k5)] 35)], 2⟩ : St)) rfl (by kernel_rfl) hS (by kernel_rfl) hs hR ?_
    refine sret fun ρ w6 hs hH => ⟨⟨A', k', A3, k3, A5, k5⟩, rfl, ⟨?_, ?_, ?_⟩, hH.tail.tail.tail.since0⟩
    · exact (hl.keep hH.tail.tail.since1 fun k hk _ => hR1.rest hk).weak fun k hk => Nat.le_trans hz1 hk
    · exact ((Slc.ofOwns ho (fun _ _ => rfl) (fun _ _ => rfl)).keep hH.tail.since1 fun k hk _ => hR2.rest hk).weak fun k hk => Nat.le_trans hz2 hk
    · exact (hb.keep hH.since1 fun k hk _ => hR4.rest hk).weak fun k hk => Nat.le_trans hz4 hk
theorem Stored_c (h : CoreR J w0 b c x) (hw : c.wf) (hm : c.log.may = true) :
    Calls Tryz.prog 11 #[coreP b] w0 (fun r w' => ∃ y, r = .returned ((keptS c.kept y).den env0) ∧ KeptR (fun k => w0.heap.size ≤ k) w' c.kept y ∧ Since w0 (fun _ => True) w') := by
  refine enterC h 11 [] Tryz.func11 rfl rfl rfl rfl rfl fun a hR hs => ?_
  refine go [ResultVar.cell 2 35] 100 (fun r => .need (true) (.call 15 [.agg [.int .i64 (c.term), .int .i64 (c.vote), .int .i64 (c.log.base), .int .i64 (c.log.term), .val (Value.slice x.k.LA c.log.l.length x.k.Lc), .val (Value.slice x.k.CA c.conf.length x.k.Cc), .val (Value.slice x.k.SA c.snap.length x.k.Sc)]] (some 10) [.ops (opsAt (bodyOf Go.Proofs.Tryz.f11) [1, 1, 0]) (List.drop 5 (opsAt (bodyOf Go.Proofs.Tryz.f11) [1, 1, 0])), .code (codeAt (bodyOf Go.Proofs.Tryz.f11) [1, 0, 1, 0, 1])] (⟨[(2, .ptr 1 0)], [(1, .cells [.int .i64 (0), .int .i64 (0), .int .i64 (0), .int .i64 (0), .val (Value.slice none 0 0), .val (Value.slice none 0 0), .val (Value.slice none 0 0)] 35), (0, .row 19 (1) (fun x_1 ↦ coreS c x))], 2⟩ : St))) rfl (by kernel_rfl) (by kernel_rfl) (by kernel_rfl) hs hR ?_
  refine sneed (by decide) (scall fun S ρ a w hs hR1 hS => ?_)
  have hc := own_kept_c (h.all (J' := J) hR1.heap.since0).kept hw.kept hm
  refine Calls.mono hc fun r w2 he => ?_
  obtain ⟨y, rfl, hk, hsn⟩ := he
  refine ⟨_, rfl, ?_⟩
  have hz1 := hR1.heap.since0.size
  have hR := ((hR1.pure hsn).res (d := 10) (v := keptS c.kept y) rfl rfl rfl rfl).snap
  refine go [ResultVar.cell 2 35] 100 (fun r => .ret (.agg [.int .i64 (c.kept.term), .int .i64 (c.kept.vote), .int .i64 (c.kept.log.base), .int .i64 (c.kept.log.term), .val (Value.slice y.LA c.kept.log.l.length y.Lc), .val (Value.slice y.CA c.kept.conf.length y.Cc), .val (Value.slice y.SA c.kept.snap.length y.Sc)]) (⟨[], [(1, .cells [.int .i64 (c.kept.term), .int .i64 (c.kept.vote), .int .i64 (c.kept.log.base), .int .i64 (c.kept.log.term), .val (Value.slice y.LA c.kept.log.l.length y.Lc), .val (Value.slice y.CA c.kept.conf.length y.Cc), .val (Value.slice y.SA c.kept.snap.length y.Sc)] 35), (0, .row 19 (1) (fun x_1 ↦ coreS c x))], 2⟩ : St)) rfl (by kernel_rfl) (by kernel_rfl) (by kernel_rfl) hs hR ?_
  refine sret fun ρ w6 hs hH => ⟨y, rfl, ?_, hH.tail.since0⟩
  exact (hk.keep hH.since1 fun k hk _ => hR1.rest hk).weak fun k hk => Nat.le_trans hz1 hk
end Go.Sx
