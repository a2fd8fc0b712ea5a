/- Walks of package raft, first part: what reads a member and calls nothing but a log's functions. -/
import Derived.Test.YtkidnihjihcjcaaGreatDoorMCore
set_option linter.unusedSimpArgs false
set_option linter.unusedVariables false
namespace Go.Sx
open Go.Proofs
variable {J : Nat → Prop} {w0 : World} {b : Nat} {c : Core} {x : CoreV}
/-- The term of an index, as anybody is told it. -/
def Lg.tell (g : Lg) (index : Int) : Int × Option Int := if g.may then g.termOf index else (0, some 1)
theorem TermT_c {J : Nat → Prop} {w0 : World} {v : Value} {g : Lg} (index : Int) (h : Ents J w0 v g.l) (hw : g.wf) (hi : I64 index) :
    Calls Tryz.prog 51 #[valG g v, .int .i64 index] w0 (fun r w' => r = .returned ((SV.tup [.int .i64 (g.tell index).1, .err 54 (g.tell index).2]).den env0) ∧ Since w0 (fun _ => True) w') :=
  Calls.mono (Term_c index h hw hi) fun r w' he => by
    obtain ⟨rfl, hs⟩ := he
    refine ⟨?_, hs⟩
    unfold Lg.tell
    cases g.may <;> rfl
def Lg.lastT (g : Lg) : Int × Int := if g.may then g.last else (0, 0)
theorem LastT_c {J : Nat → Prop} {w0 : World} {v : Value} {g : Lg} (h : Ents J w0 v g.l) (hw : g.wf) :
    Calls Tryz.prog 34 #[valG g v] w0 (fun r w' => r = .returned ((SV.tup [.int .i64 g.lastT.1, .int .i64 g.lastT.2]).den env0) ∧ Since w0 (fun _ => True) w') :=
  Calls.mono (Last_c h hw) fun r w' he => by
    obtain ⟨rfl, hs⟩ := he
    refine ⟨?_, hs⟩
    unfold Lg.lastT
    cases g.may <;> rfl
theorem coreLast_c (h : CoreR J w0 b c x) (hw : c.wf) :
    Calls Tryz.prog 22 #[coreP b] w0 (fun r w' => r = .returned (.int .i64 c.log.lastT.1) ∧ Since w0 (fun _ => True) w') := by
  refine enterC h 15 [] Tryz.func22 rfl rfl rfl rfl rfl fun a hR hs => ?_
  refine go [ResultVar.tmp 2] 100 (fun r => .need (true) (.call 34 [.agg [.int .i64 (c.log.base), .int .i64 (c.log.term), .val (Value.slice x.k.LA c.log.l.length x.k.Lc)]] (some 11) [.ops (opsAt (bodyOf Go.Proofs.Tryz.f22) [1, 0]) (List.drop 6 (opsAt (bodyOf Go.Proofs.Tryz.f22) [1, 0])), .code (codeAt (bodyOf Go.Proofs.Tryz.f22) [1, 1])] (⟨[(2, .int .i64 (0))], [(0, .row 19 (1) (fun x_1 ↦ coreS c x))], 1⟩ : St))) rfl (by kernel_rfl) (by kernel_rfl) (by kernel_rfl) hs hR ?_
  refine sneed (by decide) (scall fun S ρ a w hs hR hS => Calls.mono (LastT_c (h.all (J' := J) hR.heap.since0).log hw.log) fun r w' he => ?_)
  obtain ⟨rfl, hsn⟩ := he
  refine ⟨_, rfl, ?_⟩
  have hR := (hR.pure hsn).res (d := 11) (v := .tup [.int .i64 c.log.lastT.1, .int .i64 c.log.lastT.2]) rfl rfl rfl rfl
  refine go [ResultVar.tmp 2] 100 (fun r => .ret (.int .i64 (c.log.lastT.fst)) (⟨[], [(0, .row 19 (1) (fun x_1 ↦ coreS c x))], 1⟩ : St)) rfl (by kernel_rfl) (by kernel_rfl) (by kernel_rfl) hs hR ?_
  exact sret fun ρ w hs hH => ⟨rfl, hH.since0⟩
def Core.ours (c : Core) : Bool := decide ((c.log.tell c.commit).2 = none ∧ (c.log.tell c.commit).1 = c.term)
theorem ours_c (h : CoreR J w0 b c x) (hw : c.wf) :
    Calls Tryz.prog 28 #[coreP b] w0 (fun r w' => r = .returned (.bool c.ours) ∧ Since w0 (fun _ => True) w') := by
  refine enterC h 30 [] Tryz.func28 rfl rfl rfl rfl rfl fun a hR hs => ?_
  refine go [ResultVar.tmp 2] 200 (fun r => .need (true) (.need (true) (.call 51 [.agg [.int .i64 (c.log.base), .int .i64 (c.log.term), .val (Value.slice x.k.LA c.log.l.length x.k.Lc)], .int .i64 (c.commit)] (some 16) [.any 5 [0] (opsAt (bodyOf Go.Proofs.Tryz.f28) [1, 0]) [true, true, true, true, true, true, true, true, true, true, true, false, false, false, false, false], .code (codeAt (bodyOf Go.Proofs.Tryz.f28) [1, 1])] (⟨[(2, .lit false), (0, .ep 0 19 (0) 0)], [(0, .row 19 (1) (fun x_1 ↦ coreS c x))], 1⟩ : St)))) rfl (by kernel_rfl) (by kernel_rfl) (by kernel_rfl) hs hR ?_
  refine sneed (by decide) (sneed (by decide) (scall fun S ρ a w hs hR hS => Calls.mono (TermT_c c.commit (h.all (J' := J) hR.heap.since0).log hw.log hw.commit) fun r w' he => ?_))
  obtain ⟨rfl, hsn⟩ := he
  refine ⟨_, rfl, ?_⟩
  have hR := (hR.pure hsn).res (d := 16) (v := .tup [.int .i64 (c.log.tell c.commit).1, .err 54 (c.log.tell c.commit).2]) rfl rfl rfl rfl
  have hS := hS.put 16 (.tup [.int .i64 (c.log.tell c.commit).1, .err 54 (c.log.tell c.commit).2])
  refine goA [ResultVar.tmp 2] 200 (fun r => .br (isNoneI (c.log.tell c.commit).snd) (.need (true) (.ret (.bool ((c.log.tell c.commit).fst == c.term)) (⟨[], [(0, .row 19 (1) (fun x_1 ↦ coreS c x))], 1⟩ : St))) (.ret (.lit false) (⟨[], [(0, .row 19 (1) (fun x_1 ↦ coreS c x))], 1⟩ : St))) rfl (by kernel_rfl) hS (by kernel_rfl) hs hR ?_
  refine sbr (fun h1 => sneed (by decide) (sret fun ρ w hs hH => ⟨?_, hH.since0⟩)) (fun h1 => sret fun ρ w hs hH => ⟨?_, hH.since0⟩)
  · show Ending.returned (.bool _) = _
    congr 2
    unfold Core.ours
    cases he : (c.log.tell c.commit).2 with
    | none => simp; rfl
    | some _ => rw [he] at h1; cases h1
  · show Ending.returned (.bool _) = _
    congr 2
    unfold Core.ours
    cases he : (c.log.tell c.commit).2 with
    | none => rw [he] at h1; cases h1
    | some _ => simp
theorem View_c (h : CoreR J w0 b c x) :
    Calls Tryz.prog 6 #[coreP b] w0 (fun r w' => r = .returned (.agg #[.int .i64 c.role, .int .i64 c.leader, .int .i64 c.commit, .int .i64 c.round]) ∧ Since w0 (fun _ => True) w') := by
  refine enterC h 10 [] Tryz.func6 rfl rfl rfl rfl rfl fun a hR hs => ?_
  refine go [ResultVar.cell 2 39] 100 (fun r => .need (true) (.ret (.agg [.int .i64 (c.role), .int .i64 (c.leader), .int .i64 (c.commit), .int .i64 (c.round)]) (⟨[], [(1, .cells [.int .i64 (c.role), .int .i64 (c.leader), .int .i64 (c.commit), .int .i64 (c.round)] 39), (0, .row 19 (1) (fun x_1 ↦ coreS c x))], 2⟩ : St))) rfl (by kernel_rfl) (by kernel_rfl) (by kernel_rfl) hs hR ?_
  exact sneed (by decide) (sret fun ρ w hs hH => ⟨rfl, hH.since0⟩)
end Go.Sx
