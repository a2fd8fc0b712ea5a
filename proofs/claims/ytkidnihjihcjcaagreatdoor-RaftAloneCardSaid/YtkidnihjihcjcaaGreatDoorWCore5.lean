/- Walks of package raft, fifth part: what is sent by one who is alone: nothing. -/
import Derived.Test.YtkidnihjihcjcaaGreatDoorWCore4
set_option linter.unusedSimpArgs false
set_option linter.unusedVariables false
set_option maxRecDepth 20000
namespace Go.Sx
open Go.Proofs
variable {J : Nat → Prop} {w0 : World} {b : Nat} {c : Core} {x : CoreV}
theorem sendAllA_c (h : CoreR J w0 b c x) (hw : c.wf) (ha : c.alone) :
    Calls Tryz.prog 17 #[coreP b] w0 (fun r w' => r = .returned (.slice none 0 0) ∧ Since w0 (fun _ => True) w') := by
  refine enterP 29 [.val (coreP b)] Tryz.func17 rfl rfl rfl rfl rfl fun a hR => ?_
  have hs := Env.Same.refl 0 env0
  refine go [ResultVar.tmp 2] 100 (fun r => .call 38 [.val (coreP b)] (some 7) [.ops (opsAt (bodyOf Go.Proofs.Tryz.f17) [1, 1, 0, 0]) (List.drop 2 (opsAt (bodyOf Go.Proofs.Tryz.f17) [1, 1, 0, 0])), .code (codeAt (bodyOf Go.Proofs.Tryz.f17) [1, 1, 0, 1]), .code (codeAt (bodyOf Go.Proofs.Tryz.f17) [1, 1, 1])] (⟨[(3, .val (Value.slice none 0 0)), (2, .val (Value.slice none 0 0)), (0, .val (coreP b))], [], 0⟩ : St)) rfl (by kernel_rfl) (by kernel_rfl) (by kernel_rfl) hs hR ?_
  refine scall fun S ρ1 a w1 hs hR1 hS => Calls.mono (othersA_c (h.all (J' := J) hR1.heap.since0) hw ha) fun r w2 he => ?_
  obtain ⟨A, k, rfl, hsn⟩ := he
  refine ⟨_, rfl, ?_⟩
  have hR := ((hR1.pure hsn).resV 7 (.slice A 0 k) rfl)
  refine go [ResultVar.tmp 2] 100 (fun r => .stop [.code (codeAt (bodyOf Go.Proofs.Tryz.f17) [1, 1, 0, 1, 0]), .blk 0, .code (codeAt (bodyOf Go.Proofs.Tryz.f17) [1, 1, 1])] (⟨[(9, .int .i64 (0)), (8, .int .i64 ((↑0 : Int))), (7, .val (Value.slice A 0 k)), (3, .val (Value.slice none 0 0)), (2, .val (Value.slice none 0 0)), (0, .val (coreP b))], [], 0⟩ : St)) rfl (by kernel_rfl) (by kernel_rfl) (by kernel_rfl) hs hR ?_
  refine sstop fun S ρ a w3 hs hR3 hS => ?_
  let F : Nat → St := fun _ => ⟨[(3, .val (.slice none 0 0)), (8, .int .i64 0), (9, .int .i64 0)], [], 0⟩
  refine loopF (N := 29) (B := B0 w0) 0 F (fun _ _ => True) (fun i => i) 0 (by kernel_rfl) (by kernel_rfl) hs trivial (hR3.into (by kernel_rfl) (by kernel_rfl) rfl (ltT_nil _)) ?_
  rintro _ ρ a w4 hs _ hR4
  refine go [ResultVar.tmp 2] 100 (fun r => .br (false) (.hand (opNth (bodyOf Go.Proofs.Tryz.f17) [1, 1, 0, 1, 0, 0, 1, 1, 0, 0, 0] 0) [.ops (opsAt (bodyOf Go.Proofs.Tryz.f17) [1, 1, 0, 1, 0, 0, 1, 1, 0, 0, 0]) (List.drop 1 (opsAt (bodyOf Go.Proofs.Tryz.f17) [1, 1, 0, 1, 0, 0, 1, 1, 0, 0, 0])), .code (codeAt (bodyOf Go.Proofs.Tryz.f17) [1, 1, 0, 1, 0, 0, 1, 1, 0, 0, 1]), .blk 1, .code (codeAt (bodyOf Go.Proofs.Tryz.f17) [1, 1, 0, 1, 0, 0, 1, 1, 1]), .mark 0, .code (codeAt (bodyOf Go.Proofs.Tryz.f17) [1, 1, 0, 1, 0]), .blk 0, .code (codeAt (bodyOf Go.Proofs.Tryz.f17) [1, 1, 1])] (⟨[(10, .lit true), (3, .val (Value.slice none 0 0)), (8, .int .i64 (0)), (9, .int .i64 (0))], [], 0⟩ : St)) (.ret (.val (Value.slice none 0 0)) (⟨[], [], 0⟩ : St))) rfl (by kernel_rfl) (by kernel_rfl) (by kernel_rfl) hs hR4 ?_
  exact sbr (fun h1 => absurd h1 (by decide)) (fun _ => sret fun ρ w hs hH => ⟨rfl, hH.since0⟩)
/-- The pointer that a member is read by. -/
theorem denE {ρ : Env} {b : Nat} (hs : Env.Same 1 (envC b) ρ) : (SV.ep 0 19 0 0).den ρ = coreP b := by
  simp [SV.den, Env.ad, ← (hs 0 (by decide)).2]
theorem membersR_c (h : CoreR J w0 b c x) (hw : c.wf) (hp : c.plain) :
    Calls Tryz.prog 30 #[coreP b] w0 (fun r w' => ∃ A k, r = .returned (.slice A c.conf.length k) ∧ Ints (fun k => w0.heap.size ≤ k) w' (.slice A c.conf.length k) c.conf ∧ Since w0 (fun _ => True) w') :=
  Calls.mono (membersN_c h hw hp) fun r w' he => by
    obtain ⟨v, rfl, ho, hs⟩ := he
    obtain ⟨A, k, rfl⟩ := ownsRow_form ho
    exact ⟨A, k, rfl, Slc.ofOwns ho (fun _ _ => rfl) (fun _ _ => rfl), hs⟩
theorem confOne_may {i : Int} (h1 : 1 ≤ i) (h2 : i ≤ 64) : confMay [i] = true := by
  simp only [confMay, incM, List.length_cons, List.length_nil, Bool.and_true, Bool.and_eq_true, decide_eq_true_eq]
  omega
theorem coreMayA_c (h : CoreR J w0 b c x) (hw : c.wf) (ha : c.alone) (h1 : 1 ≤ c.id) (h2 : c.id ≤ 64) :
    Calls Tryz.prog 18 #[coreP b] w0 (fun r w' => r = .returned (.bool true) ∧ Since w0 (fun _ => True) w') := by
  refine enterC h 43 [] Tryz.func18 rfl rfl rfl rfl rfl fun a hR hs => ?_
  refine go [ResultVar.tmp 2] 100 (fun r => .need (true) (.call 30 [.ep 0 19 (0) 0] (some 5) [.any 1 [0] (opsAt (bodyOf Go.Proofs.Tryz.f18) [1, 0, 0]) [true, true, true, true, true, true, false], .code (codeAt (bodyOf Go.Proofs.Tryz.f18) [1, 0, 1]), .code (codeAt (bodyOf Go.Proofs.Tryz.f18) [1, 1])] (⟨[(9, .int .i64 (c.id)), (2, .lit false), (0, .ep 0 19 (0) 0)], [(0, .row 19 (1) (fun x_1 ↦ coreS c x))], 1⟩ : St))) rfl (by kernel_rfl) (by kernel_rfl) (by kernel_rfl) hs hR ?_
  refine sneed (by decide) (scall fun S ρ a w1 hs hR1 hS => ?_)
  rw [denL, denE hs]
  refine Calls.mono (membersR_c (h.all (J' := J) hR1.heap.since0) hw ha.plain) fun r w2 he => ?_
  obtain ⟨A, k, rfl, hI, hsn⟩ := he
  refine ⟨_, rfl, ?_⟩
  have hR := ((hR1.pure hsn).resV 5 (.slice A c.conf.length k) rfl).snap
  have hS := hS.put 5 (.val (.slice A c.conf.length k))
  refine goA [ResultVar.tmp 2] 100 (fun r => .call 41 [.val (Value.slice A c.conf.length k), .int .i64 (c.id)] (some 10) [.any 0 [0] (opsAt (bodyOf Go.Proofs.Tryz.f18) [1, 0, 0]) [true, true, true, true, true, true, true], .code (codeAt (bodyOf Go.Proofs.Tryz.f18) [1, 0, 1]), .code (codeAt (bodyOf Go.Proofs.Tryz.f18) [1, 1])] (⟨[(2, .lit false), (0, .ep 0 19 (0) 0)], [(0, .row 19 (1) (fun x_1 ↦ coreS c x))], 1⟩ : St)) rfl (by kernel_rfl) hS (by kernel_rfl) hs hR ?_
  refine scall fun S ρ a w3 hs hR3 hS => Calls.mono (Has_c c.id (hI.keep hR3.heap.since1 fun _ _ _ => Rest.none rfl _) hw.kept.conf) fun r w4 he => ?_
  obtain ⟨rfl, hsn4⟩ := he
  have et : (confMay c.conf && decide (c.id ∈ c.conf)) = true := by rw [ha.conf, confOne_may h1 h2]; simp
  rw [et]
  refine ⟨_, rfl, ?_⟩
  have hR := (hR3.pure hsn4).unbase.res (d := 10) (v := .lit true) rfl rfl rfl rfl
  have hS := hS.put 10 (.lit true)
  refine goA [ResultVar.tmp 2] 100 (fun r => .ret (.lit true) (⟨[], [(0, .row 19 (1) (fun x_1 ↦ coreS c x))], 1⟩ : St)) rfl (by kernel_rfl) hS (by kernel_rfl) hs hR ?_
  exact sret fun ρ w hs hH => ⟨rfl, hH.since0⟩
end Go.Sx
