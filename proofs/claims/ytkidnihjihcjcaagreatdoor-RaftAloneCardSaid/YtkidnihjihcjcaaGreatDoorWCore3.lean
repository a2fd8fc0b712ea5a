/- Walks of package raft, third part: the members, where no entry names any. -/
import Derived.Test.YtkidnihjihcjcaaGreatDoorWCore2
import Derived.Test.YtkidnihjihcjcaaGreatDoorWMember2
set_option linter.unusedSimpArgs false
set_option linter.unusedVariables false
namespace Go.Sx
open Go.Proofs
variable {J : Nat → Prop} {w0 : World} {b : Nat} {c : Core} {x : CoreV}
theorem ownsRow_lower {w : World} {base base' : Nat} {e : TypeId} {sz n : Nat} {v : Value} {xs : List Value} (h : w.ownsRow base e sz v n xs) (hb : base' ≤ base) : w.ownsRow base' e sz v n xs := by
  refine ⟨h.1, ?_⟩
  rcases h.2 with hn | ⟨g, cap, cur, h1, h2, rest⟩
  · exact .inl hn
  · exact .inr ⟨g, cap, cur, h1, Nat.le_trans hb h2, rest⟩
/-- No entry names members. -/
def Core.plain (c : Core) : Prop := ∀ e ∈ c.log.l, e.kind ≠ 2
theorem Core.plain.no {c : Core} (h : c.plain) {upto : Int} {o : Option Nat} (ho : IsLast upto c.log.l o) : o = none := by
  cases o with
  | none => rfl
  | some k =>
    obtain ⟨h1, h2, _⟩ := ho
    exact (h _ (by simp [h1]) h2.1).elim
theorem memberN_c (h : CoreR J w0 b c x) (hw : c.wf) (hp : c.plain) (upto : Int) :
    Calls Tryz.prog 42 #[coreP b, .int .i64 upto] w0 (fun r w' => r = .returned (.pointer none) ∧ Since w0 (fun _ => True) w') := by
  obtain ⟨D, C, ⟨A, k, he, _, hr⟩, _⟩ := h.log
  injection he with he _ _
  rw [← he] at hr
  refine Calls.mono (member_c h hw upto hr) fun r w' hq => ?_
  obtain ⟨o, h1, h2, h3, _⟩ := hq
  exact ⟨h3 (hp.no h1), h2⟩
theorem uptoN_c (h : CoreR J w0 b c x) (hw : c.wf) (hp : c.plain) (index : Int) :
    Calls Tryz.prog 43 #[coreP b, .int .i64 index] w0 (fun r w' => ∃ v', r = .returned v' ∧ w'.ownsRow w0.heap.size 3 1 v' c.conf.length (rcells c.conf.length (elI c.conf)) ∧ Since w0 (fun _ => True) w') := by
  refine enterC h 30 [.int .i64 index] Tryz.func43 rfl rfl rfl rfl rfl fun a hR hs => ?_
  refine go [ResultVar.tmp 4] 100 (fun r => .call 42 [.ep 0 19 (0) 0, .int .i64 (index)] (some 10) [.ops (opsAt (bodyOf Go.Proofs.Tryz.f43) [1, 0, 0]) (List.drop 3 (opsAt (bodyOf Go.Proofs.Tryz.f43) [1, 0, 0])), .code (codeAt (bodyOf Go.Proofs.Tryz.f43) [1, 0, 1]), .code (codeAt (bodyOf Go.Proofs.Tryz.f43) [1, 1])] (⟨[(4, .val (Value.slice none 0 0)), (0, .ep 0 19 (0) 0)], [(0, .row 19 (1) (fun x_1 ↦ coreS c x))], 1⟩ : St)) rfl (by kernel_rfl) (by kernel_rfl) (by kernel_rfl) hs hR ?_
  refine scall fun S ρ a w1 hs hR1 hS => ?_
  have e : (denL ρ [.ep 0 19 0 0, .int .i64 index]).toArray = #[coreP b, .int .i64 index] := by
    simp [denL, SV.den, Env.ad, ← (hs 0 (by decide)).2]
  rw [e]
  refine Calls.mono (memberN_c (h.all (J' := J) hR1.heap.since0) hw hp index) fun r w2 he => ?_
  obtain ⟨rfl, hsn⟩ := he
  refine ⟨_, rfl, ?_⟩
  have hR := (hR1.pure hsn).resV 10 (.pointer none) rfl
  refine go [ResultVar.tmp 4] 200 (fun r => .need (true) (.call 36 [.val (Value.slice x.k.CA c.conf.length x.k.Cc)] (some 29) [.ops (opsAt (bodyOf Go.Proofs.Tryz.f43) [1, 1, 0]) (List.drop 6 (opsAt (bodyOf Go.Proofs.Tryz.f43) [1, 1, 0])), .code (codeAt (bodyOf Go.Proofs.Tryz.f43) [1, 0, 1, 1, 0, 1, 1, 0, 1])] (⟨[(4, .val (Value.slice none 0 0))], [(0, .row 19 (1) (fun x_1 ↦ coreS c x))], 1⟩ : St))) rfl (by kernel_rfl) (by kernel_rfl) (by kernel_rfl) hs hR ?_
  refine sneed (by decide) (scall fun S ρ a w3 hs hR3 hS => Calls.mono (cloneConf_c (h.all (J' := J) hR3.heap.since0).conf hw.kept.conf) fun r w4 he => ?_)
  obtain ⟨v4, rfl, ho, hsn4⟩ := he
  obtain ⟨A4, k4, rfl⟩ := ownsRow_form ho
  refine ⟨_, rfl, ?_⟩
  have hz3 := hR3.heap.since0.size
  have hR := ((hR3.pure hsn4).resV 29 (.slice A4 c.conf.length k4) rfl).snap
  refine go [ResultVar.tmp 4] 100 (fun r => .ret (.val (Value.slice A4 c.conf.length k4)) (⟨[], [(0, .row 19 (1) (fun x_1 ↦ coreS c x))], 1⟩ : St)) rfl (by kernel_rfl) (by kernel_rfl) (by kernel_rfl) hs hR ?_
  exact sret fun ρ w5 hs hH => ⟨_, rfl, ownsRow_lower (ownsRow_keep ho hH.since1 fun _ _ => Rest.none rfl _) hz3, hH.tail.since0⟩
theorem membersN_c (h : CoreR J w0 b c x) (hw : c.wf) (hp : c.plain) :
    Calls Tryz.prog 30 #[coreP b] w0 (fun r w' => ∃ v', r = .returned v' ∧ w'.ownsRow w0.heap.size 3 1 v' c.conf.length (rcells c.conf.length (elI c.conf)) ∧ Since w0 (fun _ => True) w') := by
  refine enterC h 7 [] Tryz.func30 rfl rfl rfl rfl rfl fun a hR hs => ?_
  refine go [ResultVar.tmp 2] 100 (fun r => .call 22 [.ep 0 19 (0) 0] (some 5) [.ops (opsAt (bodyOf Go.Proofs.Tryz.f30) [1, 0]) (List.drop 3 (opsAt (bodyOf Go.Proofs.Tryz.f30) [1, 0])), .code (codeAt (bodyOf Go.Proofs.Tryz.f30) [1, 1])] (⟨[(3, .ep 0 19 (0) 0), (2, .val (Value.slice none 0 0))], [(0, .row 19 (1) (fun x_1 ↦ coreS c x))], 1⟩ : St)) rfl (by kernel_rfl) (by kernel_rfl) (by kernel_rfl) hs hR ?_
  refine scall fun S ρ a w1 hs hR1 hS => ?_
  have e : (denL ρ [.ep 0 19 0 0]).toArray = #[coreP b] := by
    simp [denL, SV.den, Env.ad, ← (hs 0 (by decide)).2]
  rw [e]
  refine Calls.mono (coreLast_c (h.all (J' := J) hR1.heap.since0) hw) fun r w2 he => ?_
  obtain ⟨rfl, hsn⟩ := he
  refine ⟨_, rfl, ?_⟩
  have hR := (hR1.pure hsn).res (d := 5) (v := .int .i64 c.log.lastT.1) rfl rfl rfl rfl
  refine go [ResultVar.tmp 2] 100 (fun r => .call 43 [.ep 0 19 (0) 0, .int .i64 (c.log.lastT.fst)] (some 6) [.ops (opsAt (bodyOf Go.Proofs.Tryz.f30) [1, 0]) (List.drop 4 (opsAt (bodyOf Go.Proofs.Tryz.f30) [1, 0])), .code (codeAt (bodyOf Go.Proofs.Tryz.f30) [1, 1])] (⟨[(2, .val (Value.slice none 0 0))], [(0, .row 19 (1) (fun x_1 ↦ coreS c x))], 1⟩ : St)) rfl (by kernel_rfl) (by kernel_rfl) (by kernel_rfl) hs hR ?_
  refine scall fun S ρ a w3 hs hR3 hS => ?_
  have e : (denL ρ [.ep 0 19 0 0, .int .i64 c.log.lastT.1]).toArray = #[coreP b, .int .i64 c.log.lastT.1] := by
    simp [denL, SV.den, Env.ad, ← (hs 0 (by decide)).2]
  rw [e]
  refine Calls.mono (uptoN_c (h.all (J' := J) hR3.heap.since0) hw hp _) fun r w4 he => ?_
  obtain ⟨v4, rfl, ho, hsn4⟩ := he
  obtain ⟨A4, k4, rfl⟩ := ownsRow_form ho
  refine ⟨_, rfl, ?_⟩
  have hz3 := hR3.heap.since0.size
  have hR := ((hR3.pure hsn4).resV 6 (.slice A4 c.conf.length k4) rfl).snap
  refine go [ResultVar.tmp 2] 100 (fun r => .ret (.val (Value.slice A4 c.conf.length k4)) (⟨[], [(0, .row 19 (1) (fun x_1 ↦ coreS c x))], 1⟩ : St)) rfl (by kernel_rfl) (by kernel_rfl) (by kernel_rfl) hs hR ?_
  exact sret fun ρ w5 hs hH => ⟨_, rfl, ownsRow_lower (ownsRow_keep ho hH.since1 fun _ _ => Rest.none rfl _) hz3, hH.tail.since0⟩
end Go.Sx
