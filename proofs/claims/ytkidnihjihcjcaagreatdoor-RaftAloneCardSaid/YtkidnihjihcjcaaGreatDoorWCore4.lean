/- Walks of package raft, fourth part: the others, of one who is alone. -/
import Derived.Test.YtkidnihjihcjcaaGreatDoorWCore3
import Derived.Test.YtkidnihjihcjcaaGreatDoorWConf3
set_option linter.unusedSimpArgs false
set_option linter.unusedVariables false
set_option maxRecDepth 20000
namespace Go.Sx
open Go.Proofs
variable {J : Nat → Prop} {w0 : World} {b : Nat} {c : Core} {x : CoreV}
theorem others1_c {t1 : Nat} (h : CoreR J w0 b c x) (ht : w0.heap[t1]? = some (.cells #[coreP b] 23 (0, 0))) (y : Int) :
    Calls Tryz.prog 64 #[.int .i64 y, .pointer (some ⟨t1, 0, none⟩)] w0 (fun r w' => r = .returned (.bool (decide (y = c.id))) ∧ Since w0 (fun _ => True) w') := by
  have h1 : w0.cell? ⟨t1, 0, none⟩ = some (coreP b) := by unfold World.cell?; rw [ht]; rfl
  have h2 : w0.cell? ⟨b, 11, none⟩ = some (.int .i64 c.id) := by unfold World.cell?; rw [h.cell]; rfl
  go_enter Tryz.func64, Tryz.ntmps64
  go_wp2
  go_ret
  exact ⟨by congr 2, Since.refl _ _⟩
/-- One who is alone. -/
structure Core.alone (c : Core) : Prop where
  conf : c.conf = [c.id]
  plain : c.plain
theorem othersA_c (h : CoreR J w0 b c x) (hw : c.wf) (ha : c.alone) :
    Calls Tryz.prog 38 #[coreP b] w0 (fun r w' => ∃ A k, r = .returned (.slice A 0 k) ∧ Since w0 (fun _ => True) w') := by
  refine enterP 7 [.val (coreP b)] Tryz.func38 rfl rfl rfl rfl rfl fun a hR => ?_
  have hs := Env.Same.refl 0 env0
  refine go [ResultVar.tmp 2] 100 (fun r => .call 30 [.val (coreP b)] (some 4) [.ops (opsAt (bodyOf Go.Proofs.Tryz.f38) [1, 0]) (List.drop 2 (opsAt (bodyOf Go.Proofs.Tryz.f38) [1, 0])), .code (codeAt (bodyOf Go.Proofs.Tryz.f38) [1, 1])] (⟨[(2, .val (Value.slice none 0 0)), (1, .ptr 0 0)], [(0, .cells [.val (coreP b)] 23)], 1⟩ : St)) rfl (by kernel_rfl) (by kernel_rfl) (by kernel_rfl) hs hR ?_
  refine scall fun S ρ1 a w1 hs hR1 hS => Calls.mono (membersN_c (h.all (J' := J) hR1.heap.since0) hw ha.plain) fun r w2 he => ?_
  obtain ⟨v2, rfl, ho, hsn⟩ := he
  rw [ha.conf] at ho
  obtain ⟨A2, k2, rfl⟩ := ownsRow_form ho
  refine ⟨_, rfl, ?_⟩
  have hz1 := hR1.heap.since0.size
  have hR := ((hR1.pure hsn).resV 4 (.slice A2 1 k2) rfl).snap
  have hs := Env.Same.refl 1 ρ1
  refine go [ResultVar.tmp 2] 100 (fun r => .hand (opNth (bodyOf Go.Proofs.Tryz.f38) [1, 0] 2) [.ops (opsAt (bodyOf Go.Proofs.Tryz.f38) [1, 0]) (List.drop 3 (opsAt (bodyOf Go.Proofs.Tryz.f38) [1, 0])), .code (codeAt (bodyOf Go.Proofs.Tryz.f38) [1, 1])] (⟨[(4, .val (Value.slice A2 1 k2)), (2, .val (Value.slice none 0 0)), (1, .ptr 0 0)], [(0, .cells [.val (coreP b)] 23)], 1⟩ : St)) rfl (by kernel_rfl) (by kernel_rfl) (by kernel_rfl) hs hR ?_
  refine shand fun S ρ3 a w3 hs13 hR3 hS Q => ?_
  have e3 := hR3.ev (.tmp 1) (.ptr 0 0) rfl
  refine hand_val (some 5) (by kernel_rfl) (x := .func (.func 64) #[] #[.pointer (some ⟨ρ3.nu 0, 0, none⟩)]) (w' := w3) ?_ ?_
  · have eo : (opNth (bodyOf Tryz.f38) [1, 0] 2).op = .makeFunc (.func 64) #[] #[.tmp 1] := by kernel_rfl
    simp only [execOp, eo, Instr.makeFunc]
    simp [e3, SV.den]
  have hR := hR3.resV 5 (.func (.func 64) #[] #[.pointer (some ⟨ρ3.nu 0, 0, none⟩)]) rfl
  have hs := Env.Same.refl 1 ρ3
  refine go [ResultVar.tmp 2] 100 (fun r => .call 63 [.val (Value.slice A2 1 k2), .val (Value.func (Fn.func 64) #[] #[Value.pointer (some { block := ρ3.nu 0, off := 0 })])] (some 6) [.ops (opsAt (bodyOf Go.Proofs.Tryz.f38) [1, 0]) (List.drop 4 (opsAt (bodyOf Go.Proofs.Tryz.f38) [1, 0])), .code (codeAt (bodyOf Go.Proofs.Tryz.f38) [1, 1])] (⟨[(2, .val (Value.slice none 0 0))], [(0, .cells [.val (coreP b)] 23)], 1⟩ : St)) rfl (by kernel_rfl) (by kernel_rfl) (by kernel_rfl) hs hR ?_
  refine scall fun S ρ a w4 hs hR4 hS => ?_
  have en : ρ.nu 0 = ρ3.nu 0 := (hs 0 (by decide)).1.symm
  have hbox := hR4.heap.cells 0 _ _ (getT_mem rfl)
  have ho4 := ownsRow_keep ho hR4.heap.since1 fun k hk => hR1.rest (ho.lt k hk).1
  cases A2 with
  | none => exact absurd ho4.2 (by simp)
  | some ad =>
  obtain ⟨g, off, sp⟩ := ad
  have hf : off = 0 ∧ sp = none := by
    rcases ho4.2 with ⟨hn, _⟩ | ⟨g', cap', cur, hv, _⟩
    · cases hn
    · injection hv with hv _ _
      injection hv with hv
      injection hv with h1 h2 h3
      exact ⟨h2, h3⟩
  obtain ⟨rfl, rfl⟩ := hf
  have hg1 := ho4.lt g rfl
  refine Calls.mono (delete1_c (p := fun y => decide (y = c.id)) (y := c.id) (W := fun w => CoreR J w b c x ∧ w.heap[ρ3.nu 0]? = some (.cells #[coreP b] 23 (0, 0))) ho4
    ⟨64, #[.pointer (some ⟨ρ3.nu 0, 0, none⟩)], Tryz.f64, rfl, Tryz.func64, rfl, by decide, fun y w hw => others1_c hw.1 hw.2 y⟩
    (fun w hw => ⟨h.all (J' := J) (hR4.heap.tail.since0.trans hw fun _ _ _ => trivial), by rw [hw.block _ trivial (by rw [← en]; exact (Array.getElem?_eq_some_iff.1 hbox).1), ← en, hbox]; rfl⟩) (by simp)) fun r w5 he => ?_
  obtain ⟨A, k, rfl, hsn5⟩ := he
  refine ⟨_, rfl, ?_⟩
  have hb1 := hR1.below (getT_mem (i := 0) rfl)
  have e1 : ρ.nu 0 = ρ1.nu 0 := en.trans (hs13 0 (by decide)).1.symm
  have hR := (Rep.since hR4.unbase hsn5 (fun id cs t hm => ?_) (fun _ _ _ _ h => by rcases List.mem_cons.1 h with h | h <;> cases h) (fun b' J' hb k hk hlt => ?_)).resV 6 (.slice A 0 k) rfl
  · refine go [ResultVar.tmp 2] 100 (fun r => .ret (.val (Value.slice A 0 k)) (⟨[], [(0, .cells [.val (coreP b)] 23)], 1⟩ : St)) rfl (by kernel_rfl) (by kernel_rfl) (by kernel_rfl) hs hR ?_
    exact sret fun ρ w hs hH => ⟨A, k, rfl, hH.since0⟩
  · rcases List.mem_cons.1 hm with hm | hm
    · injection hm with h1 h2
      subst h1
      omega
    · cases hm
  · obtain ⟨rfl, rfl⟩ := Prod.mk.inj (List.mem_singleton.1 hb)
    omega
end Go.Sx
