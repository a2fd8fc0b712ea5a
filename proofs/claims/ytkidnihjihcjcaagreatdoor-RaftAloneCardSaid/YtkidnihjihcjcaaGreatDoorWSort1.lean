/- The library's sort at a slice of one number: nothing changes. -/
import Derived.Test.YtkidnihjihcjcaaGreatDoorWConf3
set_option linter.unusedSimpArgs false
set_option linter.unusedVariables false
set_option maxRecDepth 20000
namespace Go.Sx
open Go.Proofs
theorem len64_one (w0 : World) :
    Calls Tryz.prog 106 #[.int .u64 1] w0 (fun r w' => (∃ n, r = .returned (.int .i64 n)) ∧ Since w0 (fun _ => True) w') := by
  refine enterP 25 [.int .u64 1] Tryz.func106 rfl rfl rfl rfl rfl fun a hR => ?_
  have hs := Env.Same.refl 0 env0
  refine go [ResultVar.tmp 2] 200 (fun r => .br (false) (.hand (opNth (bodyOf Go.Proofs.Tryz.f106) [1, 0, 1, 0, 0] 1) [.ops (opsAt (bodyOf Go.Proofs.Tryz.f106) [1, 0, 1, 0, 0]) (List.drop 2 (opsAt (bodyOf Go.Proofs.Tryz.f106) [1, 0, 1, 0, 0])), .code (codeAt (bodyOf Go.Proofs.Tryz.f106) [1, 0, 1, 0, 1]), .code (codeAt (bodyOf Go.Proofs.Tryz.f106) [1, 1])] (⟨[(5, .int .u64 (1)), (2, .int .i64 (0)), (0, .int .u64 (1))], [], 0⟩ : St)) (.br (false) (.hand (opNth (bodyOf Go.Proofs.Tryz.f106) [1, 1, 0, 1, 0, 0] 1) [.ops (opsAt (bodyOf Go.Proofs.Tryz.f106) [1, 1, 0, 1, 0, 0]) (List.drop 2 (opsAt (bodyOf Go.Proofs.Tryz.f106) [1, 1, 0, 1, 0, 0])), .code (codeAt (bodyOf Go.Proofs.Tryz.f106) [1, 1, 0, 1, 0, 1]), .code (codeAt (bodyOf Go.Proofs.Tryz.f106) [1, 1, 1])] (⟨[(9, .int .u64 (1)), (2, .int .i64 (0)), (0, .int .u64 (1))], [], 0⟩ : St)) (.br (false) (.hand (opNth (bodyOf Go.Proofs.Tryz.f106) [1, 1, 1, 0, 1, 0, 0] 1) [.ops (opsAt (bodyOf Go.Proofs.Tryz.f106) [1, 1, 1, 0, 1, 0, 0]) (List.drop 2 (opsAt (bodyOf Go.Proofs.Tryz.f106) [1, 1, 1, 0, 1, 0, 0])), .code (codeAt (bodyOf Go.Proofs.Tryz.f106) [1, 1, 1, 0, 1, 0, 1]), .code (codeAt (bodyOf Go.Proofs.Tryz.f106) [1, 1, 1, 1])] (⟨[(15, .int .u64 (1)), (2, .int .i64 (0)), (0, .int .u64 (1))], [], 0⟩ : St)) (.hand (opNth (bodyOf Go.Proofs.Tryz.f106) [1, 1, 1, 1, 0] 3) [.ops (opsAt (bodyOf Go.Proofs.Tryz.f106) [1, 1, 1, 1, 0]) (List.drop 4 (opsAt (bodyOf Go.Proofs.Tryz.f106) [1, 1, 1, 1, 0])), .code (codeAt (bodyOf Go.Proofs.Tryz.f106) [1, 1, 1, 1, 1])] (⟨[(21, .int .u8 (IntKind.u8.wrap 1)), (19, .int .i64 (0)), (2, .int .i64 (0))], [], 0⟩ : St))))) rfl (by kernel_rfl) (by kernel_rfl) (by kernel_rfl) hs hR ?_
  refine sbr (fun h1 => absurd h1 (by decide)) (fun _ => sbr (fun h1 => absurd h1 (by decide)) (fun _ => sbr (fun h1 => absurd h1 (by decide)) (fun _ => shand fun S ρ a w1 hs hR1 hS Q => ?_)))
  have e1 := hR1.ev (.tmp 21) (.int .u8 (IntKind.u8.wrap 1)) rfl
  refine hand_val (some 22) (by kernel_rfl) (x := .int .u8 1) (w' := w1) ?_ ?_
  · obtain ⟨s, eo, hs⟩ : ∃ s, (opNth (bodyOf Tryz.f106) [1, 1, 1, 1, 0] 3).op = .index 9 (.const (.string s)) (.tmp 21) ∧ ∀ w, (Instr.index 9 (.string s) (.int .u8 1)).run Tryz.prog w = .ok (.int .u8 1) w := ⟨_, rfl, fun w => by kernel_rfl⟩
    have e1 : a.eval (.tmp 21) = .int .u8 1 := e1
    have ec : a.eval (.const (.string s)) = .string s := rfl
    simp only [execOp, eo, e1, ec, Sem.run_bind, hs, Result.andThen_ok, Sem.run_pure]
  have hR := hR1.res (d := 22) (v := .int .u8 1) rfl rfl rfl rfl
  refine go [ResultVar.tmp 2] 100 (fun r => .ret (.int .i64 (IntKind.i64.wrap (0 + IntKind.i64.wrap 1))) (⟨[], [], 0⟩ : St)) rfl (by kernel_rfl) (by kernel_rfl) (by kernel_rfl) hs hR ?_
  exact sret fun ρ w hs hH => ⟨⟨_, rfl⟩, hH.since0⟩
theorem len_one (w0 : World) :
    Calls Tryz.prog 91 #[.int .u64 1] w0 (fun r w' => (∃ n, r = .returned (.int .i64 n)) ∧ Since w0 (fun _ => True) w') := by
  refine enterP 8 [.int .u64 1] Tryz.func91 rfl rfl rfl rfl rfl fun a hR => ?_
  have hs := Env.Same.refl 0 env0
  refine go [ResultVar.tmp 2] 200 (fun r => .call 106 [.int .u64 (1)] (some 7) [.ops (opsAt (bodyOf Go.Proofs.Tryz.f91) [1, 1, 0]) (List.drop 2 (opsAt (bodyOf Go.Proofs.Tryz.f91) [1, 1, 0])), .code (codeAt (bodyOf Go.Proofs.Tryz.f91) [1, 0, 0, 1])] (⟨[(2, .int .i64 (0))], [], 0⟩ : St)) rfl (by kernel_rfl) (by kernel_rfl) (by kernel_rfl) hs hR ?_
  refine scall fun S ρ a w hs hR hS => Calls.mono (len64_one w) fun r w' he => ?_
  obtain ⟨⟨n, rfl⟩, hsn⟩ := he
  refine ⟨_, rfl, ?_⟩
  have hR := (hR.pure hsn).res (d := 7) (v := .int .i64 n) rfl rfl rfl rfl
  refine go [ResultVar.tmp 2] 100 (fun r => .ret (.int .i64 (n)) (⟨[], [], 0⟩ : St)) rfl (by kernel_rfl) (by kernel_rfl) (by kernel_rfl) hs hR ?_
  exact sret fun ρ w hs hH => ⟨⟨n, rfl⟩, hH.since0⟩
theorem insertion_one (A : Option Addr) (k : Nat) (w0 : World) :
    Calls Tryz.prog 96 #[.slice A 1 k, .int .i64 0, .int .i64 1] w0 (fun r w' => r = .returned (.tuple #[]) ∧ Since w0 (fun _ => True) w') := by
  refine enterP 49 [.val (.slice A 1 k), .int .i64 0, .int .i64 1] Tryz.func96 rfl rfl rfl rfl rfl fun a hR => ?_
  have hs := Env.Same.refl 0 env0
  refine go [] 200 (fun r => .stop [.code (codeAt (bodyOf Go.Proofs.Tryz.f96) [1, 0]), .blk 0] (⟨[(6, .int .i64 (IntKind.i64.wrap (0 + 1))), (0, .val (Value.slice A 1 k)), (1, .int .i64 (0)), (2, .int .i64 (1))], [], 0⟩ : St)) rfl (by kernel_rfl) (by kernel_rfl) (by kernel_rfl) hs hR ?_
  refine sstop fun S ρ a w3 hs hR3 hS => ?_
  let F : Nat → St := fun _ => ⟨[(0, .val (.slice A 1 k)), (1, .int .i64 0), (2, .int .i64 1), (6, .int .i64 1)], [], 0⟩
  refine loopF (N := 49) (B := B0 w0) 0 F (fun _ _ => True) (fun i => i) 0 (by kernel_rfl) (by kernel_rfl) hs trivial ((hR3.spell64 6 (IntKind.i64.wrap (0 + 1)) 1 (by kernel_rfl) (wrap_i64 (x := 0 + 1) (by omega) (by omega))).into (by kernel_rfl) (by kernel_rfl) rfl (ltT_nil _)) ?_
  rintro _ ρ a w4 hs _ hR4
  refine go [] 200 (fun r => .br (false) (.stop [.code (codeAt (bodyOf Go.Proofs.Tryz.f96) [1, 0, 0, 1, 0, 0, 1, 0]), .blk 2, .blk 1, .code (codeAt (bodyOf Go.Proofs.Tryz.f96) [1, 0, 0, 1, 1]), .mark 0, .code (codeAt (bodyOf Go.Proofs.Tryz.f96) [1, 0]), .blk 0] (⟨[(7, .int .i64 (1)), (15, .int .i64 (1)), (12, .lit true), (11, .int .i64 (1)), (10, .int .i64 (1)), (0, .val (Value.slice A 1 k)), (1, .int .i64 (0)), (2, .int .i64 (1)), (6, .int .i64 (1))], [], 0⟩ : St)) (.ret (.tup []) (⟨[], [], 0⟩ : St))) rfl (by kernel_rfl) (by kernel_rfl) (by kernel_rfl) hs hR4 ?_
  exact sbr (fun h1 => absurd h1 (by decide)) (fun _ => sret fun ρ w hs hH => ⟨rfl, hH.since0⟩)
theorem pdq_one (A : Option Addr) (k : Nat) (n : Int) (w0 : World) :
    Calls Tryz.prog 90 #[.slice A 1 k, .int .i64 0, .int .i64 1, .int .i64 n] w0 (fun r w' => r = .returned (.tuple #[]) ∧ Since w0 (fun _ => True) w') := by
  refine enterP 134 [.val (.slice A 1 k), .int .i64 0, .int .i64 1, .int .i64 n] Tryz.func90 rfl rfl rfl rfl rfl fun a hR => ?_
  have hs := Env.Same.refl 0 env0
  refine go [] 200 (fun r => .stop [.code (codeAt (bodyOf Go.Proofs.Tryz.f90) [1, 1, 0]), .blk 0] (⟨[(9, .lit true), (8, .lit true), (0, .val (Value.slice A 1 k)), (1, .int .i64 (0)), (2, .int .i64 (1)), (3, .int .i64 (n))], [], 0⟩ : St)) rfl (by kernel_rfl) (by kernel_rfl) (by kernel_rfl) hs hR ?_
  refine sstop fun S ρ a w3 hs hR3 hS => ?_
  let F : Nat → St := fun _ => ⟨[(0, .val (.slice A 1 k)), (1, .int .i64 0), (2, .int .i64 1), (3, .int .i64 n), (8, .lit true), (9, .lit true)], [], 0⟩
  refine loopF (N := 134) (B := B0 w0) 0 F (fun _ _ => True) (fun i => i) 0 (by kernel_rfl) (by kernel_rfl) hs trivial (hR3.into (by kernel_rfl) (by kernel_rfl) rfl (ltT_nil _)) ?_
  rintro _ ρ a w4 hs _ hR4
  refine go [] 17 (fun r => .br (true) (.stop [.ops (opsAt (bodyOf Go.Proofs.Tryz.f90) [1, 1, 0, 0, 0, 1, 0, 1, 0, 0]) (List.drop 0 (opsAt (bodyOf Go.Proofs.Tryz.f90) [1, 1, 0, 0, 0, 1, 0, 1, 0, 0])), .code (codeAt (bodyOf Go.Proofs.Tryz.f90) [1, 1, 0, 0, 0, 1, 0, 1, 0, 1]), .code (codeAt (bodyOf Go.Proofs.Tryz.f90) [1, 1, 0, 0, 0, 1, 1]), .blk 1, .mark 0, .code (codeAt (bodyOf Go.Proofs.Tryz.f90) [1, 1, 0]), .blk 0] (⟨[(23, .lit true), (22, .int .i64 (IntKind.i64.wrap (1 - 0))), (10, .int .i64 (IntKind.i64.wrap (1 - 0))), (21, .int .i64 (IntKind.i64.wrap (1 - 0))), (20, .int .i64 (0)), (19, .int .i64 (1)), (0, .val (Value.slice A 1 k)), (1, .int .i64 (0)), (2, .int .i64 (1)), (3, .int .i64 (n)), (8, .lit true), (9, .lit true)], [], 0⟩ : St)) (.stop [.code (codeAt (bodyOf Go.Proofs.Tryz.f90) [1, 1, 0, 0, 0, 1, 1, 0]), .code (codeAt (bodyOf Go.Proofs.Tryz.f90) [1, 1, 0, 0, 0, 1, 1, 1]), .blk 1, .mark 0, .code (codeAt (bodyOf Go.Proofs.Tryz.f90) [1, 1, 0]), .blk 0] (⟨[(23, .lit false), (22, .int .i64 (IntKind.i64.wrap (1 - 0))), (10, .int .i64 (IntKind.i64.wrap (1 - 0))), (21, .int .i64 (IntKind.i64.wrap (1 - 0))), (20, .int .i64 (0)), (19, .int .i64 (1)), (0, .val (Value.slice A 1 k)), (1, .int .i64 (0)), (2, .int .i64 (1)), (3, .int .i64 (n)), (8, .lit true), (9, .lit true)], [], 0⟩ : St))) rfl (by kernel_rfl) (by kernel_rfl) (by kernel_rfl) hs hR4 ?_
  refine sbr (fun _ => sstop fun S ρ a w5 hs hR5 hS => ?_) (fun h1 => absurd h1 (by decide))
  have hR := hR5
  refine go [] 100 (fun r => .call 96 [.val (Value.slice A 1 k), .int .i64 (0), .int .i64 (1)] (some 27) [.ops (opsAt (bodyOf Go.Proofs.Tryz.f90) [1, 1, 0, 0, 0, 1, 0, 1, 0, 0]) (List.drop 4 (opsAt (bodyOf Go.Proofs.Tryz.f90) [1, 1, 0, 0, 0, 1, 0, 1, 0, 0])), .code (codeAt (bodyOf Go.Proofs.Tryz.f90) [1, 1, 0, 0, 0, 1, 0, 1, 0, 1]), .code (codeAt (bodyOf Go.Proofs.Tryz.f90) [1, 1, 0, 0, 0, 1, 1]), .blk 1, .mark 0, .code (codeAt (bodyOf Go.Proofs.Tryz.f90) [1, 1, 0]), .blk 0] (⟨[(26, .int .i64 (1)), (25, .int .i64 (0)), (24, .val (Value.slice A 1 k)), (23, .lit true), (22, .int .i64 (IntKind.i64.wrap (1 - 0))), (10, .int .i64 (IntKind.i64.wrap (1 - 0))), (21, .int .i64 (IntKind.i64.wrap (1 - 0))), (20, .int .i64 (0)), (19, .int .i64 (1)), (0, .val (Value.slice A 1 k)), (1, .int .i64 (0)), (2, .int .i64 (1)), (3, .int .i64 (n)), (8, .lit true), (9, .lit true)], [], 0⟩ : St)) rfl (by kernel_rfl) (by kernel_rfl) (by kernel_rfl) hs hR ?_
  refine scall fun S ρ a w6 hs hR6 hS => Calls.mono (insertion_one A k w6) fun r w7 he => ?_
  obtain ⟨rfl, hsn⟩ := he
  refine ⟨_, rfl, ?_⟩
  have hR := (hR6.pure hsn).res (d := 27) (v := .tup []) rfl rfl rfl rfl
  refine go [] 100 (fun r => .ret (.tup []) (⟨[], [], 0⟩ : St)) rfl (by kernel_rfl) (by kernel_rfl) (by kernel_rfl) hs hR ?_
  exact sret fun ρ w hs hH => ⟨rfl, hH.since0⟩
theorem sort_one (A : Option Addr) (k : Nat) (w0 : World) :
    Calls Tryz.prog 75 #[.slice A 1 k] w0 (fun r w' => r = .returned (.tuple #[]) ∧ Since w0 (fun _ => True) w') := by
  refine enterP 11 [.val (.slice A 1 k)] Tryz.func75 rfl rfl rfl rfl rfl fun a hR => ?_
  have hs := Env.Same.refl 0 env0
  refine go [] 200 (fun r => .call 91 [.int .u64 (IntKind.u64.wrap (↑1 : Int))] (some 9) [.ops (opsAt (bodyOf Go.Proofs.Tryz.f75) [1]) (List.drop 5 (opsAt (bodyOf Go.Proofs.Tryz.f75) [1]))] (⟨[(6, .int .i64 ((↑1 : Int))), (5, .val (Value.slice A 1 k))], [], 0⟩ : St)) rfl (by kernel_rfl) (by kernel_rfl) (by kernel_rfl) hs hR ?_
  have e8 : IntKind.u64.wrap ((1 : Nat) : Int) = 1 := by decide
  refine scall fun S ρ a w1 hs hR1 hS => Calls.mono (len_one w1) fun r w2 he => ?_
  obtain ⟨⟨n, rfl⟩, hsn⟩ := he
  refine ⟨_, rfl, ?_⟩
  have hR := (hR1.pure hsn).res (d := 9) (v := .int .i64 n) rfl rfl rfl rfl
  refine go [] 100 (fun r => .call 90 [.val (Value.slice A 1 k), .int .i64 (0), .int .i64 (1), .int .i64 (n)] (some 10) [.ops (opsAt (bodyOf Go.Proofs.Tryz.f75) [1]) (List.drop 6 (opsAt (bodyOf Go.Proofs.Tryz.f75) [1]))] (⟨[], [], 0⟩ : St)) rfl (by kernel_rfl) (by kernel_rfl) (by kernel_rfl) hs hR ?_
  refine scall fun S ρ a w3 hs hR3 hS => Calls.mono (pdq_one A k n w3) fun r w4 he => ?_
  obtain ⟨rfl, hsn4⟩ := he
  refine ⟨_, rfl, ?_⟩
  have hR := (hR3.pure hsn4).res (d := 10) (v := .tup []) rfl rfl rfl rfl
  refine go [] 100 (fun r => .ret (.tup []) (⟨[], [], 0⟩ : St)) rfl (by kernel_rfl) (by kernel_rfl) (by kernel_rfl) hs hR ?_
  exact sret fun ρ w hs hH => ⟨rfl, hH.since0⟩
end Go.Sx
