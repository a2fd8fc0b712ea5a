/- The walk of an error's number. -/
import Derived.Test.YtkidnihjihcjcaaGreatDoorWErrors
import Derived.Test.YtkidnihjihcjcaaGreatDoorSxI
import Derived.RangeFuncBox
set_option linter.unusedSimpArgs false
set_option linter.unusedVariables false
set_option maxRecDepth 20000
namespace Go.Sx
open Go.Proofs
/-- The package-level variable that errors.As reads. -/
def ErrT (w : World) : Prop := w.cell? ⟨0, 0, none⟩ = some (.iface 138 (.agg #[hnd 25]))
theorem ErrT.keep {J : Nat → Prop} {w w' : World} (h : ErrT w) (hs : Since w J w') (hJ : J 0) : ErrT w' := by
  have hlt : 0 < w.heap.size := by
    rcases Nat.lt_or_ge 0 w.heap.size with h0 | h0
    · exact h0
    · simp [ErrT, World.cell?, Array.getElem?_eq_none h0] at h
  unfold ErrT
  rw [World.cell?_of_block (w := w) (hs.block _ hJ hlt)]
  exact h
theorem since_setCell (w : World) (k : Nat) (u : Value) : Since w (fun j => j ≠ k) (w.setCell ⟨k, 0, none⟩ u) := grown_since (grownBy_setCell' w k u) fun j hj e => hj (by injection e)
theorem num_c {w0 : World} (n : Int) (hE : ErrT w0) :
    Calls Tryz.prog 8 #[(SV.err 54 (some n)).den env0] w0 (fun r w' => r = .returned (.int .i64 n) ∧ Since w0 (fun _ => True) w') := by
  refine enterP 10 [.err 54 (some n)] Tryz.func8 rfl rfl rfl rfl rfl fun a hR => ?_
  have hs := Env.Same.refl 0 env0
  refine go [ResultVar.tmp 2] 100 (fun r => .br (false) (.ret (.int .i64 (0)) (⟨[], [(0, .cells [.int .i64 (0)] 54)], 1⟩ : St)) (.hand (opNth (bodyOf Go.Proofs.Tryz.f8) [1, 1, 1, 0, 0] 1) [.ops (opsAt (bodyOf Go.Proofs.Tryz.f8) [1, 1, 1, 0, 0]) (List.drop 2 (opsAt (bodyOf Go.Proofs.Tryz.f8) [1, 1, 1, 0, 0])), .code (codeAt (bodyOf Go.Proofs.Tryz.f8) [1, 1, 1, 0, 1]), .code (codeAt (bodyOf Go.Proofs.Tryz.f8) [1, 1, 1, 1])] (⟨[(6, .err 54 (some n)), (3, .ptr 0 0), (2, .int .i64 (0))], [(0, .cells [.int .i64 (0)] 54)], 1⟩ : St))) rfl (by kernel_rfl) (by kernel_rfl) (by kernel_rfl) hs hR ?_
  refine sbr (fun h1 => absurd h1 (by decide)) (fun _ => shand fun S ρ1 a w1 hs1 hR1 hS Q => ?_)
  have e1 := hR1.ev (.tmp 3) (.ptr 0 0) rfl
  refine hand_val (some 7) (by kernel_rfl) (x := .iface 67 (.pointer (some ⟨ρ1.nu 0, 0, none⟩))) (w' := w1) ?_ ?_
  · have eo : (opNth (bodyOf Tryz.f8) [1, 1, 1, 0, 0] 1).op = .makeInterface 67 (.tmp 3) := by kernel_rfl
    have hu : Tryz.prog.underlying 67 = some (.pointer 54) := by kernel_rfl
    simp only [execOp, eo, e1, SV.den]
    simp [Instr.makeInterface, run_underlying hu]
  have hR := hR1.resV 7 (.iface 67 (.pointer (some ⟨ρ1.nu 0, 0, none⟩))) rfl
  have hs := Env.Same.refl 1 ρ1
  refine go [ResultVar.tmp 2] 100 (fun r => .call 24 [.err 54 (some n), .val (Value.iface 67 (Value.pointer (some { block := ρ1.nu 0, off := 0 })))] (some 8) [.ops (opsAt (bodyOf Go.Proofs.Tryz.f8) [1, 1, 1, 0, 0]) (List.drop 3 (opsAt (bodyOf Go.Proofs.Tryz.f8) [1, 1, 1, 0, 0])), .code (codeAt (bodyOf Go.Proofs.Tryz.f8) [1, 1, 1, 0, 1]), .code (codeAt (bodyOf Go.Proofs.Tryz.f8) [1, 1, 1, 1])] (⟨[(3, .ptr 0 0), (2, .int .i64 (0))], [(0, .cells [.int .i64 (0)] 54)], 1⟩ : St)) rfl (by kernel_rfl) (by kernel_rfl) (by kernel_rfl) hs hR ?_
  refine scall fun S ρ a w2 hs hR2 hS => ?_
  have en : ρ.nu 0 = ρ1.nu 0 := (hs 0 (by decide)).1.symm
  have hb : Boxed w2 (ρ1.nu 0) 54 (.int .i64 0) := by
    have := hR2.heap.cells 0 _ _ (getT_mem rfl)
    rw [en] at this
    exact this
  refine Calls.mono (as_hit n ⟨ρ1.nu 0, 0, none⟩ (.int .i64 0) w2 (hE.keep hR2.heap.since0 trivial) hb.cell hb.frozen) fun r w3 hq => ?_
  obtain ⟨rfl, rfl⟩ := hq
  refine ⟨_, rfl, ?_⟩
  obtain ⟨w4, hw4⟩ : ∃ w4, ((((w2.alloc (.cells #[.pointer (some ⟨ρ1.nu 0, 0, none⟩)] 67)).alloc (.cells #[hnd 67, .pointer (some ⟨w2.heap.size, 0, none⟩), .int .u64 150] 106)).alloc (.cells #[hnd 67, .pointer (some ⟨w2.heap.size, 0, none⟩), .int .u64 150] 106)).alloc (.cells #[.int .i64 n] 54)) = w4 := ⟨_, rfl⟩
  have h4 : Since w2 (fun _ => True) w4 := by rw [← hw4]; exact ((((Since.refl w2 _).alloc _).alloc _).alloc _).alloc _
  have hb4 : Boxed w4 (ρ1.nu 0) 54 (.int .i64 0) := by rw [← hw4]; exact (((hb.alloc _).alloc _).alloc _).alloc _
  rw [hw4]
  have h5 : Since w2 (fun k => k ≠ ρ.nu 0) (w4.setCell ⟨ρ1.nu 0, 0, none⟩ (.int .i64 n)) := (h4.mono fun _ _ _ => trivial).trans (since_setCell w4 (ρ1.nu 0) (.int .i64 n)) fun k hk _ => by rw [en] at hk; exact hk
  have hR := (hR2.recell 0 _ [.int .i64 n] _ rfl h5 (by rw [en]; exact hb4.set _) rfl).res (d := 8) (v := .lit true) rfl rfl rfl rfl
  refine go [ResultVar.tmp 2] 100 (fun r => .ret (.int .i64 (n)) (⟨[], [(0, .cells [.int .i64 (n)] 54)], 1⟩ : St)) rfl (by kernel_rfl) (by kernel_rfl) (by kernel_rfl) hs hR ?_
  exact sret fun ρ w hs hH => ⟨rfl, hH.since0⟩
end Go.Sx
