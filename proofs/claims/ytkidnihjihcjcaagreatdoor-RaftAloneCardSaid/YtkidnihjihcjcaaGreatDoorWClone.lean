/- Walks: copies of bytes, of ints, of entries. -/
import Derived.Test.YtkidnihjihcjcaaGreatDoorProg
import Derived.Test.YtkidnihjihcjcaaGreatDoorSxB
set_option linter.unusedSimpArgs false
set_option linter.unusedVariables false
namespace Go.Sx
open Go.Proofs
theorem clone_bytes {J : Nat → Prop} {w0 : World} {v : Value} {l : List UInt8} (h : Bytes J w0 v l) (hl : l.length ≤ 1099511627776) :
    Calls Tryz.prog 37 #[v] w0 (fun e w' => ∃ v', e = .returned v' ∧ Bytes (fun k => w0.heap.size ≤ k) w' v' l ∧ Since w0 (fun _ => True) w') := by
  obtain ⟨A, c, rfl, hc, hr⟩ := h
  refine enterP 8 [.val (.slice A l.length c)] Tryz.func37 rfl rfl rfl rfl rfl fun a hR => ?_
  have hs := Env.Same.refl 0 env0
  refine go [ResultVar.tmp 2] 100 (fun r => .br (isNoneA A) (.ret (.val (Value.slice none 0 0)) (⟨[], [], 0⟩ : St)) (.hand (opNth (bodyOf Go.Proofs.Tryz.f37) [1, 1, 0] 2) [.ops (opsAt (bodyOf Go.Proofs.Tryz.f37) [1, 1, 0]) (List.drop 3 (opsAt (bodyOf Go.Proofs.Tryz.f37) [1, 1, 0])), .code (codeAt (bodyOf Go.Proofs.Tryz.f37) [1, 0, 1, 0, 1])] (⟨[(6, .val (Value.slice A l.length c)), (5, .csl 0 0 (0) (0)), (2, .val (Value.slice none 0 0))], [(0, .cells [] 5)], 1⟩ : St))) rfl (by kernel_rfl) (by kernel_rfl) (by kernel_rfl) hs hR ?_
  refine sbr (fun h1 => sret fun ρ w hs hH => ?_) (fun h1 => shand fun S ρ a w hs hR hS Q => ?_)
  · cases A with
    | some _ => cases h1
    | none =>
      obtain rfl : l = [] := List.eq_nil_of_length_eq_zero hr.none_zero
      exact ⟨_, rfl, ⟨none, 0, rfl, Nat.le_refl _, Row.nil _ _ _ _ _⟩, hH.since0⟩
  · refine append_step 7 (.tmp 5) (.tmp 6) 33 33 (by kernel_rfl) (by kernel_rfl) w0.heap.size 5 1 1 (by kernel_rfl) hR ⟨[], [], 0⟩ rfl rfl rfl trivial rfl (u := .csl 0 0 0 0) (y := .val (.slice A l.length c)) (by kernel_rfl) (by kernel_rfl)
      (hR.own 0 [] 5 0 1 (by kernel_rfl) rfl (by decide) (hR.heap.fresh List.mem_cons_self 0 [] 5 (by kernel_rfl))) (Feed.row (hr.keep hR.heap.since0 fun _ _ _ => trivial) fun i hi u hu => ?_)
      (by omega) (by omega) hR.heap.since0.size (fun _ _ _ h => nomatch h) (fun _ _ _ _ h => nomatch h) (noB0 (Nat.le_refl _)) fun v' w' hown hg hnew hR => ?_
    · simp [elB, denL, SV.den] at hu; subst hu; rfl
    have hR := hR.snap
    refine go [ResultVar.tmp 2] 100 (fun r => .ret (.val (v')) (⟨[], [], 0⟩ : St)) rfl (by kernel_rfl) (by kernel_rfl) (by kernel_rfl) hs hR ?_
    refine sret fun ρ w'' hs hH => ⟨v', rfl, Slc.ofOwns (ownsRow_keep (by simpa [denL] using hown) hH.since1 (fun k _ id cs t hm => nomatch hm)) (fun _ _ => rfl) (fun _ _ => rfl), hH.tail.since0⟩
end Go.Sx
