/- Walks of package entry, second part: what is right. -/
import Derived.Test.YtkidnihjihcjcaaGreatDoorWEntry1
set_option linter.unusedSimpArgs false
set_option linter.unusedVariables false
namespace Go.Sx
open Go.Proofs
theorem right_c {J : Nat → Prop} {w0 : World} {v : Value} {l : List Ent} (index term : Int) (h : Ents J w0 v l) (hw : ∀ e ∈ l, e.wf) (hl : l.length ≤ 1099511627776) :
    Calls Tryz.prog 57 #[.int .i64 index, .int .i64 term, v] w0 (fun r w' => r = .returned (.bool (rightM index 0 term l)) ∧ Since w0 (fun _ => True) w') := by
  obtain ⟨D, C, ⟨A, c, rfl, hc, hr⟩, hD⟩ := h
  refine enterP 64 [.int .i64 index, .int .i64 term, .val (.slice A l.length c)] Tryz.func57 rfl rfl rfl rfl rfl fun a hR => ?_
  obtain ⟨ρ1, hs1, hA1, hR⟩ := hR.opens 2 c hr (by kernel_rfl) (fun _ => rfl) (fun _ _ _ h => nomatch h)
  have hs := Env.Same.refl 1 ρ1
  refine go [ResultVar.tmp 6] 200 (fun r => .stop [.code (codeAt (bodyOf Go.Proofs.Tryz.f57) [1, 0, 1, 0]), .blk 0, .code (codeAt (bodyOf Go.Proofs.Tryz.f57) [1, 1])] (⟨[(11, .int .i64 (0)), (10, .int .i64 ((↑l.length : Int))), (9, .sl 0 (l.length) (c)), (6, .lit false), (0, .int .i64 (index)), (1, .int .i64 (term))], [(0, .row 4 (l.length) (elE l D C))], 1⟩ : St)) rfl (by kernel_rfl) (by kernel_rfl) (by kernel_rfl) hs hR ?_
  refine sstop fun S ρ a w hs hR hS => ?_
  let F : Nat × Int → St := fun p => ⟨[(0, .int .i64 index), (1, .int .i64 p.2), (6, .lit false), (9, .sl 0 l.length c), (10, .int .i64 (l.length : Int)), (11, .int .i64 (p.1 : Int))], [(0, .row 4 l.length (elE l D C))], 1⟩
  refine loopF (N := 64) (B := B0 w0) 0 F (fun p _ => p.1 ≤ l.length ∧ rightM index 0 term l = rightM index p.1 p.2 (l.drop p.1)) (fun p => l.length - p.1) (0, term) (by kernel_rfl) (by kernel_rfl) hs ⟨Nat.zero_le _, rfl⟩ (hR.into (by kernel_rfl) (by kernel_rfl) rfl (ltT_row rfl (fun _ => rfl) (ltT_nil _))) ?_
  rintro ⟨i, t⟩ ρ a w hs ⟨hi, he⟩ hR
  refine go [ResultVar.tmp 6] 400 (fun r => .br (decide ((↑i : Int) < (↑l.length : Int))) (.need (decide (0 ≤ (↑i : Int) ∧ (↑i : Int) < (↑l.length : Int) ∧ l.length ≤ l.length)) (.need (decide ((↑i : Int).toNat < l.length)) (.br (decide ((l.getD (↑i : Int).toNat ent0).index < 1) || IntKind.i64.wrap (IntKind.i64.wrap ((l.getD (↑i : Int).toNat ent0).index - (↑i : Int)) - 1) != index || decide ((l.getD (↑i : Int).toNat ent0).index > 1099511627776) || decide ((l.getD (↑i : Int).toNat ent0).term < max t 1) || decide ((l.getD (↑i : Int).toNat ent0).term > 1099511627776) || decide ((l.getD (↑i : Int).toNat ent0).kind < 0) || decide ((l.getD (↑i : Int).toNat ent0).kind > 2) || decide ((↑(l.getD (↑i : Int).toNat ent0).data.length : Int) > 4096)) (.ret (.lit false) (⟨[], [(1, .cells [.int .i64 ((l.getD (↑i : Int).toNat ent0).index), .int .i64 ((l.getD (↑i : Int).toNat ent0).term), .int .i64 ((l.getD (↑i : Int).toNat ent0).kind), .val (Value.slice (D (↑i : Int).toNat) (l.getD (↑i : Int).toNat ent0).data.length (C (↑i : Int).toNat))] 46), (0, .row 4 (l.length) (elE l D C))], 2⟩ : St)) (.mark 0 (r.get [0, 0, 0, 1]).st)))) (.ret (.lit true) (⟨[], [(0, .row 4 (l.length) (elE l D C))], 1⟩ : St))) rfl (by kernel_rfl) (by kernel_rfl) (by kernel_rfl) hs hR ?_
  refine sbr (fun h1 => ?_) (fun h1 => sret fun ρ w hs hH => ⟨?_, hH.since0⟩)
  · have h1 : i < l.length := by simpa using h1
    rw [drop_getD h1 ent0, rightM] at he
    have hwf : (l.getD i ent0).wf := hw _ (by simp [h1])
    obtain ⟨⟨w1, w2⟩, _, _⟩ := hwf
    refine sneed (by simp; omega) (sneed (by simp; omega) ?_)
    have hwr : 1 ≤ (l.getD i ent0).index → IntKind.i64.wrap (IntKind.i64.wrap ((l.getD i ent0).index - i) - 1) = (l.getD i ent0).index - i - 1 := fun h => by
      rw [wrap_i64 (x := (l.getD i ent0).index - i) (by omega) (by omega)]
      exact wrap_i64 (by omega) (by omega)
    refine sbr (fun h2 => sret fun ρ w hs hH => ⟨?_, hH.since0⟩) (fun h2 => smarkF fun ρ' a w5 hs' hR5 => ⟨(i + 1, (l.getD i ent0).term), by show l.length - (i + 1) < l.length - i; omega, ⟨h1, ?_⟩, ρ', hs', ?_⟩)
    · have hf : (l.getD i ent0).fits index i t = false := by
        simp only [Bool.or_eq_true, decide_eq_true_eq, bne_iff_ne, Int.toNat_natCast] at h2
        simp only [Ent.fits, decide_eq_false_iff_not]
        rintro ⟨g1, g2, g3, g4, g5, g6, g7, g8⟩
        rw [hwr g1] at h2
        omega
      rw [he, hf]
      rfl
    · have hf : (l.getD i ent0).fits index i t = true := by
        simp only [Bool.or_eq_false_iff, decide_eq_false_iff_not, bne_eq_false_iff_eq, Int.toNat_natCast] at h2
        simp only [Ent.fits, decide_eq_true_eq]
        have g1 : 1 ≤ (l.getD i ent0).index := by omega
        rw [hwr g1] at h2
        omega
      rw [hf] at he
      exact he
    · exact (hR5.spell64 11 (IntKind.i64.wrap ((i : Int) + 1)) ((i + 1 : Nat) : Int) (by kernel_rfl) (wrap_succ (by omega))).into (by kernel_rfl) (by kernel_rfl) rfl (ltT_row rfl (fun _ => rfl) (ltT_nil _))
  · have hi : i = l.length := by simp at h1; omega
    subst hi
    rw [he]
    simp [rightM, SV.den]
end Go.Sx
