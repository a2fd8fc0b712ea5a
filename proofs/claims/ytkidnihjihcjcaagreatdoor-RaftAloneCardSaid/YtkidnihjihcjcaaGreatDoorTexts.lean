/- Texts that are handed in, opened; what is laid, opened. -/
import Derived.Test.YtkidnihjihcjcaaGreatDoorWAlone2
import Derived.Test.YtkidnihjihcjcaaGreatDoorRows
import Derived.ProofKit
import Derived.LaidMore
import Derived.LaidLaws
import Derived.LaidHandle
import Derived.OpenShut
import Derived.Stop.Joined
import Derived.Deep.Matrix
set_option linter.unusedSimpArgs false
set_option linter.unusedVariables false
namespace Go.Sx
open Go.Proofs Go.Deep
theorem cell_spot {w : World} {a : Addr} {v : Value} (h : w.cell? (a.add 0) = some v) : a.spot = none ∧ a.block < w.heap.size := by
  rw [Addr.add_zero'] at h
  unfold World.cell? at h
  cases hb : w.heap[a.block]? with
  | none => rw [hb] at h; cases h
  | some o =>
    refine ⟨?_, (Array.getElem?_eq_some_iff.1 hb).1⟩
    rw [hb] at h
    cases o with
    | cells c t f =>
      simp only at h
      cases hs : a.spot with
      | none => rfl
      | some x => rw [hs] at h; simp at h
    | _ => cases h
theorem row_of_cells {w : World} {a : Addr} {n : Nat} {el : Nat → List SV} {val : Nat → SV} (h : ∀ i, i < n → w.cell? (a.add i) = some ((val i).den env0)) (he : ∀ i, i < n → el i = [val i]) (hl : ∀ i, ltL 0 (el i) = true) : Row (fun _ => True) w (some a) 1 n el := fun i hi => by
  obtain ⟨h1, h2⟩ := cell_spot (h 0 (by omega))
  refine ⟨a, rfl, h1, h2, trivial, by rw [he i hi]; rfl, hl i, fun j v hv => ?_⟩
  rw [he i hi] at hv
  have h3 := h i hi
  obtain ⟨bl, off, sp⟩ := a
  simp only at h1
  subst h1
  match j, hv with
  | 0, hv =>
    obtain rfl := Option.some.inj hv
    rw [Addr.add_lit] at h3
    simp only [Nat.mul_one, Nat.add_zero]
    exact h3
  | j + 1, hv => simp at hv
/-- The letters of a row of numbers. -/
def letters (zs : List Int) (n : Nat) : List UInt8 := (zs.take n).map fun z => UInt8.ofNat z.toNat
theorem letters_len {zs : List Int} {n : Nat} (h : n ≤ zs.length) : (letters zs n).length = n := by simp [letters]; omega
theorem letters_get {zs : List Int} {n j : Nat} (hw : ∀ z ∈ zs, (Lit.int IntKind.u8 z).wf = true) (hj : j < n) (h : n ≤ zs.length) : (((letters zs n).getD j 0).toNat : Int) = zs.getD j 0 := by
  have hz : j < zs.length := by omega
  have h1 : (letters zs n).getD j 0 = UInt8.ofNat (zs[j]).toNat := by
    simp [letters, List.getD, List.getElem?_take, hj, List.getElem?_eq_getElem hz]
  rw [h1]
  have h2 := hw zs[j] (List.getElem_mem hz)
  simp only [Lit.wf, Bool.and_eq_true, decide_eq_true_eq] at h2
  have h3 : IntKind.u8.min = 0 := by decide
  have h4 : IntKind.u8.max = 255 := by decide
  rw [h3, h4] at h2
  simp [List.getD, List.getElem?_eq_getElem hz]
  omega
theorem texts_of_rows {w : World} {a : Addr} {len cap : Nat} {A : Nat → Option Addr} {L C : Nat → Nat} {Z : Nat → List Int} (hl : len ≤ cap)
    (h : ∀ r, r < cap → w.cell? (a.add r) = some (.slice (A r) (L r) (C r)) ∧ L r ≤ C r ∧ C r ≤ maxLen ∧ (Z r).length = C r ∧ (∀ n ∈ Z r, (Lit.int IntKind.u8 n).wf = true) ∧ (A r = none → C r = 0) ∧
      ∀ a', A r = some a' → 0 ≤ a'.block ∧ ∀ c, c < C r → w.cell? (a'.add c) = some (.int .u8 ((Z r).getD c 0))) :
    ∃ l : List (List UInt8), l.length = len ∧ Texts w (some a) l A C := by
  refine ⟨(List.range len).map fun r => letters (Z r) (L r), by simp, ?_, fun i hi => ?_⟩
  · have eg : ∀ i, i < len → ((List.range len).map fun r => letters (Z r) (L r)).getD i [] = letters (Z i) (L i) := fun i hi => by simp [List.getD, hi]
    have hlen : ((List.range len).map fun r => letters (Z r) (L r)).length = len := by simp
    rw [hlen]
    refine row_of_cells (val := fun i => .val (.slice (A i) (L i) (C i))) (fun i hi => (h i (by omega)).1) (fun i hi => ?_) fun _ => rfl
    obtain ⟨_, h2, _, h3, _⟩ := h i (by omega)
    show [SV.val (.slice (A i) _ (C i))] = _
    rw [eg i hi, letters_len (by omega)]
  · have hi : i < len := by simpa using hi
    have eg : ((List.range len).map fun r => letters (Z r) (L r)).getD i [] = letters (Z i) (L i) := by simp [List.getD, hi]
    rw [eg]
    obtain ⟨_, h2, _, h3, h4, h5, h6⟩ := h i (by omega)
    refine ⟨A i, C i, rfl, by rw [letters_len (by omega)]; exact h2, ?_⟩
    rw [letters_len (by omega)]
    cases hA : A i with
    | none =>
      intro j hj
      have := h5 hA
      omega
    | some a' =>
      refine row_of_cells (val := fun j => .int .u8 (((letters (Z i) (L i)).getD j 0).toNat : Int)) (fun j hj => ?_) (fun _ _ => rfl) fun _ => rfl
      rw [letters_get h4 hj (by omega)]
      exact (h6 a' hA).2 j (by omega)
theorem Since.below {w w' : World} (h : Since w (fun _ => True) w') : RowKit.Below w.heap.size w w' := ⟨h.os, h.tape, h.output, h.size, fun k hk => h.block k trivial hk⟩
end Go.Sx
