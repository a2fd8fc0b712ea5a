/- A slice of bytes that is turned to its own type: a place behind its row is marked. -/
import Derived.Test.YtkidnihjihcjcaaGreatDoorWNum
set_option linter.unusedSimpArgs false
set_option linter.unusedVariables false
namespace Go.Sx
open Go.Proofs
variable {w : World}
theorem since_freeze (w : World) (a : Addr) (n : Nat) : Since w (fun k => k ≠ a.block) (w.freeze a n) := by
  unfold World.freeze
  split
  · exact Since.refl _ _
  · exact ⟨rfl, rfl, rfl, by simp, fun k hk hlt => by simp [Array.getElem?_modify, Ne.symm hk]⟩
theorem cell_freeze (w : World) (a : Addr) (n : Nat) (p : Addr) : (w.freeze a n).cell? p = w.cell? p := by
  unfold World.freeze
  split
  · rfl
  · simp only [World.cell?, Array.getElem?_modify]
    by_cases h : a.block = p.block
    · rw [if_pos h]
      cases h2 : w.heap[p.block]? with
      | none => rfl
      | some o => cases o <;> rfl
    · rw [if_neg h]
theorem size_freeze (w : World) (a : Addr) (n : Nat) : (w.freeze a n).heap.size = w.heap.size := by
  unfold World.freeze
  split <;> simp
theorem Row.freeze {J : Nat → Prop} {A : Option Addr} {sz n : Nat} {el : Nat → List SV} (h : Row J w A sz n el) (a : Addr) (m : Nat) : Row J (w.freeze a m) A sz n el := fun i hi => by
  obtain ⟨ad, h1, h2, h3, h4, h5, h6, h7⟩ := h i hi
  exact ⟨ad, h1, h2, by rw [size_freeze]; exact h3, h4, h5, h6, fun j v hv => by rw [cell_freeze]; exact h7 j v hv⟩
theorem Slc.freeze {J : Nat → Prop} {v : Value} {sz n : Nat} {el : Nat → List SV} (h : Slc J w v sz n el) (a : Addr) (m : Nat) : Slc J (w.freeze a m) v sz n el := by
  obtain ⟨A, c, h1, h2, h4⟩ := h
  exact ⟨A, c, h1, h2, h4.freeze a m⟩
theorem convert_own {P : Program} {q n c : Nat} {C : Array Value} {t e f : TypeId} {fr : Nat × Nat} (ht : P.underlying t = some (.slice e)) (he : P.underlying e = some (.int .u8)) (h : w.heap[q]? = some (.cells C f fr)) :
    (convert t t (.slice (some ⟨q, 0, none⟩) n c)).run P w = .ok (.slice (some ⟨q, 0, none⟩) n c) (w.freeze ⟨q, C.size, none⟩ 1) := by
  have hsh : w.shape? q = some (f, C.size) := by unfold World.shape?; rw [h]
  simp [convert, run_underlying ht, run_underlying he, markStringish, hsh]
theorem convert_str {P : Program} {J : Nat → Prop} {A : Option Addr} {l : List UInt8} {c : Nat} {t e d : TypeId} (h : Bytes J w (.slice A l.length c) l) (ht : P.underlying t = some (.slice e)) (he : P.underlying e = some (.int .u8)) (hd : P.underlying d = some .string) :
    (convert t d (.slice A l.length c)).run P w = .ok (.string ⟨l.toArray⟩) w := by
  obtain ⟨A', c', h1, _, hr⟩ := h
  injection h1 with h1 _ _
  subst h1
  cases A with
  | none =>
    have h0 : l = [] := by
      cases l with
      | nil => rfl
      | cons x l => obtain ⟨ad, h1, _⟩ := hr 0 (Nat.zero_lt_succ _); cases h1
    subst h0
    exact run_convert_bytes_nil w t e ht he 0 c d hd
  | some ad =>
    refine run_convert_bytes_back w t d e ad c l ht he hd fun j hj => ?_
    obtain ⟨ad', h1, h2, _, _, _, _, h7⟩ := hr j hj
    injection h1 with h1
    subst h1
    have := h7 0 _ rfl
    obtain ⟨bl, off, sp⟩ := ad
    simp only at h2
    subst h2
    simp only [Nat.add_zero, Nat.mul_one] at this
    rw [Addr.add_lit, this]
    simp [SV.den, List.getD, List.getElem?_eq_getElem hj]
theorem neq_str {P : Program} {t : TypeId} {x y : Operand} (s : ByteArray) (b : BinOp) (hb : b = .neq) : Sem.run P (do eqGuard b t x y (.string s) (.string s); binOp b t (.string s) (.string s)) w = .ok (.bool false) w := by
  subst hb
  simp [eqGuard, binOp, Op.stringOp]
end Go.Sx
