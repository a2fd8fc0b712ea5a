/- The walk of slices.Backward over entries: what each round is told. -/
import Derived.Test.YtkidnihjihcjcaaGreatDoorProg
import Derived.RangeFuncNested
import Derived.RangeFuncBound
import Derived.RangeFuncCalls
import Derived.RangeFuncLeaves
import Derived.Shelf.Abstract
import Derived.Shelf.RegionOpen
import Derived.WalkKit
import Derived.OwnWalkIn
import Derived.TacticsInMore
import Derived.LoopNIn
import Derived.LoopIn
set_option linter.unusedSimpArgs false
set_option linter.unusedVariables false
namespace Go.Sx
open Go.Proofs Go.RowKit Go.Shelf
attribute [local go_sem] Oper.semAt_some
/-- What has come when k are left: n - 1, .., k. -/
def down (n k : Nat) : List Nat := ((List.range n).drop k).reverse
theorem down_all (n : Nat) : down n n = [] := by simp [down]
theorem down_zero (n : Nat) : down n 0 = (List.range n).reverse := by simp [down]
theorem down_succ {n k : Nat} (h : k < n) : down n k = down n (k + 1) ++ [k] := by
  unfold down
  rw [List.drop_eq_getElem_cons (by simpa using h)]
  simp
theorem down_length (n k : Nat) : (down n k).length = n - k := by simp [down]
structure EntF where
  I : Nat → Int
  T : Nat → Int
  K : Nat → Int
  V : Nat → Value
def EntF.val (e : EntF) (k : Nat) : Value := .agg #[.int .i64 (e.I k), .int .i64 (e.T k), .int .i64 (e.K k), e.V k]
def EntF.at (e : EntF) (W : World) (blk off k : Nat) : Prop :=
  W.cell? ⟨blk, off + k * 4, none⟩ = some (.int .i64 (e.I k)) ∧ W.cell? ⟨blk, off + k * 4 + 1, none⟩ = some (.int .i64 (e.T k)) ∧ W.cell? ⟨blk, off + k * 4 + 2, none⟩ = some (.int .i64 (e.K k)) ∧ W.cell? ⟨blk, off + k * 4 + 3, none⟩ = some (e.V k)
set_option maxRecDepth 100000 in
set_option maxHeartbeats 2000000 in
theorem back1_in (F : Fence) (n : Nat) (hF : F.fn 87) (hro : F.round = none) (hn : 1 ≤ n) (l Bs n₀ blk off len cap : Nat) (e : EntF) (hreach : len ≤ 1099511627776) (hb : blk < n₀) (J Jx : List Nat → World → Prop)
    (hY : ∀ pre (x : Nat) W, J pre W → pre.length < len → YieldAt F (n - 1) Tryz.prog l #[.int .i64 (x : Int), e.val x] W fun e W' =>
      (e = .returned (.bool true) ∧ J (pre ++ [x]) W' ∧ Below n₀ W W') ∨ (e = .returned (.bool false) ∧ Jx (pre ++ [x]) W'))
    (W : World) (hBs : W.cell? ⟨Bs, 0, none⟩ = some (.slice (some ⟨blk, off, none⟩) len cap)) (hBn : Bs < n₀) (hc : ∀ j, j < len → e.at W blk off j) (h0 : J [] W) :
    CallsIn F n Tryz.prog 87 #[.func (.yield l) #[] #[], .pointer (some ⟨Bs, 0, none⟩)] W fun e W' => (∃ v, e = .returned v) ∧
      ((∃ ys, ys = down len 0 ∧ J ys W') ∨ (∃ pre, (∃ k, k < len ∧ pre = down len k) ∧ Jx pre W')) := by
  refine callsIn_of_wp Tryz.func87 rfl hF ?_ hro
  simp only [Tryz.ntmps87, List.size_toArray, List.length_cons, List.length_nil, Nat.reduceAdd, Nat.reduceSub, Array.replicate_succ, Array.replicate_zero, List.push_toArray, List.append_toArray, List.nil_append, List.cons_append]
  gi_wp2
  gi_loopw [3] (fun i wr => ∃ k : Nat, k ≤ len ∧ i = .int .i64 ((k : Int) - 1) ∧ J (down len k) wr ∧ Below n₀ W wr)
    (fun i _ => (intOf i + 1).toNat)
  case atStart => exact ⟨len, Nat.le_refl _, rfl, by rw [down_all]; exact h0, Below.refl _ _⟩
  case round =>
    obtain ⟨k, hk, rfl, hJs, hnx⟩ := hrel
    have hBs' : wr.cell? ⟨Bs, 0, none⟩ = some (.slice (some ⟨blk, off, none⟩) len cap) := (hnx.cell (p := ⟨Bs, 0, none⟩) hBn).trans hBs
    cases k with
    | zero =>
      gi_wp2
      go_end0
      exact ⟨⟨_, rfl⟩, .inl ⟨_, rfl, hJs⟩⟩
    | succ k =>
      have ek : (((k + 1 : Nat) : Int) - 1) = (k : Int) := by omega
      rw [ek]
      obtain ⟨c0, c1, c2, c3⟩ := hc k (by omega)
      have d0 : wr.cell? ⟨blk, off + k * 4, none⟩ = _ := (hnx.cell (p := ⟨blk, off + k * 4, none⟩) hb).trans c0
      have d1 : wr.cell? ⟨blk, off + k * 4 + 1, none⟩ = _ := (hnx.cell (p := ⟨blk, off + k * 4 + 1, none⟩) hb).trans c1
      have d2 : wr.cell? ⟨blk, off + k * 4 + 2, none⟩ = _ := (hnx.cell (p := ⟨blk, off + k * 4 + 2, none⟩) hb).trans c2
      have d3 : wr.cell? ⟨blk, off + k * 4 + 3, none⟩ = _ := (hnx.cell (p := ⟨blk, off + k * 4 + 3, none⟩) hb).trans c3
      obtain ⟨fn, tmps, assign, body, hy, hR⟩ := hY _ k wr hJs (by rw [down_length]; omega)
      simp only [EntF.val] at hy
      gi_wp2
      refine hR.mono ?_
      rintro e W3 (⟨rfl, hJ3, hk3⟩ | ⟨rfl, hJx3⟩)
      · gi_wp2
        go_roundw
        case rel => exact ⟨k, by omega, rfl, by rw [down_succ (by omega)]; exact hJ3, hnx.trans hk3⟩
        case measure => simp [intOf]
      · gi_wp2
        refine bodyPost_ret (results_none rfl _ _ _) rfl ?_
        exact ⟨⟨_, rfl⟩, .inr ⟨_, ⟨k, by omega, (down_succ (by omega)).symm⟩, hJx3⟩⟩
set_option maxRecDepth 100000 in
set_option maxHeartbeats 1000000 in
theorem back1_none (F : Fence) (n : Nat) (hF : F.fn 87) (hro : F.round = none) (l Bs cap : Nat) (A : Option Addr) (J : List Nat → World → Prop) (W : World) (hBs : W.cell? ⟨Bs, 0, none⟩ = some (.slice A 0 cap)) (h0 : J [] W) :
    CallsIn F n Tryz.prog 87 #[.func (.yield l) #[] #[], .pointer (some ⟨Bs, 0, none⟩)] W fun e W' => (∃ v, e = .returned v) ∧ J [] W' := by
  refine callsIn_of_wp Tryz.func87 rfl hF ?_ hro
  simp only [Tryz.ntmps87, List.size_toArray, List.length_cons, List.length_nil, Nat.reduceAdd, Nat.reduceSub, Array.replicate_succ, Array.replicate_zero, List.push_toArray, List.append_toArray, List.nil_append, List.cons_append]
  gi_wp2
  gi_loopw [3] (fun i wr => i = .int .i64 (-1) ∧ J [] wr) (fun _ _ => 0)
  case atStart => exact ⟨rfl, h0⟩
  case round =>
    obtain ⟨rfl, hJs⟩ := hrel
    gi_wp2
    go_end0
    exact ⟨⟨_, rfl⟩, hJs⟩
set_option maxHeartbeats 1000000 in
theorem backward_in (F : Fence) (n : Nat) (hF : F.fn 69) (hro : F.round = none) (a : Option Addr) (len cap : Nat) (w : World) :
    CallsIn F n Tryz.prog 69 #[.slice a len cap] w fun e w' => e = .returned (.func (.func 87) #[] #[.pointer (some ⟨w.heap.size, 0, none⟩)]) ∧ w' = w.alloc (.cells #[.slice a len cap] 30) := by
  refine callsIn_of_wp Tryz.func69 rfl hF ?_ hro
  simp only [Tryz.ntmps69, List.size_toArray, List.length_cons, List.length_nil, Nat.reduceAdd, Nat.reduceSub, Array.replicate_succ, Array.replicate_zero, List.push_toArray, List.append_toArray, List.nil_append, List.cons_append]
  gi_wp2
  go_ret
  exact ⟨rfl, rfl⟩
/-- The slice value holds the entries, in a block below n₀; or there are none. -/
def EntF.In (e : EntF) (n₀ : Nat) (W : World) (A : Option Addr) (len : Nat) : Prop := len = 0 ∨ ∃ blk off, A = some ⟨blk, off, none⟩ ∧ blk < n₀ ∧ ∀ j, j < len → e.at W blk off j
theorem EntF.In.below {e : EntF} {n₀ : Nat} {A B : World} (h : Below n₀ A B) {a : Option Addr} {len : Nat} : e.In n₀ A a len → e.In n₀ B a len
  | .inl e => .inl e
  | .inr ⟨blk, off, h1, h2, h3⟩ => .inr ⟨blk, off, h1, h2, fun j hj => by
    obtain ⟨c0, c1, c2, c3⟩ := h3 j hj
    exact ⟨(h.cell (p := ⟨blk, off + j * 4, none⟩) h2).trans c0, (h.cell (p := ⟨blk, off + j * 4 + 1, none⟩) h2).trans c1, (h.cell (p := ⟨blk, off + j * 4 + 2, none⟩) h2).trans c2, (h.cell (p := ⟨blk, off + j * 4 + 3, none⟩) h2).trans c3⟩⟩
theorem back_stops (F : Fence) (n : Nat) (hF : F.fn 87) (hro : F.round = none) (hn : 1 ≤ n) (Bs n₀ cap len : Nat) (A : Option Addr) (e : EntF) (hreach : len ≤ 1099511627776) (w : World) (hBs : Bs < n₀) (hn₀ : n₀ ≤ w.heap.size)
    (hc : w.cell? ⟨Bs, 0, none⟩ = some (.slice A len cap)) (hI : e.In n₀ w A len) :
    SeqStopsK F n Tryz.prog 87 #[.pointer (some ⟨Bs, 0, none⟩)] (fun k : Nat => #[Value.int .i64 (k : Int), e.val k]) (Below n₀) (fun ys => ys = down len 0) (fun pre => ∃ k, k < len ∧ pre = down len k) len w := fun l J Jx W hW _ _ hY h0 => by
  have hc' := (hW.cell (p := ⟨Bs, 0, none⟩) (Nat.lt_of_lt_of_le hBs hn₀)).trans hc
  rcases hI.below (hW.mono hn₀) with rfl | ⟨blk, off, rfl, hb, hcs⟩
  · exact (back1_none F n hF hro l Bs cap A J W hc' h0).mono fun e W' ⟨he, hj⟩ => ⟨he, .inl ⟨_, rfl, hj⟩⟩
  · exact back1_in F n hF hro hn l Bs n₀ blk off len cap e hreach hb J Jx hY W hc' hBs hcs h0
end Go.Sx
