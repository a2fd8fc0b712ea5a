/- The walk of a member's last entry that has members. -/
import Derived.Test.YtkidnihjihcjcaaGreatDoorWMember
import Derived.Test.YtkidnihjihcjcaaGreatDoorMCore
set_option linter.unusedSimpArgs false
set_option linter.unusedVariables false
namespace Go.Sx
open Go.Proofs Go.RowKit Go.Shelf
attribute [local go_sem] Oper.semAt_some
def hit (upto : Int) (l : List Ent) (i : Nat) : Prop := (l.getD i ent0).kind = 2 ∧ (l.getD i ent0).index ≤ upto
def IsLast (upto : Int) (l : List Ent) : Option Nat → Prop
  | none => ∀ i, i < l.length → ¬ hit upto l i
  | some k => k < l.length ∧ hit upto l k ∧ ∀ i, k < i → i < l.length → ¬ hit upto l i
theorem mem_down {n k i : Nat} : i ∈ down n k ↔ k ≤ i ∧ i < n := by
  simp only [down, List.mem_reverse, List.mem_drop_iff_getElem, List.length_range, List.getElem_range]
  constructor
  · rintro ⟨j, h1, rfl⟩; omega
  · rintro ⟨h1, h2⟩; exact ⟨i - k, by omega, by omega⟩
theorem cells_own {W W' : World} {row : Option Nat} {k : Nat} {o : Obj} (hk : W.heap[k]? = some o) (ho : o.isCells = true) (hg : W.grownBy W' row) (hr : ∀ r, row = some r → ∃ o : Obj, W.heap[r]? = some o ∧ o.isCells = false) : W'.heap[k]? = some o := by
  rw [hg.block k (Array.getElem?_eq_some_iff.1 hk).1 (fun e => ?_), hk]
  obtain ⟨o', h1, h2⟩ := hr k e.symm
  rw [hk] at h1
  injection h1 with h1
  subst h1
  rw [ho] at h2
  cases h2
theorem since_of_below {w W : World} (h : Below w.heap.size w W) : Since w (fun _ => True) W := ⟨h.os, h.tape, h.output, h.size, fun k _ hk => h.block k hk⟩
def entF (l : List Ent) (D : Nat → Option Addr) (C : Nat → Nat) : EntF := ⟨fun i => (l.getD i ent0).index, fun i => (l.getD i ent0).term, fun i => (l.getD i ent0).kind, fun i => .slice (D i) (l.getD i ent0).data.length (C i)⟩
theorem entF_in {J : Nat → Prop} {w : World} {A : Option Addr} {l : List Ent} {D : Nat → Option Addr} {C : Nat → Nat} (h : Row J w A 4 l.length (elE l D C)) : (entF l D C).In w.heap.size w A l.length := by
  by_cases h0 : l.length = 0
  · exact .inl h0
  · obtain ⟨ad, h1, h2, h3, _⟩ := h 0 (by omega)
    obtain ⟨blk, off, sp⟩ := ad
    dsimp only at h2 h3
    subst h2
    refine .inr ⟨blk, off, h1, h3, fun j hj => ?_⟩
    obtain ⟨ad', k1, k2, k3, k4, k5, k6, k7⟩ := h j hj
    rw [h1] at k1
    injection k1 with k1
    subst k1
    exact ⟨k7 0 _ rfl, k7 1 _ rfl, k7 2 _ rfl, k7 3 _ rfl⟩
set_option maxRecDepth 100000 in
set_option maxHeartbeats 2000000 in
theorem member_c {J : Nat → Prop} {w : World} {b : Nat} {c : Core} {x : CoreV} (h : CoreR J w b c x) (hw : c.wf) (upto : Int) {D : Nat → Option Addr} {C : Nat → Nat} (hD : Row J w x.k.LA 4 c.log.l.length (elE c.log.l D C)) :
    Calls Tryz.prog 42 #[coreP b, .int .i64 upto] w (fun r w' => ∃ o, IsLast upto c.log.l o ∧ Since w (fun _ => True) w' ∧
      (o = none → r = .returned (.pointer none)) ∧ ∀ k, o = some k → ∃ g, r = .returned (.pointer (some ⟨g, 0, none⟩)) ∧ w.heap.size ≤ g ∧
        w'.heap[g]? = some (.cells (denL env0 (elE c.log.l D C k)).toArray 46 (0, 0))) := by
  have hlen : c.log.l.length ≤ 1099511627776 := hw.log.small
  have hcell : w.cell? ⟨b, 4, none⟩ = some (.slice x.k.LA c.log.l.length x.k.Lc) := by simp [World.cell?, h.cell, coreS, denL, SV.den]
  have hbl : b < w.heap.size := (Array.getElem?_eq_some_iff.1 h.cell).1
  refine (callsIn_wide (n := 3)).1 ?_
  refine callsIn_of_wp_marks Tryz.func42 rfl trivial ?_ rfl
  simp only [Tryz.ntmps42, List.size_toArray, List.length_cons, List.length_nil, Nat.reduceAdd, Nat.reduceSub, Array.replicate_succ, Array.replicate_zero, List.push_toArray, List.append_toArray, List.nil_append, List.cons_append]
  have hb3 : (((w.alloc (.cells #[.int .i64 upto] 3)).alloc (.cells #[.pointer none] 89)).alloc (.cells #[.slice x.k.LA c.log.l.length x.k.Lc] 30)).heap.size = w.heap.size + 3 := by simp
  have hB : Below w.heap.size w (((w.alloc (.cells #[.int .i64 upto] 3)).alloc (.cells #[.pointer none] 89)).alloc (.cells #[.slice x.k.LA c.log.l.length x.k.Lc] 30)) := (((Below.refl _ w).alloc (Nat.le_refl _) _).alloc (by simp) _).alloc (by simp; omega) _
  have hs2 : ((w.alloc (.cells #[.int .i64 upto] 3)).alloc (.cells #[.pointer none] 89)).heap.size = w.heap.size + 2 := by simp
  have hs1 : (w.alloc (.cells #[.int .i64 upto] 3)).heap.size = w.heap.size + 1 := by simp
  have b0 : (((w.alloc (.cells #[.int .i64 upto] 3)).alloc (.cells #[.pointer none] 89)).alloc (.cells #[.slice x.k.LA c.log.l.length x.k.Lc] 30)).heap[w.heap.size]? = some (.cells #[.int .i64 upto] 3 (0, 0)) := by
    rw [Below.heap_alloc _ _ _ (by omega), Below.heap_alloc _ _ _ (by omega), World.alloc_heap_new]
  have b1 : (((w.alloc (.cells #[.int .i64 upto] 3)).alloc (.cells #[.pointer none] 89)).alloc (.cells #[.slice x.k.LA c.log.l.length x.k.Lc] 30)).heap[w.heap.size + 1]? = some (.cells #[.pointer none] 89 (0, 0)) := by
    rw [Below.heap_alloc _ _ _ (by omega), ← hs1, World.alloc_heap_new]
  have b2 : (((w.alloc (.cells #[.int .i64 upto] 3)).alloc (.cells #[.pointer none] 89)).alloc (.cells #[.slice x.k.LA c.log.l.length x.k.Lc] 30)).cell? ⟨w.heap.size + 2, 0, none⟩ = some (.slice x.k.LA c.log.l.length x.k.Lc) := by
    have := World.alloc_heap_new ((w.alloc (.cells #[.int .i64 upto] 3)).alloc (.cells #[.pointer none] 89)) (.cells #[.slice x.k.LA c.log.l.length x.k.Lc] 30)
    rw [hs2] at this
    unfold World.cell?
    rw [this]
    rfl
  gi_wp2_with (refine ⟨trivial, ?_⟩; gi_at_call 69; refine (backward_in Fence.wide (3 - 1) trivial rfl _ _ _ _).mono ?_; rintro e w' ⟨rfl, rfl⟩)
  revert hb3 hB b0 b1 b2
  generalize ((w.alloc (.cells #[.int .i64 upto] 3)).alloc (.cells #[.pointer none] 89)).alloc (.cells #[.slice x.k.LA c.log.l.length x.k.Lc] 30) = w1
  intro hb3 hB b0 b1 b2
  have hIn : (entF c.log.l D C).In w.heap.size w1 x.k.LA c.log.l.length := (entF_in hD).below hB
  have hIn' : (entF c.log.l D C).In (w.heap.size + 3) w1 x.k.LA c.log.l.length := by
    rcases hIn with h0 | ⟨blk, off, k1, k2, k3⟩
    · exact .inl h0
    · exact .inr ⟨blk, off, k1, by omega, k3⟩
  refine wpIn_rangeFunc_ownH (F := Fence.wide) rfl (by decide) (gf := 87) (lb := #[.pointer (some ⟨w.heap.size + 2, 0, none⟩)]) rfl trivial (enters_of Tryz.func87 (by kernel_rfl) rfl)
    (back_stops Fence.wide (3 - 1) trivial rfl (by decide) (w.heap.size + 2) (w.heap.size + 3) x.k.Lc c.log.l.length x.k.LA (entF c.log.l D C) hlen w1 (by omega) (by omega) b2 hIn')
    belowK_t (belowK_b (by omega)) (Below.refl _ _) (fun _ => rfl)
    (fun pre W => (∀ i ∈ pre, ¬ hit upto c.log.l i) ∧ Below (w.heap.size + 3) w1 W)
    (fun cd pre W => cd = .ret ∧ ∃ k pre' g, pre = pre' ++ [k] ∧ (∀ i ∈ pre', ¬ hit upto c.log.l i) ∧ hit upto c.log.l k ∧ w.heap.size ≤ g ∧ W.heap[w.heap.size + 1]? = some (.cells #[.pointer (some ⟨g, 0, none⟩)] 89 (0, 0)) ∧
      W.heap[g]? = some (.cells (denL env0 (elE c.log.l D C k)).toArray 46 (0, 0)) ∧ Below w.heap.size w W)
    ?hI ?hIx ⟨(fun _ h => nomatch h), Below.refl _ _⟩
    (fun k a' W => ∃ g, w.heap.size + 3 ≤ g ∧ W.heap[g]? = some (.cells (denL env0 (elE c.log.l D C k)).toArray 46 (0, 0)) ∧
      a' = { tmps := #[coreP b, .int .i64 upto, undef, .pointer (some ⟨w.heap.size, 0, none⟩), .pointer (some ⟨w.heap.size + 1, 0, none⟩), undef, .pointer (some ⟨g, 0, none⟩), coreP b, coreP b, coreP b, .pointer (some ⟨b, 2, none⟩), .pointer (some ⟨b, 4, none⟩), .slice x.k.LA c.log.l.length x.k.Lc, .func (.func 87) #[] #[.pointer (some ⟨w.heap.size + 2, 0, none⟩)], .int .i64 (k : Int), (entF c.log.l D C).val k, undef, undef, undef, undef, undef, undef, undef, undef, undef], defers := [] })
    ?hAx ?assign ?body ?done ?stop
  case hI => exact OwnFrom.and (ownFrom_pure _ _) (ownFrom_below (by omega) (by omega))
  case hIx =>
    rintro cd pre A B row ⟨rfl, k, pre', g, e1, e2, e3, e4, e5, e6, e7⟩ hg hr
    have hr' : ∀ r, row = some r → ∃ o : Obj, A.heap[r]? = some o ∧ o.isCells = false := fun r e => (hr r e).2
    exact ⟨rfl, k, pre', g, e1, e2, e3, e4, cells_own e5 rfl hg hr', cells_own e6 rfl hg hr', e7.grown hg e7.size fun k e => by have := (hr k e).1; omega⟩
  case hAx =>
    rintro k a' _ A B row ⟨g, e1, e2, e3⟩ hg hr
    exact ⟨g, e1, cells_own e2 rfl hg fun r e => (hr r e).2, e3⟩
  case assign =>
    rintro l pre k W K ⟨hn, hBW⟩ hK
    have hsz := hBW.size
    have hv : (entF c.log.l D C).val k = .agg #[.int .i64 (c.log.l.getD k ent0).index, .int .i64 (c.log.l.getD k ent0).term, .int .i64 (c.log.l.getD k ent0).kind, .slice (D k) (c.log.l.getD k ent0).data.length (C k)] := rfl
    have he : (denL env0 (elE c.log.l D C k)).toArray = #[.int .i64 (c.log.l.getD k ent0).index, .int .i64 (c.log.l.getD k ent0).term, .int .i64 (c.log.l.getD k ent0).kind, .slice (D k) (c.log.l.getD k ent0).data.length (C k)] := rfl
    rw [hv] at hK ⊢
    rw [he] at hK
    generalize c.log.l.getD k ent0 = en at hK ⊢
    gi_wp2
    exact hK _ _ ((KeepsOthers.alloc _ _).from _) ((Below.refl _ W).alloc (by omega) _) ⟨hn, hBW.alloc (by omega) _⟩ ⟨W.heap.size, by omega, World.alloc_heap_new _ _, rfl⟩
  case body =>
    rintro l pre k a' W hl hr ⟨hn, hBW⟩ ⟨g, e1, e2, rfl⟩ hlt
    have he : (denL env0 (elE c.log.l D C k)).toArray = #[.int .i64 (c.log.l.getD k ent0).index, .int .i64 (c.log.l.getD k ent0).term, .int .i64 (c.log.l.getD k ent0).kind, .slice (D k) (c.log.l.getD k ent0).data.length (C k)] := rfl
    have hhit : hit upto c.log.l k ↔ ((c.log.l.getD k ent0).kind = 2 ∧ (c.log.l.getD k ent0).index ≤ upto) := Iff.rfl
    have c0 : W.cell? ⟨w.heap.size, 0, none⟩ = some (.int .i64 upto) := (hBW.cell (p := ⟨w.heap.size, 0, none⟩) (by show w.heap.size < _; omega)).trans (by unfold World.cell?; rw [b0]; rfl)
    have c1 : W.cell? ⟨w.heap.size + 1, 0, none⟩ = some (.pointer none) := (hBW.cell (p := ⟨w.heap.size + 1, 0, none⟩) (by show w.heap.size + 1 < _; omega)).trans (by unfold World.cell?; rw [b1]; rfl)
    have f1 : W.frozen? ⟨w.heap.size + 1, 0, none⟩ = false := (hBW.frozen (p := ⟨w.heap.size + 1, 0, none⟩) (by show w.heap.size + 1 < _; omega)).trans (by unfold World.frozen?; rw [b1]; rfl)
    have hbx : Boxed W (w.heap.size + 1) 89 (.pointer none) := (hBW.block _ (by omega)).trans b1
    have hall : (¬ hit upto c.log.l k) → ∀ i ∈ pre ++ [k], ¬ hit upto c.log.l i := fun h0 i hi => by
      rcases List.mem_append.1 hi with hi | hi
      · exact hn i hi
      · obtain rfl := List.mem_singleton.1 hi; exact h0
    have e2' := e2
    rw [he] at e2
    generalize c.log.l.getD k ent0 = en at e2 hhit
    have d0 : W.cell? ⟨g, 0, none⟩ = some (.int .i64 en.index) := by unfold World.cell?; rw [e2]; rfl
    have d2 : W.cell? ⟨g, 2, none⟩ = some (.int .i64 en.kind) := by unfold World.cell?; rw [e2]; rfl
    by_cases h1 : en.kind = 2
    · by_cases h2 : en.index ≤ upto
      · gi_wp2
        exact ⟨(KeepsOthers.setCell _ _ _).from _, rfl, k, pre, g, rfl, hn, hhit.2 ⟨h1, h2⟩, by omega, hbx.set _, (Below.heap_setCell _ _ _ _ (by show g ≠ w.heap.size + 1; omega)).trans e2',
          ((hB.trans (hBW.mono (by omega))).setCell (p := ⟨w.heap.size + 1, 0, none⟩) (by show w.heap.size ≤ w.heap.size + 1; omega) _)⟩
      · have h0 : ¬ hit upto c.log.l k := fun h => h2 (hhit.1 h).2
        gi_wp2
        exact ⟨KeepsFrom.refl _ _, Below.refl _ _, hall h0, hBW⟩
    · have h0 : ¬ hit upto c.log.l k := fun h => h1 (hhit.1 h).1
      gi_wp2
      exact ⟨KeepsFrom.refl _ _, Below.refl _ _, hall h0, hBW⟩
  case done =>
    rintro Dd ys W hDD rfl ⟨hn, hBW⟩ hK
    have c1 : W.cell? ⟨w.heap.size + 1, 0, none⟩ = some (.pointer none) := (hBW.cell (p := ⟨w.heap.size + 1, 0, none⟩) (by show w.heap.size + 1 < _; omega)).trans (by unfold World.cell?; rw [b1]; rfl)
    have f1 : W.frozen? ⟨w.heap.size + 1, 0, none⟩ = false := (hBW.frozen (p := ⟨w.heap.size + 1, 0, none⟩) (by show w.heap.size + 1 < _; omega)).trans (by unfold World.frozen?; rw [b1]; rfl)
    gi_wp2
    have hK' := (KeepsOthers.setCell W ⟨w.heap.size + 1, 0, none⟩ (.pointer none)).same Dd _ hK rfl
    refine ⟨by simp, .inl ⟨_, _, rfl, run_takeDeferred hK', ?_⟩⟩
    have hc5 := cell_kept (World.cell?_setCell_same' W ⟨w.heap.size + 1, 0, none⟩ (.pointer none) (by rw [c1]; rfl)) (grownBy_putObj' _ Dd (.deferred none)) (fun r e => by cases e; exact ⟨_, hK', rfl⟩)
    refine ⟨.pointer none, ?_, none, fun i hi => hn i (mem_down.2 ⟨Nat.zero_le _, hi⟩), since_of_below ?_, fun _ => rfl, fun k e => by cases e⟩
    · simp [results, Tryz.f42, go_sem, hc5]
    · refine ((hB.trans (hBW.mono (by omega))).setCell (p := ⟨w.heap.size + 1, 0, none⟩) (by show w.heap.size ≤ w.heap.size + 1; omega) _).trans (belowK_b (w := w) (Nat.le_refl _) _ Dd _ _ (by omega) hK' rfl rfl)
  case stop =>
    rintro Dd cd pre W hDD ⟨k0, hk0, rfl⟩ ⟨rfl, k, pre', g, e1, e2, e3, e4, e5, e6, e7⟩ hK
    rw [down_succ hk0] at e1
    obtain ⟨e8, e9⟩ := List.append_inj' e1 rfl
    injection e9 with e9 _
    subst e9
    subst e8
    gi_wp2
    refine ⟨by simp, .inl ⟨_, _, rfl, run_takeDeferred hK, ?_⟩⟩
    have hcr : W.cell? ⟨w.heap.size + 1, 0, none⟩ = some (.pointer (some ⟨g, 0, none⟩)) := by unfold World.cell?; rw [e5]; rfl
    have hc5 := cell_kept hcr (grownBy_putObj' _ Dd (.deferred none)) (fun r e => by cases e; exact ⟨_, hK, rfl⟩)
    refine ⟨.pointer (some ⟨g, 0, none⟩), ?_, some k0, ⟨hk0, e3, fun i h1 h2 => e2 i (mem_down.2 ⟨h1, h2⟩)⟩, since_of_below ?_, (fun e => by cases e), fun k e => ?_⟩
    · simp [results, Tryz.f42, go_sem, hc5]
    · exact e7.trans (belowK_b (w := w) (Nat.le_refl _) _ Dd _ _ (by omega) hK rfl rfl)
    · injection e with e
      subst e
      refine ⟨g, rfl, e4, ?_⟩
      rw [World.putObj_heap_other (fun e => by subst e; rw [e6] at hK; cases hK)]
      exact e6
end Go.Sx
