/- Walks of package conf, fourth part: what more than half have reached. -/
import Derived.Test.YtkidnihjihcjcaaGreatDoorWSort1
set_option linter.unusedSimpArgs false
set_option linter.unusedVariables false
set_option maxRecDepth 20000
namespace Go.Sx
open Go.Proofs
def reachM (l : List (Int × Int)) (who : Int) : Int := l.foldl (fun n m => if m.1 = who then max n m.2 else n) 0
def reachTo (l : List (Int × Int)) (who : Int) (j : Nat) : Int := reachM (l.take j) who
theorem reachTo_succ {l : List (Int × Int)} {who : Int} {j : Nat} (h : j < l.length) : reachTo l who (j + 1) = if (l.getD j (0, 0)).1 = who then max (reachTo l who j) (l.getD j (0, 0)).2 else reachTo l who j := by
  unfold reachTo reachM
  rw [List.take_add_one, List.getElem?_eq_getElem h, Option.toList_some, List.foldl_append]
  simp only [List.foldl_cons, List.foldl_nil]
  have e : l.getD j (0, 0) = l[j] := by simp [h]
  rw [e]
def elM (l : List (Int × Int)) (i : Nat) : List SV := [.int .i64 (l.getD i (0, 0)).1, .int .i64 (l.getD i (0, 0)).2]
abbrev Marks (J : Nat → Prop) (w : World) (v : Value) (l : List (Int × Int)) : Prop := Slc J w v 2 l.length (elM l)
theorem agreed_c {J : Nat → Prop} {w0 : World} {v u : Value} {c : List Int} {l : List (Int × Int)} (h : Ints J w0 v c) (hl : c.length ≤ 1099511627776) (h' : Marks J w0 u l) (hl' : l.length ≤ 1099511627776) (hm : confMay c = true) (hone : c.length = 1) :
    Calls Tryz.prog 50 #[v, u] w0 (fun r w' => r = .returned (.int .i64 (reachM l (c.getD 0 0))) ∧ Since w0 (fun _ => True) w') := by
  have h0 := h
  obtain ⟨A', k', rfl, hc', hr'⟩ := h'
  obtain ⟨A, k, rfl, hc, hr⟩ := h
  refine enterR 49 [.sl 0 c.length k, .val (.slice A' l.length k')] hr (fun _ => rfl) Tryz.func50 rfl rfl rfl rfl rfl fun a hR => ?_
  obtain ⟨ρ1, hs1, hA1, hR⟩ := hR.opens 1 k' hr' (by kernel_rfl) (fun _ => rfl) (fun _ _ _ h => by rcases List.mem_cons.1 h with h | h <;> cases h)
  have hs1 : Env.Same 1 (⟨fun _ => 0, fun _ => A⟩ : Env) ρ1 := hs1
  have hs := Env.Same.refl 2 ρ1
  refine go [ResultVar.tmp 4] 100 (fun r => .call 59 [.sl 0 (c.length) (k)] (some 12) [.ops (opsAt (bodyOf Go.Proofs.Tryz.f50) [1, 0, 0]) (List.drop 2 (opsAt (bodyOf Go.Proofs.Tryz.f50) [1, 0, 0])), .code (codeAt (bodyOf Go.Proofs.Tryz.f50) [1, 0, 1]), .code (codeAt (bodyOf Go.Proofs.Tryz.f50) [1, 1])] (⟨[(4, .int .i64 (0)), (1, .sl 1 (l.length) (k')), (0, .sl 0 (c.length) (k))], [(1, .row 2 (l.length) (elM l)), (0, .row 1 (c.length) (elI c))], 2⟩ : St)) rfl (by kernel_rfl) (by kernel_rfl) (by kernel_rfl) hs hR ?_
  refine scall fun S ρ a w hs hR1 hS => ?_
  have e : (denL ρ [.sl 0 c.length k]).toArray = #[.slice A c.length k] := by simp [denL, SV.den, ← (hs 0 (by decide)).2, ← (hs1 0 (by decide)).2]
  rw [e]
  refine Calls.mono (confMay_c (h0.keep hR1.heap.since0 fun _ _ _ => trivial) hl) fun r w' he => ?_
  obtain ⟨rfl, hsn⟩ := he
  rw [hm]
  refine ⟨_, rfl, ?_⟩
  have hR := (hR1.pure hsn).res (d := 12) (v := .lit true) rfl rfl rfl rfl
  refine go [ResultVar.tmp 4] 200 (fun r => .stop [.code (codeAt (bodyOf Go.Proofs.Tryz.f50) [1, 1, 1, 0, 1, 0]), .blk 0, .code (codeAt (bodyOf Go.Proofs.Tryz.f50) [1, 1, 1, 1])] (⟨[(16, .int .i64 (0)), (15, .int .i64 ((↑c.length : Int))), (14, .sl 0 (c.length) (k)), (5, .val (Value.slice none 0 0)), (4, .int .i64 (0)), (1, .sl 1 (l.length) (k'))], [(1, .row 2 (l.length) (elM l)), (0, .row 1 (c.length) (elI c))], 2⟩ : St)) rfl (by kernel_rfl) (by kernel_rfl) (by kernel_rfl) hs hR ?_
  refine sstop fun S ρ a w hs hR hS => ?_
  let F : Nat × Value → St := fun p => ⟨[(1, .sl 1 l.length k'), (5, .val p.2), (14, .sl 0 c.length k), (15, .int .i64 (c.length : Int)), (16, .int .i64 (p.1 : Int))], [(1, .row 2 l.length (elM l)), (0, .row 1 c.length (elI c))], 2⟩
  refine loopF (N := 49) (B := B0 w0) 0 F (fun p w => p.1 ≤ c.length ∧ w.ownsRow w0.heap.size 3 1 p.2 p.1 (rcells p.1 (elI (c.map (reachM l))))) (fun p => c.length - p.1) (0, .slice none 0 0) (by kernel_rfl) (by kernel_rfl) hs ⟨Nat.zero_le _, World.ownsRow_nil _ _ _ _⟩ (hR.into (by kernel_rfl) (by kernel_rfl) rfl (ltT_row rfl (fun _ => rfl) (ltT_row rfl (fun _ => rfl) (ltT_nil _)))) ?_
  rintro ⟨i, vr⟩ ρ a w hs ⟨hi, hown⟩ hR
  dsimp only at hi hown
  obtain ⟨A5, k5, rfl⟩ := ownsRow_form hown
  have hR := hR.snap
  refine go [ResultVar.tmp 4] 400 (fun r => .br (decide ((↑i : Int) < (↑c.length : Int))) (.need (decide (0 ≤ (↑i : Int) ∧ (↑i : Int) < (↑c.length : Int) ∧ c.length ≤ c.length)) (.need (decide ((↑i : Int).toNat < c.length)) (.stop [.code (codeAt (bodyOf Go.Proofs.Tryz.f50) [1, 1, 1, 0, 1, 0, 0, 1, 1, 0, 0, 1, 1, 0, 1, 0]), .blk 2, .code (codeAt (bodyOf Go.Proofs.Tryz.f50) [1, 1, 1, 0, 1, 0, 0, 1, 1, 0, 0, 1, 1, 1]), .blk 1, .code (codeAt (bodyOf Go.Proofs.Tryz.f50) [1, 1, 1, 0, 1, 0, 0, 1, 1, 1]), .mark 0, .code (codeAt (bodyOf Go.Proofs.Tryz.f50) [1, 1, 1, 0, 1, 0]), .blk 0, .code (codeAt (bodyOf Go.Proofs.Tryz.f50) [1, 1, 1, 1])] (⟨[(22, .int .i64 (0)), (21, .int .i64 ((↑l.length : Int))), (20, .sl 1 (l.length) (k')), (8, .int .i64 (0)), (7, .int .i64 (c.getD (↑i : Int).toNat 0)), (19, .int .i64 (c.getD (↑i : Int).toNat 0)), (18, .ep 0 1 ((↑i : Int).toNat) 0), (17, .lit true), (1, .sl 1 (l.length) (k')), (5, .val (Value.slice A5 i k5)), (14, .sl 0 (c.length) (k)), (15, .int .i64 ((↑c.length : Int))), (16, .int .i64 ((↑i : Int)))], [(1, .row 2 (l.length) (elM l)), (0, .row 1 (c.length) (elI c))], 2⟩ : St)))) (.call 75 [.val (Value.slice A5 i k5)] (some 41) [.ops (opsAt (bodyOf Go.Proofs.Tryz.f50) [1, 1, 1, 1, 0]) (List.drop 2 (opsAt (bodyOf Go.Proofs.Tryz.f50) [1, 1, 1, 1, 0])), .code (codeAt (bodyOf Go.Proofs.Tryz.f50) [1, 1, 1, 1, 1])] (⟨[(5, .val (Value.slice A5 i k5))], [(1, .row 2 (l.length) (elM l)), (0, .row 1 (c.length) (elI c))], 2⟩ : St))) rfl (by kernel_rfl) (by kernel_rfl) (by kernel_rfl) hs hR ?_
  have rest : ∀ {ρ : Env} {q : Nat}, Rest ρ (F (i, .slice A5 i k5)) q := fun {_ q} => Rest.none rfl q
  refine sbr (fun h1 => ?_) (fun h1 => scall fun S ρ a w1 hs hRn hS => ?_)
  · have h1 : i < c.length := by simpa using h1
    refine sneed (by simp; omega) (sneed (by simp; omega) (sstop fun S ρ a w1 hs hR1 hS => ?_))
    have hown1 := ownsRow_keep hown hR1.heap.since1 fun _ _ => rest
    let F1 : Nat → St := fun j => ⟨[(1, .sl 1 l.length k'), (5, .val (.slice A5 i k5)), (7, .int .i64 (c.getD i 0)), (8, .int .i64 (reachTo l (c.getD i 0) j)), (14, .sl 0 c.length k), (15, .int .i64 (c.length : Int)), (16, .int .i64 (i : Int)), (20, .sl 1 l.length k'), (21, .int .i64 (l.length : Int)), (22, .int .i64 (j : Int))], [(1, .row 2 l.length (elM l)), (0, .row 1 c.length (elI c))], 2⟩
    refine loopF (N := 49) (B := B0 w0) 1 F1 (fun j w => j ≤ l.length ∧ w.ownsRow w0.heap.size 3 1 (.slice A5 i k5) i (rcells i (elI (c.map (reachM l))))) (fun j => l.length - j) 0 (by kernel_rfl) (by kernel_rfl) hs ⟨Nat.zero_le _, hown1⟩ (hR1.unbase.into (by kernel_rfl) (by kernel_rfl) rfl (ltT_row rfl (fun _ => rfl) (ltT_row rfl (fun _ => rfl) (ltT_nil _)))) ?_
    rintro j ρ a w2 hs ⟨hj, hown2⟩ hR
    have hR := hR.snap
    refine go [ResultVar.tmp 4] 400 (fun r => .br (decide ((↑j : Int) < (↑l.length : Int))) (.need (decide (0 ≤ (↑j : Int) ∧ (↑j : Int) < (↑l.length : Int) ∧ l.length ≤ l.length)) (.need (decide ((↑j : Int).toNat < l.length)) (.br ((l.getD (↑j : Int).toNat (0, 0)).fst == c.getD i 0) (.mark 1 (r.get [0, 0, 0, 0]).st) (.mark 1 (r.get [0, 0, 0, 1]).st)))) (.hand (opNth (bodyOf Go.Proofs.Tryz.f50) [1, 1, 1, 0, 1, 0, 0, 1, 1, 0, 0, 1, 1, 1] 3) [.ops (opsAt (bodyOf Go.Proofs.Tryz.f50) [1, 1, 1, 0, 1, 0, 0, 1, 1, 0, 0, 1, 1, 1]) (List.drop 4 (opsAt (bodyOf Go.Proofs.Tryz.f50) [1, 1, 1, 0, 1, 0, 0, 1, 1, 0, 0, 1, 1, 1])), .blk 1, .code (codeAt (bodyOf Go.Proofs.Tryz.f50) [1, 1, 1, 0, 1, 0, 0, 1, 1, 1]), .mark 0, .code (codeAt (bodyOf Go.Proofs.Tryz.f50) [1, 1, 1, 0, 1, 0]), .blk 0, .code (codeAt (bodyOf Go.Proofs.Tryz.f50) [1, 1, 1, 1])] (⟨[(37, .csl 2 0 (1) (1)), (36, .int .i64 (reachTo l (c.getD i 0) j)), (35, .val (Value.slice A5 i k5)), (23, .lit false), (1, .sl 1 (l.length) (k')), (5, .val (Value.slice A5 i k5)), (7, .int .i64 (c.getD i 0)), (8, .int .i64 (reachTo l (c.getD i 0) j)), (14, .sl 0 (c.length) (k)), (15, .int .i64 ((↑c.length : Int))), (16, .int .i64 ((↑i : Int))), (20, .sl 1 (l.length) (k')), (21, .int .i64 ((↑l.length : Int))), (22, .int .i64 ((↑j : Int)))], [(2, .cells [.int .i64 (reachTo l (c.getD i 0) j)] 3), (1, .row 2 (l.length) (elM l)), (0, .row 1 (c.length) (elI c))], 3⟩ : St))) rfl (by kernel_rfl) (by kernel_rfl) (by kernel_rfl) hs hR ?_
    have rest1 : ∀ {ρ : Env} {q : Nat}, Rest ρ (F1 j) q := fun {_ q} => Rest.none rfl q
    refine sbr (fun h2 => ?_) (fun h2 => shand fun S ρ a w3 hs hR3 hS Q => ?_)
    · have h2 : j < l.length := by simpa using h2
      have hr1 := reachTo_succ (who := c.getD i 0) h2
      refine sneed (by simp; omega) (sneed (by simp; omega) (sbr (fun h3 => smarkF fun ρ' a w5 hs' hR5 => ⟨j + 1, by show l.length - (j + 1) < l.length - j; omega, ⟨h2, ownsRow_keep hown2 hR5.heap.since1 fun _ _ => rest1⟩, ρ', hs', ?_⟩)
        (fun h3 => smarkF fun ρ' a w5 hs' hR5 => ⟨j + 1, by show l.length - (j + 1) < l.length - j; omega, ⟨h2, ownsRow_keep hown2 hR5.heap.since1 fun _ _ => rest1⟩, ρ', hs', ?_⟩)))
      · have h3 : (l.getD j (0, 0)).1 = c.getD i 0 := by simpa using h3
        rw [if_pos h3] at hr1
        show Rep ρ' (B0 w0) 49 ⟨[(1, .sl 1 l.length k'), (5, .val (.slice A5 i k5)), (7, .int .i64 (c.getD i 0)), (8, .int .i64 (reachTo l (c.getD i 0) (j + 1))), (14, .sl 0 c.length k), (15, .int .i64 (c.length : Int)), (16, .int .i64 (i : Int)), (20, .sl 1 l.length k'), (21, .int .i64 (l.length : Int)), (22, .int .i64 ((j + 1 : Nat) : Int))], [(1, .row 2 l.length (elM l)), (0, .row 1 c.length (elI c))], 2⟩ a w5
        rw [hr1]
        exact (hR5.unbase.spell64 22 (IntKind.i64.wrap ((j : Int) + 1)) ((j + 1 : Nat) : Int) (by kernel_rfl) (wrap_succ (by omega))).into (by kernel_rfl) (by kernel_rfl) rfl (ltT_row rfl (fun _ => rfl) (ltT_row rfl (fun _ => rfl) (ltT_nil _)))
      · have h3 : ¬ (l.getD j (0, 0)).1 = c.getD i 0 := by simpa using h3
        rw [if_neg h3] at hr1
        show Rep ρ' (B0 w0) 49 ⟨[(1, .sl 1 l.length k'), (5, .val (.slice A5 i k5)), (7, .int .i64 (c.getD i 0)), (8, .int .i64 (reachTo l (c.getD i 0) (j + 1))), (14, .sl 0 c.length k), (15, .int .i64 (c.length : Int)), (16, .int .i64 (i : Int)), (20, .sl 1 l.length k'), (21, .int .i64 (l.length : Int)), (22, .int .i64 ((j + 1 : Nat) : Int))], [(1, .row 2 l.length (elM l)), (0, .row 1 c.length (elI c))], 2⟩ a w5
        rw [hr1]
        exact (hR5.unbase.spell64 22 (IntKind.i64.wrap ((j : Int) + 1)) ((j + 1 : Nat) : Int) (by kernel_rfl) (wrap_succ (by omega))).into (by kernel_rfl) (by kernel_rfl) rfl (ltT_row rfl (fun _ => rfl) (ltT_row rfl (fun _ => rfl) (ltT_nil _)))
    · have hj : j = l.length := by simp at h2; omega
      have hown3 := ownsRow_keep hown2 hR3.heap.since1 fun _ _ => rest1
      have ef : reachTo l (c.getD i 0) j = reachM l (c.getD i 0) := by rw [hj]; simp [reachTo]
      refine append_step 38 (.tmp 35) (.tmp 37) 28 28 (by kernel_rfl) (by kernel_rfl) w0.heap.size 3 1 8 (by kernel_rfl) hR3.unbase
        ⟨[(1, .sl 1 l.length k'), (14, .sl 0 c.length k), (15, .int .i64 (c.length : Int)), (16, .int .i64 (i : Int))], [(1, .row 2 l.length (elM l)), (0, .row 1 c.length (elI c))], 2⟩ (by kernel_rfl) (by kernel_rfl) rfl (ltT_row rfl (fun _ => rfl) (ltT_row rfl (fun _ => rfl) (ltT_nil _))) rfl
        (u := .val (.slice A5 i k5)) (y := .csl 2 0 1 1) (by kernel_rfl) (by kernel_rfl) hown3 (hR3.feed 2 [.int .i64 (reachTo l (c.getD i 0) j)] 3 1 1 (by kernel_rfl) rfl rfl)
        (by omega) (by omega) hR3.heap.tail.since0.size (fun id cs t hm => (noCells_all rfl id cs t hm).elim) (fun id sz n el hm h0 ad had q hq => ?_) (noB0 (Nat.le_refl _)) fun v' w4 hown' hg hnew hR4 => ?_
      · have hk := (hown3.lt q hq).1
        rcases List.mem_cons.1 hm with hm | hm
        · obtain ⟨rfl, he⟩ := Prod.mk.inj hm
          injection he with e1 e2 e3
          subst e2
          have := (hr'.block h0 ((hA1.symm.trans (hs 1 (by decide)).2).trans had)).2
          omega
        · obtain ⟨rfl, he⟩ := Prod.mk.inj (List.mem_singleton.1 hm)
          injection he with e1 e2 e3
          subst e2
          have := (hr.block h0 (((hs1 0 (by decide)).2.trans (hs 0 (by decide)).2).trans had)).2
          omega
      have hR := hR4.snap
      refine go [ResultVar.tmp 4] 100 (fun r => .mark 0 (r.get []).st) rfl (by kernel_rfl) (by kernel_rfl) (by kernel_rfl) hs hR ?_
      refine smarkO (by kernel_rfl) (smarkF fun ρ' a w5 hs' hR5 => ⟨(i + 1, v'), by show c.length - (i + 1) < c.length - i; omega, ⟨h1, ?_⟩, ρ', hs', ?_⟩)
      · refine ownsRow_keep (v := v') ?_ hR5.heap.since1 fun _ _ => Rest.none rfl _
        rw [rcells_succ]
        have e : (c.map (reachM l)).getD i 0 = reachM l (c.getD i 0) := by simp [List.getElem?_eq_getElem h1]
        have e2 : denL env0 (elI (c.map (reachM l)) i) = denL ρ [.int .i64 (reachTo l (c.getD i 0) j)] := by
          simp only [elI, denL, SV.den, e, ef]
        rw [e2]
        exact hown'
      · exact (hR5.unbase.spell64 16 (IntKind.i64.wrap ((i : Int) + 1)) ((i + 1 : Nat) : Int) (by kernel_rfl) (wrap_succ (by omega))).into (by kernel_rfl) (by kernel_rfl) rfl (ltT_row rfl (fun _ => rfl) (ltT_row rfl (fun _ => rfl) (ltT_nil _)))
  · have hi1 : i = 1 := by simp at h1; omega
    subst hi1
    have hown1 := ownsRow_keep hown hRn.heap.since1 fun _ _ => rest
    refine Calls.mono (sort_one A5 k5 w1) fun r w2 he => ?_
    obtain ⟨rfl, hsn⟩ := he
    have hown2 := ownsRow_keep hown1 hsn fun _ _ => trivial
    refine ⟨_, rfl, ?_⟩
    have hR2 := (hRn.pure hsn).unbase.res (d := 41) (v := .tup []) rfl rfl rfl rfl
    obtain ⟨A6, k6, he, hk6, hrow⟩ := Slc.ofOwns hown2 (fun _ _ => rfl) (fun _ _ => rfl)
    injection he with he1 _ he2
    subst he1; subst he2
    obtain ⟨ρ2, hs2, hA2, hR⟩ := hR2.opens 5 k5 hrow (by kernel_rfl) (fun _ => rfl) (fun _ _ _ h => by
      rcases List.mem_cons.1 h with h | h
      · cases h
      · rcases List.mem_cons.1 h with h | h <;> cases h)
    have hs := Env.Same.refl 3 ρ2
    refine go [ResultVar.tmp 4] 200 (fun r => .need (true) (.need (true) (.ret (.int .i64 ((List.map (reachM l) c).getD (IntKind.i64.wrap ((IntKind.i64.wrap ((↑1 : Int) - 1)).tdiv 2)).toNat 0)) (⟨[], [(2, .row 1 (1) (elI (List.map (reachM l) c))), (1, .row 2 (l.length) (elM l)), (0, .row 1 (c.length) (elI c))], 3⟩ : St)))) rfl (by kernel_rfl) (by kernel_rfl) (by kernel_rfl) hs hR ?_
    refine sneed (by decide) (sneed (by decide) (sret fun ρ w hs hH => ⟨?_, hH.since0⟩))
    have e0 : (c.map (reachM l)).getD 0 0 = reachM l (c.getD 0 0) := by
      match c, hone with
      | [y], _ => rfl
    show Ending.returned (.int .i64 ((c.map (reachM l)).getD 0 0)) = _
    rw [e0]
end Go.Sx
