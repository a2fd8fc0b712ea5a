/- Walks of package slices over members: the first that is as asked; all that are not, of a single one. -/
import Derived.Test.YtkidnihjihcjcaaGreatDoorWConf2
import Derived.Lib.SliceRun
import Derived.RangeFuncBox
set_option linter.unusedSimpArgs false
set_option linter.unusedVariables false
set_option maxRecDepth 20000
namespace Go.Sx
open Go.Proofs
def idxP (p : Int → Bool) : List Int → Int
  | [] => -1
  | y :: l => if p y then 0 else if idxP p l < 0 then -1 else idxP p l + 1
theorem idxP_at {p : Int → Bool} : ∀ {l : List Int} {i : Nat}, i < l.length → p (l.getD i 0) = true → (∀ j, j < i → p (l.getD j 0) = false) → idxP p l = i
  | [], i, h, _, _ => by simp at h
  | y :: l, 0, h, he, _ => by simp at he; simp [idxP, he]
  | y :: l, i + 1, h, he, hn => by
    have h0 : p y = false := by simpa using hn 0 (by omega)
    have := idxP_at (p := p) (l := l) (i := i) (by simpa using h) (by simpa using he) fun j hj => by simpa using hn (j + 1) (by omega)
    simp only [idxP, h0, this]
    simp
    omega
theorem idxP_none {p : Int → Bool} : ∀ {l : List Int}, (∀ j, j < l.length → p (l.getD j 0) = false) → idxP p l = -1
  | [], _ => rfl
  | y :: l, hn => by
    have h0 : p y = false := by simpa using hn 0 (by simp)
    have := idxP_none (p := p) (l := l) fun j hj => by simpa using hn (j + 1) (by simpa using hj)
    simp [idxP, h0, this]
/-- A closure that asks of a number, and changes nothing; W: where it can be asked. -/
def Asks (P : Program) (cl : Value) (W : World → Prop) (p : Int → Bool) : Prop :=
  ∃ f lb fn, cl = .func (.func f) #[] lb ∧ P.funcs[f]? = some fn ∧ fn.body.isSome = true ∧ fn.name ≠ "runtime.NumGoroutine" ∧
    ∀ (y : Int) (w : World), W w → Calls P f (#[.int .i64 y] ++ lb) w fun r w' => r = .returned (.bool (p y)) ∧ Since w (fun _ => True) w'
theorem indexFuncConf_c {J : Nat → Prop} {w0 : World} {v cl : Value} {l : List Int} {W : World → Prop} {p : Int → Bool} (h : Ints J w0 v l) (hl : l.length ≤ 1099511627776) (hA : Asks Tryz.prog cl W p) (hW : ∀ w, Since w0 (fun _ => True) w → W w) :
    Calls Tryz.prog 81 #[v, cl] w0 (fun r w' => r = .returned (.int .i64 (idxP p l)) ∧ Since w0 (fun _ => True) w') := by
  obtain ⟨f, lb, fn, rfl, hf, hb, hn, hcl⟩ := hA
  obtain ⟨A, c, rfl, hc, hr⟩ := h
  refine enterR 19 [.sl 0 l.length c, .val (.func (.func f) #[] lb)] hr (fun _ => rfl) Tryz.func81 rfl rfl rfl rfl rfl fun a hR => ?_
  have hs := Env.Same.refl 1 (⟨fun _ => 0, fun _ => A⟩ : Env)
  refine go [ResultVar.tmp 4] 100 (fun r => .stop [.code (codeAt (bodyOf Go.Proofs.Tryz.f81) [1, 0, 1, 0]), .blk 0, .code (codeAt (bodyOf Go.Proofs.Tryz.f81) [1, 1])] (⟨[(8, .int .i64 (0)), (7, .int .i64 ((↑l.length : Int))), (4, .int .i64 (0)), (0, .sl 0 (l.length) (c)), (1, .val (Value.func (Fn.func f) #[] lb))], [(0, .row 1 (l.length) (elI l))], 1⟩ : St)) rfl (by kernel_rfl) (by kernel_rfl) (by kernel_rfl) hs hR ?_
  refine sstop fun S ρ a w hs hR hS => ?_
  let F : Nat → St := fun i => ⟨[(0, .sl 0 l.length c), (1, .val (.func (.func f) #[] lb)), (7, .int .i64 (l.length : Int)), (8, .int .i64 (i : Int))], [(0, .row 1 l.length (elI l))], 1⟩
  refine loopF (N := 19) (B := B0 w0) 0 F (fun i _ => i ≤ l.length ∧ ∀ j, j < i → p (l.getD j 0) = false) (fun i => l.length - i) 0 (by kernel_rfl) (by kernel_rfl) hs ⟨Nat.zero_le _, fun j hj => nomatch hj⟩ (hR.into (by kernel_rfl) (by kernel_rfl) rfl (ltT_row rfl (fun _ => rfl) (ltT_nil _))) ?_
  rintro i ρ a w hs ⟨hi, he⟩ hR
  refine go [ResultVar.tmp 4] 400 (fun r => .br (decide ((↑i : Int) < (↑l.length : Int))) (.need (decide (0 ≤ (↑i : Int) ∧ (↑i : Int) < (↑l.length : Int) ∧ l.length ≤ l.length)) (.need (decide ((↑i : Int).toNat < l.length)) (.hand (opNth (bodyOf Go.Proofs.Tryz.f81) [1, 0, 1, 0, 0, 1, 1, 0, 0, 1, 0] 5) [.ops (opsAt (bodyOf Go.Proofs.Tryz.f81) [1, 0, 1, 0, 0, 1, 1, 0, 0, 1, 0]) (List.drop 6 (opsAt (bodyOf Go.Proofs.Tryz.f81) [1, 0, 1, 0, 0, 1, 1, 0, 0, 1, 0])), .code (codeAt (bodyOf Go.Proofs.Tryz.f81) [1, 0, 1, 0, 0, 1, 1, 0, 0, 1, 1]), .blk 1, .code (codeAt (bodyOf Go.Proofs.Tryz.f81) [1, 0, 1, 0, 0, 1, 1, 1]), .mark 0, .code (codeAt (bodyOf Go.Proofs.Tryz.f81) [1, 0, 1, 0]), .blk 0, .code (codeAt (bodyOf Go.Proofs.Tryz.f81) [1, 1])] (⟨[(15, .int .i64 (l.getD (↑i : Int).toNat 0)), (14, .ep 0 1 ((↑i : Int).toNat) 0), (13, .int .i64 ((↑i : Int))), (12, .sl 0 (l.length) (c)), (11, .val (Value.func (Fn.func f) #[] lb)), (5, .int .i64 ((↑i : Int))), (10, .int .i64 ((↑i : Int))), (9, .lit true), (0, .sl 0 (l.length) (c)), (1, .val (Value.func (Fn.func f) #[] lb)), (7, .int .i64 ((↑l.length : Int))), (8, .int .i64 ((↑i : Int)))], [(0, .row 1 (l.length) (elI l))], 1⟩ : St)))) (.ret (.int .i64 (-1)) (⟨[], [(0, .row 1 (l.length) (elI l))], 1⟩ : St))) rfl (by kernel_rfl) (by kernel_rfl) (by kernel_rfl) hs hR ?_
  refine sbr (fun h1 => ?_) (fun h1 => sret fun ρ w hs hH => ⟨?_, hH.since0⟩)
  · have h1 : i < l.length := by simpa using h1
    refine sneed (by simp; omega) (sneed (by simp; omega) (shand fun S ρ a w hs hR1 hS Q => ?_))
    refine hand_closure (some 16) (by kernel_rfl) (cv := .tmp 11) (xs := #[.tmp 15]) (ts := #[3]) (by kernel_rfl) hf hb hn (hR1.ev (.tmp 11) (.val (.func (.func f) #[] lb)) rfl) ?_
    have e15 : (#[Operand.tmp 15] : Array Operand).map a.eval = #[.int .i64 (l.getD i 0)] := by
      have := hR1.ev (.tmp 15) (.int .i64 (l.getD i 0)) rfl
      simp [this, SV.den]
    rw [e15]
    refine Calls.mono (hcl (l.getD i 0) w (hW _ hR1.heap.since0)) fun r w2 he' => ?_
    obtain ⟨rfl, hsn⟩ := he'
    refine ⟨_, rfl, ?_⟩
    have hR := (hR1.pure hsn).res (d := 16) (v := .bool (p (l.getD i 0))) rfl rfl rfl rfl
    refine go [ResultVar.tmp 4] 100 (fun r => .br (p (l.getD i 0)) (.ret (.int .i64 ((↑i : Int))) (⟨[], [(0, .row 1 (l.length) (elI l))], 1⟩ : St)) (.mark 0 (r.get [1]).st)) rfl (by kernel_rfl) (by kernel_rfl) (by kernel_rfl) hs hR ?_
    refine sbr (fun h2 => sret fun ρ w hs hH => ⟨?_, hH.since0⟩) (fun h2 => smarkF fun ρ' a w5 hs' hR5 => ⟨i + 1, by show l.length - (i + 1) < l.length - i; omega, ⟨h1, fun j hj => ?_⟩, ρ', hs', ?_⟩)
    · rw [idxP_at h1 h2 he]
      rfl
    · by_cases hj' : j < i
      · exact he j hj'
      · obtain rfl : j = i := by omega
        exact h2
    · exact (hR5.spell64 8 (IntKind.i64.wrap ((i : Int) + 1)) ((i + 1 : Nat) : Int) (by kernel_rfl) (wrap_succ (by omega))).into (by kernel_rfl) (by kernel_rfl) rfl (ltT_row rfl (fun _ => rfl) (ltT_nil _))
  · have hi : i = l.length := by simp at h1; omega
    subst hi
    rw [idxP_none he]
    rfl
/-- Of a single one that is as asked: none is left. -/
theorem delete1_c {w0 : World} {g cap : Nat} {cl : Value} {y : Int} {W : World → Prop} {p : Int → Bool} {base : Nat} {e : TypeId} (h : w0.ownsRow base e 1 (.slice (some ⟨g, 0, none⟩) 1 cap) 1 [.int .i64 y]) (hA : Asks Tryz.prog cl W p) (hW : ∀ w, Since w0 (fun _ => True) w → W w) (hp : p y = true) :
    Calls Tryz.prog 63 #[.slice (some ⟨g, 0, none⟩) 1 cap, cl] w0 (fun r w' => ∃ A k, r = .returned (.slice A 0 k) ∧ Since w0 (fun k => k ≠ g) w') := by
  obtain ⟨f, lb, fn, rfl, hf, hb, hn, hcl⟩ := id hA
  refine enterP 42 [.val (.slice (some ⟨g, 0, none⟩) 1 cap), .val (.func (.func f) #[] lb)] Tryz.func63 rfl rfl rfl rfl rfl fun a hR => ?_
  have hs := Env.Same.refl 0 env0
  have hI : Ints (fun k => base ≤ k) w0 (.slice (some ⟨g, 0, none⟩) 1 cap) [y] := Slc.ofOwns (el := elI [y]) h (fun i hi => rfl) (fun i hi => rfl)
  refine go [ResultVar.tmp 4] 100 (fun r => .call 81 [.val (Value.slice (some { block := g, off := 0 }) 1 cap), .val (Value.func (Fn.func f) #[] lb)] (some 10) [.ops (opsAt (bodyOf Go.Proofs.Tryz.f63) [1, 0]) (List.drop 3 (opsAt (bodyOf Go.Proofs.Tryz.f63) [1, 0])), .code (codeAt (bodyOf Go.Proofs.Tryz.f63) [1, 1])] (⟨[(4, .val (Value.slice none 0 0)), (0, .val (Value.slice (some { block := g, off := 0 }) 1 cap)), (1, .val (Value.func (Fn.func f) #[] lb))], [], 0⟩ : St)) rfl (by kernel_rfl) (by kernel_rfl) (by kernel_rfl) hs hR ?_
  refine scall fun S ρ a w1 hs hR1 hS => Calls.mono (indexFuncConf_c (hI.keep hR1.heap.since0 fun _ _ _ => trivial) (by simp) hA (fun w hw => hW w (hR1.heap.since0.trans hw fun _ _ _ => trivial))) fun r w2 he => ?_
  obtain ⟨rfl, hsn⟩ := he
  have ei : idxP p [y] = 0 := by simp [idxP, hp]
  rw [ei]
  refine ⟨_, rfl, ?_⟩
  have hR := (hR1.pure hsn).res (d := 10) (v := .int .i64 0) rfl rfl rfl rfl
  refine go [ResultVar.tmp 4] 100 (fun r => .br (false) (.ret (.val (Value.slice (some { block := g, off := 0 }) 1 cap)) (⟨[], [], 0⟩ : St)) (.stop [.code (codeAt (bodyOf Go.Proofs.Tryz.f63) [1, 1, 1, 0, 1, 0]), .blk 0, .code (codeAt (bodyOf Go.Proofs.Tryz.f63) [1, 1, 1, 1])] (⟨[(6, .int .i64 (IntKind.i64.wrap (0 + 1))), (5, .int .i64 (0)), (4, .val (Value.slice none 0 0)), (0, .val (Value.slice (some { block := g, off := 0 }) 1 cap)), (1, .val (Value.func (Fn.func f) #[] lb))], [], 0⟩ : St))) rfl (by kernel_rfl) (by kernel_rfl) (by kernel_rfl) hs hR ?_
  refine sbr (fun h1 => absurd h1 (by decide)) (fun _ => sstop fun S ρ a w3 hs hR3 hS => ?_)
  let F : Nat → St := fun _ => ⟨[(0, .val (.slice (some ⟨g, 0, none⟩) 1 cap)), (1, .val (.func (.func f) #[] lb)), (5, .int .i64 0), (6, .int .i64 1)], [], 0⟩
  refine loopF (N := 42) (B := B0 w0) 0 F (fun _ _ => True) (fun i => i) 0 (by kernel_rfl) (by kernel_rfl) hs trivial ((hR3.spell64 6 (IntKind.i64.wrap (0 + 1)) 1 (by kernel_rfl) (wrap_i64 (x := 0 + 1) (by omega) (by omega))).into (by kernel_rfl) (by kernel_rfl) rfl (ltT_nil _)) ?_
  rintro _ ρ a w4 hs _ hR4
  refine go [ResultVar.tmp 4] 100 (fun r => .br (false) (.hand (opNth (bodyOf Go.Proofs.Tryz.f63) [1, 1, 1, 0, 1, 0, 0, 1, 0, 0, 0] 2) [.ops (opsAt (bodyOf Go.Proofs.Tryz.f63) [1, 1, 1, 0, 1, 0, 0, 1, 0, 0, 0]) (List.drop 3 (opsAt (bodyOf Go.Proofs.Tryz.f63) [1, 1, 1, 0, 1, 0, 0, 1, 0, 0, 0])), .code (codeAt (bodyOf Go.Proofs.Tryz.f63) [1, 1, 1, 0, 1, 0, 0, 1, 0, 0, 1]), .blk 1, .code (codeAt (bodyOf Go.Proofs.Tryz.f63) [1, 1, 1, 0, 1, 0, 0, 1, 1]), .mark 0, .code (codeAt (bodyOf Go.Proofs.Tryz.f63) [1, 1, 1, 0, 1, 0]), .blk 0, .code (codeAt (bodyOf Go.Proofs.Tryz.f63) [1, 1, 1, 1])] (⟨[(23, .int .i64 (1)), (22, .val (Value.slice (some { block := g, off := 0 }) 1 cap)), (19, .lit true), (18, .int .i64 ((↑1 : Int))), (17, .val (Value.slice (some { block := g, off := 0 }) 1 cap)), (16, .int .i64 (1)), (0, .val (Value.slice (some { block := g, off := 0 }) 1 cap)), (1, .val (Value.func (Fn.func f) #[] lb)), (5, .int .i64 (0)), (6, .int .i64 (1))], [], 0⟩ : St)) (.hand (opNth (bodyOf Go.Proofs.Tryz.f63) [1, 1, 1, 1, 0] 2) [.ops (opsAt (bodyOf Go.Proofs.Tryz.f63) [1, 1, 1, 1, 0]) (List.drop 3 (opsAt (bodyOf Go.Proofs.Tryz.f63) [1, 1, 1, 1, 0])), .code (codeAt (bodyOf Go.Proofs.Tryz.f63) [1, 1, 1, 1, 1])] (⟨[(37, .int .i64 (0)), (36, .val (Value.slice (some { block := g, off := 0 }) 1 cap)), (0, .val (Value.slice (some { block := g, off := 0 }) 1 cap)), (5, .int .i64 (0))], [], 0⟩ : St))) rfl (by kernel_rfl) (by kernel_rfl) (by kernel_rfl) hs hR4 ?_
  refine sbr (fun h1 => absurd h1 (by decide)) (fun h1 => ?_)
  clear h1
  refine shand fun S ρ a w5 hs hR5 hS Q => ?_
  have hown := ownsRow_keep h hR5.heap.since0 fun _ _ => trivial
  have hg0 : ∃ cur : Array Value, w5.heap[g]? = some (.cells cur e (0, 0)) ∧ cur.size = cap * 1 ∧ 1 ≤ cap := by
    rcases hown.2 with ⟨hn, _⟩ | ⟨g', cap', cur, hv, _, hg, h1, _, h2, _⟩
    · cases hn
    · injection hv with hv1 hv2 hv3
      injection hv1 with hv1
      injection hv1 with hv1
      subst hv1; subst hv3
      exact ⟨cur, hg, h2, h1⟩
  obtain ⟨cur, hg, hcz, hcap⟩ := hg0
  have e5 := hR5.ev (.tmp 36) (.val (.slice (some ⟨g, 0, none⟩) 1 cap)) rfl
  have e5' := hR5.ev (.tmp 37) (.int .i64 0) rfl
  have hu : Tryz.prog.underlying 29 = some (.slice 3) := by kernel_rfl
  have hz : szOf Tryz.prog 3 = some 1 := by kernel_rfl
  refine hand_val (some 38) (by kernel_rfl) (x := .slice (some ⟨g, 0, none⟩) 1 cap) (w' := w5) ?_ ?_
  · have eo : (opNth (bodyOf Tryz.f63) [1, 1, 1, 1, 0] 2).op = .slice 29 (.tmp 36) (some (.tmp 37)) none none := by kernel_rfl
    simp only [execOp, eo, Option.map, e5, e5', SV.den]
    simp [Instr.sliceAt, Instr.slice, Instr.sliceBounds, Instr.sliceBound, asIntOf, run_underlying hu, szOf_run hz, addr_add]
  have hR := hR5.resV 38 (.slice (some ⟨g, 0, none⟩) 1 cap) rfl
  refine go [ResultVar.tmp 4] 100 (fun r => .hand (opNth (bodyOf Go.Proofs.Tryz.f63) [1, 1, 1, 1, 0] 3) [.ops (opsAt (bodyOf Go.Proofs.Tryz.f63) [1, 1, 1, 1, 0]) (List.drop 4 (opsAt (bodyOf Go.Proofs.Tryz.f63) [1, 1, 1, 1, 0])), .code (codeAt (bodyOf Go.Proofs.Tryz.f63) [1, 1, 1, 1, 1])] (⟨[(38, .val (Value.slice (some { block := g, off := 0 }) 1 cap)), (0, .val (Value.slice (some { block := g, off := 0 }) 1 cap)), (5, .int .i64 (0))], [], 0⟩ : St)) rfl (by kernel_rfl) (by kernel_rfl) (by kernel_rfl) hs hR ?_
  refine shand fun S ρ a w6 hs hR6 hS Q => ?_
  have hown6 := ownsRow_keep h hR6.heap.since0 fun _ _ => trivial
  have hg6 : ∃ cur : Array Value, w6.heap[g]? = some (.cells cur e (0, 0)) ∧ cur.size = cap * 1 ∧ 1 ≤ cap := by
    rcases hown6.2 with ⟨hn, _⟩ | ⟨g', cap', cur, hv, _, hg, h1, _, h2, _⟩
    · cases hn
    · injection hv with hv1 hv2 hv3
      injection hv1 with hv1
      injection hv1 with hv1
      subst hv1; subst hv3
      exact ⟨cur, hg, h2, h1⟩
  obtain ⟨cur6, hg6, hcz6, hcap6⟩ := hg6
  have e6 := hR6.ev (.tmp 38) (.val (.slice (some ⟨g, 0, none⟩) 1 cap)) rfl
  have hglt : g < w6.heap.size := (Array.getElem?_eq_some_iff.1 hg6).1
  refine hand_val none (by kernel_rfl) (x := .tuple #[]) (w' := w6.setCells g 0 [.int .i64 0]) ?_ ?_
  · have eo : (opNth (bodyOf Tryz.f63) [1, 1, 1, 1, 0] 3).op = .call { callee := .builtin .clear, args := #[.tmp 38], argTypes := #[29] } := by kernel_rfl
    have hrun := fun ty => Lib.run_clear_slice (P := Tryz.prog) w6 29 3 ty (.int .i64 0) hu (fun w => by kernel_rfl) rfl rfl g 0 1 cap (by decide)
      (fun j hj => by unfold World.cell?; rw [hg6]; simp; omega) (fun j hj => by unfold World.frozen?; rw [hg6]; rfl)
    simp only [execOp, eo, resolve, invoke, builtin, Sem.run_bind, Sem.run_pure, Result.andThen_ok, List.map_toArray, List.map_cons, List.map_nil, e6, SV.den, hrun]
    rfl
  have hgr : w6.grownBy (w6.setCells g 0 [.int .i64 0]) (some g) := grownBy_setCell' w6 g _
  have hR : Rep ρ [(w0, fun k => k ≠ g)] 42 _ _ _ := Rep.grown (hR6.weaken (fun k => k ≠ g)) hgr (fun _ _ _ h => nomatch h) (fun _ _ _ _ h => nomatch h) (fun b J hb k hk hJ => by
    obtain ⟨rfl, rfl⟩ := Prod.mk.inj (List.mem_singleton.1 hb)
    injection hk with hk
    exact (hJ hk.symm).elim)
  refine go [ResultVar.tmp 4] 100 (fun r => .hand (opNth (bodyOf Go.Proofs.Tryz.f63) [1, 1, 1, 1, 1, 0] 2) [.ops (opsAt (bodyOf Go.Proofs.Tryz.f63) [1, 1, 1, 1, 1, 0]) (List.drop 3 (opsAt (bodyOf Go.Proofs.Tryz.f63) [1, 1, 1, 1, 1, 0])), .code (codeAt (bodyOf Go.Proofs.Tryz.f63) [1, 1, 0, 1, 0, 1])] (⟨[(40, .int .i64 (0)), (39, .val (Value.slice (some { block := g, off := 0 }) 1 cap))], [], 0⟩ : St)) rfl (by kernel_rfl) (by kernel_rfl) (by kernel_rfl) hs hR ?_
  refine shand fun S ρ a w7 hs hR7 hS Q => ?_
  have e7 := hR7.ev (.tmp 39) (.val (.slice (some ⟨g, 0, none⟩) 1 cap)) rfl
  have e7' := hR7.ev (.tmp 40) (.int .i64 0) rfl
  refine hand_val (some 41) (by kernel_rfl) (x := .slice (some ⟨g, 0, none⟩) 0 cap) (w' := w7) ?_ ?_
  · have eo : (opNth (bodyOf Tryz.f63) [1, 1, 1, 1, 1, 0] 2).op = .slice 29 (.tmp 39) none (some (.tmp 40)) none := by kernel_rfl
    simp only [execOp, eo, Option.map, e7, e7', SV.den]
    simp [Instr.sliceAt, Instr.slice, Instr.sliceBounds, Instr.sliceBound, asIntOf, run_underlying hu, szOf_run hz, addr_add]
  have hR := hR7.resV 41 (.slice (some ⟨g, 0, none⟩) 0 cap) rfl
  refine go [ResultVar.tmp 4] 100 (fun r => .ret (.val (Value.slice (some { block := g, off := 0 }) 0 cap)) (⟨[], [], 0⟩ : St)) rfl (by kernel_rfl) (by kernel_rfl) (by kernel_rfl) hs hR ?_
  exact sret fun ρ w hs hH => ⟨_, _, rfl, hH.since1⟩
end Go.Sx
