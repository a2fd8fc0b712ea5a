/- Walks of package conf, first part: whether members may be, who is one. -/
import Derived.Test.YtkidnihjihcjcaaGreatDoorSxB
import Derived.Test.YtkidnihjihcjcaaGreatDoorMLog
import Derived.Test.YtkidnihjihcjcaaGreatDoorProg
set_option linter.unusedSimpArgs false
set_option linter.unusedVariables false
namespace Go.Sx
open Go.Proofs
def incM : Int → List Int → Bool
  | _, [] => true
  | last, x :: l => decide (last < x ∧ x ≤ 64) && incM x l
def confMay (c : List Int) : Bool := incM 0 c && decide (1 ≤ c.length ∧ c.length ≤ 7)
theorem confMay_c {J : Nat → Prop} {w0 : World} {v : Value} {l : List Int} (h : Ints J w0 v l) (hl : l.length ≤ 1099511627776) :
    Calls Tryz.prog 59 #[v] w0 (fun r w' => r = .returned (.bool (confMay l)) ∧ Since w0 (fun _ => True) w') := by
  obtain ⟨A, c, rfl, hc, hr⟩ := h
  refine enterR 29 [.sl 0 l.length c] hr (fun _ => rfl) Tryz.func59 rfl rfl rfl rfl rfl fun a hR => ?_
  have hs := Env.Same.refl 1 (⟨fun _ => 0, fun _ => A⟩ : Env)
  refine go [ResultVar.tmp 2] 100 (fun r => .stop [.code (codeAt (bodyOf Go.Proofs.Tryz.f59) [1, 1, 0, 1, 0]), .blk 0, .code (codeAt (bodyOf Go.Proofs.Tryz.f59) [1, 1, 1])] (⟨[(8, .int .i64 (0)), (7, .int .i64 ((↑l.length : Int))), (6, .sl 0 (l.length) (c)), (3, .int .i64 (0)), (2, .lit false), (0, .sl 0 (l.length) (c))], [(0, .row 1 (l.length) (elI l))], 1⟩ : St)) rfl (by kernel_rfl) (by kernel_rfl) (by kernel_rfl) hs hR ?_
  refine sstop fun S ρ a w hs hR hS => ?_
  let F : Nat × Int → St := fun p => ⟨[(0, .sl 0 l.length c), (3, .int .i64 p.2), (6, .sl 0 l.length c), (7, .int .i64 (l.length : Int)), (8, .int .i64 (p.1 : Int))], [(0, .row 1 l.length (elI l))], 1⟩
  refine loopF (N := 29) (B := B0 w0) 0 F (fun p _ => p.1 ≤ l.length ∧ incM 0 l = incM p.2 (l.drop p.1)) (fun p => l.length - p.1) (0, 0) (by kernel_rfl) (by kernel_rfl) hs ⟨Nat.zero_le _, rfl⟩ (hR.into (by kernel_rfl) (by kernel_rfl) rfl (ltT_row rfl (fun _ => rfl) (ltT_nil _))) ?_
  rintro ⟨i, t⟩ ρ a w hs ⟨hi, he⟩ hR
  refine go [ResultVar.tmp 2] 400 (fun r => .br (decide ((↑i : Int) < (↑l.length : Int))) (.need (decide (0 ≤ (↑i : Int) ∧ (↑i : Int) < (↑l.length : Int) ∧ l.length ≤ l.length)) (.need (decide ((↑i : Int).toNat < l.length)) (.br (decide (l.getD (↑i : Int).toNat 0 ≤ t) || decide (l.getD (↑i : Int).toNat 0 > 64)) (.ret (.lit false) (⟨[], [(0, .row 1 (l.length) (elI l))], 1⟩ : St)) (.mark 0 (r.get [0, 0, 0, 1]).st)))) (.ret (.bool (decide ((↑l.length : Int) ≥ 1) && decide ((↑l.length : Int) ≤ 7))) (⟨[], [(0, .row 1 (l.length) (elI l))], 1⟩ : St))) rfl (by kernel_rfl) (by kernel_rfl) (by kernel_rfl) hs hR ?_
  refine sbr (fun h1 => ?_) (fun h1 => sret fun ρ w hs hH => ⟨?_, hH.since0⟩)
  · have h1 : i < l.length := by simpa using h1
    rw [drop_getD h1 0, incM] at he
    refine sneed (by simp; omega) (sneed (by simp; omega) (sbr (fun h2 => sret fun ρ w hs hH => ⟨?_, hH.since0⟩) (fun h2 => smarkF fun ρ' a w5 hs' hR5 => ⟨(i + 1, l.getD i 0), by show l.length - (i + 1) < l.length - i; omega, ⟨h1, ?_⟩, ρ', hs', ?_⟩)))
    · have : incM 0 l = false := by
        rw [he, Bool.and_eq_false_iff]
        simp only [Bool.or_eq_true, decide_eq_true_eq, Int.toNat_natCast] at h2
        simp only [decide_eq_false_iff_not]
        exact .inl (by omega)
      rw [confMay, this]
      rfl
    · have : decide (t < l.getD i 0 ∧ l.getD i 0 ≤ 64) = true := by
        simp only [Bool.or_eq_false_iff, decide_eq_false_iff_not, Int.toNat_natCast] at h2
        simp only [decide_eq_true_eq]
        omega
      rw [this] at he
      exact he
    · exact (hR5.spell64 8 (IntKind.i64.wrap ((i : Int) + 1)) ((i + 1 : Nat) : Int) (by kernel_rfl) (wrap_succ (by omega))).into (by kernel_rfl) (by kernel_rfl) rfl (ltT_row rfl (fun _ => rfl) (ltT_nil _))
  · have hi : i = l.length := by simp at h1; omega
    subst hi
    have : incM 0 l = true := by rw [he]; simp [incM]
    rw [confMay, this, Bool.true_and]
    show Ending.returned (.bool _) = _
    congr 2
    rw [← Bool.decide_and]
    exact decide_eq_decide.2 (by omega)
def idxM (x : Int) : List Int → Int
  | [] => -1
  | y :: l => if y = x then 0 else if idxM x l < 0 then -1 else idxM x l + 1
theorem idxM_at {x : Int} : ∀ {l : List Int} {i : Nat}, i < l.length → l.getD i 0 = x → (∀ j, j < i → l.getD j 0 ≠ x) → idxM x l = i
  | [], i, h, _, _ => by simp at h
  | y :: l, 0, h, he, _ => by simp at he; simp [idxM, he]
  | y :: l, i + 1, h, he, hn => by
    have h0 : y ≠ x := by simpa using hn 0 (by omega)
    have := idxM_at (l := l) (i := i) (by simpa using h) (by simpa using he) fun j hj => by simpa using hn (j + 1) (by omega)
    simp only [idxM, h0, if_false, this]
    omega
theorem idxM_none {x : Int} : ∀ {l : List Int}, (∀ j, j < l.length → l.getD j 0 ≠ x) → idxM x l = -1
  | [], _ => rfl
  | y :: l, hn => by
    have h0 : y ≠ x := by simpa using hn 0 (by simp)
    have := idxM_none (l := l) fun j hj => by simpa using hn (j + 1) (by simpa using hj)
    simp [idxM, h0, this]
theorem idxM_mem {x : Int} : ∀ {l : List Int}, 0 ≤ idxM x l ↔ x ∈ l
  | [] => by simp [idxM]
  | y :: l => by
    have := idxM_mem (x := x) (l := l)
    simp only [idxM, List.mem_cons]
    split
    · simp_all
    · split
      · constructor
        · omega
        · rintro (rfl | h)
          · contradiction
          · have := this.2 h; omega
      · constructor
        · intro; exact .inr (this.1 (by omega))
        · intro; omega
theorem indexConf_c {J : Nat → Prop} {w0 : World} {v : Value} {l : List Int} (x : Int) (h : Ints J w0 v l) (hl : l.length ≤ 1099511627776) :
    Calls Tryz.prog 86 #[v, .int .i64 x] w0 (fun r w' => r = .returned (.int .i64 (idxM x l)) ∧ Since w0 (fun _ => True) w') := by
  obtain ⟨A, c, rfl, hc, hr⟩ := h
  refine enterR 19 [.sl 0 l.length c, .int .i64 x] hr (fun _ => rfl) Tryz.func86 rfl rfl rfl rfl rfl fun a hR => ?_
  have hs := Env.Same.refl 1 (⟨fun _ => 0, fun _ => A⟩ : Env)
  refine go [ResultVar.tmp 4] 100 (fun r => .stop [.code (codeAt (bodyOf Go.Proofs.Tryz.f86) [1, 0, 1, 0]), .blk 0, .code (codeAt (bodyOf Go.Proofs.Tryz.f86) [1, 1])] (⟨[(8, .int .i64 (0)), (7, .int .i64 ((↑l.length : Int))), (4, .int .i64 (0)), (0, .sl 0 (l.length) (c)), (1, .int .i64 (x))], [(0, .row 1 (l.length) (elI l))], 1⟩ : St)) rfl (by kernel_rfl) (by kernel_rfl) (by kernel_rfl) hs hR ?_
  refine sstop fun S ρ a w hs hR hS => ?_
  let F : Nat → St := fun i => ⟨[(0, .sl 0 l.length c), (1, .int .i64 x), (7, .int .i64 (l.length : Int)), (8, .int .i64 (i : Int))], [(0, .row 1 l.length (elI l))], 1⟩
  refine loopF (N := 19) (B := B0 w0) 0 F (fun i _ => i ≤ l.length ∧ ∀ j, j < i → l.getD j 0 ≠ x) (fun i => l.length - i) 0 (by kernel_rfl) (by kernel_rfl) hs ⟨Nat.zero_le _, fun j hj => nomatch hj⟩ (hR.into (by kernel_rfl) (by kernel_rfl) rfl (ltT_row rfl (fun _ => rfl) (ltT_nil _))) ?_
  rintro i ρ a w hs ⟨hi, he⟩ hR
  refine go [ResultVar.tmp 4] 400 (fun r => .br (decide ((↑i : Int) < (↑l.length : Int))) (.need (decide (0 ≤ (↑i : Int) ∧ (↑i : Int) < (↑l.length : Int) ∧ l.length ≤ l.length)) (.need (decide ((↑i : Int).toNat < l.length)) (.br (x == l.getD (↑i : Int).toNat 0) (.ret (.int .i64 ((↑i : Int))) (⟨[], [(0, .row 1 (l.length) (elI l))], 1⟩ : St)) (.mark 0 (r.get [0, 0, 0, 1]).st)))) (.ret (.int .i64 (-1)) (⟨[], [(0, .row 1 (l.length) (elI l))], 1⟩ : St))) rfl (by kernel_rfl) (by kernel_rfl) (by kernel_rfl) hs hR ?_
  refine sbr (fun h1 => ?_) (fun h1 => sret fun ρ w hs hH => ⟨?_, hH.since0⟩)
  · have h1 : i < l.length := by simpa using h1
    refine sneed (by simp; omega) (sneed (by simp; omega) (sbr (fun h2 => sret fun ρ w hs hH => ⟨?_, hH.since0⟩) (fun h2 => smarkF fun ρ' a w5 hs' hR5 => ⟨i + 1, by show l.length - (i + 1) < l.length - i; omega, ⟨h1, fun j hj => ?_⟩, ρ', hs', ?_⟩)))
    · rw [idxM_at h1 (by have h2 : x = l.getD i 0 := by simpa using h2
                         exact h2.symm) he]
      rfl
    · by_cases hj' : j < i
      · exact he j hj'
      · obtain rfl : j = i := by omega
        intro e
        have h2 : ¬ x = l.getD j 0 := by simpa using h2
        exact h2 e.symm
    · exact (hR5.spell64 8 (IntKind.i64.wrap ((i : Int) + 1)) ((i + 1 : Nat) : Int) (by kernel_rfl) (wrap_succ (by omega))).into (by kernel_rfl) (by kernel_rfl) rfl (ltT_row rfl (fun _ => rfl) (ltT_nil _))
  · have hi : i = l.length := by simp at h1; omega
    subst hi
    rw [idxM_none he]
    rfl
theorem indexInts_c {J : Nat → Prop} {w0 : World} {v : Value} {l : List Int} (x : Int) (h : Ints J w0 v l) (hl : l.length ≤ 1099511627776) :
    Calls Tryz.prog 79 #[v, .int .i64 x] w0 (fun r w' => r = .returned (.int .i64 (idxM x l)) ∧ Since w0 (fun _ => True) w') := by
  obtain ⟨A, c, rfl, hc, hr⟩ := h
  refine enterR 19 [.sl 0 l.length c, .int .i64 x] hr (fun _ => rfl) Tryz.func79 rfl rfl rfl rfl rfl fun a hR => ?_
  have hs := Env.Same.refl 1 (⟨fun _ => 0, fun _ => A⟩ : Env)
  refine go [ResultVar.tmp 4] 100 (fun r => .stop [.code (codeAt (bodyOf Go.Proofs.Tryz.f79) [1, 0, 1, 0]), .blk 0, .code (codeAt (bodyOf Go.Proofs.Tryz.f79) [1, 1])] (⟨[(8, .int .i64 (0)), (7, .int .i64 ((↑l.length : Int))), (4, .int .i64 (0)), (0, .sl 0 (l.length) (c)), (1, .int .i64 (x))], [(0, .row 1 (l.length) (elI l))], 1⟩ : St)) rfl (by kernel_rfl) (by kernel_rfl) (by kernel_rfl) hs hR ?_
  refine sstop fun S ρ a w hs hR hS => ?_
  let F : Nat → St := fun i => ⟨[(0, .sl 0 l.length c), (1, .int .i64 x), (7, .int .i64 (l.length : Int)), (8, .int .i64 (i : Int))], [(0, .row 1 l.length (elI l))], 1⟩
  refine loopF (N := 19) (B := B0 w0) 0 F (fun i _ => i ≤ l.length ∧ ∀ j, j < i → l.getD j 0 ≠ x) (fun i => l.length - i) 0 (by kernel_rfl) (by kernel_rfl) hs ⟨Nat.zero_le _, fun j hj => nomatch hj⟩ (hR.into (by kernel_rfl) (by kernel_rfl) rfl (ltT_row rfl (fun _ => rfl) (ltT_nil _))) ?_
  rintro i ρ a w hs ⟨hi, he⟩ hR
  refine go [ResultVar.tmp 4] 400 (fun r => .br (decide ((↑i : Int) < (↑l.length : Int))) (.need (decide (0 ≤ (↑i : Int) ∧ (↑i : Int) < (↑l.length : Int) ∧ l.length ≤ l.length)) (.need (decide ((↑i : Int).toNat < l.length)) (.br (x == l.getD (↑i : Int).toNat 0) (.ret (.int .i64 ((↑i : Int))) (⟨[], [(0, .row 1 (l.length) (elI l))], 1⟩ : St)) (.mark 0 (r.get [0, 0, 0, 1]).st)))) (.ret (.int .i64 (-1)) (⟨[], [(0, .row 1 (l.length) (elI l))], 1⟩ : St))) rfl (by kernel_rfl) (by kernel_rfl) (by kernel_rfl) hs hR ?_
  refine sbr (fun h1 => ?_) (fun h1 => sret fun ρ w hs hH => ⟨?_, hH.since0⟩)
  · have h1 : i < l.length := by simpa using h1
    refine sneed (by simp; omega) (sneed (by simp; omega) (sbr (fun h2 => sret fun ρ w hs hH => ⟨?_, hH.since0⟩) (fun h2 => smarkF fun ρ' a w5 hs' hR5 => ⟨i + 1, by show l.length - (i + 1) < l.length - i; omega, ⟨h1, fun j hj => ?_⟩, ρ', hs', ?_⟩)))
    · rw [idxM_at h1 (by have h2 : x = l.getD i 0 := by simpa using h2
                         exact h2.symm) he]
      rfl
    · by_cases hj' : j < i
      · exact he j hj'
      · obtain rfl : j = i := by omega
        intro e
        have h2 : ¬ x = l.getD j 0 := by simpa using h2
        exact h2 e.symm
    · exact (hR5.spell64 8 (IntKind.i64.wrap ((i : Int) + 1)) ((i + 1 : Nat) : Int) (by kernel_rfl) (wrap_succ (by omega))).into (by kernel_rfl) (by kernel_rfl) rfl (ltT_row rfl (fun _ => rfl) (ltT_nil _))
  · have hi : i = l.length := by simp at h1; omega
    subst hi
    rw [idxM_none he]
    rfl
theorem containsConf_c {J : Nat → Prop} {w0 : World} {v : Value} {l : List Int} (x : Int) (h : Ints J w0 v l) (hl : l.length ≤ 1099511627776) :
    Calls Tryz.prog 68 #[v, .int .i64 x] w0 (fun r w' => r = .returned (.bool (decide (x ∈ l))) ∧ Since w0 (fun _ => True) w') := by
  obtain ⟨A, c, rfl⟩ := h.form
  refine enterP 9 [.val (.slice A l.length c), .int .i64 x] Tryz.func68 rfl rfl rfl rfl rfl fun a hR => ?_
  have hs := Env.Same.refl 0 env0
  refine go [ResultVar.tmp 4] 100 (fun r => .call 86 [.val (Value.slice A l.length c), .int .i64 (x)] (some 7) [.ops (opsAt (bodyOf Go.Proofs.Tryz.f68) [1, 0]) (List.drop 3 (opsAt (bodyOf Go.Proofs.Tryz.f68) [1, 0])), .code (codeAt (bodyOf Go.Proofs.Tryz.f68) [1, 1])] (⟨[(4, .lit false)], [], 0⟩ : St)) rfl (by kernel_rfl) (by kernel_rfl) (by kernel_rfl) hs hR ?_
  refine scall fun S ρ a w hs hR hS => Calls.mono (indexConf_c x (h.keep hR.heap.since0 fun _ _ _ => trivial) hl) fun r w' he => ?_
  obtain ⟨rfl, hsn⟩ := he
  refine ⟨_, rfl, ?_⟩
  have hR := (hR.pure hsn).res (d := 7) (v := .int .i64 (idxM x l)) rfl rfl rfl rfl
  refine go [ResultVar.tmp 4] 100 (fun r => .ret (.bool (decide (idxM x l ≥ 0))) (⟨[], [], 0⟩ : St)) rfl (by kernel_rfl) (by kernel_rfl) (by kernel_rfl) hs hR ?_
  refine sret fun ρ w hs hH => ⟨?_, hH.since0⟩
  rw [decide_eq_decide.2 (idxM_mem (x := x) (l := l)).symm]
  rfl
theorem containsInts_c {J : Nat → Prop} {w0 : World} {v : Value} {l : List Int} (x : Int) (h : Ints J w0 v l) (hl : l.length ≤ 1099511627776) :
    Calls Tryz.prog 58 #[v, .int .i64 x] w0 (fun r w' => r = .returned (.bool (decide (x ∈ l))) ∧ Since w0 (fun _ => True) w') := by
  obtain ⟨A, c, rfl⟩ := h.form
  refine enterP 9 [.val (.slice A l.length c), .int .i64 x] Tryz.func58 rfl rfl rfl rfl rfl fun a hR => ?_
  have hs := Env.Same.refl 0 env0
  refine go [ResultVar.tmp 4] 100 (fun r => .call 79 [.val (Value.slice A l.length c), .int .i64 (x)] (some 7) [.ops (opsAt (bodyOf Go.Proofs.Tryz.f58) [1, 0]) (List.drop 3 (opsAt (bodyOf Go.Proofs.Tryz.f58) [1, 0])), .code (codeAt (bodyOf Go.Proofs.Tryz.f58) [1, 1])] (⟨[(4, .lit false)], [], 0⟩ : St)) rfl (by kernel_rfl) (by kernel_rfl) (by kernel_rfl) hs hR ?_
  refine scall fun S ρ a w hs hR hS => Calls.mono (indexInts_c x (h.keep hR.heap.since0 fun _ _ _ => trivial) hl) fun r w' he => ?_
  obtain ⟨rfl, hsn⟩ := he
  refine ⟨_, rfl, ?_⟩
  have hR := (hR.pure hsn).res (d := 7) (v := .int .i64 (idxM x l)) rfl rfl rfl rfl
  refine go [ResultVar.tmp 4] 100 (fun r => .ret (.bool (decide (idxM x l ≥ 0))) (⟨[], [], 0⟩ : St)) rfl (by kernel_rfl) (by kernel_rfl) (by kernel_rfl) hs hR ?_
  refine sret fun ρ w hs hH => ⟨?_, hH.since0⟩
  rw [decide_eq_decide.2 (idxM_mem (x := x) (l := l)).symm]
  rfl
theorem confCheck_c {J : Nat → Prop} {w0 : World} {v : Value} {l : List Int} (h : Ints J w0 v l) (hl : l.length ≤ 1099511627776) :
    Calls Tryz.prog 32 #[v] w0 (fun r w' => r = .returned ((SV.err 54 (if confMay l then none else some 1)).den env0) ∧ Since w0 (fun _ => True) w') := by
  obtain ⟨A, c, rfl⟩ := h.form
  refine enterP 7 [.val (.slice A l.length c)] Tryz.func32 rfl rfl rfl rfl rfl fun a hR => ?_
  have hs := Env.Same.refl 0 env0
  refine go [ResultVar.tmp 2] 100 (fun r => .call 59 [.val (Value.slice A l.length c)] (some 4) [.ops (opsAt (bodyOf Go.Proofs.Tryz.f32) [1, 0, 0]) (List.drop 2 (opsAt (bodyOf Go.Proofs.Tryz.f32) [1, 0, 0])), .code (codeAt (bodyOf Go.Proofs.Tryz.f32) [1, 0, 1]), .code (codeAt (bodyOf Go.Proofs.Tryz.f32) [1, 1])] (⟨[(2, .err 0 (none))], [], 0⟩ : St)) rfl (by kernel_rfl) (by kernel_rfl) (by kernel_rfl) hs hR ?_
  refine scall fun S ρ a w hs hR hS => Calls.mono (confMay_c (h.keep hR.heap.since0 fun _ _ _ => trivial) hl) fun r w' he => ?_
  obtain ⟨rfl, hsn⟩ := he
  refine ⟨_, rfl, ?_⟩
  have hR := (hR.pure hsn).res (d := 4) (v := .bool (confMay l)) rfl rfl rfl rfl
  refine go [ResultVar.tmp 2] 100 (fun r => .br (!confMay l) (.ret (.err 54 (some 1)) (⟨[], [], 0⟩ : St)) (.ret (.err 0 (none)) (⟨[], [], 0⟩ : St))) rfl (by kernel_rfl) (by kernel_rfl) (by kernel_rfl) hs hR ?_
  refine sbr (fun h1 => sret fun ρ w hs hH => ⟨?_, hH.since0⟩) (fun h1 => sret fun ρ w hs hH => ⟨?_, hH.since0⟩)
  · have h1 : confMay l = false := by simpa using h1
    rw [h1]; rfl
  · have h1 : confMay l = true := by simpa using h1
    rw [h1]; rfl
theorem Has_c {J : Nat → Prop} {w0 : World} {v : Value} {l : List Int} (x : Int) (h : Ints J w0 v l) (hl : l.length ≤ 1099511627776) :
    Calls Tryz.prog 41 #[v, .int .i64 x] w0 (fun r w' => r = .returned (.bool (confMay l && decide (x ∈ l))) ∧ Since w0 (fun _ => True) w') := by
  obtain ⟨A, c, rfl⟩ := h.form
  refine enterP 12 [.val (.slice A l.length c), .int .i64 x] Tryz.func41 rfl rfl rfl rfl rfl fun a hR => ?_
  have hs := Env.Same.refl 0 env0
  refine go [ResultVar.tmp 4] 100 (fun r => .call 59 [.val (Value.slice A l.length c)] (some 6) [.ops (opsAt (bodyOf Go.Proofs.Tryz.f41) [1, 0]) (List.drop 2 (opsAt (bodyOf Go.Proofs.Tryz.f41) [1, 0])), .code (codeAt (bodyOf Go.Proofs.Tryz.f41) [1, 1])] (⟨[(4, .lit false), (0, .val (Value.slice A l.length c)), (1, .int .i64 (x))], [], 0⟩ : St)) rfl (by kernel_rfl) (by kernel_rfl) (by kernel_rfl) hs hR ?_
  refine scall fun S ρ a w hs hR hS => Calls.mono (confMay_c (h.keep hR.heap.since0 fun _ _ _ => trivial) hl) fun r w' he => ?_
  obtain ⟨rfl, hsn⟩ := he
  refine ⟨_, rfl, ?_⟩
  have hR := (hR.pure hsn).res (d := 6) (v := .bool (confMay l)) rfl rfl rfl rfl
  refine go [ResultVar.tmp 4] 100 (fun r => .br (confMay l) (.call 68 [.val (Value.slice A l.length c), .int .i64 (x)] (some 10) [.ops (opsAt (bodyOf Go.Proofs.Tryz.f41) [1, 0]) (List.drop 6 (opsAt (bodyOf Go.Proofs.Tryz.f41) [1, 0])), .code (codeAt (bodyOf Go.Proofs.Tryz.f41) [1, 1])] (⟨[(7, .lit true), (4, .lit false)], [], 0⟩ : St)) (.ret (.lit false) (⟨[], [], 0⟩ : St))) rfl (by kernel_rfl) (by kernel_rfl) (by kernel_rfl) hs hR ?_
  refine sbr (fun h1 => scall fun S ρ a w hs hR hS => Calls.mono (containsConf_c x (h.keep hR.heap.since0 fun _ _ _ => trivial) hl) fun r w' he => ?_) (fun h1 => sret fun ρ w hs hH => ⟨?_, hH.since0⟩)
  · obtain ⟨rfl, hsn⟩ := he
    refine ⟨_, rfl, ?_⟩
    have hR := (hR.pure hsn).res (d := 10) (v := .bool (decide (x ∈ l))) rfl rfl rfl rfl
    refine go [ResultVar.tmp 4] 100 (fun r => .ret (.bool (decide (x ∈ l))) (⟨[], [], 0⟩ : St)) rfl (by kernel_rfl) (by kernel_rfl) (by kernel_rfl) hs hR ?_
    refine sret fun ρ w hs hH => ⟨?_, hH.since0⟩
    rw [h1]; rfl
  · rw [h1]; rfl
end Go.Sx
