/- Walks of package entry, third part: a log's last, whether it may be, its terms. -/
import Derived.Test.YtkidnihjihcjcaaGreatDoorWEntry2
set_option linter.unusedSimpArgs false
set_option linter.unusedVariables false
namespace Go.Sx
open Go.Proofs
def valG (g : Lg) (v : Value) : Value := .agg #[.int .i64 g.base, .int .i64 g.term, v]
def errN (o : Option Int) : Value := (SV.err 54 o).den env0
theorem last_c {J : Nat → Prop} {w0 : World} {v : Value} {g : Lg} (h : Ents J w0 v g.l) (hw : g.wf) :
    Calls Tryz.prog 25 #[valG g v] w0 (fun r w' => r = .returned (.tuple #[.int .i64 g.last.1, .int .i64 g.last.2]) ∧ Since w0 (fun _ => True) w') := by
  obtain ⟨D, C, ⟨A, c, rfl, hc, hr⟩, hD⟩ := h
  have hsm := hw.small
  refine enterR 28 [.agg [.int .i64 g.base, .int .i64 g.term, .sl 0 g.l.length c]] hr (fun _ => rfl) Tryz.func25 rfl rfl rfl rfl rfl fun a hR => ?_
  have hs := Env.Same.refl 1 (⟨fun _ => 0, fun _ => A⟩ : Env)
  refine go [ResultVar.tmp 2, ResultVar.tmp 3] 200 (fun r => .br (decide ((↑g.l.length : Int) > 0)) (.need (decide (0 ≤ IntKind.i64.wrap ((↑g.l.length : Int) - 1) ∧ IntKind.i64.wrap ((↑g.l.length : Int) - 1) < (↑g.l.length : Int) ∧ g.l.length ≤ g.l.length)) (.need (decide ((IntKind.i64.wrap ((↑g.l.length : Int) - 1)).toNat < g.l.length)) (.need (decide (0 ≤ IntKind.i64.wrap ((↑g.l.length : Int) - 1) ∧ IntKind.i64.wrap ((↑g.l.length : Int) - 1) < (↑g.l.length : Int) ∧ g.l.length ≤ g.l.length)) (.need (decide ((IntKind.i64.wrap ((↑g.l.length : Int) - 1)).toNat < g.l.length)) (.ret (.tup [.int .i64 ((g.l.getD (IntKind.i64.wrap ((↑g.l.length : Int) - 1)).toNat ent0).index), .int .i64 ((g.l.getD (IntKind.i64.wrap ((↑g.l.length : Int) - 1)).toNat ent0).term)]) (⟨[], [(1, .cells [.int .i64 (g.base), .int .i64 (g.term), .sl 0 (g.l.length) (c)] 32), (0, .row 4 (g.l.length) (elE g.l D C))], 2⟩ : St)))))) (.ret (.tup [.int .i64 (g.base), .int .i64 (g.term)]) (⟨[], [(1, .cells [.int .i64 (g.base), .int .i64 (g.term), .sl 0 (g.l.length) (c)] 32), (0, .row 4 (g.l.length) (elE g.l D C))], 2⟩ : St))) rfl (by kernel_rfl) (by kernel_rfl) (by kernel_rfl) hs hR ?_
  refine sbr (fun h1 => ?_) (fun h1 => ?_)
  · have h1 : 0 < g.l.length := by simpa using h1
    have e : IntKind.i64.wrap ((g.l.length : Int) - 1) = ((g.l.length - 1 : Nat) : Int) := by
      rw [wrap_i64 (by omega) (by omega)]; omega
    rw [e]
    refine sneed (by simp; omega) (sneed (by simp; omega) (sneed (by simp; omega) (sneed (by simp; omega) (sret fun ρ w hs hH => ⟨?_, hH.since0⟩))))
    rw [Lg.last, if_pos h1]
    rfl
  · refine sret fun ρ w hs hH => ⟨?_, hH.since0⟩
    rw [Lg.last, if_neg (by simpa using h1)]
    rfl
theorem may_c {J : Nat → Prop} {w0 : World} {v : Value} {g : Lg} (h : Ents J w0 v g.l) (hw : g.wf) :
    Calls Tryz.prog 26 #[valG g v] w0 (fun r w' => r = .returned (.bool g.may) ∧ Since w0 (fun _ => True) w') := by
  obtain ⟨A, c, rfl⟩ := h.choose_spec.choose_spec.1.form
  refine enterP 50 [.agg [.int .i64 g.base, .int .i64 g.term, .val (.slice A g.l.length c)]] Tryz.func26 rfl rfl rfl rfl rfl fun a hR => ?_
  have hs := Env.Same.refl 0 env0
  refine go [ResultVar.tmp 2] 200 (fun r => .br ((g.base == 0 && g.term == 0 || decide (g.base ≥ 1) && decide (g.base ≤ 1099511627776) && decide (g.term ≥ 1) && decide (g.term ≤ 1099511627776)) && decide ((↑g.l.length : Int) ≤ 4096)) (.call 57 [.int .i64 (g.base), .int .i64 (g.term), .val (Value.slice A g.l.length c)] (some 48) [.ops (opsAt (bodyOf Go.Proofs.Tryz.f26) [1, 1, 1, 0]) (List.drop 18 (opsAt (bodyOf Go.Proofs.Tryz.f26) [1, 1, 1, 0])), .code (codeAt (bodyOf Go.Proofs.Tryz.f26) [1, 1, 1, 1])] (⟨[(41, .lit true), (2, .lit false)], [(0, .cells [.int .i64 (g.base), .int .i64 (g.term), .val (Value.slice A g.l.length c)] 32)], 1⟩ : St)) (.ret (.lit false) (⟨[], [(0, .cells [.int .i64 (g.base), .int .i64 (g.term), .val (Value.slice A g.l.length c)] 32)], 1⟩ : St))) rfl (by kernel_rfl) (by kernel_rfl) (by kernel_rfl) hs hR ?_
  refine sbr (fun h1 => scall fun S ρ a w hs hR hS => ?_) (fun h1 => sret fun ρ w hs hH => ⟨?_, hH.since0⟩)
  · refine Calls.mono (right_c g.base g.term (h.keep hR.heap.since0 fun _ _ _ => trivial) hw.ents hw.small) fun r w' he => ?_
    obtain ⟨rfl, hsn⟩ := he
    refine ⟨_, rfl, ?_⟩
    have hR := (hR.pure hsn).res (d := 48) (v := .bool (rightM g.base 0 g.term g.l)) rfl rfl rfl rfl
    refine go [ResultVar.tmp 2] 100 (fun r => .ret (.bool (rightM g.base 0 g.term g.l)) (⟨[], [(0, .cells [.int .i64 (g.base), .int .i64 (g.term), .val (Value.slice A g.l.length c)] 32)], 1⟩ : St)) rfl (by kernel_rfl) (by kernel_rfl) (by kernel_rfl) hs hR ?_
    refine sret fun ρ w hs hH => ⟨?_, hH.since0⟩
    have : g.may = rightM g.base 0 g.term g.l := by
      simp only [Bool.and_eq_true, Bool.or_eq_true, decide_eq_true_eq, beq_iff_eq] at h1
      simp only [Lg.may, Bool.and_eq_right_iff_imp, Bool.and_eq_true, Bool.or_eq_true, decide_eq_true_eq]
      intro; omega
    rw [this]
    rfl
  · have : g.may = false := by
      simp only [Bool.and_eq_false_iff, Bool.or_eq_false_iff, decide_eq_false_iff_not, beq_eq_false_iff_ne] at h1
      simp only [Lg.may, Bool.and_eq_false_iff, Bool.or_eq_false_iff, decide_eq_false_iff_not]
      omega
    rw [this]
    rfl
theorem Last_c {J : Nat → Prop} {w0 : World} {v : Value} {g : Lg} (h : Ents J w0 v g.l) (hw : g.wf) :
    Calls Tryz.prog 34 #[valG g v] w0 (fun r w' => r = .returned (if g.may then .tuple #[.int .i64 g.last.1, .int .i64 g.last.2] else .tuple #[.int .i64 0, .int .i64 0]) ∧ Since w0 (fun _ => True) w') := by
  obtain ⟨A, c, rfl⟩ := h.form
  refine enterP 11 [.agg [.int .i64 g.base, .int .i64 g.term, .val (.slice A g.l.length c)]] Tryz.func34 rfl rfl rfl rfl rfl fun a hR => ?_
  have hs := Env.Same.refl 0 env0
  refine go [ResultVar.tmp 2, ResultVar.tmp 3] 200 (fun r => .call 26 [.agg [.int .i64 (g.base), .int .i64 (g.term), .val (Value.slice A g.l.length c)]] (some 5) [.ops (opsAt (bodyOf Go.Proofs.Tryz.f34) [1, 0, 0]) (List.drop 2 (opsAt (bodyOf Go.Proofs.Tryz.f34) [1, 0, 0])), .code (codeAt (bodyOf Go.Proofs.Tryz.f34) [1, 0, 1]), .code (codeAt (bodyOf Go.Proofs.Tryz.f34) [1, 1])] (⟨[(3, .int .i64 (0)), (2, .int .i64 (0)), (1, .ptr 0 0)], [(0, .cells [.int .i64 (g.base), .int .i64 (g.term), .val (Value.slice A g.l.length c)] 32)], 1⟩ : St)) rfl (by kernel_rfl) (by kernel_rfl) (by kernel_rfl) hs hR ?_
  refine scall fun S ρ a w hs hR hS => Calls.mono (may_c (h.keep hR.heap.since0 fun _ _ _ => trivial) hw) fun r w' he => ?_
  obtain ⟨rfl, hsn⟩ := he
  refine ⟨_, rfl, ?_⟩
  have hR := (hR.pure hsn).res (d := 5) (v := .bool g.may) rfl rfl rfl rfl
  refine go [ResultVar.tmp 2, ResultVar.tmp 3] 100 (fun r => .br (!g.may) (.ret (.tup [.int .i64 (0), .int .i64 (0)]) (⟨[], [(0, .cells [.int .i64 (g.base), .int .i64 (g.term), .val (Value.slice A g.l.length c)] 32)], 1⟩ : St)) (.call 25 [.agg [.int .i64 (g.base), .int .i64 (g.term), .val (Value.slice A g.l.length c)]] (some 8) [.ops (opsAt (bodyOf Go.Proofs.Tryz.f34) [1, 1, 0]) (List.drop 2 (opsAt (bodyOf Go.Proofs.Tryz.f34) [1, 1, 0])), .code (codeAt (bodyOf Go.Proofs.Tryz.f34) [1, 0, 1, 0, 1])] (⟨[(3, .int .i64 (0)), (2, .int .i64 (0))], [(0, .cells [.int .i64 (g.base), .int .i64 (g.term), .val (Value.slice A g.l.length c)] 32)], 1⟩ : St))) rfl (by kernel_rfl) (by kernel_rfl) (by kernel_rfl) hs hR ?_
  refine sbr (fun h1 => sret fun ρ w hs hH => ⟨?_, hH.since0⟩) (fun h1 => scall fun S ρ a w hs hR hS => ?_)
  · have h1 : g.may = false := by simpa using h1
    rw [h1]
    rfl
  · have h1 : g.may = true := by simpa using h1
    refine Calls.mono (last_c (h.keep hR.heap.since0 fun _ _ _ => trivial) hw) fun r w' he => ?_
    obtain ⟨rfl, hsn⟩ := he
    refine ⟨_, rfl, ?_⟩
    have hR := (hR.pure hsn).res (d := 8) (v := .tup [.int .i64 g.last.1, .int .i64 g.last.2]) rfl rfl rfl rfl
    refine go [ResultVar.tmp 2, ResultVar.tmp 3] 100 (fun r => .ret (.tup [.int .i64 (g.last.fst), .int .i64 (g.last.snd)]) (⟨[], [(0, .cells [.int .i64 (g.base), .int .i64 (g.term), .val (Value.slice A g.l.length c)] 32)], 1⟩ : St)) rfl (by kernel_rfl) (by kernel_rfl) (by kernel_rfl) hs hR ?_
    refine sret fun ρ w hs hH => ⟨?_, hH.since0⟩
    rw [h1]
    rfl
theorem Check_c {J : Nat → Prop} {w0 : World} {v : Value} {g : Lg} (h : Ents J w0 v g.l) (hw : g.wf) :
    Calls Tryz.prog 31 #[valG g v] w0 (fun r w' => r = .returned (errN (if g.may then none else some 1)) ∧ Since w0 (fun _ => True) w') := by
  obtain ⟨A, c, rfl⟩ := h.form
  refine enterP 7 [.agg [.int .i64 g.base, .int .i64 g.term, .val (.slice A g.l.length c)]] Tryz.func31 rfl rfl rfl rfl rfl fun a hR => ?_
  have hs := Env.Same.refl 0 env0
  refine go [ResultVar.tmp 2] 200 (fun r => .call 26 [.agg [.int .i64 (g.base), .int .i64 (g.term), .val (Value.slice A g.l.length c)]] (some 4) [.ops (opsAt (bodyOf Go.Proofs.Tryz.f31) [1, 0, 0]) (List.drop 2 (opsAt (bodyOf Go.Proofs.Tryz.f31) [1, 0, 0])), .code (codeAt (bodyOf Go.Proofs.Tryz.f31) [1, 0, 1]), .code (codeAt (bodyOf Go.Proofs.Tryz.f31) [1, 1])] (⟨[(2, .err 0 (none))], [(0, .cells [.int .i64 (g.base), .int .i64 (g.term), .val (Value.slice A g.l.length c)] 32)], 1⟩ : St)) rfl (by kernel_rfl) (by kernel_rfl) (by kernel_rfl) hs hR ?_
  refine scall fun S ρ a w hs hR hS => Calls.mono (may_c (h.keep hR.heap.since0 fun _ _ _ => trivial) hw) fun r w' he => ?_
  obtain ⟨rfl, hsn⟩ := he
  refine ⟨_, rfl, ?_⟩
  have hR := (hR.pure hsn).res (d := 4) (v := .bool g.may) rfl rfl rfl rfl
  refine go [ResultVar.tmp 2] 100 (fun r => .br (!g.may) (.ret (.err 54 (some 1)) (⟨[], [(0, .cells [.int .i64 (g.base), .int .i64 (g.term), .val (Value.slice A g.l.length c)] 32)], 1⟩ : St)) (.ret (.err 0 (none)) (⟨[], [(0, .cells [.int .i64 (g.base), .int .i64 (g.term), .val (Value.slice A g.l.length c)] 32)], 1⟩ : St))) rfl (by kernel_rfl) (by kernel_rfl) (by kernel_rfl) hs hR ?_
  refine sbr (fun h1 => sret fun ρ w hs hH => ⟨?_, hH.since0⟩) (fun h1 => sret fun ρ w hs hH => ⟨?_, hH.since0⟩)
  · have h1 : g.may = false := by simpa using h1
    rw [h1]
    rfl
  · have h1 : g.may = true := by simpa using h1
    rw [h1]
    rfl
theorem term_c {J : Nat → Prop} {w0 : World} {v : Value} {g : Lg} (index : Int) (h : Ents J w0 v g.l) (hw : g.wf) (hm : g.may = true) (hi : I64 index) :
    Calls Tryz.prog 62 #[valG g v, .int .i64 index] w0 (fun r w' => r = .returned (.tuple #[.int .i64 (g.termOf index).1, errN (g.termOf index).2]) ∧ Since w0 (fun _ => True) w') := by
  have h0 := h
  obtain ⟨D, C, ⟨A, c, rfl, hc, hr⟩, hD⟩ := h
  refine enterR 45 [.agg [.int .i64 g.base, .int .i64 g.term, .sl 0 g.l.length c], .int .i64 index] hr (fun _ => rfl) Tryz.func62 rfl rfl rfl rfl rfl fun a hR => ?_
  have hs := Env.Same.refl 1 (⟨fun _ => 0, fun _ => A⟩ : Env)
  refine go [ResultVar.tmp 4, ResultVar.tmp 5] 200 (fun r => .call 25 [.agg [.int .i64 (g.base), .int .i64 (g.term), .sl 0 (g.l.length) (c)]] (some 10) [.ops (opsAt (bodyOf Go.Proofs.Tryz.f62) [1, 0]) (List.drop 2 (opsAt (bodyOf Go.Proofs.Tryz.f62) [1, 0])), .code (codeAt (bodyOf Go.Proofs.Tryz.f62) [1, 1])] (⟨[(5, .err 0 (none)), (4, .int .i64 (0)), (2, .ptr 1 0), (1, .int .i64 (index))], [(1, .cells [.int .i64 (g.base), .int .i64 (g.term), .sl 0 (g.l.length) (c)] 32), (0, .row 4 (g.l.length) (elE g.l D C))], 2⟩ : St)) rfl (by kernel_rfl) (by kernel_rfl) (by kernel_rfl) hs hR ?_
  refine scall fun S ρ a w hs hR hS => ?_
  have e : (denL ρ [.agg [.int .i64 g.base, .int .i64 g.term, .sl 0 g.l.length c]]).toArray = #[valG g (.slice A g.l.length c)] := by
    simp [denL, SV.den, valG, ← (hs 0 (by decide)).2]
  rw [e]
  refine Calls.mono (last_c (h0.keep hR.heap.since0 fun _ _ _ => trivial) hw) fun r w' he => ?_
  obtain ⟨rfl, hsn⟩ := he
  refine ⟨_, rfl, ?_⟩
  have hR := (hR.pure hsn).res (d := 10) (v := .tup [.int .i64 g.last.1, .int .i64 g.last.2]) rfl rfl rfl rfl
  refine go [ResultVar.tmp 4, ResultVar.tmp 5] 300 (fun r => .br (decide (index > g.last.fst) || decide (index < 0)) (.ret (.tup [.int .i64 (0), .err 54 (some 8)]) (⟨[], [(1, .cells [.int .i64 (g.base), .int .i64 (g.term), .sl 0 (g.l.length) (c)] 32), (0, .row 4 (g.l.length) (elE g.l D C))], 2⟩ : St)) (.br (decide (index < g.base)) (.ret (.tup [.int .i64 (0), .err 54 (some 22)]) (⟨[], [(1, .cells [.int .i64 (g.base), .int .i64 (g.term), .sl 0 (g.l.length) (c)] 32), (0, .row 4 (g.l.length) (elE g.l D C))], 2⟩ : St)) (.br (index == g.base) (.ret (.tup [.int .i64 (g.term), .err 0 (none)]) (⟨[], [(1, .cells [.int .i64 (g.base), .int .i64 (g.term), .sl 0 (g.l.length) (c)] 32), (0, .row 4 (g.l.length) (elE g.l D C))], 2⟩ : St)) (.need (decide (0 ≤ IntKind.i64.wrap (IntKind.i64.wrap (index - g.base) - 1) ∧ IntKind.i64.wrap (IntKind.i64.wrap (index - g.base) - 1) < (↑g.l.length : Int) ∧ g.l.length ≤ g.l.length)) (.need (decide ((IntKind.i64.wrap (IntKind.i64.wrap (index - g.base) - 1)).toNat < g.l.length)) (.ret (.tup [.int .i64 ((g.l.getD (IntKind.i64.wrap (IntKind.i64.wrap (index - g.base) - 1)).toNat ent0).term), .err 0 (none)]) (⟨[], [(1, .cells [.int .i64 (g.base), .int .i64 (g.term), .sl 0 (g.l.length) (c)] 32), (0, .row 4 (g.l.length) (elE g.l D C))], 2⟩ : St))))))) rfl (by kernel_rfl) (by kernel_rfl) (by kernel_rfl) hs hR ?_
  have hb := g.may_bounds hm
  have hl := g.may_last hm
  refine sbr (fun h1 => sret fun ρ w hs hH => ⟨?_, hH.since0⟩) (fun h1 => sbr (fun h2 => sret fun ρ w hs hH => ⟨?_, hH.since0⟩) (fun h2 => sbr (fun h3 => sret fun ρ w hs hH => ⟨?_, hH.since0⟩) (fun h3 => ?_)))
  · have : g.termOf index = (0, some 8) := by
      simp only [Bool.or_eq_true, decide_eq_true_eq] at h1
      rw [Lg.termOf, if_pos h1]
    rw [this]; rfl
  · have : g.termOf index = (0, some 22) := by
      simp only [Bool.or_eq_false_iff, decide_eq_false_iff_not, decide_eq_true_eq] at h1 h2
      rw [Lg.termOf, if_neg (by omega), if_pos h2]
    rw [this]; rfl
  · have : g.termOf index = (g.term, none) := by
      simp only [Bool.or_eq_false_iff, decide_eq_false_iff_not, beq_iff_eq] at h1 h2 h3
      rw [Lg.termOf, if_neg (by omega), if_neg h2, if_pos h3]
    rw [this]; rfl
  · simp only [Bool.or_eq_false_iff, decide_eq_false_iff_not, beq_eq_false_iff_ne] at h1 h2 h3
    have e : IntKind.i64.wrap (IntKind.i64.wrap (index - g.base) - 1) = index - g.base - 1 := by
      rw [wrap_i64 (x := index - g.base) (by omega) (by omega), wrap_i64 (by omega) (by omega)]
    rw [e]
    refine sneed (by simp; omega) (sneed (by simp; omega) (sret fun ρ w hs hH => ⟨?_, hH.since0⟩))
    have : g.termOf index = ((g.l.getD (index - g.base - 1).toNat ent0).term, none) := by
      rw [Lg.termOf, if_neg (by omega), if_neg h2, if_neg h3]
    rw [this]; rfl
theorem Term_c {J : Nat → Prop} {w0 : World} {v : Value} {g : Lg} (index : Int) (h : Ents J w0 v g.l) (hw : g.wf) (hi : I64 index) :
    Calls Tryz.prog 51 #[valG g v, .int .i64 index] w0 (fun r w' => r = .returned (if g.may then .tuple #[.int .i64 (g.termOf index).1, errN (g.termOf index).2] else .tuple #[.int .i64 0, errN (some 1)]) ∧ Since w0 (fun _ => True) w') := by
  obtain ⟨A, c, rfl⟩ := h.form
  refine enterP 15 [.agg [.int .i64 g.base, .int .i64 g.term, .val (.slice A g.l.length c)], .int .i64 index] Tryz.func51 rfl rfl rfl rfl rfl fun a hR => ?_
  have hs := Env.Same.refl 0 env0
  refine go [ResultVar.tmp 4, ResultVar.tmp 5] 200 (fun r => .call 26 [.agg [.int .i64 (g.base), .int .i64 (g.term), .val (Value.slice A g.l.length c)]] (some 7) [.ops (opsAt (bodyOf Go.Proofs.Tryz.f51) [1, 0, 0]) (List.drop 2 (opsAt (bodyOf Go.Proofs.Tryz.f51) [1, 0, 0])), .code (codeAt (bodyOf Go.Proofs.Tryz.f51) [1, 0, 1]), .code (codeAt (bodyOf Go.Proofs.Tryz.f51) [1, 1])] (⟨[(5, .err 0 (none)), (4, .int .i64 (0)), (2, .ptr 0 0), (1, .int .i64 (index))], [(0, .cells [.int .i64 (g.base), .int .i64 (g.term), .val (Value.slice A g.l.length c)] 32)], 1⟩ : St)) rfl (by kernel_rfl) (by kernel_rfl) (by kernel_rfl) hs hR ?_
  refine scall fun S ρ a w hs hR hS => Calls.mono (may_c (h.keep hR.heap.since0 fun _ _ _ => trivial) hw) fun r w' he => ?_
  obtain ⟨rfl, hsn⟩ := he
  refine ⟨_, rfl, ?_⟩
  have hR := (hR.pure hsn).res (d := 7) (v := .bool g.may) rfl rfl rfl rfl
  refine go [ResultVar.tmp 4, ResultVar.tmp 5] 100 (fun r => .br (!g.may) (.ret (.tup [.int .i64 (0), .err 54 (some 1)]) (⟨[], [(0, .cells [.int .i64 (g.base), .int .i64 (g.term), .val (Value.slice A g.l.length c)] 32)], 1⟩ : St)) (.call 62 [.agg [.int .i64 (g.base), .int .i64 (g.term), .val (Value.slice A g.l.length c)], .int .i64 (index)] (some 12) [.ops (opsAt (bodyOf Go.Proofs.Tryz.f51) [1, 1, 0]) (List.drop 3 (opsAt (bodyOf Go.Proofs.Tryz.f51) [1, 1, 0])), .code (codeAt (bodyOf Go.Proofs.Tryz.f51) [1, 0, 1, 0, 1])] (⟨[(5, .err 0 (none)), (4, .int .i64 (0))], [(0, .cells [.int .i64 (g.base), .int .i64 (g.term), .val (Value.slice A g.l.length c)] 32)], 1⟩ : St))) rfl (by kernel_rfl) (by kernel_rfl) (by kernel_rfl) hs hR ?_
  refine sbr (fun h1 => sret fun ρ w hs hH => ⟨?_, hH.since0⟩) (fun h1 => scall fun S ρ a w hs hR hS => ?_)
  · have h1 : g.may = false := by simpa using h1
    rw [h1]
    rfl
  · have h1 : g.may = true := by simpa using h1
    refine Calls.mono (term_c index (h.keep hR.heap.since0 fun _ _ _ => trivial) hw h1 hi) fun r w' he => ?_
    obtain ⟨rfl, hsn⟩ := he
    refine ⟨_, rfl, ?_⟩
    have hR := (hR.pure hsn).res (d := 12) (v := .tup [.int .i64 (g.termOf index).1, .err 54 (g.termOf index).2]) rfl rfl rfl rfl
    refine go [ResultVar.tmp 4, ResultVar.tmp 5] 100 (fun r => .ret (.tup [.int .i64 ((g.termOf index).fst), .err 54 ((g.termOf index).2)]) (⟨[], [(0, .cells [.int .i64 (g.base), .int .i64 (g.term), .val (Value.slice A g.l.length c)] 32)], 1⟩ : St)) rfl (by kernel_rfl) (by kernel_rfl) (by kernel_rfl) hs hR ?_
    refine sret fun ρ w hs hH => ⟨?_, hH.since0⟩
    rw [h1]
    rfl
end Go.Sx
