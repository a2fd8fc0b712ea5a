/- Walks of package entry, fourth part: Compact, Add, At. -/
import Derived.Test.YtkidnihjihcjcaaGreatDoorWEntry3
set_option linter.unusedSimpArgs false
set_option linter.unusedVariables false
namespace Go.Sx
open Go.Proofs
theorem Ents.nil (J : Nat → Prop) (w : World) : Ents J w (.slice none 0 0) [] := ⟨fun _ => none, fun _ => 0, ⟨none, 0, rfl, Nat.le_refl _, Row.nil _ _ _ _ _⟩, fun i hi => nomatch hi⟩
theorem drop_ents {w : World} {A : Option Addr} {c : Nat} {l : List Ent} {D : Nat → Option Addr} {C : Nat → Nat} {k : Nat} (hk : k ≤ l.length) (hc : l.length - k ≤ c) (hr : Row (fun _ => True) w A 4 (l.length - k) fun i => elE l D C (k + i)) (hD : Datas (fun _ => True) w l.length l D C) :
    Ents (fun _ => True) w (.slice A (l.length - k) c) (l.drop k) := by
  have e : ∀ i, (l.drop k).getD i ent0 = l.getD (k + i) ent0 := fun i => by simp [List.getD_eq_getElem?_getD]
  refine ⟨fun i => D (k + i), fun i => C (k + i), ⟨A, c, by rw [List.length_drop], by rw [List.length_drop]; exact hc, ?_⟩, fun i hi => ?_⟩
  · rw [List.length_drop]
    exact hr.same fun i hi => by simp [elE, e]
  · rw [List.length_drop] at hi
    rw [e]
    exact hD (k + i) (by omega)
theorem Compact_c {J : Nat → Prop} {w0 : World} {v : Value} {g : Lg} (index : Int) (h : Ents J w0 v g.l) (hw : g.wf) (hi : I64 index) :
    Calls Tryz.prog 35 #[valG g v, .int .i64 index] w0 (fun r w' => ∃ v', r = .returned (.tuple #[valG (g.compact index).1 v', errN (g.compact index).2]) ∧ Ents (fun k => w0.heap.size ≤ k) w' v' (g.compact index).1.l ∧ Since w0 (fun _ => True) w') := by
  have h0 := h
  obtain ⟨D, C, ⟨A, c, rfl, hc, hr⟩, hD⟩ := h
  refine enterR 34 [.agg [.int .i64 g.base, .int .i64 g.term, .sl 0 g.l.length c], .int .i64 index] hr (fun _ => rfl) Tryz.func35 rfl rfl rfl rfl rfl fun a hR => ?_
  have hs := Env.Same.refl 1 (⟨fun _ => 0, fun _ => A⟩ : Env)
  have e : ∀ {ρ : Env}, Env.Same 1 ⟨fun _ => 0, fun _ => A⟩ ρ → SV.den ρ (.agg [.int .i64 g.base, .int .i64 g.term, .sl 0 g.l.length c]) = valG g (.slice A g.l.length c) := fun hs => by
    simp [denL, SV.den, valG, ← (hs 0 (by decide)).2]
  refine go [ResultVar.cell 4 32, ResultVar.tmp 5] 200 (fun r => .call 26 [.agg [.int .i64 (g.base), .int .i64 (g.term), .sl 0 (g.l.length) (c)]] (some 9) [.ops (opsAt (bodyOf Go.Proofs.Tryz.f35) [1, 0, 0]) (List.drop 2 (opsAt (bodyOf Go.Proofs.Tryz.f35) [1, 0, 0])), .code (codeAt (bodyOf Go.Proofs.Tryz.f35) [1, 0, 1]), .code (codeAt (bodyOf Go.Proofs.Tryz.f35) [1, 1])] (⟨[(5, .err 0 (none)), (4, .ptr 2 0), (2, .ptr 1 0), (1, .int .i64 (index))], [(2, .cells [.int .i64 (0), .int .i64 (0), .val (Value.slice none 0 0)] 32), (1, .cells [.int .i64 (g.base), .int .i64 (g.term), .sl 0 (g.l.length) (c)] 32), (0, .row 4 (g.l.length) (elE g.l D C))], 3⟩ : St)) rfl (by kernel_rfl) (by kernel_rfl) (by kernel_rfl) hs hR ?_
  refine scall fun S ρ a w hs hR hS => ?_
  simp only [denL, e hs]
  refine Calls.mono (may_c (h0.keep hR.heap.since0 fun _ _ _ => trivial) hw) fun r w' he => ?_
  obtain ⟨rfl, hsn⟩ := he
  refine ⟨_, rfl, ?_⟩
  have hR := (hR.pure hsn).res (d := 9) (v := .bool g.may) rfl rfl rfl rfl
  refine go [ResultVar.cell 4 32, ResultVar.tmp 5] 200 (fun r => .br (!g.may) (.ret (.tup [.agg [.int .i64 (0), .int .i64 (0), .val (Value.slice none 0 0)], .err 54 (some 1)]) (⟨[], [(2, .cells [.int .i64 (0), .int .i64 (0), .val (Value.slice none 0 0)] 32), (1, .cells [.int .i64 (g.base), .int .i64 (g.term), .sl 0 (g.l.length) (c)] 32), (0, .row 4 (g.l.length) (elE g.l D C))], 3⟩ : St)) (.call 62 [.agg [.int .i64 (g.base), .int .i64 (g.term), .sl 0 (g.l.length) (c)], .int .i64 (index)] (some 16) [.ops (opsAt (bodyOf Go.Proofs.Tryz.f35) [1, 1, 0]) (List.drop 3 (opsAt (bodyOf Go.Proofs.Tryz.f35) [1, 1, 0])), .code (codeAt (bodyOf Go.Proofs.Tryz.f35) [1, 1, 1])] (⟨[(5, .err 0 (none)), (4, .ptr 2 0), (2, .ptr 1 0), (1, .int .i64 (index))], [(2, .cells [.int .i64 (0), .int .i64 (0), .val (Value.slice none 0 0)] 32), (1, .cells [.int .i64 (g.base), .int .i64 (g.term), .sl 0 (g.l.length) (c)] 32), (0, .row 4 (g.l.length) (elE g.l D C))], 3⟩ : St))) rfl (by kernel_rfl) (by kernel_rfl) (by kernel_rfl) hs hR ?_
  refine sbr (fun h1 => sret fun ρ w hs hH => ?_) (fun h1 => scall fun S ρ a w hs hR hS => ?_)
  · have h1 : g.may = false := by simpa using h1
    rw [Lg.compact, h1]
    exact ⟨_, rfl, Ents.nil _ _, hH.since0⟩
  have h1 : g.may = true := by simpa using h1
  simp only [denL, e hs]
  refine Calls.mono (term_c index (h0.keep hR.heap.since0 fun _ _ _ => trivial) hw h1 hi) fun r w' he => ?_
  obtain ⟨rfl, hsn⟩ := he
  refine ⟨_, rfl, ?_⟩
  have hR := (hR.pure hsn).res (d := 16) (v := .tup [.int .i64 (g.termOf index).1, .err 54 (g.termOf index).2]) rfl rfl rfl rfl
  refine go [ResultVar.cell 4 32, ResultVar.tmp 5] 300 (fun r => .br (!isNoneI (g.termOf index).snd) (.ret (.tup [.agg [.int .i64 (0), .int .i64 (0), .val (Value.slice none 0 0)], .err 54 ((g.termOf index).2)]) (⟨[], [(2, .cells [.int .i64 (0), .int .i64 (0), .val (Value.slice none 0 0)] 32), (1, .cells [.int .i64 (g.base), .int .i64 (g.term), .sl 0 (g.l.length) (c)] 32), (0, .row 4 (g.l.length) (elE g.l D C))], 3⟩ : St)) (.need (decide (0 ≤ IntKind.i64.wrap (index - g.base) ∧ IntKind.i64.wrap (index - g.base) ≤ (↑g.l.length : Int) ∧ (↑g.l.length : Int) ≤ (↑g.l.length : Int) ∧ (↑g.l.length : Int) ≤ (↑c : Int) ∧ (↑c : Int) ≤ (↑c : Int) ∧ g.l.length ≤ g.l.length)) (.call 49 [.sl 3 (((↑g.l.length : Int) - IntKind.i64.wrap (index - g.base)).toNat) (((↑c : Int) - IntKind.i64.wrap (index - g.base)).toNat)] (some 32) [.ops (opsAt (bodyOf Go.Proofs.Tryz.f35) [1, 1, 1, 1, 0]) (List.drop 10 (opsAt (bodyOf Go.Proofs.Tryz.f35) [1, 1, 1, 1, 0])), .code (codeAt (bodyOf Go.Proofs.Tryz.f35) [1, 0, 1, 0, 1])] (⟨[(24, .int .i64 ((g.termOf index).fst)), (23, .int .i64 (index)), (5, .err 0 (none)), (4, .ptr 2 0)], [(3, .row 4 (((↑g.l.length : Int) - IntKind.i64.wrap (index - g.base)).toNat) (fun i ↦ elE g.l D C ((IntKind.i64.wrap (index - g.base)).toNat + i))), (2, .cells [.int .i64 (0), .int .i64 (0), .val (Value.slice none 0 0)] 32), (1, .cells [.int .i64 (g.base), .int .i64 (g.term), .sl 0 (g.l.length) (c)] 32), (0, .row 4 (g.l.length) (elE g.l D C))], 4⟩ : St)))) rfl (by kernel_rfl) (by kernel_rfl) (by kernel_rfl) hs hR ?_
  refine sbr (fun h2 => sret fun ρ w hs hH => ?_) (fun h2 => ?_)
  · obtain ⟨er, h2⟩ : ∃ er, (g.termOf index).2 = some er := by
      cases h3 : (g.termOf index).2 with
      | none => rw [h3] at h2; cases h2
      | some er => exact ⟨er, rfl⟩
    have : g.compact index = (lg0, some er) := by simp [Lg.compact, h1, h2]
    rw [this]
    refine ⟨_, ?_, Ents.nil _ _, hH.since0⟩
    rw [h2]
    rfl
  · have h2 : (g.termOf index).2 = none := by
      cases h3 : (g.termOf index).2 with
      | none => rfl
      | some er => rw [h3] at h2; cases h2
    have hb := g.termOf_none h1 h2
    have hm := g.may_bounds h1
    have hcp : g.compact index = (⟨index, (g.termOf index).1, g.l.drop (index - g.base).toNat⟩, none) := by simp [Lg.compact, h1, h2]
    have ew : IntKind.i64.wrap (index - g.base) = index - g.base := wrap_i64 (by omega) (by omega)
    rw [ew]
    refine sneed (by simp; omega) (scall fun S ρ a w hs hR hS => ?_)
    have hrow := Row.ofAt (hR.heap.rows 3 4 ((g.l.length : Int) - (index - g.base)).toNat (fun i => elE g.l D C ((index - g.base).toNat + i)) (getT_mem rfl)) (fun _ => rfl)
    have e1 : ((g.l.length : Int) - (index - g.base)).toNat = g.l.length - (index - g.base).toNat := by omega
    rw [e1] at hrow
    have hents := drop_ents (k := (index - g.base).toNat) (c := ((c : Int) - (index - g.base)).toNat) (by omega) (by omega) hrow fun i hi => ((hD i hi).keep hR.heap.since0 fun _ _ _ => trivial).weak fun _ _ => trivial
    refine Calls.mono (owns_c (l := g.l.drop (index - g.base).toNat) (v := (SV.sl 3 ((g.l.length : Int) - (index - g.base)).toNat ((c : Int) - (index - g.base)).toNat).den ρ) (by simp only [SV.den]; rw [e1]; exact hents) ?_ ?_) fun r w' he => ?_
    · have := hw.small; rw [List.length_drop]; omega
    · exact fun x hx => g.may_data h1 x (List.mem_of_mem_drop hx)
    obtain ⟨v', rfl, hown, hsn⟩ := he
    obtain ⟨A2, c2, rfl⟩ := hown.ents.form
    refine ⟨_, rfl, ?_⟩
    have hsz := hR.heap.since0.size
    have hR1 := (hR.pure hsn).snap.resV 32 (.slice A2 (g.l.drop (index - g.base).toNat).length c2) rfl
    refine go [ResultVar.cell 4 32, ResultVar.tmp 5] 200 (fun r => .ret (.tup [.agg [.int .i64 (index), .int .i64 ((g.termOf index).fst), .val (Value.slice A2 (List.drop (index - g.base).toNat g.l).length c2)], .err 0 (none)]) (⟨[], [(2, .cells [.int .i64 (index), .int .i64 ((g.termOf index).fst), .val (Value.slice A2 (List.drop (index - g.base).toNat g.l).length c2)] 32), (3, .row 4 (((↑g.l.length : Int) - (index - g.base)).toNat) (fun i ↦ elE g.l D C ((index - g.base).toNat + i))), (1, .cells [.int .i64 (g.base), .int .i64 (g.term), .sl 0 (g.l.length) (c)] 32), (0, .row 4 (g.l.length) (elE g.l D C))], 4⟩ : St)) rfl (by kernel_rfl) (by kernel_rfl) (by kernel_rfl) hs hR1 ?_
    refine sret fun ρ w' hs hH => ?_
    rw [hcp]
    exact ⟨_, rfl, (hown.ents.keep hH.since1 fun k hk _ => hR.rest hk).weak fun k hk => Nat.le_trans hsz hk, hH.tail.since0⟩
theorem Add_c {J : Nat → Prop} {w0 : World} {v dv : Value} {g : Lg} {data : List UInt8} (term kind : Int) (h : Ents J w0 v g.l) (hw : g.wf) (hd : Bytes J w0 dv data) :
    Calls Tryz.prog 21 #[valG g v, .int .i64 term, .int .i64 kind, dv] w0 (fun r w' => ∃ v', r = .returned (.tuple #[valG (g.add term kind data).1 v', errN (g.add term kind data).2]) ∧ Ents (fun k => w0.heap.size ≤ k) w' v' (g.add term kind data).1.l ∧ Since w0 (fun _ => True) w') := by
  obtain ⟨A, c, rfl⟩ := h.form
  obtain ⟨A2, c2, rfl⟩ := hd.form
  refine enterP 75 [.agg [.int .i64 g.base, .int .i64 g.term, .val (.slice A g.l.length c)], .int .i64 term, .int .i64 kind, .val (.slice A2 data.length c2)] Tryz.func21 rfl rfl rfl rfl rfl fun a hR => ?_
  have hs := Env.Same.refl 0 env0
  refine go [ResultVar.cell 8 32, ResultVar.tmp 9] 200 (fun r => .call 26 [.agg [.int .i64 (g.base), .int .i64 (g.term), .val (Value.slice A g.l.length c)]] (some 13) [.ops (opsAt (bodyOf Go.Proofs.Tryz.f21) [1, 0, 0]) (List.drop 2 (opsAt (bodyOf Go.Proofs.Tryz.f21) [1, 0, 0])), .code (codeAt (bodyOf Go.Proofs.Tryz.f21) [1, 0, 1]), .code (codeAt (bodyOf Go.Proofs.Tryz.f21) [1, 1])] (⟨[(9, .err 0 (none)), (8, .ptr 1 0), (4, .ptr 0 0), (1, .int .i64 (term)), (2, .int .i64 (kind)), (3, .val (Value.slice A2 data.length c2))], [(1, .cells [.int .i64 (0), .int .i64 (0), .val (Value.slice none 0 0)] 32), (0, .cells [.int .i64 (g.base), .int .i64 (g.term), .val (Value.slice A g.l.length c)] 32)], 2⟩ : St)) rfl (by kernel_rfl) (by kernel_rfl) (by kernel_rfl) hs hR ?_
  refine scall fun S ρ a w hs hR hS => ?_
  refine Calls.mono (may_c (h.keep hR.heap.since0 fun _ _ _ => trivial) hw) fun r w' he => ?_
  obtain ⟨rfl, hsn⟩ := he
  refine ⟨_, rfl, ?_⟩
  have hR := (hR.pure hsn).res (d := 13) (v := .bool g.may) rfl rfl rfl rfl
  refine go [ResultVar.cell 8 32, ResultVar.tmp 9] 200 (fun r => .br (!g.may) (.ret (.tup [.agg [.int .i64 (0), .int .i64 (0), .val (Value.slice none 0 0)], .err 54 (some 1)]) (⟨[], [(1, .cells [.int .i64 (0), .int .i64 (0), .val (Value.slice none 0 0)] 32), (0, .cells [.int .i64 (g.base), .int .i64 (g.term), .val (Value.slice A g.l.length c)] 32)], 2⟩ : St)) (.call 25 [.agg [.int .i64 (g.base), .int .i64 (g.term), .val (Value.slice A g.l.length c)]] (some 19) [.ops (opsAt (bodyOf Go.Proofs.Tryz.f21) [1, 1, 0]) (List.drop 2 (opsAt (bodyOf Go.Proofs.Tryz.f21) [1, 1, 0])), .code (codeAt (bodyOf Go.Proofs.Tryz.f21) [1, 1, 1])] (⟨[(9, .err 0 (none)), (8, .ptr 1 0), (4, .ptr 0 0), (1, .int .i64 (term)), (2, .int .i64 (kind)), (3, .val (Value.slice A2 data.length c2))], [(1, .cells [.int .i64 (0), .int .i64 (0), .val (Value.slice none 0 0)] 32), (0, .cells [.int .i64 (g.base), .int .i64 (g.term), .val (Value.slice A g.l.length c)] 32)], 2⟩ : St))) rfl (by kernel_rfl) (by kernel_rfl) (by kernel_rfl) hs hR ?_
  refine sbr (fun h1 => sret fun ρ w hs hH => ?_) (fun h1 => scall fun S ρ a w hs hR hS => ?_)
  · have h1 : g.may = false := by simpa using h1
    rw [Lg.add, h1]
    exact ⟨_, rfl, Ents.nil _ _, hH.since0⟩
  have h1 : g.may = true := by simpa using h1
  refine Calls.mono (last_c (h.keep hR.heap.since0 fun _ _ _ => trivial) hw) fun r w' he => ?_
  obtain ⟨rfl, hsn⟩ := he
  refine ⟨_, rfl, ?_⟩
  have hR := (hR.pure hsn).res (d := 19) (v := .tup [.int .i64 g.last.1, .int .i64 g.last.2]) rfl rfl rfl rfl
  have hb := g.may_bounds h1
  refine go [ResultVar.cell 8 32, ResultVar.tmp 9] 400 (fun r => .br (decide (term < max g.last.snd 1) || decide (term > 1099511627776) || decide (kind < 0) || decide (kind > 2) || decide (g.last.fst ≥ 1099511627776)) (.ret (.tup [.agg [.int .i64 (0), .int .i64 (0), .val (Value.slice none 0 0)], .err 54 (some 1)]) (⟨[], [(1, .cells [.int .i64 (0), .int .i64 (0), .val (Value.slice none 0 0)] 32), (0, .cells [.int .i64 (g.base), .int .i64 (g.term), .val (Value.slice A g.l.length c)] 32)], 2⟩ : St)) (.br (decide ((↑data.length : Int) > 4096)) (.ret (.tup [.agg [.int .i64 (0), .int .i64 (0), .val (Value.slice none 0 0)], .err 54 (some 2)]) (⟨[], [(1, .cells [.int .i64 (0), .int .i64 (0), .val (Value.slice none 0 0)] 32), (0, .cells [.int .i64 (g.base), .int .i64 (g.term), .val (Value.slice A g.l.length c)] 32)], 2⟩ : St)) (.br (decide ((↑g.l.length : Int) ≥ 4096)) (.ret (.tup [.agg [.int .i64 (0), .int .i64 (0), .val (Value.slice none 0 0)], .err 54 (some 10)]) (⟨[], [(1, .cells [.int .i64 (0), .int .i64 (0), .val (Value.slice none 0 0)] 32), (0, .cells [.int .i64 (g.base), .int .i64 (g.term), .val (Value.slice A g.l.length c)] 32)], 2⟩ : St)) (.call 49 [.val (Value.slice A g.l.length c)] (some 64) [.any 7 [0] (opsAt (bodyOf Go.Proofs.Tryz.f21) [1, 1, 1, 1, 0]) [true, true, true, true, true, true, true, true, true, true, true, true, false, false, false, false, false, false, false], .code (codeAt (bodyOf Go.Proofs.Tryz.f21) [1, 0, 1, 0, 1])] (⟨[(69, .val (Value.slice A2 data.length c2)), (68, .int .i64 (kind)), (67, .int .i64 (term)), (66, .int .i64 (IntKind.i64.wrap (g.last.fst + 1))), (61, .int .i64 (g.term)), (59, .int .i64 (g.base)), (9, .err 0 (none)), (8, .ptr 1 0)], [(1, .cells [.int .i64 (0), .int .i64 (0), .val (Value.slice none 0 0)] 32), (0, .cells [.int .i64 (g.base), .int .i64 (g.term), .val (Value.slice A g.l.length c)] 32)], 2⟩ : St))))) rfl (by kernel_rfl) (by kernel_rfl) (by kernel_rfl) hs hR ?_
  refine sbr (fun h2 => sret fun ρ w hs hH => ?_) (fun h2 => sbr (fun h3 => sret fun ρ w hs hH => ?_) (fun h3 => sbr (fun h4 => sret fun ρ w hs hH => ?_) (fun h4 => scall fun S ρ a w1 hs hR1 hS => ?_)))
  · simp only [Bool.or_eq_true, decide_eq_true_eq] at h2
    have : g.add term kind data = (lg0, some 1) := by rw [Lg.add, if_pos h1, if_pos (by omega)]
    rw [this]
    exact ⟨_, rfl, Ents.nil _ _, hH.since0⟩
  · simp only [Bool.or_eq_false_iff, decide_eq_false_iff_not, decide_eq_true_eq] at h2 h3
    have : g.add term kind data = (lg0, some 2) := by rw [Lg.add, if_pos h1, if_neg (by omega), if_pos (by omega)]
    rw [this]
    exact ⟨_, rfl, Ents.nil _ _, hH.since0⟩
  · simp only [Bool.or_eq_false_iff, decide_eq_false_iff_not, decide_eq_true_eq] at h2 h3 h4
    have : g.add term kind data = (lg0, some 10) := by rw [Lg.add, if_pos h1, if_neg (by omega), if_neg (by omega), if_pos (by omega)]
    rw [this]
    exact ⟨_, rfl, Ents.nil _ _, hH.since0⟩
  simp only [Bool.or_eq_false_iff, decide_eq_false_iff_not] at h2 h3 h4
  have hadd : g.add term kind data = (⟨g.base, g.term, g.l ++ [⟨g.last.1 + 1, term, kind, data⟩]⟩, none) := by rw [Lg.add, if_pos h1, if_neg (by omega), if_neg (by omega), if_neg (by omega)]
  refine Calls.mono (owns_c (h.keep hR1.heap.since0 fun _ _ _ => trivial) hw.small (g.may_data h1)) fun r w2 he => ?_
  obtain ⟨v2, rfl, ⟨D, C, hown, hD⟩, hsn⟩ := he
  refine ⟨_, rfl, ?_⟩
  have b0 : ρ.nu 0 < w1.heap.size := hR1.below (getT_mem (i := 0) rfl)
  have b1 : ρ.nu 1 < w1.heap.size := hR1.below (getT_mem (i := 1) rfl)
  have hS := hS.put 64 (.val v2)
  have hR := (hR1.pure hsn).snap.resV 64 v2 rfl
  have hs := Env.Same.refl 2 ρ
  refine goA [ResultVar.cell 8 32, ResultVar.tmp 9] 200 (fun r => .call 37 [.val (Value.slice A2 data.length c2)] (some 70) [.any 6 [0] (opsAt (bodyOf Go.Proofs.Tryz.f21) [1, 1, 1, 1, 0]) [true, true, true, true, true, true, true, true, true, true, true, true, true, false, false, false, false, false, false], .code (codeAt (bodyOf Go.Proofs.Tryz.f21) [1, 0, 1, 0, 1])] (⟨[(64, .val (v2)), (68, .int .i64 (kind)), (67, .int .i64 (term)), (66, .int .i64 (IntKind.i64.wrap (g.last.fst + 1))), (61, .int .i64 (g.term)), (59, .int .i64 (g.base)), (9, .err 0 (none)), (8, .ptr 1 0)], [(1, .cells [.int .i64 (0), .int .i64 (0), .val (Value.slice none 0 0)] 32), (0, .cells [.int .i64 (g.base), .int .i64 (g.term), .val (Value.slice A g.l.length c)] 32)], 2⟩ : St)) rfl (by kernel_rfl) hS (by kernel_rfl) hs hR ?_
  refine scall fun S ρ3 a w3 hs3 hR3 hS => ?_
  refine Calls.mono (clone_bytes (hd.keep hR3.heap.tail.since0 fun _ _ _ => trivial) (by omega)) fun r w4 he => ?_
  obtain ⟨v4, rfl, hb4, hsn4⟩ := he
  obtain ⟨A4, c4, rfl⟩ := hb4.form
  refine ⟨_, rfl, ?_⟩
  have hS := hS.put 70 (.val (.slice A4 data.length c4))
  have hR := (hR3.pure hsn4).snap.resV 70 (.slice A4 data.length c4) rfl
  have hs := hs3
  refine goA [ResultVar.cell 8 32, ResultVar.tmp 9] 200 (fun r => .hand (opNth (bodyOf Go.Proofs.Tryz.f21) [1, 1, 1, 1, 0] 15) [.any 3 [0] (opsAt (bodyOf Go.Proofs.Tryz.f21) [1, 1, 1, 1, 0]) [true, true, true, true, true, true, true, true, true, true, true, true, true, true, true, true, false, false, false], .code (codeAt (bodyOf Go.Proofs.Tryz.f21) [1, 0, 1, 0, 1])] (⟨[(72, .csl 2 0 (1) (1)), (64, .val (v2)), (61, .int .i64 (g.term)), (59, .int .i64 (g.base)), (9, .err 0 (none)), (8, .ptr 1 0)], [(2, .cells [.int .i64 (IntKind.i64.wrap (g.last.fst + 1)), .int .i64 (term), .int .i64 (kind), .val (Value.slice A4 data.length c4)] 46), (1, .cells [.int .i64 (0), .int .i64 (0), .val (Value.slice none 0 0)] 32), (0, .cells [.int .i64 (g.base), .int .i64 (g.term), .val (Value.slice A g.l.length c)] 32)], 3⟩ : St)) rfl (by kernel_rfl) hS (by kernel_rfl) hs hR ?_
  refine shand fun S ρ5 a w5 hs5 hR5 hS Q => ?_
  have hown5 := ownsRow_keep hown hR5.heap.tail.since1 fun k hk => hR1.rest (hown.lt k hk).1
  have hz : w0.heap.size ≤ w1.heap.size := hR1.heap.since0.size
  have hz2 := hsn.size
  have hz5 := hR5.heap.tail.since1.size
  have hz3 := hR3.heap.since1.size
  have hz4 := hsn4.size
  have hD5 : Datas (fun k => w1.heap.size ≤ k ∧ v2.ownBlock ≠ some k ∧ k < w4.heap.size) w5 g.l.length g.l D C := fun i hi => (hD i hi).to hR5.heap.tail.since1 fun k hk hlt => ⟨hR1.rest hk.1, hk.1, hk.2, by omega⟩
  have hb5 := hb4.to (J'' := fun k => w3.heap.size ≤ k ∧ k < w4.heap.size) hR5.heap.since1 fun k hk hlt => ⟨hR3.rest hk, hk, hlt⟩
  have hf2 : w4.heap.size ≤ ρ5.nu 2 := hR5.heap.free _ _ List.mem_cons_self 2 _ _ (getT_mem rfl) fun id cs t hm e => by
    have hlt : id = 1 ∨ id = 0 := by
      simp only [List.mem_cons, Prod.mk.injEq, List.not_mem_nil, or_false] at hm
      omega
    have e3 : ρ3.nu id = ρ5.nu id := ((hs3 id (by omega)).1).symm.trans (hs5 id (by omega)).1
    rw [e3] at e
    rcases hlt with rfl | rfl
    · exact hR5.heap.apart 2 _ _ 1 _ _ (getT_mem rfl) (getT_mem rfl) (by decide) e
    · exact hR5.heap.apart 2 _ _ 0 _ _ (getT_mem rfl) (getT_mem rfl) (by decide) e
  have q0 : ρ5.nu 0 = ρ.nu 0 := ((hs5 0 (by decide)).1).symm
  have q1 : ρ5.nu 1 = ρ.nu 1 := ((hs5 1 (by decide)).1).symm
  refine append_same 73 (.tmp 64) (.tmp 72) 30 30 (by kernel_rfl) (by kernel_rfl) w1.heap.size 46 4 48 (by kernel_rfl) hR5.unbase.unbase rfl
    (u := .val v2) (y := .csl 2 0 1 1) rfl rfl hown5 (hR5.feed 2 _ _ 1 1 rfl rfl rfl) (by omega) (by omega) (by omega) (fun id cs t hm k hk => ?_) (fun id sz n el hm h0 ad had k hk => ?_) (noB0 hz) fun v' w6 hown' hg hnew hR6 => ?_
  · have hk2 := hown.lt k hk
    have hlt : id = 2 ∨ id = 1 ∨ id = 0 := by
      simp only [List.mem_cons, Prod.mk.injEq, List.not_mem_nil, or_false] at hm
      omega
    rcases hlt with rfl | rfl | rfl <;> omega
  · simp only [List.mem_cons, Prod.mk.injEq, List.not_mem_nil, or_false, reduceCtorEq, and_false] at hm
  obtain ⟨A6, c6, rfl⟩ := ownsRow_form hown'
  have hS := hS.put 73 (.val (.slice A6 (g.l.length + 1) c6))
  have hR := hR6.snap
  refine goA [ResultVar.cell 8 32, ResultVar.tmp 9] 200 (fun r => .ret (.tup [.agg [.int .i64 (g.base), .int .i64 (g.term), .val (Value.slice A6 (g.l.length + 1) c6)], .err 0 (none)]) (⟨[], [(1, .cells [.int .i64 (g.base), .int .i64 (g.term), .val (Value.slice A6 (g.l.length + 1) c6)] 32), (2, .cells [.int .i64 (IntKind.i64.wrap (g.last.fst + 1)), .int .i64 (term), .int .i64 (kind), .val (Value.slice A4 data.length c4)] 46), (0, .cells [.int .i64 (g.base), .int .i64 (g.term), .val (Value.slice A g.l.length c)] 32)], 3⟩ : St)) rfl (by kernel_rfl) hS (by kernel_rfl) hs5 hR ?_
  refine sret fun ρ7 w7 hs7 hH => ?_
  rw [hadd]
  refine ⟨.slice A6 (g.l.length + 1) c6, rfl, ?_, hH.tail.since0⟩
  have ew : IntKind.i64.wrap (g.last.1 + 1) = g.last.1 + 1 := wrap_i64 (by omega) (by omega)
  rw [ew] at hown'
  obtain ⟨D', C', f1, f2⟩ := ents_snoc (J := fun k => w1.heap.size ≤ k ∧ k < w4.heap.size) ⟨g.last.1 + 1, term, kind, data⟩ A4 c4 hown'
    (fun i hi => (hD5 i hi).to (grown_since hg (J := fun k => v2.ownBlock ≠ some k) fun k hk he => hk he.symm) fun k hk hlt => ⟨hk.2.1, hk.1, hk.2.2⟩)
    (hb5.to (grown_since hg (J := fun k => v2.ownBlock ≠ some k) fun k hk he => hk he.symm) fun k hk hlt => ⟨fun he => by have := (hown.lt k he).2; omega, by omega, hk.2⟩)
  have o2 := hR5.below (getT_mem (i := 2) rfl)
  refine ⟨D', C', (Slc.ofOwns (ownsRow_keep f1 hH.since1 fun k hk id cs t hm e => ?_) (fun _ _ => rfl) (fun _ _ => rfl)).weak fun k hk => Nat.le_trans hz hk, fun i hi => ((f2 i hi).keep hH.since1 fun k hk _ id cs t hm e => ?_).weak fun k hk => Nat.le_trans hz hk.1⟩
  · have hlt : id = 2 ∨ id = 1 ∨ id = 0 := by
      simp only [St.put, List.mem_cons, Prod.mk.injEq, List.not_mem_nil, or_false] at hm
      omega
    have hk1 := (f1.lt k hk).1
    have hk2 : k < w2.heap.size ∨ k = w5.heap.size := by
      rcases hnew with hn | hn
      · exact .inl (hown.lt k (hn.symm.trans hk)).2
      · rw [hn] at hk; injection hk with hk; exact .inr hk.symm
    rcases hlt with rfl | rfl | rfl <;> omega
  · have hlt : id = 2 ∨ id = 1 ∨ id = 0 := by
      simp only [St.put, List.mem_cons, Prod.mk.injEq, List.not_mem_nil, or_false] at hm
      omega
    rcases hlt with rfl | rfl | rfl <;> omega
end Go.Sx
