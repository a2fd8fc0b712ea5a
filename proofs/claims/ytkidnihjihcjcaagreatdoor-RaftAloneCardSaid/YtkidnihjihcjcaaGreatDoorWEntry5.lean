/- Walks of package entry, fifth part: At. -/
import Derived.Test.YtkidnihjihcjcaaGreatDoorWEntry4
set_option linter.unusedSimpArgs false
set_option linter.unusedVariables false
set_option maxRecDepth 20000
namespace Go.Sx
open Go.Proofs
theorem Row.below {J : Nat → Prop} {w : World} {A : Option Addr} {sz n : Nat} {el : Nat → List SV} (h : Row J w A sz n el) : Row (fun k => k < w.heap.size) w A sz n el := fun i hi => by
  obtain ⟨ad, h1, h2, h3, _, h4⟩ := h i hi
  exact ⟨ad, h1, h2, h3, h3, h4⟩
theorem AtOk_c {J : Nat → Prop} {w0 : World} {v : Value} {g : Lg} (index : Int) (h : Ents J w0 v g.l) (hw : g.wf) (hm : g.may = true) (h1 : 1 ≤ index) (h2 : g.base < index) (h3 : index ≤ g.last.1) :
    Calls Tryz.prog 10 #[valG g v, .int .i64 index] w0 (fun r w' => ∃ v', r = .returned (.tuple #[(svE (g.l.getD (index - g.base - 1).toNat ent0) v').den env0, .nilIface]) ∧ Bytes (fun k => w0.heap.size ≤ k) w' v' (g.l.getD (index - g.base - 1).toNat ent0).data ∧ Since w0 (fun _ => True) w') := by
  have h0 := h
  obtain ⟨D, C, ⟨A, c, rfl, hc, hr⟩, hD⟩ := h
  refine enterP 46 [.agg [.int .i64 g.base, .int .i64 g.term, .val (.slice A g.l.length c)], .int .i64 index] Tryz.func10 rfl rfl rfl rfl rfl fun a hR => ?_
  have hs := Env.Same.refl 0 env0
  refine go [ResultVar.cell 4 46, ResultVar.tmp 5] 200 (fun r => .call 25 [.agg [.int .i64 (g.base), .int .i64 (g.term), .val (Value.slice A g.l.length c)]] (some 10) [.ops (opsAt (bodyOf Go.Proofs.Tryz.f10) [1, 0]) (List.drop 2 (opsAt (bodyOf Go.Proofs.Tryz.f10) [1, 0])), .code (codeAt (bodyOf Go.Proofs.Tryz.f10) [1, 1])] (⟨[(5, .err 0 (none)), (4, .ptr 1 0), (2, .ptr 0 0), (1, .int .i64 (index))], [(1, .cells [.int .i64 (0), .int .i64 (0), .int .i64 (0), .val (Value.slice none 0 0)] 46), (0, .cells [.int .i64 (g.base), .int .i64 (g.term), .val (Value.slice A g.l.length c)] 32)], 2⟩ : St)) rfl (by kernel_rfl) (by kernel_rfl) (by kernel_rfl) hs hR ?_
  refine scall fun S ρ a w1 hs hR1 hS => Calls.mono (last_c (h0.keep hR1.heap.since0 fun _ _ _ => trivial) hw) fun r w2 hq => ?_
  obtain ⟨rfl, hsn⟩ := hq
  refine ⟨_, rfl, ?_⟩
  have hR := (hR1.pure hsn).res (d := 10) (v := .tup [.int .i64 g.last.1, .int .i64 g.last.2]) rfl rfl rfl rfl
  refine go [ResultVar.cell 4 46, ResultVar.tmp 5] 200 (fun r => .call 26 [.agg [.int .i64 (g.base), .int .i64 (g.term), .val (Value.slice A g.l.length c)]] (some 15) [.ops (opsAt (bodyOf Go.Proofs.Tryz.f10) [1, 1, 0, 0, 0]) (List.drop 2 (opsAt (bodyOf Go.Proofs.Tryz.f10) [1, 1, 0, 0, 0])), .code (codeAt (bodyOf Go.Proofs.Tryz.f10) [1, 1, 0, 0, 1]), .blk 0, .code (codeAt (bodyOf Go.Proofs.Tryz.f10) [1, 1, 1])] (⟨[(6, .int .i64 (g.last.fst)), (5, .err 0 (none)), (4, .ptr 1 0), (2, .ptr 0 0), (1, .int .i64 (index))], [(1, .cells [.int .i64 (0), .int .i64 (0), .int .i64 (0), .val (Value.slice none 0 0)] 46), (0, .cells [.int .i64 (g.base), .int .i64 (g.term), .val (Value.slice A g.l.length c)] 32)], 2⟩ : St)) rfl (by kernel_rfl) (by kernel_rfl) (by kernel_rfl) hs hR ?_
  refine scall fun S ρ a w3 hs hR3 hS => Calls.mono (may_c (h0.keep hR3.heap.since0 fun _ _ _ => trivial) hw) fun r w4 hq => ?_
  rw [hm] at hq
  obtain ⟨rfl, hsn4⟩ := hq
  refine ⟨_, rfl, ?_⟩
  have hR := (hR3.pure hsn4).res (d := 15) (v := .lit true) rfl rfl rfl rfl
  refine go [ResultVar.cell 4 46, ResultVar.tmp 5] 36 (fun r => .br (decide (index > g.last.fst) || decide (index < 1)) (.ret (.tup [.agg [.int .i64 (0), .int .i64 (0), .int .i64 (0), .val (Value.slice none 0 0)], .err 54 (some 8)]) (⟨[], [(1, .cells [.int .i64 (0), .int .i64 (0), .int .i64 (0), .val (Value.slice none 0 0)] 46), (0, .cells [.int .i64 (g.base), .int .i64 (g.term), .val (Value.slice A g.l.length c)] 32)], 2⟩ : St)) (.br (decide (index ≤ g.base)) (.ret (.tup [.agg [.int .i64 (0), .int .i64 (0), .int .i64 (0), .val (Value.slice none 0 0)], .err 54 (some 22)]) (⟨[], [(1, .cells [.int .i64 (0), .int .i64 (0), .int .i64 (0), .val (Value.slice none 0 0)] 46), (0, .cells [.int .i64 (g.base), .int .i64 (g.term), .val (Value.slice A g.l.length c)] 32)], 2⟩ : St)) (.stop [.ops (opsAt (bodyOf Go.Proofs.Tryz.f10) [1, 1, 1, 0]) (List.drop 7 (opsAt (bodyOf Go.Proofs.Tryz.f10) [1, 1, 1, 0])), .code (codeAt (bodyOf Go.Proofs.Tryz.f10) [1, 1, 0, 0, 1, 0, 1])] (⟨[(42, .int .i64 (IntKind.i64.wrap (IntKind.i64.wrap (index - g.base) - 1))), (37, .val (Value.slice A g.l.length c)), (5, .err 0 (none)), (4, .ptr 1 0)], [(1, .cells [.int .i64 (0), .int .i64 (0), .int .i64 (0), .val (Value.slice none 0 0)] 46), (0, .cells [.int .i64 (g.base), .int .i64 (g.term), .val (Value.slice A g.l.length c)] 32)], 2⟩ : St)))) rfl (by kernel_rfl) (by kernel_rfl) (by kernel_rfl) hs hR ?_
  refine sbr (fun h4 => ?_) (fun _ => sbr (fun h4 => ?_) (fun _ => sstop fun S ρ a w5 hs hR5 hS => ?_))
  · simp at h4
    omega
  · simp at h4
    omega
  have hb := g.may_bounds hm
  have hl := g.may_last hm
  have ei : IntKind.i64.wrap (IntKind.i64.wrap (index - g.base) - 1) = index - g.base - 1 := by
    rw [wrap_i64 (x := index - g.base) (by omega) (by omega), wrap_i64 (by omega) (by omega)]
  obtain ⟨ρ6, hs6, hA6, hR⟩ := hR5.opens 37 c (hr.below.keep hR5.heap.since0 fun _ _ _ => trivial) (by kernel_rfl) (fun _ => rfl) (fun id cs t hm k hk hJk e => by
    have := hR5.heap.free w0 _ List.mem_cons_self id cs t hm trivial
    omega)
  refine go [ResultVar.cell 4 46, ResultVar.tmp 5] 200 (fun r => .need (decide (0 ≤ IntKind.i64.wrap (IntKind.i64.wrap (index - g.base) - 1) ∧ IntKind.i64.wrap (IntKind.i64.wrap (index - g.base) - 1) < (↑g.l.length : Int) ∧ g.l.length ≤ g.l.length)) (.need (decide ((IntKind.i64.wrap (IntKind.i64.wrap (index - g.base) - 1)).toNat < g.l.length)) (.call 27 [.agg [.int .i64 ((g.l.getD (IntKind.i64.wrap (IntKind.i64.wrap (index - g.base) - 1)).toNat ent0).index), .int .i64 ((g.l.getD (IntKind.i64.wrap (IntKind.i64.wrap (index - g.base) - 1)).toNat ent0).term), .int .i64 ((g.l.getD (IntKind.i64.wrap (IntKind.i64.wrap (index - g.base) - 1)).toNat ent0).kind), .val (Value.slice (D (IntKind.i64.wrap (IntKind.i64.wrap (index - g.base) - 1)).toNat) (g.l.getD (IntKind.i64.wrap (IntKind.i64.wrap (index - g.base) - 1)).toNat ent0).data.length (C (IntKind.i64.wrap (IntKind.i64.wrap (index - g.base) - 1)).toNat))]] (some 45) [.ops (opsAt (bodyOf Go.Proofs.Tryz.f10) [1, 1, 1, 0]) (List.drop 10 (opsAt (bodyOf Go.Proofs.Tryz.f10) [1, 1, 1, 0])), .code (codeAt (bodyOf Go.Proofs.Tryz.f10) [1, 1, 0, 0, 1, 0, 1])] (⟨[(5, .err 0 (none)), (4, .ptr 1 0)], [(2, .row 4 (g.l.length) (elE g.l D C)), (1, .cells [.int .i64 (0), .int .i64 (0), .int .i64 (0), .val (Value.slice none 0 0)] 46), (0, .cells [.int .i64 (g.base), .int .i64 (g.term), .val (Value.slice A g.l.length c)] 32)], 3⟩ : St)))) rfl (by kernel_rfl) (by kernel_rfl) (by kernel_rfl) hs6 hR ?_
  have hlt : (index - g.base - 1).toNat < g.l.length := by omega
  rw [ei]
  refine sneed (by simp; omega) (sneed (by simpa using hlt) (scall fun S ρ a w7 hs hR7 hS => Calls.mono (own_c (e := g.l.getD (index - g.base - 1).toNat ent0) ((hD _ hlt).keep hR7.heap.since0 fun _ _ _ => trivial) (by have := g.may_at hm hlt; omega)) fun r w8 hq => ?_))
  obtain ⟨v8, rfl, hb8, hsn8⟩ := hq
  obtain ⟨A8, k8, rfl⟩ := hb8.form
  refine ⟨_, rfl, ?_⟩
  have hz7 := hR7.heap.since0.size
  have hR := ((hR7.pure hsn8).res (d := 45) (v := svE (g.l.getD (index - g.base - 1).toNat ent0) (.slice A8 (g.l.getD (index - g.base - 1).toNat ent0).data.length k8)) rfl rfl rfl rfl).snap
  refine go [ResultVar.cell 4 46, ResultVar.tmp 5] 200 (fun r => .ret (.tup [.agg [.int .i64 ((g.l.getD (index - g.base - 1).toNat ent0).index), .int .i64 ((g.l.getD (index - g.base - 1).toNat ent0).term), .int .i64 ((g.l.getD (index - g.base - 1).toNat ent0).kind), .val (Value.slice A8 (g.l.getD (index - g.base - 1).toNat ent0).data.length k8)], .err 0 (none)]) (⟨[], [(1, .cells [.int .i64 ((g.l.getD (index - g.base - 1).toNat ent0).index), .int .i64 ((g.l.getD (index - g.base - 1).toNat ent0).term), .int .i64 ((g.l.getD (index - g.base - 1).toNat ent0).kind), .val (Value.slice A8 (g.l.getD (index - g.base - 1).toNat ent0).data.length k8)] 46), (2, .row 4 (g.l.length) (elE g.l D C)), (0, .cells [.int .i64 (g.base), .int .i64 (g.term), .val (Value.slice A g.l.length c)] 32)], 3⟩ : St)) rfl (by kernel_rfl) (by kernel_rfl) (by kernel_rfl) hs hR ?_
  refine sret fun ρ w hs hH => ⟨_, rfl, (hb8.keep hH.since1 fun k hk _ => hR7.rest hk).weak fun k hk => Nat.le_trans hz7 hk, hH.tail.since0⟩
end Go.Sx
