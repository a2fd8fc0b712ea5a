/- Walks of package entry, first part: entries of one's own. -/
import Derived.Test.YtkidnihjihcjcaaGreatDoorWClone
import Derived.Test.YtkidnihjihcjcaaGreatDoorMLog
set_option linter.unusedSimpArgs false
set_option linter.unusedVariables false
namespace Go.Sx
open Go.Proofs
def elE (l : List Ent) (D : Nat → Option Addr) (C : Nat → Nat) (i : Nat) : List SV :=
  [.int .i64 (l.getD i ent0).index, .int .i64 (l.getD i ent0).term, .int .i64 (l.getD i ent0).kind, .val (.slice (D i) (l.getD i ent0).data.length (C i))]
def Datas (J : Nat → Prop) (w : World) (n : Nat) (l : List Ent) (D : Nat → Option Addr) (C : Nat → Nat) : Prop :=
  ∀ i, i < n → Bytes J w (.slice (D i) (l.getD i ent0).data.length (C i)) (l.getD i ent0).data
def Ents (J : Nat → Prop) (w : World) (v : Value) (l : List Ent) : Prop := ∃ D C, Slc J w v 4 l.length (elE l D C) ∧ Datas J w l.length l D C
theorem Ents.keep {J J' : Nat → Prop} {w w' : World} {v : Value} {l : List Ent} (h : Ents J w v l) (hs : Since w J' w') (hJ : ∀ k, J k → k < w.heap.size → J' k) : Ents J w' v l := by
  obtain ⟨D, C, h1, h2⟩ := h
  exact ⟨D, C, h1.keep hs hJ, fun i hi => (h2 i hi).keep hs hJ⟩
theorem Ents.weak {J J' : Nat → Prop} {w : World} {v : Value} {l : List Ent} (h : Ents J w v l) (hJ : ∀ k, J k → J' k) : Ents J' w v l := by
  obtain ⟨D, C, h1, h2⟩ := h
  exact ⟨D, C, h1.weak hJ, fun i hi => (h2 i hi).weak hJ⟩
theorem Ents.form {J : Nat → Prop} {w : World} {v : Value} {l : List Ent} (h : Ents J w v l) : ∃ A c, v = .slice A l.length c := h.choose_spec.choose_spec.1.form
/-- Entries in a row of one's own. -/
def EntsOwn (base : Nat) (w : World) (v : Value) (l : List Ent) : Prop := ∃ D C, w.ownsRow base 46 4 v l.length (rcells l.length (elE l D C)) ∧ Datas (fun k => base ≤ k ∧ v.ownBlock ≠ some k) w l.length l D C
theorem EntsOwn.ents {base : Nat} {w : World} {v : Value} {l : List Ent} (h : EntsOwn base w v l) : Ents (fun k => base ≤ k) w v l := by
  obtain ⟨D, C, h1, h2⟩ := h
  exact ⟨D, C, Slc.ofOwns h1 (fun _ _ => rfl) (fun _ _ => rfl), fun i hi => (h2 i hi).weak fun _ h => h.1⟩
/-- One entry more. -/
theorem ents_snoc {base : Nat} {ρ : Env} {w : World} {v : Value} {l : List Ent} {D : Nat → Option Addr} {C : Nat → Nat} {J : Nat → Prop} (e : Ent) (A : Option Addr) (c : Nat)
    (h : w.ownsRow base 46 4 v (l.length + 1) (rcells l.length (elE l D C) ++ denL ρ [.int .i64 e.index, .int .i64 e.term, .int .i64 e.kind, .val (.slice A e.data.length c)]))
    (hD : Datas J w l.length l D C) (hb : Bytes J w (.slice A e.data.length c) e.data) :
    ∃ D C, w.ownsRow base 46 4 v (l ++ [e]).length (rcells (l ++ [e]).length (elE (l ++ [e]) D C)) ∧ Datas J w (l ++ [e]).length (l ++ [e]) D C := by
  refine ⟨fun k => if k < l.length then D k else A, fun k => if k < l.length then C k else c, ?_, fun i hi => ?_⟩
  · rw [List.length_append, List.length_singleton]
    have e2 : rcells (l.length + 1) (elE (l ++ [e]) (fun k => if k < l.length then D k else A) fun k => if k < l.length then C k else c) = rcells l.length (elE l D C) ++ denL ρ [.int .i64 e.index, .int .i64 e.term, .int .i64 e.kind, .val (.slice A e.data.length c)] := by
      rw [rcells_succ, rcells_congr (el' := elE l D C) fun j hj => by simp [elE, hj, List.getD_eq_getElem?_getD, List.getElem?_append_left hj]]
      simp [elE, denL, SV.den, List.getD_eq_getElem?_getD]
    rw [e2]
    exact h
  · rw [List.length_append, List.length_singleton] at hi
    by_cases hl : i < l.length
    · have e1 : (l ++ [e]).getD i ent0 = l.getD i ent0 := by simp [List.getD_eq_getElem?_getD, List.getElem?_append_left hl]
      simp only [e1, hl, if_true]
      exact hD i hl
    · obtain rfl : i = l.length := by omega
      have e1 : (l ++ [e]).getD l.length ent0 = e := by simp [List.getD_eq_getElem?_getD]
      simp only [e1, Nat.lt_irrefl, if_false]
      exact hb
def svE (e : Ent) (v : Value) : SV := .agg [.int .i64 e.index, .int .i64 e.term, .int .i64 e.kind, .val v]
theorem own_c {J : Nat → Prop} {w0 : World} {v : Value} {e : Ent} (h : Bytes J w0 v e.data) (hl : e.data.length ≤ 1099511627776) :
    Calls Tryz.prog 27 #[(svE e v).den env0] w0 (fun r w' => ∃ v', r = .returned ((svE e v').den env0) ∧ Bytes (fun k => w0.heap.size ≤ k) w' v' e.data ∧ Since w0 (fun _ => True) w') := by
  obtain ⟨A, c, rfl⟩ := h.form
  refine enterP 8 [svE e (.slice A e.data.length c)] Tryz.func27 rfl rfl rfl rfl rfl fun a hR => ?_
  have hs := Env.Same.refl 0 env0
  refine go [ResultVar.cell 2 46] 100 (fun r => .call 37 [.val (Value.slice A e.data.length c)] (some 5) [.ops (opsAt (bodyOf Go.Proofs.Tryz.f27) [1, 0]) (List.drop 3 (opsAt (bodyOf Go.Proofs.Tryz.f27) [1, 0])), .code (codeAt (bodyOf Go.Proofs.Tryz.f27) [1, 1])] (⟨[(2, .ptr 1 0), (1, .ptr 0 0)], [(1, .cells [.int .i64 (0), .int .i64 (0), .int .i64 (0), .val (Value.slice none 0 0)] 46), (0, .cells [.int .i64 (e.index), .int .i64 (e.term), .int .i64 (e.kind), .val (Value.slice A e.data.length c)] 46)], 2⟩ : St)) rfl (by kernel_rfl) (by kernel_rfl) (by kernel_rfl) hs hR ?_
  refine scall fun S ρ a w hs hR0 hS => Calls.mono (clone_bytes (h.keep hR0.heap.since0 fun _ _ _ => trivial) hl) fun r w' he => ?_
  obtain ⟨v', rfl, hb, hsn⟩ := he
  obtain ⟨A', c', rfl⟩ := hb.form
  refine ⟨_, rfl, ?_⟩
  have hR := ((hR0.pure hsn).resV 5 (.slice A' e.data.length c') rfl).snap
  refine go [ResultVar.cell 2 46] 100 (fun r => .ret (.agg [.int .i64 (e.index), .int .i64 (e.term), .int .i64 (e.kind), .val (Value.slice A' e.data.length c')]) (⟨[], [(1, .cells [.int .i64 (e.index), .int .i64 (e.term), .int .i64 (e.kind), .val (Value.slice A' e.data.length c')] 46), (0, .cells [.int .i64 (e.index), .int .i64 (e.term), .int .i64 (e.kind), .val (Value.slice A' e.data.length c')] 46)], 2⟩ : St)) rfl (by kernel_rfl) (by kernel_rfl) (by kernel_rfl) hs hR ?_
  exact sret fun ρ w'' hs hH => ⟨_, rfl, (hb.keep hH.since1 fun k hk _ => hR0.rest hk).weak fun k hk => Nat.le_trans hR0.heap.since0.size hk, hH.tail.since0⟩
theorem owns_c {J : Nat → Prop} {w0 : World} {v : Value} {l : List Ent} (h : Ents J w0 v l) (hl : l.length ≤ 1099511627776) (hd : ∀ e ∈ l, e.data.length ≤ 1099511627776) :
    Calls Tryz.prog 49 #[v] w0 (fun r w' => ∃ v', r = .returned v' ∧ EntsOwn w0.heap.size w' v' l ∧ Since w0 (fun _ => True) w') := by
  obtain ⟨D, C, ⟨A, c, rfl, hc, hr⟩, hD⟩ := h
  refine enterP 19 [.val (.slice A l.length c)] Tryz.func49 rfl rfl rfl rfl rfl fun a hR => ?_
  obtain ⟨ρ1, hs1, hA1, hR⟩ := hR.opens 0 c hr (by kernel_rfl) (fun _ => rfl) (fun _ _ _ h => nomatch h)
  have hs := Env.Same.refl 1 ρ1
  refine go [ResultVar.tmp 2] 100 (fun r => .stop [.code (codeAt (bodyOf Go.Proofs.Tryz.f49) [1, 1, 0, 1, 0]), .blk 0, .code (codeAt (bodyOf Go.Proofs.Tryz.f49) [1, 1, 1])] (⟨[(8, .int .i64 (0)), (7, .int .i64 ((↑l.length : Int))), (6, .sl 0 (l.length) (c)), (3, .val (Value.slice none 0 0)), (2, .val (Value.slice none 0 0))], [(0, .row 4 (l.length) (elE l D C))], 1⟩ : St)) rfl (by kernel_rfl) (by kernel_rfl) (by kernel_rfl) hs hR ?_
  refine sstop fun S ρ a w hs hR hS => ?_
  let F : Nat × Value → St := fun p => ⟨[(3, .val p.2), (6, .sl 0 l.length c), (7, .int .i64 (l.length : Int)), (8, .int .i64 (p.1 : Int))], [(0, .row 4 l.length (elE l D C))], 1⟩
  let G : Nat × Value → World → Prop := fun p w => p.1 ≤ l.length ∧ ∃ D C, w.ownsRow w0.heap.size 46 4 p.2 p.1 (rcells p.1 (elE l D C)) ∧ Datas (fun k => w0.heap.size ≤ k ∧ p.2.ownBlock ≠ some k) w p.1 l D C
  refine loopF (N := 19) (B := B0 w0) 0 F G (fun p => l.length - p.1) (0, .slice none 0 0) (by kernel_rfl) (by kernel_rfl) hs ⟨Nat.zero_le _, D, C, World.ownsRow_nil _ _ _ _, fun i hi => nomatch hi⟩ (hR.into (by kernel_rfl) (by kernel_rfl) rfl (ltT_row rfl (fun _ => rfl) (ltT_nil _))) ?_
  rintro ⟨i, v⟩ ρ a w hs ⟨hi, D', C', hown, hD'⟩ hR
  have hR := hR.snap
  refine go [ResultVar.tmp 2] 400 (fun r => .br (decide ((↑i : Int) < (↑l.length : Int))) (.need (decide (0 ≤ (↑i : Int) ∧ (↑i : Int) < (↑l.length : Int) ∧ l.length ≤ l.length)) (.need (decide ((↑i : Int).toNat < l.length)) (.call 27 [.agg [.int .i64 ((l.getD (↑i : Int).toNat ent0).index), .int .i64 ((l.getD (↑i : Int).toNat ent0).term), .int .i64 ((l.getD (↑i : Int).toNat ent0).kind), .val (Value.slice (D (↑i : Int).toNat) (l.getD (↑i : Int).toNat ent0).data.length (C (↑i : Int).toNat))]] (some 14) [.ops (opsAt (bodyOf Go.Proofs.Tryz.f49) [1, 1, 0, 1, 0, 0, 1, 1, 0, 0, 1]) (List.drop 3 (opsAt (bodyOf Go.Proofs.Tryz.f49) [1, 1, 0, 1, 0, 0, 1, 1, 0, 0, 1])), .blk 1, .code (codeAt (bodyOf Go.Proofs.Tryz.f49) [1, 1, 0, 1, 0, 0, 1, 1, 1]), .mark 0, .code (codeAt (bodyOf Go.Proofs.Tryz.f49) [1, 1, 0, 1, 0]), .blk 0, .code (codeAt (bodyOf Go.Proofs.Tryz.f49) [1, 1, 1])] (⟨[(13, .agg [.int .i64 ((l.getD (↑i : Int).toNat ent0).index), .int .i64 ((l.getD (↑i : Int).toNat ent0).term), .int .i64 ((l.getD (↑i : Int).toNat ent0).kind), .val (Value.slice (D (↑i : Int).toNat) (l.getD (↑i : Int).toNat ent0).data.length (C (↑i : Int).toNat))]), (12, .val (v)), (5, .ptr 1 0), (11, .agg [.int .i64 ((l.getD (↑i : Int).toNat ent0).index), .int .i64 ((l.getD (↑i : Int).toNat ent0).term), .int .i64 ((l.getD (↑i : Int).toNat ent0).kind), .val (Value.slice (D (↑i : Int).toNat) (l.getD (↑i : Int).toNat ent0).data.length (C (↑i : Int).toNat))]), (10, .ep 0 4 ((↑i : Int).toNat) 0), (9, .lit true), (3, .val (v)), (6, .sl 0 (l.length) (c)), (7, .int .i64 ((↑l.length : Int))), (8, .int .i64 ((↑i : Int)))], [(1, .cells [.int .i64 ((l.getD (↑i : Int).toNat ent0).index), .int .i64 ((l.getD (↑i : Int).toNat ent0).term), .int .i64 ((l.getD (↑i : Int).toNat ent0).kind), .val (Value.slice (D (↑i : Int).toNat) (l.getD (↑i : Int).toNat ent0).data.length (C (↑i : Int).toNat))] 46), (0, .row 4 (l.length) (elE l D C))], 2⟩ : St)))) (.ret (.val (v)) (⟨[], [(0, .row 4 (l.length) (elE l D C))], 1⟩ : St))) rfl (by kernel_rfl) (by kernel_rfl) (by kernel_rfl) hs hR ?_
  have rest : ∀ {ρ : Env} {k : Nat}, Rest ρ (F (i, v)) k := fun {_ k} => Rest.none rfl k
  refine sbr (fun h1 => ?_) (fun h1 => sret fun ρ w1 hs hH => ?_)
  · have h1 : i < l.length := by simpa using h1
    refine sneed (by simp; omega) (sneed (by simp; omega) (scall fun S ρ a w1 hs hR1 hS => ?_))
    refine Calls.mono (own_c (e := l.getD i ent0) ((hD i h1).keep hR1.heap.tail.since0 fun _ _ _ => trivial) (hd _ (by simp [h1]))) fun r w2 he => ?_
    obtain ⟨v2, rfl, hb, hsn⟩ := he
    obtain ⟨A2, c2, rfl⟩ := hb.form
    refine ⟨_, rfl, ?_⟩
    have h02 := hR1.heap.tail.since0.size
    have hlt' := hown.lt
    have hsz := hR1.heap.since1.size
    have hown := ownsRow_keep (ownsRow_keep hown hR1.heap.since1 (fun _ _ => rest)) hsn fun _ _ => trivial
    have hD' : Datas _ w2 i l D' C' := fun j hj => ((hD' j hj).keep hR1.heap.since1 fun _ _ _ => rest).keep hsn fun _ _ _ => trivial
    have hR2 : Rep ρ (B0 w0) 19 ⟨[(3, .val v), (6, .sl 0 l.length c), (7, .int .i64 (l.length : Int)), (8, .int .i64 (i : Int)), (12, .val v), (14, svE (l.getD i ent0) (.slice A2 (l.getD i ent0).data.length c2))], [(0, .row 4 l.length (elE l D C))], 1⟩ _ w2 :=
      ((hR1.pure hsn).unbase.res (d := 14) (v := svE (l.getD i ent0) (.slice A2 (l.getD i ent0).data.length c2)) rfl rfl rfl rfl).into (by kernel_rfl) (by kernel_rfl) rfl (ltT_row rfl (fun _ => rfl) (ltT_nil _))
    have hR := hR2.snap
    refine go [ResultVar.tmp 2] 100 (fun r => .hand (opNth (bodyOf Go.Proofs.Tryz.f49) [1, 1, 0, 1, 0, 0, 1, 1, 0, 0, 1] 4) [.ops (opsAt (bodyOf Go.Proofs.Tryz.f49) [1, 1, 0, 1, 0, 0, 1, 1, 0, 0, 1]) (List.drop 5 (opsAt (bodyOf Go.Proofs.Tryz.f49) [1, 1, 0, 1, 0, 0, 1, 1, 0, 0, 1])), .blk 1, .code (codeAt (bodyOf Go.Proofs.Tryz.f49) [1, 1, 0, 1, 0, 0, 1, 1, 1]), .mark 0, .code (codeAt (bodyOf Go.Proofs.Tryz.f49) [1, 1, 0, 1, 0]), .blk 0, .code (codeAt (bodyOf Go.Proofs.Tryz.f49) [1, 1, 1])] (⟨[(15, .csl 1 0 (1) (1)), (3, .val (v)), (6, .sl 0 (l.length) (c)), (7, .int .i64 ((↑l.length : Int))), (8, .int .i64 ((↑i : Int))), (12, .val (v)), (14, .agg [.int .i64 ((l.getD i ent0).index), .int .i64 ((l.getD i ent0).term), .int .i64 ((l.getD i ent0).kind), .val (Value.slice A2 (l.getD i ent0).data.length c2)])], [(1, .cells [.int .i64 ((l.getD i ent0).index), .int .i64 ((l.getD i ent0).term), .int .i64 ((l.getD i ent0).kind), .val (Value.slice A2 (l.getD i ent0).data.length c2)] 46), (0, .row 4 (l.length) (elE l D C))], 2⟩ : St)) rfl (by kernel_rfl) (by kernel_rfl) (by kernel_rfl) hs hR ?_
    refine shand fun S ρ a w3 hs hR3 hS Q => ?_
    have hal : ρ.al 0 = A := (hs 0 (by decide)).2.symm.trans hA1
    have rest2 : ∀ {ρ : Env} {k : Nat}, Rest ρ (⟨[(3, .val v), (6, .sl 0 l.length c), (7, .int .i64 (l.length : Int)), (8, .int .i64 (i : Int)), (12, .val v), (14, svE (l.getD i ent0) (.slice A2 (l.getD i ent0).data.length c2))], [(0, .row 4 l.length (elE l D C))], 1⟩ : St) k := fun {_ k} => Rest.none rfl k
    have hown := ownsRow_keep hown hR3.heap.since1 fun _ _ => rest2
    have hD' : Datas _ w3 i l D' C' := fun j hj => (hD' j hj).keep hR3.heap.since1 fun _ _ _ => rest2
    have hb := hb.keep hR3.heap.since1 fun _ _ _ => rest2
    refine append_step 16 (.tmp 12) (.tmp 15) 30 30 (by kernel_rfl) (by kernel_rfl) w0.heap.size 46 4 48 (by kernel_rfl) hR3.unbase
      ⟨[(3, .val v), (6, .sl 0 l.length c), (7, .int .i64 (l.length : Int)), (8, .int .i64 (i : Int))], [(0, .row 4 l.length (elE l D C))], 1⟩ (by kernel_rfl) (by kernel_rfl) rfl (ltT_row rfl (fun _ => rfl) (ltT_nil _)) rfl
      (u := .val v) (y := .csl 1 0 1 1) (by kernel_rfl) (by kernel_rfl) hown (hR3.feed 1 [.int .i64 (l.getD i ent0).index, .int .i64 (l.getD i ent0).term, .int .i64 (l.getD i ent0).kind, .val (.slice A2 (l.getD i ent0).data.length c2)] 46 1 1 (by kernel_rfl) rfl rfl)
      (by omega) (by omega) hR3.heap.tail.since0.size (fun id cs t hm => (noCells_all rfl id cs t hm).elim) (fun id sz n el hm h0 ad had k hk => ?_) (noB0 (Nat.le_refl _)) fun v' w4 hown' hg hnew hR4 => ?_
    · obtain ⟨rfl, he⟩ := Prod.mk.inj (List.mem_singleton.1 hm)
      injection he with e1 e2 e3
      subst e2
      have := (hr.block h0 (hal.symm.trans had)).2
      have := (hown.lt k hk).1
      omega
    have hR := hR4.snap
    refine go [ResultVar.tmp 2] 100 (fun r => .mark 0 (r.get []).st) rfl (by kernel_rfl) (by kernel_rfl) (by kernel_rfl) hs hR ?_
    have rest3 : ∀ {ρ : Env} {k : Nat}, Rest ρ (St.put ⟨[(3, .val v), (6, .sl 0 l.length c), (7, .int .i64 (l.length : Int)), (8, .int .i64 (i : Int))], [(0, .row 4 l.length (elE l D C))], 1⟩ 16 (.val v')) k := fun {_ k} => Rest.none rfl k
    refine smarkF fun ρ' a w5 hs' hR5 => ⟨(i + 1, v'), by show l.length - (i + 1) < l.length - i; omega, ⟨h1, fun k => if k < i then D' k else A2, fun k => if k < i then C' k else c2, ?_, fun j hj => ?_⟩, ρ', hs', ?_⟩
    · refine ownsRow_keep (v := v') ?_ hR5.heap.since1 fun _ _ => rest3
      have e : rcells (i + 1) (elE l (fun k => if k < i then D' k else A2) fun k => if k < i then C' k else c2) = rcells i (elE l D' C') ++ denL ρ [.int .i64 (l.getD i ent0).index, .int .i64 (l.getD i ent0).term, .int .i64 (l.getD i ent0).kind, .val (.slice A2 (l.getD i ent0).data.length c2)] := by
        rw [rcells_succ, rcells_congr (el' := elE l D' C') fun j hj => by simp [elE, hj]]
        simp [elE, denL, SV.den]
      rw [e]
      exact hown'
    · by_cases hj' : j < i
      · simp only [hj', if_true]
        refine Slc.to ((hD' j hj').to (J'' := fun k => w0.heap.size ≤ k ∧ v'.ownBlock ≠ some k) (grown_since hg (J := fun k => v.ownBlock ≠ some k) fun k hk he => hk he.symm) fun k hk hlt => ⟨hk.2, hk.1, fun he => ?_⟩) hR5.heap.since1 fun k hk _ => ⟨rest3, hk⟩
        rcases hnew with hn | hn
        · exact hk.2 (hn.symm.trans he)
        · rw [hn] at he; injection he with he; omega
      · obtain rfl : j = i := by omega
        simp only [Nat.lt_irrefl, if_false]
        refine Slc.to (hb.to (J'' := fun k => w0.heap.size ≤ k ∧ v'.ownBlock ≠ some k) (grown_since hg (J := fun k => v.ownBlock ≠ some k) fun k hk he => hk he.symm) fun k hk hlt => ⟨fun he => ?_, by omega, fun he => ?_⟩) hR5.heap.since1 fun k hk _ => ⟨rest3, hk⟩
        · have := (hlt' k he).2; omega
        rcases hnew with hn | hn
        · have := (hlt' k (hn.symm.trans he)).2; omega
        · rw [hn] at he; injection he with he; omega
    · exact (hR5.unbase.spell64 8 (IntKind.i64.wrap ((i : Int) + 1)) ((i + 1 : Nat) : Int) (by kernel_rfl) (wrap_succ (by omega))).into (by kernel_rfl) (by kernel_rfl) rfl (ltT_row rfl (fun _ => rfl) (ltT_nil _))
  · have hi : i = l.length := by simp at h1; omega
    subst hi
    refine ⟨v, rfl, ⟨D', C', ownsRow_keep hown hH.since1 (fun _ _ => rest), fun j hj => (hD' j hj).keep hH.since1 fun _ _ _ => rest⟩, hH.tail.since0⟩
end Go.Sx
