/- Walks of package raft, eighth part: what one who is alone, and leads, is asked for. -/
import Derived.Test.YtkidnihjihcjcaaGreatDoorWCore7
set_option linter.unusedSimpArgs false
set_option linter.unusedVariables false
set_option maxRecDepth 20000
namespace Go.Sx
open Go.Proofs
variable {J : Nat → Prop} {w0 : World} {b : Nat} {c : Core} {x : CoreV}
theorem Lg.add_ok {g g' : Lg} {term kind : Int} {data : List UInt8} (h : g.add term kind data = (g', none)) :
    g.may = true ∧ max g.last.2 1 ≤ term ∧ term ≤ 1099511627776 ∧ 0 ≤ kind ∧ kind ≤ 2 ∧ g.last.1 < 1099511627776 ∧ data.length ≤ 4096 ∧ g.l.length < 4096 ∧ g' = ⟨g.base, g.term, g.l ++ [⟨g.last.1 + 1, term, kind, data⟩]⟩ := by
  unfold Lg.add at h
  split at h
  · split at h
    · cases h
    · split at h
      · cases h
      · split at h
        · cases h
        · injection h with h1 h2
          refine ⟨by assumption, by omega, by omega, by omega, by omega, by omega, by omega, by omega, h1.symm⟩
  · cases h
theorem rightM_append {index : Int} : ∀ {l : List Ent} {i : Nat} {t : Int} {e : Ent}, rightM index i t l = true → e.fits index (i + l.length) (if 0 < l.length then (l.getD (l.length - 1) ent0).term else t) = true → rightM index i t (l ++ [e]) = true
  | [], i, t, e, _, he => by simpa [rightM] using he
  | y :: l, i, t, e, h, he => by
    simp only [rightM, Bool.and_eq_true] at h
    simp only [List.cons_append, rightM, Bool.and_eq_true]
    refine ⟨h.1, rightM_append h.2 ?_⟩
    have e1 : i + 1 + l.length = i + (y :: l).length := by simp; omega
    rw [e1]
    cases l with
    | nil => simpa using he
    | cons z l => simpa using he
theorem Lg.add_may {g g' : Lg} {term kind : Int} {data : List UInt8} (h : g.add term kind data = (g', none)) : g'.may = true ∧ g'.last = (g.last.1 + 1, term) := by
  obtain ⟨hm, h1, h2, h3, h4, h5, h6, h7, rfl⟩ := Lg.add_ok h
  have hg := g.may_get hm
  have hl := g.may_last hm
  have hb := g.may_bounds hm
  refine ⟨?_, by simp [Lg.last]⟩
  have hr : rightM g.base 0 g.term (g.l ++ [⟨g.last.1 + 1, term, kind, data⟩]) = true := by
    refine rightM_append hg.2.2 ?_
    have e2 : (if 0 < g.l.length then (g.l.getD (g.l.length - 1) ent0).term else g.term) = g.last.2 := by
      unfold Lg.last; split <;> rfl
    rw [e2]
    simp only [Ent.fits, decide_eq_true_eq]
    refine ⟨by omega, by omega, by omega, by omega, by omega, by omega, by omega, by omega⟩
  simp only [Lg.may, Bool.and_eq_true, Bool.or_eq_true, decide_eq_true_eq, hr, and_true]
  refine ⟨by omega, ?_⟩
  simp; omega
theorem Lg.tell_last {g : Lg} (hm : g.may = true) (h0 : 0 < g.l.length) : g.tell g.last.1 = (g.last.2, none) := by
  have hl := g.may_last hm
  have hb := g.may_bounds hm
  have e : (g.last.1 - g.base - 1).toNat = g.l.length - 1 := by omega
  rw [Lg.tell, if_pos hm, Lg.termOf, if_neg (by omega), if_neg (by omega), if_neg (by omega), e]
  simp [Lg.last, h0]
/-- Behind an entry more, it is committed. -/
theorem Core.add_adv {c : Core} {g' : Lg} {kind : Int} {data : List UInt8} (h : c.log.add c.term kind data = (g', none)) (hc : c.commit ≤ c.log.lastT.1) : ({ c with log := g' } : Core).advOk ∧ g'.lastT.1 = c.log.lastT.1 + 1 := by
  obtain ⟨hm', hl'⟩ := Lg.add_may h
  obtain ⟨hm, h1, h2, h3, h4, h5, h6, h7, he⟩ := Lg.add_ok h
  have e1 : g'.lastT = (c.log.last.1 + 1, c.term) := by rw [Lg.lastT, if_pos hm', hl']
  have e2 : c.log.lastT = c.log.last := by rw [Lg.lastT, if_pos hm]
  have ht := Lg.tell_last hm' (by rw [he]; simp)
  rw [hl'] at ht
  rw [e2] at hc
  refine ⟨⟨?_, ?_, ?_⟩, ?_⟩
  · show c.commit < g'.lastT.1
    rw [e1]; simp only; omega
  · show (g'.tell g'.lastT.1).2 = none
    rw [e1]; simp only [ht]
  · show (g'.tell g'.lastT.1).1 = c.term
    rw [e1]; simp only [ht]
  · rw [e1, e2]
theorem ProposeErr_c {DA : Option Addr} {DC : Nat} {data : List UInt8} {e : Int} (h : CoreR J w0 b c x) (hJ : ¬ J b) (hw : c.wf) (hl : c.role = 2) (hd : Bytes (fun k => k ≠ b) w0 (.slice DA data.length DC) data) (he : (c.log.add c.term 1 data).2 = some e) :
    Calls Tryz.prog 7 #[coreP b, .int .i64 1, .slice DA data.length DC] w0 (fun r w' => r = .returned (.tuple #[.int .i64 0, .slice none 0 0, errN (some e)]) ∧ CoreR J w' b c x ∧ Since w0 (fun k => k ≠ b) w') := by
  refine enterW h 67 [.int .i64 1, .val (.slice DA data.length DC)] Tryz.func7 rfl rfl rfl rfl rfl fun a hR hs => ?_
  refine go [ResultVar.tmp 6, ResultVar.tmp 7, ResultVar.tmp 8] 200 (fun r => .br (c.role != 2) (.ret (.tup [.int .i64 (0), .val (Value.slice none 0 0), .err 54 (some 30)]) (⟨[], [(0, .cells [.int .i64 (c.term), .int .i64 (c.vote), .int .i64 (c.log.base), .int .i64 (c.log.term), .val (Value.slice x.k.LA c.log.l.length x.k.Lc), .val (Value.slice x.k.CA c.conf.length x.k.Cc), .val (Value.slice x.k.SA c.snap.length x.k.Sc), .int .i64 (c.role), .int .i64 (c.leader), .int .i64 (c.commit), .int .i64 (c.round), .int .i64 (c.id), .int .i64 (c.span), .int .i64 (c.gone), .int .i64 (c.wait), .val (Value.slice x.VA c.votes.length x.Vc), .val (Value.map (some x.pe)), .int .i64 (x.bk), .val (Value.slice x.bA x.bn x.bc)] 59)], 1⟩ : St)) (.br (false) (.call 20 [.ptr 0 0, .val (Value.slice DA data.length DC)] (some 30) [.ops (opsAt (bodyOf Go.Proofs.Tryz.f7) [1, 1, 0, 1, 0, 0]) (List.drop 3 (opsAt (bodyOf Go.Proofs.Tryz.f7) [1, 1, 0, 1, 0, 0])), .code (codeAt (bodyOf Go.Proofs.Tryz.f7) [1, 1, 0, 1, 0, 1]), .code (codeAt (bodyOf Go.Proofs.Tryz.f7) [1, 1, 1])] (⟨[(8, .err 0 (none)), (7, .val (Value.slice none 0 0)), (6, .int .i64 (0)), (0, .ptr 0 0), (1, .int .i64 (1)), (2, .val (Value.slice DA data.length DC))], [(0, .cells [.int .i64 (c.term), .int .i64 (c.vote), .int .i64 (c.log.base), .int .i64 (c.log.term), .val (Value.slice x.k.LA c.log.l.length x.k.Lc), .val (Value.slice x.k.CA c.conf.length x.k.Cc), .val (Value.slice x.k.SA c.snap.length x.k.Sc), .int .i64 (c.role), .int .i64 (c.leader), .int .i64 (c.commit), .int .i64 (c.round), .int .i64 (c.id), .int .i64 (c.span), .int .i64 (c.gone), .int .i64 (c.wait), .val (Value.slice x.VA c.votes.length x.Vc), .val (Value.map (some x.pe)), .int .i64 (x.bk), .val (Value.slice x.bA x.bn x.bc)] 59)], 1⟩ : St)) (.both (.call 21 [.agg [.int .i64 (c.log.base), .int .i64 (c.log.term), .val (Value.slice x.k.LA c.log.l.length x.k.Lc)], .int .i64 (c.term), .int .i64 (1), .val (Value.slice DA data.length DC)] (some 47) [.any 6 [0] (opsAt (bodyOf Go.Proofs.Tryz.f7) [1, 1, 1, 0]) [true, true, true, true, true, true, true, true, true, true, true, true, true, false, false, false, false, false, false], .code (codeAt (bodyOf Go.Proofs.Tryz.f7) [1, 1, 1, 1])] (⟨[(8, .err 0 (none)), (7, .val (Value.slice none 0 0)), (6, .int .i64 (0)), (0, .ptr 0 0)], [(0, .cells [.int .i64 (c.term), .int .i64 (c.vote), .int .i64 (c.log.base), .int .i64 (c.log.term), .val (Value.slice x.k.LA c.log.l.length x.k.Lc), .val (Value.slice x.k.CA c.conf.length x.k.Cc), .val (Value.slice x.k.SA c.snap.length x.k.Sc), .int .i64 (c.role), .int .i64 (c.leader), .int .i64 (c.commit), .int .i64 (c.round), .int .i64 (c.id), .int .i64 (c.span), .int .i64 (c.gone), .int .i64 (c.wait), .val (Value.slice x.VA c.votes.length x.Vc), .val (Value.map (some x.pe)), .int .i64 (x.bk), .val (Value.slice x.bA x.bn x.bc)] 59)], 1⟩ : St)) (.call 21 [.agg [.int .i64 (c.log.base), .int .i64 (c.log.term), .val (Value.slice x.k.LA c.log.l.length x.k.Lc)], .int .i64 (c.term), .int .i64 (1), .val (Value.slice DA data.length DC)] (some 47) [.any 5 [0] (opsAt (bodyOf Go.Proofs.Tryz.f7) [1, 1, 1, 0]) [true, true, true, true, true, true, true, true, true, true, true, true, true, false, false, false, true, false, false], .code (codeAt (bodyOf Go.Proofs.Tryz.f7) [1, 1, 1, 1])] (⟨[(10, .ptr 1 0), (8, .err 0 (none)), (7, .val (Value.slice none 0 0)), (6, .int .i64 (0)), (0, .ptr 0 0)], [(1, .cells [.int .i64 (0), .int .i64 (0), .val (Value.slice none 0 0)] 32), (0, .cells [.int .i64 (c.term), .int .i64 (c.vote), .int .i64 (c.log.base), .int .i64 (c.log.term), .val (Value.slice x.k.LA c.log.l.length x.k.Lc), .val (Value.slice x.k.CA c.conf.length x.k.Cc), .val (Value.slice x.k.SA c.snap.length x.k.Sc), .int .i64 (c.role), .int .i64 (c.leader), .int .i64 (c.commit), .int .i64 (c.round), .int .i64 (c.id), .int .i64 (c.span), .int .i64 (c.gone), .int .i64 (c.wait), .val (Value.slice x.VA c.votes.length x.Vc), .val (Value.map (some x.pe)), .int .i64 (x.bk), .val (Value.slice x.bA x.bn x.bc)] 59)], 2⟩ : St))))) rfl (by kernel_rfl) (by kernel_rfl) (by kernel_rfl) hs hR ?_
  refine sbr (fun h1 => ?_) (fun _ => sbr (fun h1 => absurd h1 (by decide)) (fun _ => sboth (scall ?_) (scall ?_)))
  · simp [hl] at h1
  all_goals
    intro S ρ a w1 hs hR1 hS
    have hC1 := h.now hJ hs hR1.heap hR1.heap.since1 c rfl rfl rfl rfl rfl
    refine Calls.mono (Add_c c.term 1 (hC1.log.weak (J' := fun _ => True) fun _ _ => trivial) hw.log ((hd.keep hR1.heap.since1 fun _ hk _ => hk).weak (J' := fun _ => True) fun _ _ => trivial)) fun r w2 hq => ?_
    rw [he] at hq
    obtain ⟨v2, rfl, hE2, hsn2⟩ := hq
    obtain ⟨A2, k2, rfl⟩ := hE2.form
    refine ⟨_, rfl, ?_⟩
    have hR := (hR1.pure hsn2).res (d := 47) (v := .tup [.agg [.int .i64 (c.log.add c.term 1 data).1.base, .int .i64 (c.log.add c.term 1 data).1.term, .val (.slice A2 (c.log.add c.term 1 data).1.l.length k2)], .err 54 (some e)]) rfl rfl rfl rfl
    have hS := hS.put 47 (.tup [.agg [.int .i64 (c.log.add c.term 1 data).1.base, .int .i64 (c.log.add c.term 1 data).1.term, .val (.slice A2 (c.log.add c.term 1 data).1.l.length k2)], .err 54 (some e)])
    refine goA [ResultVar.tmp 6, ResultVar.tmp 7, ResultVar.tmp 8] 400 (fun r => .br (true) (.ret (.tup [.int .i64 (0), .val (Value.slice none 0 0), .err 54 (some e)]) (⟨[], [(1, .cells [.int .i64 ((c.log.add c.term 1 data).fst.base), .int .i64 ((c.log.add c.term 1 data).fst.term), .val (Value.slice A2 (c.log.add c.term 1 data).fst.l.length k2)] 32), (0, .cells [.int .i64 (c.term), .int .i64 (c.vote), .int .i64 (c.log.base), .int .i64 (c.log.term), .val (Value.slice x.k.LA c.log.l.length x.k.Lc), .val (Value.slice x.k.CA c.conf.length x.k.Cc), .val (Value.slice x.k.SA c.snap.length x.k.Sc), .int .i64 (c.role), .int .i64 (c.leader), .int .i64 (c.commit), .int .i64 (c.round), .int .i64 (c.id), .int .i64 (c.span), .int .i64 (c.gone), .int .i64 (c.wait), .val (Value.slice x.VA c.votes.length x.Vc), .val (Value.map (some x.pe)), .int .i64 (x.bk), .val (Value.slice x.bA x.bn x.bc)] 59)], 2⟩ : St)) (.call 22 [.ptr 0 0] (some 59) [.ops (opsAt (bodyOf Go.Proofs.Tryz.f7) [1, 1, 1, 1, 1, 1, 0]) (List.drop 2 (opsAt (bodyOf Go.Proofs.Tryz.f7) [1, 1, 1, 1, 1, 1, 0])), .code (codeAt (bodyOf Go.Proofs.Tryz.f7) [1, 1, 1, 1, 1, 1, 1])] (⟨[(8, .err 0 (none)), (7, .val (Value.slice none 0 0)), (6, .int .i64 (0)), (0, .ptr 0 0)], [(0, .cells [.int .i64 (c.term), .int .i64 (c.vote), .int .i64 ((c.log.add c.term 1 data).fst.base), .int .i64 ((c.log.add c.term 1 data).fst.term), .val (Value.slice A2 (c.log.add c.term 1 data).fst.l.length k2), .val (Value.slice x.k.CA c.conf.length x.k.Cc), .val (Value.slice x.k.SA c.snap.length x.k.Sc), .int .i64 (c.role), .int .i64 (c.leader), .int .i64 (c.commit), .int .i64 (c.round), .int .i64 (c.id), .int .i64 (c.span), .int .i64 (c.gone), .int .i64 (c.wait), .val (Value.slice x.VA c.votes.length x.Vc), .val (Value.map (some x.pe)), .int .i64 (x.bk), .val (Value.slice x.bA x.bn x.bc)] 59), (1, .cells [.int .i64 ((c.log.add c.term 1 data).fst.base), .int .i64 ((c.log.add c.term 1 data).fst.term), .val (Value.slice A2 (c.log.add c.term 1 data).fst.l.length k2)] 32)], 2⟩ : St))) rfl (by kernel_rfl) hS (by kernel_rfl) hs hR ?_
    refine sbr (fun _ => sret fun ρ w hs hH => ⟨rfl, h.now hJ hs hH hH.since1 c rfl rfl rfl rfl rfl, hH.since1⟩) (fun h1 => absurd h1 (by decide))
theorem ProposeOk_c {DA : Option Addr} {DC : Nat} {data : List UInt8} {g' : Lg} (h : CoreR J w0 b c x) (hJ : ¬ J b) (hw : c.wf) (ha : c.alone) (h1 : 1 ≤ c.id) (h2 : c.id ≤ 64) (hl : c.role = 2) (hcl : c.commit ≤ c.log.lastT.1) (hg : g'.wf) (hd : Bytes (fun k => k ≠ b) w0 (.slice DA data.length DC) data) (he : c.log.add c.term 1 data = (g', none)) :
    Calls Tryz.prog 7 #[coreP b, .int .i64 1, .slice DA data.length DC] w0 (fun r w' => (∃ A k, r = .returned (.tuple #[.int .i64 (c.log.lastT.1 + 1), .slice A 0 k, .nilIface])) ∧
      (∃ x', CoreR (fun k => J k ∨ w0.heap.size ≤ k) w' b { c with log := g', commit := c.log.lastT.1 + 1 } x') ∧ Since w0 (fun k => k ≠ b) w') := by
  have hbl : b < w0.heap.size := (Array.getElem?_eq_some_iff.1 h.cell).1
  have hJ' : ¬ (J b ∨ w0.heap.size ≤ b) := by rintro (hk | hk); exact hJ hk; omega
  obtain ⟨hadv, hlast⟩ := Core.add_adv he hcl
  have hgm := (Lg.add_may he).1
  have hgl : g'.l = c.log.l ++ [⟨c.log.last.1 + 1, c.term, 1, data⟩] := by rw [(Lg.add_ok he).2.2.2.2.2.2.2.2]
  have hw' : ({ c with log := g' } : Core).wf := ⟨⟨hg, hw.kept.conf, hw.kept.snap⟩, hw.term, hw.commit, hw.votes⟩
  have ha' : ({ c with log := g' } : Core).alone := ⟨ha.conf, fun e hm => by
    have hm : e ∈ g'.l := hm
    rw [hgl] at hm
    rcases List.mem_append.1 hm with hm | hm
    · exact ha.plain e hm
    · obtain rfl := List.mem_singleton.1 hm; show (1 : Int) ≠ 2; decide⟩
  refine enterW h 67 [.int .i64 1, .val (.slice DA data.length DC)] Tryz.func7 rfl rfl rfl rfl rfl fun a hR hs => ?_
  refine go [ResultVar.tmp 6, ResultVar.tmp 7, ResultVar.tmp 8] 200 (fun r => .br (c.role != 2) (.ret (.tup [.int .i64 (0), .val (Value.slice none 0 0), .err 54 (some 30)]) (⟨[], [(0, .cells [.int .i64 (c.term), .int .i64 (c.vote), .int .i64 (c.log.base), .int .i64 (c.log.term), .val (Value.slice x.k.LA c.log.l.length x.k.Lc), .val (Value.slice x.k.CA c.conf.length x.k.Cc), .val (Value.slice x.k.SA c.snap.length x.k.Sc), .int .i64 (c.role), .int .i64 (c.leader), .int .i64 (c.commit), .int .i64 (c.round), .int .i64 (c.id), .int .i64 (c.span), .int .i64 (c.gone), .int .i64 (c.wait), .val (Value.slice x.VA c.votes.length x.Vc), .val (Value.map (some x.pe)), .int .i64 (x.bk), .val (Value.slice x.bA x.bn x.bc)] 59)], 1⟩ : St)) (.br (false) (.call 20 [.ptr 0 0, .val (Value.slice DA data.length DC)] (some 30) [.ops (opsAt (bodyOf Go.Proofs.Tryz.f7) [1, 1, 0, 1, 0, 0]) (List.drop 3 (opsAt (bodyOf Go.Proofs.Tryz.f7) [1, 1, 0, 1, 0, 0])), .code (codeAt (bodyOf Go.Proofs.Tryz.f7) [1, 1, 0, 1, 0, 1]), .code (codeAt (bodyOf Go.Proofs.Tryz.f7) [1, 1, 1])] (⟨[(8, .err 0 (none)), (7, .val (Value.slice none 0 0)), (6, .int .i64 (0)), (0, .ptr 0 0), (1, .int .i64 (1)), (2, .val (Value.slice DA data.length DC))], [(0, .cells [.int .i64 (c.term), .int .i64 (c.vote), .int .i64 (c.log.base), .int .i64 (c.log.term), .val (Value.slice x.k.LA c.log.l.length x.k.Lc), .val (Value.slice x.k.CA c.conf.length x.k.Cc), .val (Value.slice x.k.SA c.snap.length x.k.Sc), .int .i64 (c.role), .int .i64 (c.leader), .int .i64 (c.commit), .int .i64 (c.round), .int .i64 (c.id), .int .i64 (c.span), .int .i64 (c.gone), .int .i64 (c.wait), .val (Value.slice x.VA c.votes.length x.Vc), .val (Value.map (some x.pe)), .int .i64 (x.bk), .val (Value.slice x.bA x.bn x.bc)] 59)], 1⟩ : St)) (.both (.call 21 [.agg [.int .i64 (c.log.base), .int .i64 (c.log.term), .val (Value.slice x.k.LA c.log.l.length x.k.Lc)], .int .i64 (c.term), .int .i64 (1), .val (Value.slice DA data.length DC)] (some 47) [.any 6 [0] (opsAt (bodyOf Go.Proofs.Tryz.f7) [1, 1, 1, 0]) [true, true, true, true, true, true, true, true, true, true, true, true, true, false, false, false, false, false, false], .code (codeAt (bodyOf Go.Proofs.Tryz.f7) [1, 1, 1, 1])] (⟨[(8, .err 0 (none)), (7, .val (Value.slice none 0 0)), (6, .int .i64 (0)), (0, .ptr 0 0)], [(0, .cells [.int .i64 (c.term), .int .i64 (c.vote), .int .i64 (c.log.base), .int .i64 (c.log.term), .val (Value.slice x.k.LA c.log.l.length x.k.Lc), .val (Value.slice x.k.CA c.conf.length x.k.Cc), .val (Value.slice x.k.SA c.snap.length x.k.Sc), .int .i64 (c.role), .int .i64 (c.leader), .int .i64 (c.commit), .int .i64 (c.round), .int .i64 (c.id), .int .i64 (c.span), .int .i64 (c.gone), .int .i64 (c.wait), .val (Value.slice x.VA c.votes.length x.Vc), .val (Value.map (some x.pe)), .int .i64 (x.bk), .val (Value.slice x.bA x.bn x.bc)] 59)], 1⟩ : St)) (.call 21 [.agg [.int .i64 (c.log.base), .int .i64 (c.log.term), .val (Value.slice x.k.LA c.log.l.length x.k.Lc)], .int .i64 (c.term), .int .i64 (1), .val (Value.slice DA data.length DC)] (some 47) [.any 5 [0] (opsAt (bodyOf Go.Proofs.Tryz.f7) [1, 1, 1, 0]) [true, true, true, true, true, true, true, true, true, true, true, true, true, false, false, false, true, false, false], .code (codeAt (bodyOf Go.Proofs.Tryz.f7) [1, 1, 1, 1])] (⟨[(10, .ptr 1 0), (8, .err 0 (none)), (7, .val (Value.slice none 0 0)), (6, .int .i64 (0)), (0, .ptr 0 0)], [(1, .cells [.int .i64 (0), .int .i64 (0), .val (Value.slice none 0 0)] 32), (0, .cells [.int .i64 (c.term), .int .i64 (c.vote), .int .i64 (c.log.base), .int .i64 (c.log.term), .val (Value.slice x.k.LA c.log.l.length x.k.Lc), .val (Value.slice x.k.CA c.conf.length x.k.Cc), .val (Value.slice x.k.SA c.snap.length x.k.Sc), .int .i64 (c.role), .int .i64 (c.leader), .int .i64 (c.commit), .int .i64 (c.round), .int .i64 (c.id), .int .i64 (c.span), .int .i64 (c.gone), .int .i64 (c.wait), .val (Value.slice x.VA c.votes.length x.Vc), .val (Value.map (some x.pe)), .int .i64 (x.bk), .val (Value.slice x.bA x.bn x.bc)] 59)], 2⟩ : St))))) rfl (by kernel_rfl) (by kernel_rfl) (by kernel_rfl) hs hR ?_
  refine sbr (fun h1 => ?_) (fun _ => sbr (fun h1 => absurd h1 (by decide)) (fun _ => sboth (scall ?_) (scall ?_)))
  · simp [hl] at h1
  all_goals
    intro S ρ a w1 hs hR1 hS
    have hC1 := h.now hJ hs hR1.heap hR1.heap.since1 c rfl rfl rfl rfl rfl
    have hz1 := hR1.heap.since1.size
    refine Calls.mono (Add_c c.term 1 (hC1.log.weak (J' := fun _ => True) fun _ _ => trivial) hw.log ((hd.keep hR1.heap.since1 fun _ hk _ => hk).weak (J' := fun _ => True) fun _ _ => trivial)) fun r w2 hq => ?_
    rw [he] at hq
    obtain ⟨v2, rfl, hE2, hsn2⟩ := hq
    obtain ⟨A2, k2, rfl⟩ := hE2.form
    refine ⟨_, rfl, ?_⟩
    have hR := ((hR1.pure hsn2).res (d := 47) (v := .tup [.agg [.int .i64 g'.base, .int .i64 g'.term, .val (.slice A2 g'.l.length k2)], .err 54 none]) rfl rfl rfl rfl).snap
    have hS := hS.put 47 (.tup [.agg [.int .i64 g'.base, .int .i64 g'.term, .val (.slice A2 g'.l.length k2)], .err 54 none])
    refine goA [ResultVar.tmp 6, ResultVar.tmp 7, ResultVar.tmp 8] 400 (fun r => .br (false) (.ret (.tup [.int .i64 (0), .val (Value.slice none 0 0), .err 54 (none)]) (⟨[], [(1, .cells [.int .i64 (g'.base), .int .i64 (g'.term), .val (Value.slice A2 g'.l.length k2)] 32), (0, .cells [.int .i64 (c.term), .int .i64 (c.vote), .int .i64 (c.log.base), .int .i64 (c.log.term), .val (Value.slice x.k.LA c.log.l.length x.k.Lc), .val (Value.slice x.k.CA c.conf.length x.k.Cc), .val (Value.slice x.k.SA c.snap.length x.k.Sc), .int .i64 (c.role), .int .i64 (c.leader), .int .i64 (c.commit), .int .i64 (c.round), .int .i64 (c.id), .int .i64 (c.span), .int .i64 (c.gone), .int .i64 (c.wait), .val (Value.slice x.VA c.votes.length x.Vc), .val (Value.map (some x.pe)), .int .i64 (x.bk), .val (Value.slice x.bA x.bn x.bc)] 59)], 2⟩ : St)) (.call 22 [.ptr 0 0] (some 59) [.ops (opsAt (bodyOf Go.Proofs.Tryz.f7) [1, 1, 1, 1, 1, 1, 0]) (List.drop 2 (opsAt (bodyOf Go.Proofs.Tryz.f7) [1, 1, 1, 1, 1, 1, 0])), .code (codeAt (bodyOf Go.Proofs.Tryz.f7) [1, 1, 1, 1, 1, 1, 1])] (⟨[(8, .err 0 (none)), (7, .val (Value.slice none 0 0)), (6, .int .i64 (0)), (0, .ptr 0 0)], [(0, .cells [.int .i64 (c.term), .int .i64 (c.vote), .int .i64 (g'.base), .int .i64 (g'.term), .val (Value.slice A2 g'.l.length k2), .val (Value.slice x.k.CA c.conf.length x.k.Cc), .val (Value.slice x.k.SA c.snap.length x.k.Sc), .int .i64 (c.role), .int .i64 (c.leader), .int .i64 (c.commit), .int .i64 (c.round), .int .i64 (c.id), .int .i64 (c.span), .int .i64 (c.gone), .int .i64 (c.wait), .val (Value.slice x.VA c.votes.length x.Vc), .val (Value.map (some x.pe)), .int .i64 (x.bk), .val (Value.slice x.bA x.bn x.bc)] 59), (1, .cells [.int .i64 (g'.base), .int .i64 (g'.term), .val (Value.slice A2 g'.l.length k2)] 32)], 2⟩ : St))) rfl (by kernel_rfl) hS (by kernel_rfl) hs hR ?_
    refine sbr (fun h1 => absurd h1 (by decide)) (fun _ => scall fun S ρ a w3 hs hR3 hS => ?_)
    have hC3 := h.nowL (J' := fun k => J k ∨ w0.heap.size ≤ k) hJ hs hR3.heap hR3.heap.tail.since1 { c with log := g' } A2 k2 rfl ((hE2.keep hR3.heap.since1 fun k hk _ => hR1.rest hk).weak fun k hk => .inr (Nat.le_trans hz1 hk)) (fun k hk => .inl hk) rfl rfl rfl
    rw [denL, denW hs]
    refine Calls.mono (coreLast_c hC3 hw') fun r w4 hq => ?_
    obtain ⟨rfl, hsn4⟩ := hq
    refine ⟨_, rfl, ?_⟩
    have hR := (hR3.pure hsn4).res (d := 59) (v := .int .i64 g'.lastT.1) rfl rfl rfl rfl
    refine go [ResultVar.tmp 6, ResultVar.tmp 7, ResultVar.tmp 8] 200 (fun r => .call 17 [.ptr 0 0] (some 61) [.ops (opsAt (bodyOf Go.Proofs.Tryz.f7) [1, 1, 1, 1, 1, 1, 1, 0]) (List.drop 2 (opsAt (bodyOf Go.Proofs.Tryz.f7) [1, 1, 1, 1, 1, 1, 1, 0])), .code (codeAt (bodyOf Go.Proofs.Tryz.f7) [1, 1, 1, 1, 1, 1, 1, 1])] (⟨[(12, .int .i64 (g'.lastT.fst)), (8, .err 0 (none)), (7, .val (Value.slice none 0 0)), (6, .int .i64 (0)), (0, .ptr 0 0)], [(0, .cells [.int .i64 (c.term), .int .i64 (c.vote), .int .i64 (g'.base), .int .i64 (g'.term), .val (Value.slice A2 g'.l.length k2), .val (Value.slice x.k.CA c.conf.length x.k.Cc), .val (Value.slice x.k.SA c.snap.length x.k.Sc), .int .i64 (c.role), .int .i64 (c.leader), .int .i64 (c.commit), .int .i64 (c.round), .int .i64 (c.id), .int .i64 (c.span), .int .i64 (c.gone), .int .i64 (c.wait), .val (Value.slice x.VA c.votes.length x.Vc), .val (Value.map (some x.pe)), .int .i64 (x.bk), .val (Value.slice x.bA x.bn x.bc)] 59), (1, .cells [.int .i64 (g'.base), .int .i64 (g'.term), .val (Value.slice A2 g'.l.length k2)] 32)], 2⟩ : St)) rfl (by kernel_rfl) (by kernel_rfl) (by kernel_rfl) hs hR ?_
    refine scall fun S ρ a w5 hs hR5 hS => ?_
    have hC5 := h.nowL (J' := fun k => J k ∨ w0.heap.size ≤ k) hJ hs hR5.heap hR5.heap.tail.since1 { c with log := g' } A2 k2 rfl ((hE2.keep hR5.heap.since1 fun k hk _ => hR1.rest hk).weak fun k hk => .inr (Nat.le_trans hz1 hk)) (fun k hk => .inl hk) rfl rfl rfl
    rw [denL, denW hs]
    refine Calls.mono (sendAllA_c hC5 hw' ha') fun r w6 hq => ?_
    obtain ⟨rfl, hsn6⟩ := hq
    refine ⟨_, rfl, ?_⟩
    have hR := (hR5.pure hsn6).resV 61 (.slice none 0 0) rfl
    refine go [ResultVar.tmp 6, ResultVar.tmp 7, ResultVar.tmp 8] 200 (fun r => .call 23 [.ptr 0 0] (some 65) [.ops (opsAt (bodyOf Go.Proofs.Tryz.f7) [1, 1, 1, 1, 1, 1, 1, 1, 0]) (List.drop 4 (opsAt (bodyOf Go.Proofs.Tryz.f7) [1, 1, 1, 1, 1, 1, 1, 1, 0])), .code (codeAt (bodyOf Go.Proofs.Tryz.f7) [1, 0, 0, 1, 0, 1])] (⟨[(63, .val (Value.slice none 0 0)), (62, .int .i64 (g'.lastT.fst)), (8, .err 0 (none)), (7, .val (Value.slice none 0 0)), (6, .int .i64 (0))], [(0, .cells [.int .i64 (c.term), .int .i64 (c.vote), .int .i64 (g'.base), .int .i64 (g'.term), .val (Value.slice A2 g'.l.length k2), .val (Value.slice x.k.CA c.conf.length x.k.Cc), .val (Value.slice x.k.SA c.snap.length x.k.Sc), .int .i64 (c.role), .int .i64 (c.leader), .int .i64 (c.commit), .int .i64 (c.round), .int .i64 (c.id), .int .i64 (c.span), .int .i64 (c.gone), .int .i64 (c.wait), .val (Value.slice x.VA c.votes.length x.Vc), .val (Value.map (some x.pe)), .int .i64 (x.bk), .val (Value.slice x.bA x.bn x.bc)] 59), (1, .cells [.int .i64 (g'.base), .int .i64 (g'.term), .val (Value.slice A2 g'.l.length k2)] 32)], 2⟩ : St)) rfl (by kernel_rfl) (by kernel_rfl) (by kernel_rfl) hs hR ?_
    refine scall fun S ρ a w7 hs hR7 hS => ?_
    have hC7 := h.nowL (J' := fun k => J k ∨ w0.heap.size ≤ k) hJ hs hR7.heap hR7.heap.tail.since1 { c with log := g' } A2 k2 rfl ((hE2.keep hR7.heap.since1 fun k hk _ => hR1.rest hk).weak fun k hk => .inr (Nat.le_trans hz1 hk)) (fun k hk => .inl hk) rfl rfl rfl
    rw [denL, denW hs]
    refine Calls.mono (advanceA_c hC7 hJ' hw' ha' h1 h2 hgm hadv) fun r w8 hq => ?_
    obtain ⟨rfl, hC8, hsn8⟩ := hq
    refine ⟨_, rfl, ?_⟩
    have en : ρ.nu 0 = b := (hs 0 (by decide)).1.symm
    have hR := ((hR7.recell 0 _ (coreS { c with log := g', commit := g'.lastT.1 } { x with k := { x.k with LA := A2, Lc := k2 } }) _ rfl (hsn8.mono fun k hk _ => by rw [en] at hk; exact hk) (by rw [en, hC8.cell]; rfl) rfl).resV 65 (.slice none 0 0) rfl)
    refine go [ResultVar.tmp 6, ResultVar.tmp 7, ResultVar.tmp 8] 200 (fun r => .hand (opNth (bodyOf Go.Proofs.Tryz.f7) [1, 1, 1, 1, 1, 1, 1, 1, 0] 4) [.ops (opsAt (bodyOf Go.Proofs.Tryz.f7) [1, 1, 1, 1, 1, 1, 1, 1, 0]) (List.drop 5 (opsAt (bodyOf Go.Proofs.Tryz.f7) [1, 1, 1, 1, 1, 1, 1, 1, 0])), .code (codeAt (bodyOf Go.Proofs.Tryz.f7) [1, 0, 0, 1, 0, 1])] (⟨[(65, .val (Value.slice none 0 0)), (63, .val (Value.slice none 0 0)), (62, .int .i64 (g'.lastT.fst)), (8, .err 0 (none)), (7, .val (Value.slice none 0 0)), (6, .int .i64 (0))], [(0, .cells [.int .i64 (c.term), .int .i64 (c.vote), .int .i64 (g'.base), .int .i64 (g'.term), .val (Value.slice A2 g'.l.length k2), .val (Value.slice x.k.CA c.conf.length x.k.Cc), .val (Value.slice x.k.SA c.snap.length x.k.Sc), .int .i64 (c.role), .int .i64 (c.leader), .int .i64 (g'.lastT.fst), .int .i64 (c.round), .int .i64 (c.id), .int .i64 (c.span), .int .i64 (c.gone), .int .i64 (c.wait), .val (Value.slice x.VA c.votes.length x.Vc), .val (Value.map (some x.pe)), .int .i64 (x.bk), .val (Value.slice x.bA x.bn x.bc)] 59), (1, .cells [.int .i64 (g'.base), .int .i64 (g'.term), .val (Value.slice A2 g'.l.length k2)] 32)], 2⟩ : St)) rfl (by kernel_rfl) (by kernel_rfl) (by kernel_rfl) hs hR ?_
    refine shand fun S ρ a w9 hs hR9 hS Q => ?_
    refine hand_appendNil 66 (by kernel_rfl) (s := .tmp 63) (y := .tmp 65) (by kernel_rfl) (t := 36) (e := 86) (by kernel_rfl) (by kernel_rfl) hR9 rfl (hR9.ev (.tmp 63) (.val (.slice none 0 0)) rfl) (hR9.ev (.tmp 65) (.val (.slice none 0 0)) rfl) fun hR10 => ?_
    have hR := hR10
    refine go [ResultVar.tmp 6, ResultVar.tmp 7, ResultVar.tmp 8] 200 (fun r => .ret (.tup [.int .i64 (g'.lastT.fst), .val (Value.slice none 0 0), .err 0 (none)]) (⟨[], [(0, .cells [.int .i64 (c.term), .int .i64 (c.vote), .int .i64 (g'.base), .int .i64 (g'.term), .val (Value.slice A2 g'.l.length k2), .val (Value.slice x.k.CA c.conf.length x.k.Cc), .val (Value.slice x.k.SA c.snap.length x.k.Sc), .int .i64 (c.role), .int .i64 (c.leader), .int .i64 (g'.lastT.fst), .int .i64 (c.round), .int .i64 (c.id), .int .i64 (c.span), .int .i64 (c.gone), .int .i64 (c.wait), .val (Value.slice x.VA c.votes.length x.Vc), .val (Value.map (some x.pe)), .int .i64 (x.bk), .val (Value.slice x.bA x.bn x.bc)] 59), (1, .cells [.int .i64 (g'.base), .int .i64 (g'.term), .val (Value.slice A2 g'.l.length k2)] 32)], 2⟩ : St)) rfl (by kernel_rfl) (by kernel_rfl) (by kernel_rfl) hs hR ?_
    refine sret fun ρ w hs hH => ⟨⟨none, 0, ?_⟩, ⟨_, h.nowL (J' := fun k => J k ∨ w0.heap.size ≤ k) hJ hs hH hH.tail.since1 { c with log := g', commit := c.log.lastT.1 + 1 } A2 k2 (by rw [← hlast]; rfl) ((hE2.keep hH.since1 fun k hk _ => hR1.rest hk).weak fun k hk => .inr (Nat.le_trans hz1 hk)) (fun k hk => .inl hk) rfl rfl rfl⟩, hH.tail.since1⟩
    rw [← hlast]
    rfl
end Go.Sx
