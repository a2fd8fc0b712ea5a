/- Walks of the law of one who is alone, first part: ticks, and the sure one. -/
import Derived.Test.YtkidnihjihcjcaaGreatDoorMLead
import Derived.Test.YtkidnihjihcjcaaGreatDoorWFreeze
set_option linter.unusedSimpArgs false
set_option linter.unusedVariables false
set_option maxRecDepth 20000
namespace Go.Sx
open Go.Proofs
/-- Behind k ticks. -/
def Prog (span draw : Int) (k : Nat) (c : Core) : Prop :=
  ((k : Int) < waitM span draw ∧ c = { Core.new 1 span kept1 draw with gone := (k : Int) }) ∨ (waitM span draw ≤ (k : Int) ∧ Lead c 1 0 ∧ 0 ≤ c.gone ∧ c.gone ≤ (k : Int))
abbrev Jb (lo b : Nat) : Nat → Prop := fun k => k ≠ b ∧ lo ≤ k
theorem Jb.not {lo b : Nat} : ¬ Jb lo b b := fun h => h.1 rfl
theorem CoreR.lt {J : Nat → Prop} {w : World} {b : Nat} {c : Core} {x : CoreV} (h : CoreR J w b c x) : b < w.heap.size := (Array.getElem?_eq_some_iff.1 h.cell).1
theorem CoreR.jb {lo b : Nat} {w w0 : World} {c : Core} {x : CoreV} (h : CoreR (fun k => Jb lo b k ∨ w0.heap.size ≤ k) w b c x) (hlo : lo ≤ b) (hb : b < w0.heap.size) : CoreR (Jb lo b) w b c x := by
  have hJ : ∀ k, (Jb lo b k ∨ w0.heap.size ≤ k) → Jb lo b k := fun k hk => by
    rcases hk with hk | hk
    · exact hk
    · exact ⟨by omega, by omega⟩
  exact ⟨h.cell, h.kept.weak hJ, h.votes.weak hJ, h.peers, hJ _ h.pj⟩
theorem prog_zero {span draw : Int} (hs1 : 2 ≤ span) (hs2 : span ≤ 1000) : Prog span draw 0 (Core.new 1 span kept1 draw) := by
  have := waitM_bounds (draw := draw) hs1 hs2
  exact .inl ⟨by simp; omega, rfl⟩
theorem tick_c {lo b : Nat} {w : World} {c : Core} {x : CoreV} {span draw : Int} {k : Nat} (h : CoreR (Jb lo b) w b c x) (hlo : lo ≤ b) (hp : Prog span draw k c) (hk : k ≤ 1000) (hs1 : 2 ≤ span) (hs2 : span ≤ 1000) :
    Calls Tryz.prog 5 #[coreP b, .int .i64 0] w (fun r w' => (∃ A k, r = .returned (.slice A 0 k)) ∧ (∃ c' x', CoreR (Jb lo b) w' b c' x' ∧ Prog span draw (k + 1) c') ∧ Since w (fun k => k ≠ b) w') := by
  have hwb := waitM_bounds (draw := draw) hs1 hs2
  rcases hp with ⟨h1, rfl⟩ | ⟨h1, hl, hg1, hg2⟩
  · by_cases h2 : (k : Int) + 1 < waitM span draw
    · refine Calls.mono (TickWait_c 0 h Jb.not rfl (by show (0 : Int) ≤ (k : Int); omega) (by show (k : Int) + 1 < waitM span draw; exact h2) (by show (k : Int) ≤ _; omega)) fun r w' hq => ?_
      obtain ⟨rfl, hC, hsn⟩ := hq
      refine ⟨⟨_, _, rfl⟩, ⟨_, _, hC, .inl ⟨by omega, ?_⟩⟩, hsn⟩
      show Core.mk _ _ _ _ _ _ _ _ _ _ _ _ _ _ = Core.mk _ _ _ _ _ _ _ _ _ _ _ _ _ _
      congr 1
    · have hwf : ({ Core.new 1 span kept1 draw with gone := (k : Int) } : Core).wf := ⟨⟨kept1_wf.log, kept1_wf.conf, kept1_wf.snap⟩, (by show I64 0; unfold I64; decide), (by show I64 0; unfold I64; decide), Nat.zero_le _⟩
      have ha : ({ Core.new 1 span kept1 draw with gone := (k : Int) } : Core).alone := ⟨rfl, fun e he => nomatch he⟩
      refine Calls.mono (TickStand_c 0 h Jb.not hwf ha rfl (by show (0 : Int) ≤ (k : Int); omega) (by show waitM span draw ≤ (k : Int) + 1; omega) (by show (k : Int) ≤ _; omega) (by show (1 : Int) ≤ 1; decide) (by show (1 : Int) ≤ 64; decide) (by show 2 ≤ span; exact hs1) (by show span ≤ 1000; exact hs2) (by show (0 : Int) ≤ 0; decide) (by show (0 : Int) < _; decide) (by show (0 : Int) ≤ lg0.lastT.1; decide) lg1_wf lg0_add) fun r w' hq => ?_
      obtain ⟨hr, ⟨x', hC⟩, hsn⟩ := hq
      exact ⟨hr, ⟨_, x', hC.jb hlo h.lt, .inr ⟨by omega, led_lead, Int.le_refl _, by show (0 : Int) ≤ _; omega⟩⟩, hsn⟩
  · refine Calls.mono (TickLead_c 0 h Jb.not hl.wf hl.alone hl.role hg1 (by omega)) fun r w' hq => ?_
    obtain ⟨rfl, ⟨g, hg3, hg4, hC⟩, hsn⟩ := hq
    exact ⟨⟨_, _, rfl⟩, ⟨_, _, hC, .inr ⟨by omega, hl.gone g, hg3, by show g ≤ _; omega⟩⟩, hsn⟩
/-- A new one of one member. -/
theorem new1_c {J : Nat → Prop} {w0 : World} {A : Addr} (span draw : Int) (hI : Ints J w0 (.slice (some A) 1 1) [1]) (hs1 : 2 ≤ span) (hs2 : span ≤ 1000) :
    Calls Tryz.prog 4 #[.int .i64 1, .int .i64 span, .agg #[.int .i64 0, .int .i64 0, .int .i64 0, .int .i64 0, .slice none 0 0, .slice (some A) 1 1, .slice none 0 0], .int .i64 draw] w0 (fun r w' => ∃ b x' c, r = .returned (.tuple #[coreP b, .nilIface]) ∧ CoreR (Jb w0.heap.size b) w' b c x' ∧ w0.heap.size ≤ b ∧ Prog span draw 0 c ∧ Since w0 (fun _ => True) w') := by
  have hK : KeptR (fun _ => True) w0 kept1 ⟨none, 0, some A, 1, none, 0⟩ := ⟨⟨fun _ => none, fun _ => 0, ⟨none, 0, rfl, Nat.le_refl _, Row.nil _ _ _ _ _⟩, fun i hi => absurd hi (Nat.not_lt_zero _)⟩, hI.weak fun _ _ => trivial, ⟨none, 0, rfl, Nat.le_refl _, Row.nil _ _ _ _ _⟩⟩
  have h1 : kept1.log.may = true := lg0_may
  have h2 : kept1.log.l.length = 0 := rfl
  have h3 : confMay kept1.conf = true := by decide
  have h4 : kept1.log.lastT.2 ≤ kept1.term := by decide
  have h5 : kept1.term ≤ 1099511627776 := by decide
  have h6 : 0 ≤ kept1.vote := by decide
  have h7 : kept1.vote ≤ 64 := by decide
  have hc := New0_c 1 span draw hK kept1_wf h1 h2 h3 h4 h5 h6 h7 (by decide) (by decide) hs1 hs2
  refine Calls.mono hc fun r w2 hq => ?_
  obtain ⟨b, x, rfl, hC2, hb2, hsn2⟩ := hq
  exact ⟨b, x, _, rfl, hC2, hb2, prog_zero hs1 hs2, hsn2⟩
theorem prop_c {lo b : Nat} {w : World} {c : Core} {x : CoreV} {n m : Nat} {DA : Option Addr} {DC : Nat} {data : List UInt8} (h : CoreR (Jb lo b) w b c x) (hlo : lo ≤ b) (hl : Lead c n m) (hn : n ≤ 1000) (hd : Bytes (fun k => k ≠ b) w (.slice DA data.length DC) data) (hd2 : data.length ≤ 4096) :
    Calls Tryz.prog 7 #[coreP b, .int .i64 1, .slice DA data.length DC] w (fun r w' => (∃ A k, r = .returned (.tuple #[.int .i64 ((n : Int) + 1), .slice A 0 k, .nilIface])) ∧
      (∃ c' x', CoreR (Jb lo b) w' b c' x' ∧ Lead c' (n + 1) m ∧ (c'.log.l.getD n ent0).data = data) ∧ Since w (fun k => k ≠ b) w') := by
  obtain ⟨g', he, hg, hl', hdata⟩ := hl.add hd2 hn
  have hlt := hl.lastT
  refine Calls.mono (ProposeOk_c h Jb.not hl.wf hl.alone (by rw [hl.id]; decide) (by rw [hl.id]; decide) hl.role (by rw [hl.commit, hlt]; omega) hg hd he) fun r w' hq => ?_
  rw [hlt] at hq
  obtain ⟨hr, ⟨x', hC⟩, hsn⟩ := hq
  exact ⟨hr, ⟨_, x', hC.jb hlo h.lt, hl', hdata⟩, hsn⟩
theorem view_c {J : Nat → Prop} {b : Nat} {w : World} {c : Core} {x : CoreV} {n m : Nat} (h : CoreR J w b c x) (hl : Lead c n m) :
    Calls Tryz.prog 6 #[coreP b] w (fun r w' => r = .returned (.agg #[.int .i64 2, .int .i64 1, .int .i64 (n : Int), .int .i64 (m : Int)]) ∧ Since w (fun _ => True) w') := by
  have := View_c h
  rw [hl.role, hl.leader, hl.commit, hl.round] at this
  exact this
theorem sure_c (w0 : World) :
    Calls Tryz.prog 9 #[] w0 (fun r w' => r = .returned (.bool true) ∧ Since w0 (fun _ => True) w') := by
  refine enterP 57 [] Tryz.func9 rfl rfl rfl rfl rfl fun a hR => ?_
  have hs := Env.Same.refl 0 env0
  refine go [ResultVar.tmp 0] 200 (fun r => .call 4 [.int .i64 (1), .int .i64 (4), .agg [.int .i64 (0), .int .i64 (0), .int .i64 (0), .int .i64 (0), .val (Value.slice none 0 0), .csl 0 0 (1) (1), .val (Value.slice none 0 0)], .int .i64 (0)] (some 11) [.ops (opsAt (bodyOf Go.Proofs.Tryz.f9) [1, 0]) (List.drop 3 (opsAt (bodyOf Go.Proofs.Tryz.f9) [1, 0])), .code (codeAt (bodyOf Go.Proofs.Tryz.f9) [1, 1])] (⟨[(0, .lit false)], [(0, .cells [.int .i64 (1)] 3)], 1⟩ : St)) rfl (by kernel_rfl) (by kernel_rfl) (by kernel_rfl) hs hR ?_
  refine scall fun S ρ a w1 hs hR1 hS => ?_
  have hz1 := hR1.heap.since0.size
  have hI : Ints (fun k => k = ρ.nu 0) w1 (.slice (some ⟨ρ.nu 0, 0, none⟩) 1 1) [1] := (hR1.slc1 0 [.int .i64 1] 3 rfl rfl).same (el' := elI [1]) fun i hi => by
    obtain rfl : i = 0 := by omega
    rfl
  refine Calls.mono (new1_c 4 0 hI (by decide) (by decide)) fun r w2 hq => ?_
  obtain ⟨b, x, c, rfl, hC2, hb2, hp, hsn2⟩ := hq
  refine ⟨_, rfl, ?_⟩
  have hR := (((hR1.pure hsn2).res (d := 11) (v := .tup [.val (coreP b), .err 54 none]) rfl rfl rfl rfl).into (st' := ⟨[(11, .tup [.val (coreP b), .err 54 none])], [], 1⟩) (by kernel_rfl) (by kernel_rfl) rfl (ltT_nil _)).snap
  have hs := Env.Same.refl 1 ρ
  refine go [ResultVar.tmp 0] 200 (fun r => .br (false) (.ret (.lit false) (⟨[], [], 1⟩ : St)) (.stop [.code (codeAt (bodyOf Go.Proofs.Tryz.f9) [1, 1, 1, 0, 1, 0]), .blk 0, .code (codeAt (bodyOf Go.Proofs.Tryz.f9) [1, 1, 1, 1])] (⟨[(3, .int .i64 (0)), (1, .val (coreP b))], [], 1⟩ : St))) rfl (by kernel_rfl) (by kernel_rfl) (by kernel_rfl) hs hR ?_
  refine sbr (fun h1 => absurd h1 (by decide)) (fun _ => sstop fun S ρ a w3 hs hR3 hS => ?_)
  have hC3 := hC2.keep (J'' := fun _ => True) hR3.heap.since1 (fun k _ _ id cs t h => nomatch h) (fun id cs t h => nomatch h)
  generalize w1.heap.size = lo at hC3 hb2 hz1
  let F : Nat → St := fun k => ⟨[(1, .val (coreP b)), (3, .int .i64 (k : Int))], [], 1⟩
  refine loopF (N := 57) (B := B0 w0) 0 F (fun k w => k ≤ 4 ∧ ∃ c x, CoreR (Jb lo b) w b c x ∧ Prog 4 0 k c) (fun k => 4 - k) 0 (by kernel_rfl) (by kernel_rfl) hs ⟨by omega, c, x, hC3, hp⟩ (hR3.unbase.into (by kernel_rfl) (by kernel_rfl) rfl (ltT_nil _)) ?_
  rintro k ρ4 a w4 hs ⟨hk4, c4, x4, hC4, hp4⟩ hR4
  have hkw : IntKind.i64.wrap ((k : Int) + 1) = ((k + 1 : Nat) : Int) := by rw [wrap_i64 (by omega) (by omega)]; omega
  have hR := hR4.snap
  refine go [ResultVar.tmp 0] 200 (fun r => .br (decide ((↑k : Int) < 4)) (.call 5 [.val (coreP b), .int .i64 (0)] (some 25) [.ops (opsAt (bodyOf Go.Proofs.Tryz.f9) [1, 1, 1, 0, 1, 0, 0, 1, 0, 0]) (List.drop 2 (opsAt (bodyOf Go.Proofs.Tryz.f9) [1, 1, 1, 0, 1, 0, 0, 1, 0, 0])), .blk 1, .code (codeAt (bodyOf Go.Proofs.Tryz.f9) [1, 1, 1, 0, 1, 0, 0, 1, 1]), .mark 0, .code (codeAt (bodyOf Go.Proofs.Tryz.f9) [1, 1, 1, 0, 1, 0]), .blk 0, .code (codeAt (bodyOf Go.Proofs.Tryz.f9) [1, 1, 1, 1])] (⟨[(24, .val (coreP b)), (21, .lit true), (20, .int .i64 ((↑k : Int))), (1, .val (coreP b)), (3, .int .i64 ((↑k : Int)))], [], 1⟩ : St)) (.hand (opNth (bodyOf Go.Proofs.Tryz.f9) [1, 1, 1, 1, 0] 2) [.ops (opsAt (bodyOf Go.Proofs.Tryz.f9) [1, 1, 1, 1, 0]) (List.drop 3 (opsAt (bodyOf Go.Proofs.Tryz.f9) [1, 1, 1, 1, 0])), .code (codeAt (bodyOf Go.Proofs.Tryz.f9) [1, 1, 1, 1, 1])] (⟨[(28, .csl 1 0 (1) (1)), (27, .val (coreP b)), (1, .val (coreP b))], [(1, .cells [.int .u8 (120)] 5)], 2⟩ : St))) rfl (by kernel_rfl) (by kernel_rfl) (by kernel_rfl) hs hR ?_
  have rest0 : ∀ {ρ : Env} {l : List (Nat × SV)} {k : Nat}, Rest ρ ⟨l, [], 1⟩ k := fun {_ _ _} _ _ _ h => nomatch h
  refine sbr (fun h1 => scall fun S ρ a w5 hs hR5 hS => ?_) (fun h1 => shand fun S ρ a w5 hs5 hR5 hS Q => ?_)
  · have hC5 := hC4.keep (J'' := fun _ => True) hR5.heap.since1 (fun k _ _ => rest0) rest0
    refine Calls.mono (tick_c hC5 hb2 hp4 (by omega) (by decide) (by decide)) fun r w6 hq => ?_
    obtain ⟨⟨A6, k6, rfl⟩, ⟨c6, x6, hC6, hp6⟩, hsn6⟩ := hq
    refine ⟨_, rfl, ?_⟩
    have hR := ((hR5.unbase.since hsn6 (fun _ _ _ h => nomatch h) (fun _ _ _ _ h => nomatch h) fun b' J' hb' k hk hlt => by
      obtain ⟨rfl, rfl⟩ := Prod.mk.inj (List.mem_singleton.1 hb')
      intro e
      have hlt : k < b'.heap.size := hlt
      omega).resV 25 (.slice A6 0 k6) rfl).snap
    refine go [ResultVar.tmp 0] 200 (fun r => .mark 0 (r.get []).st) rfl (by kernel_rfl) (by kernel_rfl) (by kernel_rfl) hs hR ?_
    have h1 : k < 4 := by simp at h1; omega
    refine smarkF fun ρ' a w7 hs' hR7 => ⟨k + 1, by show 4 - (k + 1) < 4 - k; omega, ⟨by omega, c6, x6, hC6.keep (J'' := fun _ => True) hR7.heap.since1 (fun k _ _ => rest0) rest0, hp6⟩, ρ', hs', ?_⟩
    exact (hR7.unbase.spell64 3 (IntKind.i64.wrap ((k : Int) + 1)) ((k + 1 : Nat) : Int) (by kernel_rfl) hkw).into (by kernel_rfl) (by kernel_rfl) rfl (ltT_nil _)
  have hk : k = 4 := by simp at h1; omega
  subst hk
  have hl4 : Lead c4 1 0 := by
    rcases hp4 with ⟨h, _⟩ | ⟨_, h, _⟩
    · exact absurd h (by decide)
    · exact h
  have hc5 := hR5.heap.cells 1 _ _ (getT_mem rfl)
  have hl5 : ρ.nu 1 < w5.heap.size := (Array.getElem?_eq_some_iff.1 hc5).1
  have hf5 : ρ.nu 1 ≥ w4.heap.size := hR5.heap.free w4 _ List.mem_cons_self 1 _ _ (getT_mem rfl) rest0
  have hB5 : Bytes (fun k => k = ρ.nu 1) w5 (.slice (some ⟨ρ.nu 1, 0, none⟩) 1 1) [120] := (hR5.slc1 1 [.int .u8 120] 5 rfl rfl).same (el' := elB [120]) fun i hi => by
    obtain rfl : i = 0 := by omega
    rfl
  refine hand_val (some 29) (by kernel_rfl) (x := .slice (some ⟨ρ.nu 1, 0, none⟩) 1 1) (w' := w5.freeze ⟨ρ.nu 1, 1, none⟩ 1) ?_ ?_
  · have eo : (opNth (bodyOf Tryz.f9) [1, 1, 1, 1, 0] 2).op = .convert 33 33 (.tmp 28) := by kernel_rfl
    have e1 := hR5.ev (.tmp 28) (.csl 1 0 1 1) rfl
    have hu : Tryz.prog.underlying 33 = some (.slice 5) := by kernel_rfl
    have hv : Tryz.prog.underlying 5 = some (.int .u8) := by kernel_rfl
    have hc := convert_own (n := 1) (c := 1) hu hv hc5
    simp only [execOp, eo, e1, SV.den, Sem.run_bind]
    have hc : (convert 33 33 (.slice (some ⟨ρ.nu 1, 0, none⟩) 1 1)).run Tryz.prog w5 = .ok (.slice (some ⟨ρ.nu 1, 0, none⟩) 1 1) (w5.freeze ⟨ρ.nu 1, 1, none⟩ 1) := hc
    rw [hc]
    rfl
  have hs6 : Since w5 (fun k => k ≠ ρ.nu 1) (w5.freeze ⟨ρ.nu 1, 1, none⟩ 1) := since_freeze w5 ⟨ρ.nu 1, 1, none⟩ 1
  have hB6 := hB5.freeze ⟨ρ.nu 1, 1, none⟩ 1
  generalize w5.freeze ⟨ρ.nu 1, 1, none⟩ 1 = w6 at hs6 hB6 ⊢
  have hbl := hC4.lt
  have hC6 := hC4.keep (J'' := fun _ => True) (hR5.heap.since1.trans hs6 fun k hk hlt e => by
    have e : k = ρ.nu 1 := e
    omega) (fun k _ _ => rest0) rest0
  have hR := (((hR5.into (st' := ⟨[(27, .val (coreP b)), (1, .val (coreP b))], [], 2⟩) (by kernel_rfl) (by kernel_rfl) rfl (ltT_nil _)).unbase.since hs6 (fun _ _ _ h => nomatch h) (fun _ _ _ _ h => nomatch h) fun b' J' hb' k hk hlt => by
    obtain ⟨rfl, rfl⟩ := Prod.mk.inj (List.mem_singleton.1 hb')
    intro e
    have hlt : k < b'.heap.size := hlt
    omega).resV 29 (.slice (some ⟨ρ.nu 1, 0, none⟩) 1 1) rfl).snap
  have hs := hs5
  refine go [ResultVar.tmp 0] 200 (fun r => .call 7 [.val (coreP b), .int .i64 (1), .val (Value.slice (some { block := ρ.nu 1, off := 0 }) 1 1)] (some 30) [.ops (opsAt (bodyOf Go.Proofs.Tryz.f9) [1, 1, 1, 1, 0]) (List.drop 4 (opsAt (bodyOf Go.Proofs.Tryz.f9) [1, 1, 1, 1, 0])), .code (codeAt (bodyOf Go.Proofs.Tryz.f9) [1, 1, 1, 1, 1])] (⟨[(1, .val (coreP b))], [], 2⟩ : St)) rfl (by kernel_rfl) (by kernel_rfl) (by kernel_rfl) hs hR ?_
  refine scall fun S ρ a w7 hs hR7 hS => ?_
  have rest2 : ∀ {ρ : Env} {l : List (Nat × SV)} {k : Nat}, Rest ρ ⟨l, [], 2⟩ k := fun {_ _ _} _ _ _ h => nomatch h
  have hC7 := hC6.keep (J'' := fun _ => True) hR7.heap.since1 (fun k _ _ => rest2) rest2
  have hB7 := (hB6.keep hR7.heap.since1 (fun k _ _ => rest2)).weak (J' := fun k => k ≠ b) fun k hk => by
    intro e
    have hk : k = _ := hk
    omega
  refine Calls.mono (prop_c (data := [120]) hC7 hb2 hl4 (by decide) hB7 (by decide)) fun r w8 hq => ?_
  obtain ⟨⟨A8, k8, rfl⟩, ⟨c8, x8, hC8, hl8, _⟩, hsn8⟩ := hq
  refine ⟨_, rfl, ?_⟩
  have hR := ((hR7.unbase.since hsn8 (fun _ _ _ h => nomatch h) (fun _ _ _ _ h => nomatch h) fun b' J' hb' k hk hlt => by
    obtain ⟨rfl, rfl⟩ := Prod.mk.inj (List.mem_singleton.1 hb')
    intro e
    have hlt : k < b'.heap.size := hlt
    omega).res (d := 30) (v := .tup [.int .i64 2, .val (.slice A8 0 k8), .err 54 none]) rfl rfl rfl rfl).snap
  refine go [ResultVar.tmp 0] 200 (fun r => .call 6 [.val (coreP b)] (some 35) [.ops (opsAt (bodyOf Go.Proofs.Tryz.f9) [1, 1, 1, 1, 1, 0]) (List.drop 2 (opsAt (bodyOf Go.Proofs.Tryz.f9) [1, 1, 1, 1, 1, 0])), .code (codeAt (bodyOf Go.Proofs.Tryz.f9) [1, 1, 1, 1, 1, 1])] (⟨[(6, .err 54 (none)), (4, .int .i64 (2))], [], 2⟩ : St)) rfl (by kernel_rfl) (by kernel_rfl) (by kernel_rfl) hs hR ?_
  refine scall fun S ρ a w9 hs hR9 hS => Calls.mono (view_c (hC8.keep (J'' := fun _ => True) hR9.heap.since1 (fun k _ _ => rest2) rest2) hl8) fun r w10 hq => ?_
  obtain ⟨rfl, hsn10⟩ := hq
  refine ⟨_, rfl, ?_⟩
  have hR := (hR9.unbase.pure hsn10).res (d := 35) (v := .agg [.int .i64 2, .int .i64 1, .int .i64 2, .int .i64 0]) rfl rfl rfl rfl
  refine go [ResultVar.tmp 0] 200 (fun r => .ret (.bool (true)) (⟨[], [(2, .cells [.int .i64 (2), .int .i64 (1), .int .i64 (2), .int .i64 (0)] 39)], 3⟩ : St)) rfl (by kernel_rfl) (by kernel_rfl) (by kernel_rfl) hs hR ?_
  exact sret fun ρ w hs hH => ⟨rfl, hH.since0⟩
end Go.Sx
