/- Walks of package raft, thirteenth part: a new member, from what has no entries. -/
import Derived.Test.YtkidnihjihcjcaaGreatDoorWCore9
set_option linter.unusedSimpArgs false
set_option linter.unusedVariables false
set_option maxRecDepth 20000
namespace Go.Sx
open Go.Proofs
variable {J J' : Nat → Prop} {w0 : World} {b : Nat} {c : Core} {x : CoreV}
theorem Rest.key {ρ : Env} {st : St} {k i : Nat} (hT : keysT st.tbl = [i]) (hk : k ≠ ρ.nu i) : Rest ρ st k := fun id cs t hm e => by
  have := keysT_mem hm
  rw [hT] at this
  obtain rfl := List.mem_singleton.1 this
  exact hk e
theorem Row.lt {J : Nat → Prop} {w : World} {A : Option Addr} {sz n : Nat} {el : Nat → List SV} (h : Row J w A sz n el) : Row (fun k => J k ∧ k < w.heap.size) w A sz n el := fun i hi => by
  obtain ⟨ad, h1, h2, h3, h4, h5⟩ := h i hi
  exact ⟨ad, h1, h2, h3, ⟨h4, h3⟩, h5⟩
theorem Slc.lt {J : Nat → Prop} {w : World} {v : Value} {sz n : Nat} {el : Nat → List SV} (h : Slc J w v sz n el) : Slc (fun k => J k ∧ k < w.heap.size) w v sz n el := by
  obtain ⟨A, c, h1, h2, h4⟩ := h
  exact ⟨A, c, h1, h2, h4.lt⟩
theorem Ents.lt {J : Nat → Prop} {w : World} {v : Value} {l : List Ent} (h : Ents J w v l) : Ents (fun k => J k ∧ k < w.heap.size) w v l := by
  obtain ⟨D, C, h1, h2⟩ := h
  exact ⟨D, C, h1.lt, fun i hi => (h2 i hi).lt⟩
theorem KeptR.lt {J : Nat → Prop} {w : World} {s : Kept} {x : KV} (h : KeptR J w s x) : KeptR (fun k => J k ∧ k < w.heap.size) w s x := ⟨h.log.lt, h.conf.lt, h.snap.lt⟩
theorem indexFunc0_c (A : Option Addr) (k : Nat) (cl : Value) :
    Calls Tryz.prog 80 #[.slice A 0 k, cl] w0 (fun r w' => r = .returned (.int .i64 (-1)) ∧ Since w0 (fun _ => True) w') := by
  refine enterP 19 [.val (.slice A 0 k), .val cl] Tryz.func80 rfl rfl rfl rfl rfl fun a hR => ?_
  have hs := Env.Same.refl 0 env0
  refine go [ResultVar.tmp 4] 200 (fun r => .stop [.code (codeAt (bodyOf Go.Proofs.Tryz.f80) [1, 0, 1, 0]), .blk 0, .code (codeAt (bodyOf Go.Proofs.Tryz.f80) [1, 1])] (⟨[(8, .int .i64 (0)), (7, .int .i64 ((↑0 : Int))), (4, .int .i64 (0)), (0, .val (Value.slice A 0 k)), (1, .val (cl))], [], 0⟩ : St)) rfl (by kernel_rfl) (by kernel_rfl) (by kernel_rfl) hs hR ?_
  refine sstop fun S ρ a w3 hs hR3 hS => ?_
  let F : Nat → St := fun _ => ⟨[(7, .int .i64 0), (8, .int .i64 0)], [], 0⟩
  refine loopF (N := 19) (B := B0 w0) 0 F (fun _ _ => True) (fun i => i) 0 (by kernel_rfl) (by kernel_rfl) hs trivial (hR3.into (by kernel_rfl) (by kernel_rfl) rfl (ltT_nil _)) ?_
  rintro _ ρ a w4 hs _ hR4
  refine go [ResultVar.tmp 4] 200 (fun r => .br (false) (.hand (opNth (bodyOf Go.Proofs.Tryz.f80) [1, 0, 1, 0, 0, 1, 1, 0, 0, 1, 0] 0) [.ops (opsAt (bodyOf Go.Proofs.Tryz.f80) [1, 0, 1, 0, 0, 1, 1, 0, 0, 1, 0]) (List.drop 1 (opsAt (bodyOf Go.Proofs.Tryz.f80) [1, 0, 1, 0, 0, 1, 1, 0, 0, 1, 0])), .code (codeAt (bodyOf Go.Proofs.Tryz.f80) [1, 0, 1, 0, 0, 1, 1, 0, 0, 1, 1]), .blk 1, .code (codeAt (bodyOf Go.Proofs.Tryz.f80) [1, 0, 1, 0, 0, 1, 1, 1]), .mark 0, .code (codeAt (bodyOf Go.Proofs.Tryz.f80) [1, 0, 1, 0]), .blk 0, .code (codeAt (bodyOf Go.Proofs.Tryz.f80) [1, 1])] (⟨[(5, .int .i64 (0)), (10, .int .i64 (0)), (9, .lit true), (7, .int .i64 (0)), (8, .int .i64 (0))], [], 0⟩ : St)) (.ret (.int .i64 (-1)) (⟨[], [], 0⟩ : St))) rfl (by kernel_rfl) (by kernel_rfl) (by kernel_rfl) hs hR4 ?_
  exact sbr (fun h1 => absurd h1 (by decide)) (fun _ => sret fun ρ w hs hH => ⟨rfl, hH.since0⟩)
theorem containsFunc0_c (A : Option Addr) (k : Nat) (cl : Value) :
    Calls Tryz.prog 60 #[.slice A 0 k, cl] w0 (fun r w' => r = .returned (.bool false) ∧ Since w0 (fun _ => True) w') := by
  refine enterP 9 [.val (.slice A 0 k), .val cl] Tryz.func60 rfl rfl rfl rfl rfl fun a hR => ?_
  have hs := Env.Same.refl 0 env0
  refine go [ResultVar.tmp 4] 200 (fun r => .call 80 [.val (Value.slice A 0 k), .val (cl)] (some 7) [.ops (opsAt (bodyOf Go.Proofs.Tryz.f60) [1, 0]) (List.drop 3 (opsAt (bodyOf Go.Proofs.Tryz.f60) [1, 0])), .code (codeAt (bodyOf Go.Proofs.Tryz.f60) [1, 1])] (⟨[(4, .lit false)], [], 0⟩ : St)) rfl (by kernel_rfl) (by kernel_rfl) (by kernel_rfl) hs hR ?_
  refine scall fun S ρ a w1 hs hR1 hS => Calls.mono (indexFunc0_c A k cl) fun r w2 hq => ?_
  obtain ⟨rfl, hsn⟩ := hq
  refine ⟨_, rfl, ?_⟩
  have hR := (hR1.pure hsn).res (d := 7) (v := .int .i64 (-1)) rfl rfl rfl rfl
  refine go [ResultVar.tmp 4] 200 (fun r => .ret (.bool (false)) (⟨[], [], 0⟩ : St)) rfl (by kernel_rfl) (by kernel_rfl) (by kernel_rfl) hs hR ?_
  exact sret fun ρ w hs hH => ⟨rfl, hH.since0⟩
theorem readable0_c (A : Option Addr) (k : Nat) :
    Calls Tryz.prog 33 #[.slice A 0 k] w0 (fun r w' => r = .returned (.bool true) ∧ Since w0 (fun _ => True) w') := by
  refine enterP 6 [.val (.slice A 0 k)] Tryz.func33 rfl rfl rfl rfl rfl fun a hR => ?_
  have hs := Env.Same.refl 0 env0
  refine go [ResultVar.tmp 2] 200 (fun r => .call 60 [.val (Value.slice A 0 k), .val (Value.func (Fn.func 61) #[] #[])] (some 4) [.ops (opsAt (bodyOf Go.Proofs.Tryz.f33) [1, 0]) (List.drop 2 (opsAt (bodyOf Go.Proofs.Tryz.f33) [1, 0])), .code (codeAt (bodyOf Go.Proofs.Tryz.f33) [1, 1])] (⟨[(2, .lit false)], [], 0⟩ : St)) rfl (by kernel_rfl) (by kernel_rfl) (by kernel_rfl) hs hR ?_
  refine scall fun S ρ a w1 hs hR1 hS => Calls.mono (containsFunc0_c A k _) fun r w2 hq => ?_
  obtain ⟨rfl, hsn⟩ := hq
  refine ⟨_, rfl, ?_⟩
  have hR := (hR1.pure hsn).res (d := 4) (v := .lit false) rfl rfl rfl rfl
  refine go [ResultVar.tmp 2] 200 (fun r => .ret (.lit true) (⟨[], [], 0⟩ : St)) rfl (by kernel_rfl) (by kernel_rfl) (by kernel_rfl) hs hR ?_
  exact sret fun ρ w hs hH => ⟨rfl, hH.since0⟩
theorem keptMay0_c {s : Kept} {x : KV} (h : KeptR J w0 s x) (hw : s.wf) (hm : s.log.may = true) (h0 : s.log.l.length = 0) (hc : confMay s.conf = true) (h1 : s.log.lastT.2 ≤ s.term) (h2 : s.term ≤ 1099511627776) (h3 : 0 ≤ s.vote) (h4 : s.vote ≤ 64) :
    Calls Tryz.prog 14 #[(keptS s x).den env0] w0 (fun r w' => r = .returned (.bool true) ∧ Since w0 (fun _ => True) w') := by
  refine enterP 47 [keptS s x] Tryz.func14 rfl rfl rfl rfl rfl fun a hR => ?_
  have hs := Env.Same.refl 0 env0
  refine go [ResultVar.tmp 2] 200 (fun r => .call 31 [.agg [.int .i64 (s.log.base), .int .i64 (s.log.term), .val (Value.slice x.LA s.log.l.length x.Lc)]] (some 7) [.ops (opsAt (bodyOf Go.Proofs.Tryz.f14) [1, 0, 0]) (List.drop 3 (opsAt (bodyOf Go.Proofs.Tryz.f14) [1, 0, 0])), .code (codeAt (bodyOf Go.Proofs.Tryz.f14) [1, 0, 1]), .code (codeAt (bodyOf Go.Proofs.Tryz.f14) [1, 1])] (⟨[(2, .lit false), (1, .ptr 0 0)], [(0, .cells [.int .i64 (s.term), .int .i64 (s.vote), .int .i64 (s.log.base), .int .i64 (s.log.term), .val (Value.slice x.LA s.log.l.length x.Lc), .val (Value.slice x.CA s.conf.length x.Cc), .val (Value.slice x.SA s.snap.length x.Sc)] 35)], 1⟩ : St)) rfl (by kernel_rfl) (by kernel_rfl) (by kernel_rfl) hs hR ?_
  refine scall fun S ρ a w1 hs hR1 hS => Calls.mono (Check_c (h.log.keep hR1.heap.since0 fun _ _ _ => trivial) hw.log) fun r w2 hq => ?_
  rw [hm] at hq
  obtain ⟨rfl, hsn⟩ := hq
  refine ⟨_, rfl, ?_⟩
  have hR := (hR1.pure hsn).res (d := 7) (v := .err 54 none) rfl rfl rfl rfl
  refine go [ResultVar.tmp 2] 200 (fun r => .br (false) (.ret (.lit false) (⟨[], [(0, .cells [.int .i64 (s.term), .int .i64 (s.vote), .int .i64 (s.log.base), .int .i64 (s.log.term), .val (Value.slice x.LA s.log.l.length x.Lc), .val (Value.slice x.CA s.conf.length x.Cc), .val (Value.slice x.SA s.snap.length x.Sc)] 35)], 1⟩ : St)) (.call 32 [.val (Value.slice x.CA s.conf.length x.Cc)] (some 12) [.ops (opsAt (bodyOf Go.Proofs.Tryz.f14) [1, 0, 0]) (List.drop 8 (opsAt (bodyOf Go.Proofs.Tryz.f14) [1, 0, 0])), .code (codeAt (bodyOf Go.Proofs.Tryz.f14) [1, 0, 1]), .code (codeAt (bodyOf Go.Proofs.Tryz.f14) [1, 1])] (⟨[(9, .lit false), (2, .lit false), (1, .ptr 0 0)], [(0, .cells [.int .i64 (s.term), .int .i64 (s.vote), .int .i64 (s.log.base), .int .i64 (s.log.term), .val (Value.slice x.LA s.log.l.length x.Lc), .val (Value.slice x.CA s.conf.length x.Cc), .val (Value.slice x.SA s.snap.length x.Sc)] 35)], 1⟩ : St))) rfl (by kernel_rfl) (by kernel_rfl) (by kernel_rfl) hs hR ?_
  refine sbr (fun h1 => absurd h1 (by decide)) (fun _ => scall fun S ρ a w3 hs hR3 hS => Calls.mono (confCheck_c (h.conf.keep hR3.heap.since0 fun _ _ _ => trivial) hw.conf) fun r w4 hq => ?_)
  rw [hc] at hq
  obtain ⟨rfl, hsn4⟩ := hq
  refine ⟨_, rfl, ?_⟩
  have hR := (hR3.pure hsn4).res (d := 12) (v := .err 54 none) rfl rfl rfl rfl
  refine go [ResultVar.tmp 2] 200 (fun r => .br (false) (.ret (.lit false) (⟨[], [(0, .cells [.int .i64 (s.term), .int .i64 (s.vote), .int .i64 (s.log.base), .int .i64 (s.log.term), .val (Value.slice x.LA s.log.l.length x.Lc), .val (Value.slice x.CA s.conf.length x.Cc), .val (Value.slice x.SA s.snap.length x.Sc)] 35)], 1⟩ : St)) (.call 33 [.val (Value.slice x.LA s.log.l.length x.Lc)] (some 19) [.ops (opsAt (bodyOf Go.Proofs.Tryz.f14) [1, 0, 0]) (List.drop 15 (opsAt (bodyOf Go.Proofs.Tryz.f14) [1, 0, 0])), .code (codeAt (bodyOf Go.Proofs.Tryz.f14) [1, 0, 1]), .code (codeAt (bodyOf Go.Proofs.Tryz.f14) [1, 1])] (⟨[(15, .lit false), (2, .lit false), (1, .ptr 0 0)], [(0, .cells [.int .i64 (s.term), .int .i64 (s.vote), .int .i64 (s.log.base), .int .i64 (s.log.term), .val (Value.slice x.LA s.log.l.length x.Lc), .val (Value.slice x.CA s.conf.length x.Cc), .val (Value.slice x.SA s.snap.length x.Sc)] 35)], 1⟩ : St))) rfl (by kernel_rfl) (by kernel_rfl) (by kernel_rfl) hs hR ?_
  refine sbr (fun h1 => absurd h1 (by decide)) (fun _ => scall fun S ρ a w5 hs hR5 hS => ?_)
  have e5 : (denL ρ [.val (.slice x.LA s.log.l.length x.Lc)]).toArray = #[.slice x.LA 0 x.Lc] := by rw [h0]; rfl
  rw [e5]
  refine Calls.mono (readable0_c x.LA x.Lc) fun r w6 hq => ?_
  obtain ⟨rfl, hsn6⟩ := hq
  refine ⟨_, rfl, ?_⟩
  have hR := (hR5.pure hsn6).res (d := 19) (v := .lit true) rfl rfl rfl rfl
  refine go [ResultVar.tmp 2] 200 (fun r => .call 34 [.agg [.int .i64 (s.log.base), .int .i64 (s.log.term), .val (Value.slice x.LA s.log.l.length x.Lc)]] (some 25) [.ops (opsAt (bodyOf Go.Proofs.Tryz.f14) [1, 1, 0]) (List.drop 3 (opsAt (bodyOf Go.Proofs.Tryz.f14) [1, 1, 0])), .code (codeAt (bodyOf Go.Proofs.Tryz.f14) [1, 1, 1])] (⟨[(2, .lit false), (1, .ptr 0 0)], [(0, .cells [.int .i64 (s.term), .int .i64 (s.vote), .int .i64 (s.log.base), .int .i64 (s.log.term), .val (Value.slice x.LA s.log.l.length x.Lc), .val (Value.slice x.CA s.conf.length x.Cc), .val (Value.slice x.SA s.snap.length x.Sc)] 35)], 1⟩ : St)) rfl (by kernel_rfl) (by kernel_rfl) (by kernel_rfl) hs hR ?_
  refine scall fun S ρ a w7 hs hR7 hS => Calls.mono (LastT_c (h.log.keep hR7.heap.since0 fun _ _ _ => trivial) hw.log) fun r w8 hq => ?_
  obtain ⟨rfl, hsn8⟩ := hq
  refine ⟨_, rfl, ?_⟩
  have hR := (hR7.pure hsn8).res (d := 25) (v := .tup [.int .i64 s.log.lastT.1, .int .i64 s.log.lastT.2]) rfl rfl rfl rfl
  refine go [ResultVar.tmp 2] 200 (fun r => .ret (.bool (decide (s.term ≥ s.log.lastT.snd) && decide (s.term ≤ 1099511627776) && decide (s.vote ≥ 0) && decide (s.vote ≤ 64))) (⟨[], [(0, .cells [.int .i64 (s.term), .int .i64 (s.vote), .int .i64 (s.log.base), .int .i64 (s.log.term), .val (Value.slice x.LA s.log.l.length x.Lc), .val (Value.slice x.CA s.conf.length x.Cc), .val (Value.slice x.SA s.snap.length x.Sc)] 35)], 1⟩ : St)) rfl (by kernel_rfl) (by kernel_rfl) (by kernel_rfl) hs hR ?_
  refine sret fun ρ w hs hH => ⟨?_, hH.since0⟩
  show Ending.returned (.bool _) = _
  congr 2
  simp
  omega
/-- A new member. -/
def Core.new (id span : Int) (s : Kept) (draw : Int) : Core := (⟨s.term, s.vote, s.log, s.conf, s.snap, 0, 0, s.log.base, 0, id, span, 0, 0, []⟩ : Core).draws draw
theorem New0_c {s : Kept} {x : KV} (id span draw : Int) (h : KeptR J w0 s x) (hw : s.wf) (hm : s.log.may = true) (h0 : s.log.l.length = 0) (hc : confMay s.conf = true) (h1 : s.log.lastT.2 ≤ s.term) (h2 : s.term ≤ 1099511627776) (h3 : 0 ≤ s.vote) (h4 : s.vote ≤ 64)
    (hi1 : 1 ≤ id) (hi2 : id ≤ 64) (hs1 : 2 ≤ span) (hs2 : span ≤ 1000) :
    Calls Tryz.prog 4 #[.int .i64 id, .int .i64 span, (keptS s x).den env0, .int .i64 draw] w0 (fun r w' => ∃ b x', r = .returned (.tuple #[coreP b, .nilIface]) ∧ CoreR (fun k => k ≠ b ∧ w0.heap.size ≤ k) w' b (Core.new id span s draw) x' ∧ w0.heap.size ≤ b ∧ Since w0 (fun _ => True) w') := by
  refine enterP 49 [.int .i64 id, .int .i64 span, keptS s x, .int .i64 draw] Tryz.func4 rfl rfl rfl rfl rfl fun a hR => ?_
  have hs := Env.Same.refl 0 env0
  refine go [ResultVar.tmp 8, ResultVar.tmp 9] 200 (fun r => .br (decide (id < 1) || decide (id > 64) || decide (span < 2) || decide (span > 1000)) (.ret (.tup [.val (Value.pointer none), .err 54 (some 1)]) (⟨[], [(0, .cells [.int .i64 (s.term), .int .i64 (s.vote), .int .i64 (s.log.base), .int .i64 (s.log.term), .val (Value.slice x.LA s.log.l.length x.Lc), .val (Value.slice x.CA s.conf.length x.Cc), .val (Value.slice x.SA s.snap.length x.Sc)] 35)], 1⟩ : St)) (.call 14 [.agg [.int .i64 (s.term), .int .i64 (s.vote), .int .i64 (s.log.base), .int .i64 (s.log.term), .val (Value.slice x.LA s.log.l.length x.Lc), .val (Value.slice x.CA s.conf.length x.Cc), .val (Value.slice x.SA s.snap.length x.Sc)]] (some 27) [.ops (opsAt (bodyOf Go.Proofs.Tryz.f4) [1, 0, 0]) (List.drop 17 (opsAt (bodyOf Go.Proofs.Tryz.f4) [1, 0, 0])), .code (codeAt (bodyOf Go.Proofs.Tryz.f4) [1, 0, 1]), .code (codeAt (bodyOf Go.Proofs.Tryz.f4) [1, 1])] (⟨[(25, .lit false), (9, .err 0 (none)), (8, .val (Value.pointer none)), (6, .ptr 0 0), (0, .int .i64 (id)), (1, .int .i64 (span)), (3, .int .i64 (draw))], [(0, .cells [.int .i64 (s.term), .int .i64 (s.vote), .int .i64 (s.log.base), .int .i64 (s.log.term), .val (Value.slice x.LA s.log.l.length x.Lc), .val (Value.slice x.CA s.conf.length x.Cc), .val (Value.slice x.SA s.snap.length x.Sc)] 35)], 1⟩ : St))) rfl (by kernel_rfl) (by kernel_rfl) (by kernel_rfl) hs hR ?_
  refine sbr (fun h1 => ?_) (fun _ => scall fun S ρ a w1 hs hR1 hS => Calls.mono (keptMay0_c (h.keep hR1.heap.since0 fun _ _ _ => trivial) hw hm h0 hc h1 h2 h3 h4) fun r w2 hq => ?_)
  · simp at h1
    omega
  obtain ⟨rfl, hsn⟩ := hq
  refine ⟨_, rfl, ?_⟩
  have hR := (hR1.pure hsn).res (d := 27) (v := .lit true) rfl rfl rfl rfl
  refine go [ResultVar.tmp 8, ResultVar.tmp 9] 200 (fun r => .call 15 [.agg [.int .i64 (s.term), .int .i64 (s.vote), .int .i64 (s.log.base), .int .i64 (s.log.term), .val (Value.slice x.LA s.log.l.length x.Lc), .val (Value.slice x.CA s.conf.length x.Cc), .val (Value.slice x.SA s.snap.length x.Sc)]] (some 32) [.ops (opsAt (bodyOf Go.Proofs.Tryz.f4) [1, 1, 0]) (List.drop 2 (opsAt (bodyOf Go.Proofs.Tryz.f4) [1, 1, 0])), .code (codeAt (bodyOf Go.Proofs.Tryz.f4) [1, 1, 1])] (⟨[(9, .err 0 (none)), (8, .val (Value.pointer none)), (6, .ptr 0 0), (0, .int .i64 (id)), (1, .int .i64 (span)), (3, .int .i64 (draw))], [(0, .cells [.int .i64 (s.term), .int .i64 (s.vote), .int .i64 (s.log.base), .int .i64 (s.log.term), .val (Value.slice x.LA s.log.l.length x.Lc), .val (Value.slice x.CA s.conf.length x.Cc), .val (Value.slice x.SA s.snap.length x.Sc)] 35)], 1⟩ : St)) rfl (by kernel_rfl) (by kernel_rfl) (by kernel_rfl) hs hR ?_
  refine scall fun S ρ3 a w3 hs hR3 hS => ?_
  have hc3 := own_kept_c (h.keep hR3.heap.since0 fun _ _ _ => trivial) hw hm
  refine Calls.mono hc3 fun r w4 hq => ?_
  obtain ⟨y, rfl, hK4, hsn4⟩ := hq
  refine ⟨_, rfl, ?_⟩
  have hz3 := hR3.heap.since0.size
  have hR := ((hR3.pure hsn4).res (d := 32) (v := keptS s y) rfl rfl rfl rfl).snap
  have hs := Env.Same.refl 1 ρ3
  refine go [ResultVar.tmp 8, ResultVar.tmp 9] 200 (fun r => .hand (opNth (bodyOf Go.Proofs.Tryz.f4) [1, 1, 0] 4) [.ops (opsAt (bodyOf Go.Proofs.Tryz.f4) [1, 1, 0]) (List.drop 5 (opsAt (bodyOf Go.Proofs.Tryz.f4) [1, 1, 0])), .code (codeAt (bodyOf Go.Proofs.Tryz.f4) [1, 1, 1])] (⟨[(34, .int .i64 (span)), (33, .int .i64 (id)), (32, .agg [.int .i64 (s.term), .int .i64 (s.vote), .int .i64 (s.log.base), .int .i64 (s.log.term), .val (Value.slice y.LA s.log.l.length y.Lc), .val (Value.slice y.CA s.conf.length y.Cc), .val (Value.slice y.SA s.snap.length y.Sc)]), (9, .err 0 (none)), (8, .val (Value.pointer none)), (6, .ptr 0 0), (3, .int .i64 (draw))], [(0, .cells [.int .i64 (s.term), .int .i64 (s.vote), .int .i64 (s.log.base), .int .i64 (s.log.term), .val (Value.slice x.LA s.log.l.length x.Lc), .val (Value.slice x.CA s.conf.length x.Cc), .val (Value.slice x.SA s.snap.length x.Sc)] 35)], 1⟩ : St)) rfl (by kernel_rfl) (by kernel_rfl) (by kernel_rfl) hs hR ?_
  refine shand fun S ρ5 a w5 hs5 hR5 hS Q => ?_
  have hz5 := hR5.heap.tail.since0.size
  have hK5 := hK4.keep hR5.heap.since1 fun k hk _ => hR3.rest hk
  refine hand_makeMap 35 (by kernel_rfl) (t := 55) (by kernel_rfl) hR5.unbase rfl fun w6 hs6 hm6 hR6 => ?_
  have hK6 := hK5.keep hs6 fun _ _ _ => trivial
  have hz6 := hs6.size
  have hrs := hR6.restObj hm6 rfl
  have hlt6 := (Array.getElem?_eq_some_iff.1 hm6).1
  generalize hq6 : w5.heap.size = q at hm6 hR6 hrs hlt6 ⊢
  have hR := hR6.snap
  have hs := Env.Same.refl 1 ρ5
  refine go [ResultVar.tmp 8, ResultVar.tmp 9] 200 (fun r => .call 16 [.ptr 1 0, .int .i64 (draw)] (some 47) [.ops (opsAt (bodyOf Go.Proofs.Tryz.f4) [1, 1, 1, 1, 0]) (List.drop 3 (opsAt (bodyOf Go.Proofs.Tryz.f4) [1, 1, 1, 1, 0])), .code (codeAt (bodyOf Go.Proofs.Tryz.f4) [1, 1, 1, 1, 1])] (⟨[(10, .ptr 1 0), (9, .err 0 (none)), (8, .val (Value.pointer none))], [(1, .cells [.int .i64 (s.term), .int .i64 (s.vote), .int .i64 (s.log.base), .int .i64 (s.log.term), .val (Value.slice y.LA s.log.l.length y.Lc), .val (Value.slice y.CA s.conf.length y.Cc), .val (Value.slice y.SA s.snap.length y.Sc), .int .i64 (0), .int .i64 (0), .int .i64 (s.log.base), .int .i64 (0), .int .i64 (id), .int .i64 (span), .int .i64 (0), .int .i64 (0), .val (Value.slice none 0 0), .val (Value.map (some q)), .int .i64 (0), .val (Value.slice none 0 0)] 59), (0, .cells [.int .i64 (s.term), .int .i64 (s.vote), .int .i64 (s.log.base), .int .i64 (s.log.term), .val (Value.slice x.LA s.log.l.length x.Lc), .val (Value.slice x.CA s.conf.length x.Cc), .val (Value.slice x.SA s.snap.length x.Sc)] 35)], 2⟩ : St)) rfl (by kernel_rfl) (by kernel_rfl) (by kernel_rfl) hs hR ?_
  refine scall fun S ρ7 a w7 hs7 hR7 hS => ?_
  have e0 : ρ7.nu 0 = ρ5.nu 0 := (hs7 0 (by decide)).1.symm
  have hb : ρ7.nu 1 ≠ ρ5.nu 0 := fun e => hR7.heap.apart 1 _ _ 0 _ _ (getT_mem rfl) (getT_mem rfl) (by decide) (e.trans e0.symm)
  have hf : w6.heap.size ≤ ρ7.nu 1 := by
    refine hR7.heap.free w6 _ List.mem_cons_self 1 _ _ (getT_mem rfl) ?_
    exact Rest.key rfl hb
  have h05 : ρ5.nu 0 < w3.heap.size := by
    have := hR3.below (getT_mem (i := 0) rfl)
    rw [(hs5 0 (by decide)).1] at this
    exact this
  have hK7 := hK6.lt.keep hR7.heap.since1 fun k hk _ => Rest.key rfl (by intro e; omega)
  have hm7 := hR7.heap.since1.at hm6 hrs
  have hO7 : CoreO (fun k => k ≠ ρ7.nu 1 ∧ w0.heap.size ≤ k) w7 ⟨s.term, s.vote, s.log, s.conf, s.snap, 0, 0, s.log.base, 0, id, span, 0, 0, []⟩ ⟨y, none, 0, q, 0, none, 0, 0⟩ :=
    ⟨hK7.weak fun k hk => by refine ⟨?_, ?_⟩ <;> omega, ⟨none, 0, rfl, Nat.le_refl _, Row.nil _ _ _ _ _⟩, hm7, by refine ⟨?_, ?_⟩ <;> (show _; dsimp only; omega)⟩
  have hC7 := hO7.r (b := ρ7.nu 1) (by
    rw [hR7.heap.cells 1 _ _ (getT_mem rfl)]
    rfl)
  have hC7' := draws_c hC7 (by simp) draw hs1 hs2
  refine Calls.mono hC7' fun r w8 hq => ?_
  obtain ⟨rfl, hC8, hsn8⟩ := hq
  refine ⟨_, rfl, ?_⟩
  have hR := (((hR7.recell 1 _ (coreS (Core.new id span s draw) ⟨y, none, 0, q, 0, none, 0, 0⟩) _ rfl hsn8 (by rw [hC8.cell]; rfl) rfl).resV 47 (.tuple #[]) rfl).into (st' := ⟨[(10, .ptr 1 0)], [(1, .cells (coreS (Core.new id span s draw) ⟨y, none, 0, q, 0, none, 0, 0⟩) 59)], 2⟩) (by kernel_rfl) (by kernel_rfl) rfl (ltT_cells rfl rfl (ltT_nil _))).snap
  have hs := Env.Same.refl 2 ρ7
  refine go [ResultVar.tmp 8, ResultVar.tmp 9] 200 (fun r => .ret (.tup [.ptr 1 0, .err 0 (none)]) (⟨[], [(1, .cells [.int .i64 ((Core.new id span s draw).term), .int .i64 ((Core.new id span s draw).vote), .int .i64 ((Core.new id span s draw).log.base), .int .i64 ((Core.new id span s draw).log.term), .val (Value.slice y.LA (Core.new id span s draw).log.l.length y.Lc), .val (Value.slice y.CA (Core.new id span s draw).conf.length y.Cc), .val (Value.slice y.SA (Core.new id span s draw).snap.length y.Sc), .int .i64 ((Core.new id span s draw).role), .int .i64 ((Core.new id span s draw).leader), .int .i64 ((Core.new id span s draw).commit), .int .i64 ((Core.new id span s draw).round), .int .i64 ((Core.new id span s draw).id), .int .i64 ((Core.new id span s draw).span), .int .i64 ((Core.new id span s draw).gone), .int .i64 ((Core.new id span s draw).wait), .val (Value.slice none (Core.new id span s draw).votes.length 0), .val (Value.map (some q)), .int .i64 (0), .val (Value.slice none 0 0)] 59)], 2⟩ : St)) rfl (by kernel_rfl) (by kernel_rfl) (by kernel_rfl) hs hR ?_
  refine sret fun ρ w hs hH => ⟨ρ7.nu 1, _, ?_, (hC8.o.keep hH.since1 fun k hk _ => Rest.key rfl hk.1).r ?_, by omega, hH.tail.tail.since0⟩
  · show Ending.returned (.tuple #[.pointer (some ⟨ρ.nu 1, 0, none⟩), .nilIface]) = _
    rw [← (hs 1 (by decide)).1]
  · have := hH.cells 1 _ _ (getT_mem rfl)
    rw [← (hs 1 (by decide)).1] at this
    rw [this]
    rfl
end Go.Sx
