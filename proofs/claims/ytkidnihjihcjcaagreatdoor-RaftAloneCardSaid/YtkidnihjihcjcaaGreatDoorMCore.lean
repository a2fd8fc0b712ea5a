/- What a member is: its cells, what they read as. -/
import Derived.Test.YtkidnihjihcjcaaGreatDoorWEntry4
import Derived.Test.YtkidnihjihcjcaaGreatDoorWConf2
set_option linter.unusedSimpArgs false
set_option linter.unusedVariables false
namespace Go.Sx
open Go.Proofs
structure Core where
  term : Int
  vote : Int
  log : Lg
  conf : List Int
  snap : List UInt8
  role : Int
  leader : Int
  commit : Int
  round : Int
  id : Int
  span : Int
  gone : Int
  wait : Int
  votes : List Int
/-- The addresses and capacities of what is kept. -/
structure KV where
  LA : Option Addr
  Lc : Nat
  CA : Option Addr
  Cc : Nat
  SA : Option Addr
  Sc : Nat
structure CoreV where
  k : KV
  VA : Option Addr
  Vc : Nat
  pe : Nat
  bk : Int
  bA : Option Addr
  bn : Nat
  bc : Nat
structure Kept where
  term : Int
  vote : Int
  log : Lg
  conf : List Int
  snap : List UInt8
def Core.kept (c : Core) : Kept := ⟨c.term, c.vote, c.log, c.conf, c.snap⟩
def keptL (s : Kept) (x : KV) : List SV := [.int .i64 s.term, .int .i64 s.vote, .int .i64 s.log.base, .int .i64 s.log.term, .val (.slice x.LA s.log.l.length x.Lc), .val (.slice x.CA s.conf.length x.Cc), .val (.slice x.SA s.snap.length x.Sc)]
abbrev keptS (s : Kept) (x : KV) : SV := .agg (keptL s x)
structure KeptR (J : Nat → Prop) (w : World) (s : Kept) (x : KV) : Prop where
  log : Ents J w (.slice x.LA s.log.l.length x.Lc) s.log.l
  conf : Ints J w (.slice x.CA s.conf.length x.Cc) s.conf
  snap : Bytes J w (.slice x.SA s.snap.length x.Sc) s.snap
theorem KeptR.keep {J J' : Nat → Prop} {w w' : World} {s : Kept} {x : KV} (h : KeptR J w s x) (hs : Since w J' w') (hJ : ∀ k, J k → k < w.heap.size → J' k) : KeptR J w' s x :=
  ⟨h.log.keep hs hJ, h.conf.keep hs hJ, h.snap.keep hs hJ⟩
theorem KeptR.weak {J J' : Nat → Prop} {w : World} {s : Kept} {x : KV} (h : KeptR J w s x) (hJ : ∀ k, J k → J' k) : KeptR J' w s x :=
  ⟨h.log.weak hJ, h.conf.weak hJ, h.snap.weak hJ⟩
structure Kept.wf (s : Kept) : Prop where
  log : s.log.wf
  conf : s.conf.length ≤ 1099511627776
  snap : s.snap.length ≤ 1099511627776
def coreS (c : Core) (x : CoreV) : List SV :=
  [.int .i64 c.term, .int .i64 c.vote, .int .i64 c.log.base, .int .i64 c.log.term, .val (.slice x.k.LA c.log.l.length x.k.Lc), .val (.slice x.k.CA c.conf.length x.k.Cc), .val (.slice x.k.SA c.snap.length x.k.Sc),
    .int .i64 c.role, .int .i64 c.leader, .int .i64 c.commit, .int .i64 c.round, .int .i64 c.id, .int .i64 c.span, .int .i64 c.gone, .int .i64 c.wait, .val (.slice x.VA c.votes.length x.Vc), .val (.map (some x.pe)), .int .i64 x.bk, .val (.slice x.bA x.bn x.bc)]
abbrev coreP (b : Nat) : Value := .pointer (some ⟨b, 0, none⟩)
/-- A member, whose map of peers is empty. -/
structure CoreR (J : Nat → Prop) (w : World) (b : Nat) (c : Core) (x : CoreV) : Prop where
  cell : w.heap[b]? = some (.cells (denL env0 (coreS c x)).toArray 59 (0, 0))
  kept : KeptR J w c.kept x.k
  votes : Ints J w (.slice x.VA c.votes.length x.Vc) c.votes
  peers : w.heap[x.pe]? = some (.map #[] 0)
  pj : J x.pe
theorem CoreR.keep {J J' J'' : Nat → Prop} {w w' : World} {b : Nat} {c : Core} {x : CoreV} (h : CoreR J w b c x) (hs : Since w J' w') (hJ : ∀ k, J k → k < w.heap.size → J' k) (hb : J' b) : CoreR J w' b c x :=
  have lt : ∀ {k : Nat} {o : Obj}, w.heap[k]? = some o → k < w.heap.size := fun h => (Array.getElem?_eq_some_iff.1 h).1
  ⟨by rw [hs.block b hb (lt h.cell), h.cell], h.kept.keep hs hJ, h.votes.keep hs hJ, by rw [hs.block _ (hJ _ h.pj (lt h.peers)) (lt h.peers), h.peers], h.pj⟩
theorem CoreR.all {J J' : Nat → Prop} {w w' : World} {b : Nat} {c : Core} {x : CoreV} (h : CoreR J w b c x) (hs : Since w (fun _ => True) w') : CoreR J w' b c x :=
  h.keep (J'' := J) hs (fun _ _ _ => trivial) trivial
theorem CoreR.log {J : Nat → Prop} {w : World} {b : Nat} {c : Core} {x : CoreV} (h : CoreR J w b c x) : Ents J w (.slice x.k.LA c.log.l.length x.k.Lc) c.log.l := h.kept.log
theorem CoreR.conf {J : Nat → Prop} {w : World} {b : Nat} {c : Core} {x : CoreV} (h : CoreR J w b c x) : Ints J w (.slice x.k.CA c.conf.length x.k.Cc) c.conf := h.kept.conf
theorem CoreR.row {J : Nat → Prop} {w : World} {b : Nat} {c : Core} {x : CoreV} (h : CoreR J w b c x) : Row (fun _ => True) w (some ⟨b, 0, none⟩) 19 1 fun _ => coreS c x := fun i hi => by
  obtain rfl : i = 0 := by omega
  refine ⟨⟨b, 0, none⟩, rfl, rfl, (Array.getElem?_eq_some_iff.1 h.cell).1, trivial, rfl, rfl, fun j v hv => ?_⟩
  have := cells_cell (ρ := ⟨fun _ => b, fun _ => none⟩) (id := 0) (cs := coreS c x) (w := w) (t := 59) (fr := (0, 0)) (by
    rw [h.cell]; rfl) hv
  simp only [Nat.zero_mul, Nat.zero_add]
  rw [this]
  rw [SV.den_same (n := 0) (ρ := ⟨fun _ => 0, fun _ => none⟩) (ρ' := ⟨fun _ => b, fun _ => none⟩) (fun i hi => (by omega)) v (ltL_all.1 (show ltL 0 (coreS c x) = true from rfl) v (List.mem_of_getElem? hv))]
abbrev envC (b : Nat) : Env := ⟨fun _ => 0, fun _ => some ⟨b, 0, none⟩⟩
theorem denC (b : Nat) : (SV.ep 0 19 0 0).den (envC b) = coreP b := by simp [SV.den, Env.ad]
/-- The begin of a call that only reads a member. -/
theorem enterC {J : Nat → Prop} {w : World} {b : Nat} {c : Core} {x : CoreV} {P : Program} {fn : Func} {R : Ending → World → Prop} {f : FuncId} (h : CoreR J w b c x) (N : Nat) (vs : List SV) (hf : P.funcs[f]? = some fn) (hb : fn.body.isSome = true) (hN : fn.ntmps = N) (hl : Nat.ble (vs.length + 1) N = true) (hlt : ltL 1 vs = true) (hg : gdFree vs = true)
    (hk : ∀ a, Rep (envC b) (B0 w) N ⟨(0, .ep 0 19 0 0) :: initS 1 vs, [(0, .row 19 1 fun _ => coreS c x)], 1⟩ a w → Env.Same 1 (envC b) (envC b) → Kh P fn R (fun _ _ _ => False) (fun _ => True) [.code (bodyOf fn)] a w) : Calls P f (coreP b :: denL (envC b) vs).toArray w R := by
  have := enterR N (.ep 0 19 0 0 :: vs) h.row (fun _ => rfl) hf hb hN hl (by simp [ltL, SV.lt, hlt, Nat.blt]) hg fun a hR => hk a hR (Env.Same.refl _ _)
  rw [denL, denC] at this
  exact this
structure Core.wf (c : Core) : Prop where
  kept : c.kept.wf
  term : I64 c.term
  commit : I64 c.commit
  votes : c.votes.length ≤ 1099511627776
theorem Core.wf.log {c : Core} (h : c.wf) : c.log.wf := h.kept.log
end Go.Sx
