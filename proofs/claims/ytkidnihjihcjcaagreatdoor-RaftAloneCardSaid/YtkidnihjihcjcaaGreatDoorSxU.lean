/- The engine's rules for whoever proves by it: how a call begins, what is known behind a call, loops, what may be forgotten. -/
import Derived.Test.YtkidnihjihcjcaaGreatDoorSxR
set_option linter.unusedVariables false
set_option linter.unusedSimpArgs false
namespace Go.Sx
/-- Parts of code, by their places. -/
def codeAt : Code → List Nat → Code
  | c, [] => c
  | .seq a _, 0 :: p => codeAt a p
  | .seq _ b, _ :: p => codeAt b p
  | .cond _ x _, 0 :: p => codeAt x p
  | .cond _ _ y, _ :: p => codeAt y p
  | .block _ c, _ :: p => codeAt c p
  | .loop c, _ :: p => codeAt c p
  | .scope c, _ :: p => codeAt c p
  | .rangeFunc _ _ x _, 0 :: p => codeAt x p
  | .rangeFunc _ _ _ y, _ :: p => codeAt y p
  | c, _ => c
def opsAt (c : Code) (p : List Nat) : List Oper := match codeAt c p with
  | .region _ ops _ => ops.toList
  | _ => []
def noOper : Oper := ⟨none, .move (.tmp 0), 0, "", #[], none⟩
def opNth (c : Code) (p : List Nat) (j : Nat) : Oper := (opsAt c p).getD j noOper
/-- The slots that are read, as bits. -/
def bitOf : Operand → Nat
  | .tmp t => Nat.shiftLeft 1 t
  | _ => 0
def bitsL (acc : Nat) : List Operand → Nat
  | [] => acc
  | x :: l => bitsL (Nat.lor acc (bitOf x)) l
def liveOp (all : List Oper) (acc : Nat) (o : Oper) : Nat :=
  let acc := bitsL acc o.op.operands.toList
  match o.guard with
  | some (g, _) => match dstOf all g with
    | some d => Nat.lor acc (Nat.shiftLeft 1 d)
    | none => acc
  | none => acc
def forceN {β : Type} : Nat → (Nat → β) → β
  | 0, k => k 0
  | n + 1, k => k (n + 1)
def liveOps (all : List Oper) : Nat → List Oper → Nat
  | acc, [] => acc
  | acc, o :: l => forceN (liveOp all acc o) fun acc => liveOps all acc l
def liveAny (all : List Oper) : Nat → List Oper → List Bool → Nat
  | acc, o :: l, b :: r => bif b then liveAny all acc l r else forceN (liveOp all acc o) fun acc => liveAny all acc l r
  | acc, _, _ => acc
def liveCode : Code → Nat → Nat
  | .region _ ops _, acc => liveOps ops.toList acc ops.toList
  | .seq a b, acc => forceN (liveCode a acc) fun acc => liveCode b acc
  | .cond c x y, acc => forceN (Nat.lor acc (bitOf c)) fun acc => forceN (liveCode x acc) fun acc => liveCode y acc
  | .block _ c, acc => liveCode c acc
  | .loop c, acc => liveCode c acc
  | .scope c, acc => liveCode c acc
  | .rangeFunc f _ x y, acc => forceN (Nat.lor acc (bitOf f)) fun acc => forceN (liveCode x acc) fun acc => liveCode y acc
  | _, acc => acc
def liveK : List It → Nat → Nat
  | [], acc => acc
  | .code c :: k, acc => forceN (liveCode c acc) fun acc => liveK k acc
  | .ops all l :: k, acc => forceN (liveOps all acc l) fun acc => liveK k acc
  | .any _ _ ops listed :: k, acc => forceN (liveAny ops acc ops listed) fun acc => liveK k acc
  | _ :: k, acc => liveK k acc
def liveRs : List ResultVar → Nat → Nat
  | [], acc => acc
  | .tmp t :: l, acc => liveRs l (Nat.lor acc (Nat.shiftLeft 1 t))
  | .cell t _ :: l, acc => liveRs l (Nat.lor acc (Nat.shiftLeft 1 t))
def keepS (m : Nat) : List (Nat × SV) → List (Nat × SV)
  | [] => []
  | (i, v) :: l => bif Nat.beq (Nat.land (Nat.shiftRight m i) 1) 1 then (i, v) :: keepS m l else keepS m l
def St.keep (st : St) (m : Nat) : St := forceN m fun m => { st with slots := keepS m st.slots }
/-- At each leaf only the slots that are still read. -/
def pruneT (rs : List ResultVar) : Tree → Tree
  | .br c t e => .br c (pruneT rs t) (pruneT rs e)
  | .need c t => .need c (pruneT rs t)
  | .both t e => .both (pruneT rs t) (pruneT rs e)
  | .ret v st => .ret v { st with slots := [] }
  | .call f args d k st => .call f args d k (st.keep (liveK k (liveRs rs 0)))
  | .stop k st => .stop k (st.keep (liveK k (liveRs rs 0)))
  | .hand o k st => .hand o k (st.keep (liveOp [] (liveK k (liveRs rs 0)) o))
  | t => t
/-- The run, not to be laid open but by the kernel. -/
@[irreducible] def exec (P : Program) (N : Nat) (rs : List ResultVar) (n : Nat) (k : List It) (st : St) : Tree := pruneT rs (run P N rs n k st)
/-- A part of a tree: 0 the first, 1 the second. -/
def Tree.get : Tree → List Nat → Tree
  | t, [] => t
  | .br _ t _, 0 :: p => t.get p
  | .br _ _ e, _ :: p => e.get p
  | .need _ t, _ :: p => t.get p
  | .both t _, 0 :: p => t.get p
  | .both _ e, _ :: p => e.get p
  | t, _ => t
def Tree.st : Tree → St
  | .ret _ s => s
  | .mark _ s => s
  | .call _ _ _ _ s => s
  | .stop _ s => s
  | .hand _ _ s => s
  | _ => ⟨[], [], 0⟩
def Tree.k : Tree → List It
  | .call _ _ _ k _ => k
  | .stop k _ => k
  | .hand _ k _ => k
  | _ => []
def Tree.o : Tree → Oper
  | .hand o _ _ => o
  | _ => ⟨none, .move (.tmp 0), 0, "", #[], none⟩
section
variable {P : Program} {ρ : Env} {N : Nat} {st st' : St} {a : Act} {v : SV} {B : Bases} {w : World}
  {fn : Func} {R : Ending → World → Prop} {M : Nat → Act → World → Prop} {S : World → Prop} {k : List It} {ρ0 : Env} {n0 : Nat}

def notAny : List It → Bool
  | .any _ _ _ _ :: _ => false
  | _ => true
theorem SOk.of {k : List It} (h : notAny k = true) : SOk S ρ st k := by
  cases k with
  | nil => trivial
  | cons it k => cases it <;> first | trivial | cases h
theorem SOk.put {k : List It} (h : SOk S ρ st k) (d : Nat) (v : SV) : SOk S ρ (st.put d v) k := by
  cases k with
  | nil => trivial
  | cons it k => cases it <;> first | trivial | exact SOk.tbl rfl rfl h
theorem keepS_mem {m : Nat} : ∀ {l : List (Nat × SV)} {p : Nat × SV}, p ∈ keepS m l → p ∈ l
  | [], _, h => by cases h
  | (i, v) :: l, p, h => by
    simp only [keepS] at h
    cases hb : Nat.beq (Nat.land (Nat.shiftRight m i) 1) 1 with
    | true =>
      rw [hb] at h
      rcases List.mem_cons.1 h with rfl | h
      · exact List.mem_cons_self
      · exact List.mem_cons_of_mem _ (keepS_mem h)
    | false => rw [hb] at h; exact List.mem_cons_of_mem _ (keepS_mem h)
theorem forceN_eq {β : Type} (n : Nat) (k : Nat → β) : forceN n k = k n := by cases n <;> rfl
theorem Rep.keepS (h : Rep ρ B N st a w) (m : Nat) : Rep ρ B N (st.keep m) a w := by
  unfold St.keep
  rw [forceN_eq]
  exact ⟨h.size, h.defers, fun i v hm => h.slots i v (keepS_mem hm), h.heap.slots _⟩
theorem keep_tbl (st : St) (m : Nat) : (st.keep m).tbl = st.tbl ∧ (st.keep m).nid = st.nid := by
  unfold St.keep
  rw [forceN_eq]
  exact ⟨rfl, rfl⟩
theorem SOk.keep {k : List It} (h : SOk S ρ st k) (m : Nat) : SOk S ρ (st.keep m) k := by
  cases k with
  | nil => trivial
  | cons it k => cases it <;> first | trivial | exact SOk.tbl (keep_tbl st m).1 (keep_tbl st m).2 h
theorem Holds_prune {rs : List ResultVar} : ∀ {t : Tree}, Holds P fn R M B N ρ0 n0 (pruneT rs t) → Holds P fn R M B N ρ0 n0 t
  | .br c t e, h => ⟨fun hc => Holds_prune (h.1 hc), fun hc => Holds_prune (h.2 hc)⟩
  | .need c t, h => ⟨h.1, Holds_prune h.2⟩
  | .both t e, h => ⟨Holds_prune h.1, Holds_prune h.2⟩
  | .ret v st, h => fun ρ w hs hH => h ρ w hs (hH.slots _)
  | .call f args d k st, h => fun S ρ a w hs hR hS => h S ρ a w hs (hR.keepS _) (hS.keep _)
  | .stop k st, h => fun S ρ a w hs hR hS => h S ρ a w hs (hR.keepS _) (hS.keep _)
  | .hand o k st, h => fun S ρ a w hs hR hS => h S ρ a w hs (hR.keepS _) (hS.keep _)
  | .mark m st, h => h
  | .done, h => h
  | .fail, h => h
/-- On with it: the tree is given, the kernel holds it against the run. -/
theorem go (rs : List ResultVar) (n : Nat) (f : Tree → Tree) (hrs : fn.results.toList = rs) (hT : exec P N rs n k st = f (exec P N rs n k st)) (hk : notAny k = true) (hn : n0.ble st.nid = true) (hs : Env.Same n0 ρ0 ρ) (hR : Rep ρ B N st a w)
    (h : Holds P fn R M B N ρ0 n0 (f (exec P N rs n k st))) : Kh P fn R M S k a w :=
  run_sound hrs n k st (by rw [← hT, exec] at h; exact Holds_prune h) S ρ a w hs (nble_t hn) hR (SOk.of hk)
theorem goA (rs : List ResultVar) (n : Nat) (f : Tree → Tree) (hrs : fn.results.toList = rs) (hT : exec P N rs n k st = f (exec P N rs n k st)) (hS : SOk S ρ st k) (hn : n0.ble st.nid = true) (hs : Env.Same n0 ρ0 ρ) (hR : Rep ρ B N st a w)
    (h : Holds P fn R M B N ρ0 n0 (f (exec P N rs n k st))) : Kh P fn R M S k a w :=
  run_sound hrs n k st (by rw [← hT, exec] at h; exact Holds_prune h) S ρ a w hs (nble_t hn) hR hS
theorem sbr {c : Bool} {t e : Tree} (h1 : c = true → Holds P fn R M B N ρ0 n0 t) (h2 : c = false → Holds P fn R M B N ρ0 n0 e) : Holds P fn R M B N ρ0 n0 (.br c t e) := ⟨h1, h2⟩
theorem sneed {c : Bool} {t : Tree} (h1 : c = true) (h2 : Holds P fn R M B N ρ0 n0 t) : Holds P fn R M B N ρ0 n0 (.need c t) := ⟨h1, h2⟩
theorem sboth {t e : Tree} (h1 : Holds P fn R M B N ρ0 n0 t) (h2 : Holds P fn R M B N ρ0 n0 e) : Holds P fn R M B N ρ0 n0 (.both t e) := ⟨h1, h2⟩
theorem sret {v : SV} {s : St} (h : ∀ ρ w, Env.Same n0 ρ0 ρ → Heap ρ B s w → R (.returned (v.den ρ)) w) : Holds P fn R M B N ρ0 n0 (.ret v s) := h
theorem smark {m : Nat} {s : St} (h : ∀ ρ a w, Env.Same n0 ρ0 ρ → Rep ρ B N s a w → M m a w) : Holds P fn R M B N ρ0 n0 (.mark m s) := h
theorem scall {f : FuncId} {args : List SV} {d : Option Nat} {k : List It} {s : St} (h : ∀ S ρ a w, Env.Same n0 ρ0 ρ → Rep ρ B N s a w → SOk S ρ s k →
    Calls P f (denL ρ args).toArray w fun e w' => ∃ v, e = .returned v ∧ Kh P fn R M S k (a.put d v) w') : Holds P fn R M B N ρ0 n0 (.call f args d k s) := h
theorem sstop {k : List It} {s : St} (h : ∀ S ρ a w, Env.Same n0 ρ0 ρ → Rep ρ B N s a w → SOk S ρ s k → Kh P fn R M S k a w) : Holds P fn R M B N ρ0 n0 (.stop k s) := h

theorem shand {o : Oper} {k : List It} {s : St} (h : ∀ S ρ a w, Env.Same n0 ρ0 ρ → Rep ρ B N s a w → SOk S ρ s k → ∀ Q, o.wp P a w (fun a' w' => Kh P fn R M S k a' w') Q) : Holds P fn R M B N ρ0 n0 (.hand o k s) := h

theorem Env.Same.refl (n : Nat) (ρ : Env) : Env.Same n ρ ρ := fun _ _ => ⟨rfl, rfl⟩
theorem Since.refl (w : World) (J : Nat → Prop) : Since w J w := ⟨rfl, rfl, rfl, Nat.le_refl _, fun _ _ _ => rfl⟩
theorem Since.trans {b w w' : World} {J J' : Nat → Prop} (h : Since b J w) (h' : Since w J' w') (hJ : ∀ k, J k → k < b.heap.size → J' k) : Since b J w' :=
  ⟨h'.os.trans h.os, h'.tape.trans h.tape, h'.output.trans h.output, Nat.le_trans h.size h'.size, fun k hk hlt =>
    (h'.block k (hJ k hk hlt) (Nat.lt_of_lt_of_le hlt h.size)).trans (h.block k hk hlt)⟩
theorem Since.mono {b w : World} {J J' : Nat → Prop} (h : Since b J w) (hJ : ∀ k, J' k → k < b.heap.size → J k) : Since b J' w :=
  ⟨h.os, h.tape, h.output, h.size, fun k hk hlt => h.block k (hJ k hk hlt) hlt⟩

def bodyOf (fn : Func) : Code := fn.body.getD .skip
def initS : Nat → List SV → List (Nat × SV)
  | _, [] => []
  | i, v :: l => (i, v) :: initS (i + 1) l
theorem initS_mem : ∀ (l : List SV) (i j : Nat) (v : SV), (j, v) ∈ initS i l → i ≤ j ∧ l[j - i]? = some v
  | [], i, j, v, h => by cases h
  | u :: l, i, j, v, h => by
    rcases List.mem_cons.1 h with h | h
    · injection h with h1 h2
      subst h1; subst h2
      simp
    · obtain ⟨h1, h2⟩ := initS_mem l (i + 1) j v h
      refine ⟨by omega, ?_⟩
      have : j - i = (j - (i + 1)) + 1 := by omega
      rw [this]
      simpa using h2
def gdFree : List SV → Bool
  | [] => true
  | .gd _ _ _ :: _ => false
  | _ :: l => gdFree l
theorem flat_of {v : SV} (h : ∀ j, gdOn j v = false) : flat v = true := by
  cases v with
  | gd j w u => have := h j; simp [gdOn] at this
  | _ => rfl
theorem gdFree_all : ∀ {l : List SV}, gdFree l = true → ∀ v ∈ l, ∀ j, gdOn j v = false
  | [], _, v, hv, _ => by cases hv
  | u :: l, h, v, hv, j => by
    cases u with
    | gd _ _ _ => cases h
    | _ =>
      rcases List.mem_cons.1 hv with rfl | hv
      · rfl
      · exact gdFree_all (l := l) h v hv j
theorem Heap.nil (ρ : Env) (s : List (Nat × SV)) (n : Nat) (hb : ∀ b J, (b, J) ∈ B → Since b J w) : Heap ρ B ⟨s, [], n⟩ w := by
  have no : ∀ {i b}, ¬ (i, b) ∈ ([] : List (Nat × Blk)) := fun {i b} => List.not_mem_nil
  refine ⟨?_, ?_, ?_, ?_, ?_, ?_, ?_, hb, ?_⟩
  · intro _ _ _ h; exact (no h).elim
  · intro _ _ _ _ h; exact (no h).elim
  · intro _ _ _ _ h; exact (no h).elim
  · intro _ _ _ _ _ _ h; exact (no h).elim
  · intro _ _ h; exact (no h).elim
  · intro _ _ _ h; exact (no h).elim
  · intro _ _ _ _ h; exact (no h).elim
  · intro _ _ _ _ _ _ h; exact (no h).elim
/-- A row that is read. -/
theorem Heap.addRow {s : List (Nat × SV)} {t : List (Nat × Blk)} {n : Nat} (h : Heap ρ B ⟨s, t, n⟩ w) {id sz m : Nat} {el : Nat → List SV} (hr : RowAt ρ w id sz m el) (hid : id < n) (hl : ∀ i, ltL n (el i) = true)
    (hne : 0 < m → ∀ id' cs ct, (id', Blk.cells cs ct) ∈ t → ∀ ad, ρ.al id = some ad → ρ.nu id' ≠ ad.block) : Heap ρ B ⟨s, (id, .row sz m el) :: t, n⟩ w := by
  have mem : ∀ {i b}, (i, b) ∈ (id, Blk.row sz m el) :: t → (i = id ∧ b = .row sz m el) ∨ (i, b) ∈ t := by
    intro i b h
    rcases List.mem_cons.1 h with h | h
    · injection h with h1 h2; exact .inl ⟨h1, h2⟩
    · exact .inr h
  refine ⟨?_, ?_, ?_, ?_, ?_, ?_, ?_, h.base, ?_⟩
  · intro i cs ct hm
    rcases mem hm with ⟨_, he⟩ | hm
    · cases he
    · exact h.cells i cs ct hm
  · intro i sz' n' el' hm
    rcases mem hm with ⟨rfl, he⟩ | hm
    · injection he with h1 h2 h3; subst h1; subst h2; subst h3; exact hr
    · exact h.rows i _ _ _ hm
  · intro i sz' n' el' hm h0 id' cs ct hm' ad had
    rcases mem hm' with ⟨_, he⟩ | hc'
    · cases he
    · rcases mem hm with ⟨e, he⟩ | hc
      · injection he with h1 h2 h3; rw [e] at had; exact hne (by omega) id' cs ct hc' ad had
      · exact h.rowNe i _ _ _ hc h0 id' cs ct hc' ad had
  · intro i cs ct i' cs' ct' hm hm' hx
    rcases mem hm with ⟨_, he⟩ | hm
    · cases he
    · rcases mem hm' with ⟨_, he⟩ | hm'
      · cases he
      · exact h.apart _ _ _ _ _ _ hm hm' hx
  · intro i b hm
    rcases mem hm with ⟨rfl, _⟩ | hm
    · exact hid
    · exact h.ids i b hm
  · intro i cs ct hm
    rcases mem hm with ⟨_, he⟩ | hm
    · cases he
    · exact h.clt _ _ _ hm
  · intro i sz' n' el' hm
    rcases mem hm with ⟨_, he⟩ | hm
    · injection he with h1 h2 h3; subst h3; exact hl
    · exact h.rlt _ _ _ _ hm
  · intro b J hb i cs ct hm
    rcases mem hm with ⟨_, he⟩ | hm
    · cases he
    · exact h.free b J hb _ _ _ hm
/-- A block that is known whole, and may be written. -/
theorem Heap.addCells {s : List (Nat × SV)} {t : List (Nat × Blk)} {n : Nat} (h : Heap ρ B ⟨s, t, n⟩ w) {id : Nat} {cs : List SV} {ct : TypeId} (hc : w.heap[ρ.nu id]? = some (.cells (denL ρ cs).toArray ct (0, 0))) (hid : id < n) (hl : ltL n cs = true)
    (hap : ∀ id' cs' ct', (id', Blk.cells cs' ct') ∈ t → id' ≠ id ∧ ρ.nu id' ≠ ρ.nu id) (hne : ∀ i sz m el, (i, Blk.row sz m el) ∈ t → 0 < m → ∀ ad, ρ.al i = some ad → ρ.nu id ≠ ad.block)
    (hf : ∀ b J, (b, J) ∈ B → J (ρ.nu id) → b.heap.size ≤ ρ.nu id) : Heap ρ B ⟨s, (id, .cells cs ct) :: t, n⟩ w := by
  have mem : ∀ {i b}, (i, b) ∈ (id, Blk.cells cs ct) :: t → (i = id ∧ b = .cells cs ct) ∨ (i, b) ∈ t := by
    intro i b h
    rcases List.mem_cons.1 h with h | h
    · injection h with h1 h2; exact .inl ⟨h1, h2⟩
    · exact .inr h
  refine ⟨?_, ?_, ?_, ?_, ?_, ?_, ?_, h.base, ?_⟩
  · intro i cs' ct' hm
    rcases mem hm with ⟨rfl, he⟩ | hm
    · injection he with h1 h2; subst h1; subst h2; exact hc
    · exact h.cells i _ _ hm
  · intro i sz' n' el' hm
    rcases mem hm with ⟨_, he⟩ | hm
    · cases he
    · exact h.rows i _ _ _ hm
  · intro i sz' n' el' hm h0 id' cs' ct' hm' ad had
    rcases mem hm with ⟨_, he⟩ | hc
    · cases he
    · rcases mem hm' with ⟨e, _⟩ | hc'
      · rw [e]; exact hne i _ _ _ hc h0 ad had
      · exact h.rowNe i _ _ _ hc h0 id' _ _ hc' ad had
  · intro i c1 t1 i' c2 t2 hm hm' hx
    rcases mem hm with ⟨e, _⟩ | hm <;> rcases mem hm' with ⟨e', _⟩ | hm'
    · exact (hx (e.trans e'.symm)).elim
    · rw [e]; exact fun q => (hap _ _ _ hm').2 q.symm
    · rw [e']; exact (hap _ _ _ hm).2
    · exact h.apart _ _ _ _ _ _ hm hm' hx
  · intro i b hm
    rcases mem hm with ⟨rfl, _⟩ | hm
    · exact hid
    · exact h.ids i b hm
  · intro i c1 t1 hm
    rcases mem hm with ⟨_, he⟩ | hm
    · injection he with h1 h2; subst h1; exact hl
    · exact h.clt _ _ _ hm
  · intro i sz' n' el' hm
    rcases mem hm with ⟨_, he⟩ | hm
    · cases he
    · exact h.rlt _ _ _ _ hm
  · intro b J hb i c1 t1 hm
    rcases mem hm with ⟨rfl, _⟩ | hm
    · exact hf b J hb
    · exact h.free b J hb _ _ _ hm
/-- THE BEGIN OF A CALL. -/
theorem enter {f : FuncId} (N : Nat) (vs : List SV) (hf : P.funcs[f]? = some fn) (hb : fn.body.isSome = true) (hN : fn.ntmps = N) (hl : vs.length ≤ N) (hlt : ltL n0 vs = true) (hg : gdFree vs = true) {tbl : List (Nat × Blk)}
    (hH : Heap ρ0 B ⟨initS 0 vs, tbl, n0⟩ w) (h : ∀ a, Rep ρ0 B N ⟨initS 0 vs, tbl, n0⟩ a w → Kh P fn R M (fun _ => True) [.code (bodyOf fn)] a w) : Calls P f (denL ρ0 vs).toArray w R := by
  subst hN
  have hb : fn.body = some (bodyOf fn) := by
    obtain ⟨c, hc⟩ := Option.isSome_iff_exists.1 hb
    rw [bodyOf, hc]
    rfl
  refine calls_of_wp hf hb ?_
  have hk := h { tmps := (denL ρ0 vs).toArray ++ Array.replicate (fn.ntmps - (denL ρ0 vs).toArray.size) undef, defers := [] } ⟨?_, rfl, ?_, hH⟩
  · exact hk
  · simp [denL_length]; omega
  · intro i v hm
    obtain ⟨_, h2⟩ := initS_mem _ _ _ _ hm
    have h2 : vs[i]? = some v := by simpa using h2
    have hv := List.mem_of_getElem? h2
    have hgd := gdFree_all hg v hv
    refine ⟨?_, ltL_all.1 hlt v hv, flat_of hgd⟩
    rw [SV.at_den hgd]
    have hlt' : i < vs.length := (List.getElem?_eq_some_iff.1 h2).1
    rw [Array.getElem?_append_left (by simp [denL_length]; exact hlt')]
    simpa using getElem_denL (ρ := ρ0) h2
/-- The world has gone on: what the state knows is as it was. -/
theorem Heap.world {w' : World} (h : Heap ρ B st w) (hk : ∀ id cs t, (id, Blk.cells cs t) ∈ st.tbl → w'.heap[ρ.nu id]? = w.heap[ρ.nu id]?)
    (hr : ∀ id sz n el, (id, Blk.row sz n el) ∈ st.tbl → 0 < n → ∀ ad, ρ.al id = some ad → w'.heap[ad.block]? = w.heap[ad.block]?) (hs : w.heap.size ≤ w'.heap.size)
    (hb : ∀ b J, (b, J) ∈ B → Since b J w') : Heap ρ B st w' :=
  ⟨fun id cs t hm => by rw [hk id cs t hm]; exact h.cells id cs t hm, fun id sz n el hm => (h.rows id sz n el hm).keep hs fun ad had h0 => hr id sz n el hm h0 ad had,
    h.rowNe, h.apart, h.ids, h.clt, h.rlt, hb, h.free⟩
/-- Behind a call that changes nothing that was there. -/
theorem Rep.pure {w' : World} (h : Rep ρ B N st a w) (hc : Since w (fun _ => True) w') : Rep ρ B N st a w' := by
  refine ⟨h.size, h.defers, h.slots, h.heap.world (fun id cs t hm => hc.block _ trivial (Array.getElem?_eq_some_iff.1 (h.heap.cells id cs t hm)).1) (fun id sz n el hm h0 ad had => ?_) hc.size (fun b J hb => (h.heap.base b J hb).trans hc fun _ _ _ => trivial)⟩
  obtain ⟨ad', h1, _, h3, _⟩ := h.heap.rows id sz n el hm 0 h0
  rw [h1] at had
  injection had with had
  subst had
  exact hc.block _ trivial h3
/-- One base more. -/
theorem Rep.base (h : Rep ρ B N st a w) (b : World) (J : Nat → Prop) (hb : Since b J w) (hf : ∀ id cs t, (id, Blk.cells cs t) ∈ st.tbl → J (ρ.nu id) → b.heap.size ≤ ρ.nu id) : Rep ρ ((b, J) :: B) N st a w :=
  ⟨h.size, h.defers, h.slots, ⟨h.heap.cells, h.heap.rows, h.heap.rowNe, h.heap.apart, h.heap.ids, h.heap.clt, h.heap.rlt,
    fun b' J' hm => by
      rcases List.mem_cons.1 hm with he | hm
      · injection he with h1 h2; subst h1; subst h2; exact hb
      · exact h.heap.base b' J' hm,
    fun b' J' hm => by
      rcases List.mem_cons.1 hm with he | hm
      · injection he with h1 h2; subst h1; subst h2; exact hf
      · exact h.heap.free b' J' hm⟩⟩
/-- A result is put into its slot. -/
theorem Rep.res (h : Rep ρ B N st a w) {d : Nat} {v : SV} {x : Value} (hd : d.blt N = true) (hv : v.den ρ = x) (hl : v.lt st.nid = true) (hg : gdFree [v] = true) : Rep ρ B N (st.put d v) (a.put (some d) x) w := by
  have hg := gdFree_all hg v List.mem_cons_self
  refine h.put (nblt_t hd) ?_ hl (flat_of hg)
  rw [SV.at_den hg, hv]
/-- What is asked of the slots of a state that is to be forgotten down to: they are there. -/
def HasS (s : List (Nat × SV)) : List (Nat × SV) → Prop
  | [] => True
  | (i, v) :: l => getS s i = some v ∧ HasS s l
def HasT (s : List (Nat × Blk)) : List (Nat × Blk) → Prop
  | [] => True
  | (i, b) :: l => getT s i = some b ∧ HasT s l
def ltS (n : Nat) : List (Nat × SV) → Bool
  | [] => true
  | (_, v) :: l => v.lt n && ltS n l
def ltT (n : Nat) : List (Nat × Blk) → Prop
  | [] => True
  | (i, .cells cs _) :: l => i < n ∧ ltL n cs = true ∧ ltT n l
  | (i, .row _ _ el) :: l => i < n ∧ (∀ j, ltL n (el j) = true) ∧ ltT n l
theorem HasS_mem {s : List (Nat × SV)} : ∀ {l : List (Nat × SV)}, HasS s l → ∀ i v, (i, v) ∈ l → (i, v) ∈ s
  | [], _, _, _, h => by cases h
  | (j, u) :: l, hh, i, v, h => by
    rcases List.mem_cons.1 h with h | h
    · injection h with h1 h2; subst h1; subst h2; exact getS_mem hh.1
    · exact HasS_mem hh.2 i v h
theorem HasT_mem {s : List (Nat × Blk)} : ∀ {l : List (Nat × Blk)}, HasT s l → ∀ i v, (i, v) ∈ l → (i, v) ∈ s
  | [], _, _, _, h => by cases h
  | (j, u) :: l, hh, i, v, h => by
    rcases List.mem_cons.1 h with h | h
    · injection h with h1 h2; subst h1; subst h2; exact getT_mem hh.1
    · exact HasT_mem hh.2 i v h
theorem ltS_mem {n : Nat} : ∀ {l : List (Nat × SV)}, ltS n l = true → ∀ i v, (i, v) ∈ l → v.lt n = true
  | [], _, _, _, h => by cases h
  | (j, u) :: l, hh, i, v, h => by
    simp only [ltS, Bool.and_eq_true] at hh
    rcases List.mem_cons.1 h with h | h
    · injection h with h1 h2; subst h2; exact hh.1
    · exact ltS_mem hh.2 i v h
theorem ltT_mem {n : Nat} : ∀ {l : List (Nat × Blk)}, ltT n l → ∀ i b, (i, b) ∈ l → i < n ∧ (∀ cs t, b = .cells cs t → ltL n cs = true) ∧ ∀ sz m el, b = .row sz m el → ∀ j, ltL n (el j) = true
  | [], _, _, _, h => by cases h
  | (j, .cells cs t) :: l, hh, i, b, h => by
    rcases List.mem_cons.1 h with h | h
    · injection h with h1 h2; subst h1; subst h2
      exact ⟨hh.1, fun cs' t' e => by injection e with e1 e2; subst e1; exact hh.2.1, fun _ _ _ e => by cases e⟩
    · exact ltT_mem hh.2.2 i b h
  | (j, .row sz m el) :: l, hh, i, b, h => by
    rcases List.mem_cons.1 h with h | h
    · injection h with h1 h2; subst h1; subst h2
      exact ⟨hh.1, fun _ _ e => (by cases e), fun sz' m' el' e => by injection e with e1 e2 e3; subst e3; exact hh.2.1⟩
    · exact ltT_mem hh.2.2 i b h
/-- Less is known. -/
theorem Rep.less (h : Rep ρ B N st a w) {s : List (Nat × SV)} {t : List (Nat × Blk)} {n : Nat} (hs : HasS st.slots s) (ht : HasT st.tbl t) (hl : ltS n s = true) (hlt : ltT n t) : Rep ρ B N ⟨s, t, n⟩ a w := by
  have mT := HasT_mem ht
  refine ⟨h.size, h.defers, fun i v hm => ?_, ?_⟩
  · have := h.slots i v (HasS_mem hs i v hm)
    exact ⟨this.1, ltS_mem hl i v hm, this.2.2⟩
  · exact ⟨fun i cs ct hm => h.heap.cells _ _ _ (mT _ _ hm), fun i sz m el hm => h.heap.rows _ _ _ _ (mT _ _ hm), fun i sz m el hm h0 i' cs ct hm' => h.heap.rowNe _ _ _ _ (mT _ _ hm) h0 _ _ _ (mT _ _ hm'),
      fun i cs ct i' cs' ct' hm hm' => h.heap.apart _ _ _ _ _ _ (mT _ _ hm) (mT _ _ hm'), fun i b hm => (ltT_mem hlt i b hm).1, fun i cs ct hm => (ltT_mem hlt i _ hm).2.1 _ _ rfl, fun i sz m el hm => (ltT_mem hlt i _ hm).2.2 _ _ _ rfl,
      h.heap.base, fun b J hb i cs ct hm => h.heap.free b J hb _ _ _ (mT _ _ hm)⟩
def noMark (m : Nat) : List It → Bool
  | [] => true
  | .mark j :: k => !(j.beq m) && noMark m k
  | _ :: k => noMark m k
theorem Kq_marks {M' : Nat → Act → World → Prop} {m : Nat} (hM : ∀ j, j ≠ m → M j = M' j) : ∀ (k : List It), noMark m k = true → Kq P fn R M k = Kq P fn R M' k
  | [], _ => rfl
  | it :: k, h => by
    have ih : noMark m k = true → Kq P fn R M k = Kq P fn R M' k := Kq_marks hM k
    funext e a w
    cases it with
    | mark j =>
      simp only [noMark, Bool.and_eq_true, Bool.not_eq_true'] at h
      have ih := ih h.2
      cases e <;> simp only [Kq, ih]
      rw [hM j (nbeq_f h.1)]
    | _ =>
      have ih := ih h
      cases e <;> simp only [Kq, ih]
/-- A LOOP. i: what the round's head knows; μ goes down. -/
theorem loop {ι : Type} {body : Code} (m : Nat) (hm : noMark m k = true) (I : ι → Act → World → Prop) (μ : ι → Nat) (i : ι) (h0 : I i a w)
    (round : ∀ i a w, I i a w → Kh P fn R (fun j a w => if j = m then ∃ i', μ i' < μ i ∧ I i' a w else M j a w) (fun _ => True) (.code body :: .mark m :: .code (.loop body) :: k) a w) : Kh P fn R M S (.code (.loop body) :: k) a w := by
  show (Code.loop body).wp P (Kq P fn R M k) a w
  have key : ∀ n i a w, μ i = n → I i a w → ∀ (b : Frame) (kk : List Item) (cs : List Frame), True := fun _ _ _ _ _ _ _ _ _ => trivial
  refine wp_loop (fun a w => ∃ i, I i a w) (fun a w => Classical.epsilon fun n => (∃ i, I i a w ∧ μ i = n) ∧ ∀ i, I i a w → n ≤ μ i) ⟨i, h0⟩ fun a w ⟨i, hi⟩ => ?_
  have least : ∀ a w, (∃ i, I i a w) → ∃ n, (∃ i, I i a w ∧ μ i = n) ∧ ∀ i, I i a w → n ≤ μ i := by
    intro a w ⟨i, hi⟩
    have : ∀ n, ∀ i, I i a w → μ i = n → ∃ n, (∃ i, I i a w ∧ μ i = n) ∧ ∀ i, I i a w → n ≤ μ i := by
      intro n
      induction n using Nat.strongRecOn with
      | _ n ih =>
        intro i hi hn
        by_cases hex : ∃ j, I j a w ∧ μ j < n
        · obtain ⟨j, hj, hlt⟩ := hex
          exact ih (μ j) hlt j hj rfl
        · exact ⟨n, ⟨i, hi, hn⟩, fun j hj => Nat.le_of_not_lt fun hlt => hex ⟨j, hj, hlt⟩⟩
    exact this _ i hi rfl
  obtain ⟨⟨j, hj, hjn⟩, hle⟩ := Classical.epsilon_spec (least a w ⟨i, hi⟩)
  have hr := round j a w hj
  have hr : body.wp P _ a w := hr
  refine wp_mono hr fun e a' w' hq => ?_
  have hk := Kq_marks (P := P) (fn := fn) (R := R) (M := M) (M' := fun j' a w => if j' = m then ∃ i', μ i' < μ j ∧ I i' a w else M j' a w) (m := m)
    (fun j' hj' => by funext a w; rw [if_neg hj']) k hm
  cases e with
  | normal =>
    have hq : (if m = m then ∃ i', μ i' < μ j ∧ I i' a' w' else M m a' w') := hq
    rw [if_pos rfl] at hq
    obtain ⟨i', hlt, hi'⟩ := hq
    refine ⟨⟨i', hi'⟩, ?_⟩
    obtain ⟨⟨j2, hj2, hj2n⟩, hle2⟩ := Classical.epsilon_spec (least a' w' ⟨i', hi'⟩)
    have := hle2 i' hi'
    rw [← hjn]
    omega
  | exit id => have hq : Kq P fn R _ k (.exit id) a' w' := hq; rw [← hk] at hq; exact hq
  | goto l => have hq : Kq P fn R _ k (.goto l) a' w' := hq; rw [← hk] at hq; exact hq
  | ret => have hq : Kq P fn R _ k .ret a' w' := hq; rw [← hk] at hq; exact hq
  | panic c => have hq : Kq P fn R _ k (.panic c) a' w' := hq; rw [← hk] at hq; exact hq
  | outgrown => have hq : Kq P fn R _ k .outgrown a' w' := hq; rw [← hk] at hq; exact hq

def hdLoop : List It → Code
  | .code (.loop c) :: _ => c
  | _ => .skip
def isLoop : List It → Bool
  | .code (.loop _) :: _ => true
  | _ => false
/-- A loop that comes next: i what a round's head knows; μ goes down. -/
theorem loopAt {ι : Type} (m : Nat) (I : ι → Act → World → Prop) (μ : ι → Nat) (i : ι) (hk : isLoop k = true) (hm : noMark m k.tail = true) (h0 : I i a w)
    (round : ∀ i a w, I i a w → Kh P fn R (fun j a w => if j = m then ∃ i', μ i' < μ i ∧ I i' a w else M j a w) (fun _ => True) (.code (hdLoop k) :: .mark m :: k) a w) : Kh P fn R M S k a w := by
  cases k with
  | nil => cases hk
  | cons it k => cases it with
    | code c => cases c with
      | loop c => exact loop m hm I μ i h0 round
      | _ => cases hk
    | _ => cases hk
/-- The round's end. -/
theorem smarkL {ι : Type} {m : Nat} {I : ι → Act → World → Prop} {μ : ι → Nat} {i : ι} {s : St} (h : ∀ ρ a w, Env.Same n0 ρ0 ρ → Rep ρ B N s a w → ∃ i', μ i' < μ i ∧ I i' a w) :
    Holds P fn R (fun j a w => if j = m then ∃ i', μ i' < μ i ∧ I i' a w else M j a w) B N ρ0 n0 (.mark m s) := fun ρ a w hs hR => by
  show (if m = m then _ else _)
  rw [if_pos rfl]
  exact h ρ a w hs hR
/-- An integer in a slot, spelt otherwise. -/
theorem slotI {s : List (Nat × SV)} {i : Nat} {k : IntKind} {x y : Int} (h : getS s i = some (.int k x)) (e : x = y) : getS s i = some (.int k y) := by rw [h, e]

def pickS (s : List (Nat × SV)) : List Nat → List (Nat × SV)
  | [] => []
  | i :: l => match getS s i with
    | some v => (i, v) :: pickS s l
    | none => pickS s l
def pickT (s : List (Nat × Blk)) : List Nat → List (Nat × Blk)
  | [] => []
  | i :: l => match getT s i with
    | some v => (i, v) :: pickT s l
    | none => pickT s l
theorem pickS_has (s : List (Nat × SV)) : ∀ l, HasS s (pickS s l)
  | [] => trivial
  | i :: l => by
    simp only [pickS]
    split
    · exact ⟨by assumption, pickS_has s l⟩
    · exact pickS_has s l
theorem pickT_has (s : List (Nat × Blk)) : ∀ l, HasT s (pickT s l)
  | [] => trivial
  | i :: l => by
    simp only [pickT]
    split
    · exact ⟨by assumption, pickT_has s l⟩
    · exact pickT_has s l
/-- Down to these slots, these blocks: s, t are what the kernel finds there. -/
theorem Rep.down (h : Rep ρ B N st a w) (is ts : List Nat) (s : List (Nat × SV)) (t : List (Nat × Blk)) (n : Nat) (hs : pickS st.slots is = s) (ht : pickT st.tbl ts = t) (hl : ltS n s = true) (hlt : ltT n t) : Rep ρ B N ⟨s, t, n⟩ a w := by
  subst hs
  subst ht
  exact h.less (pickS_has _ _) (pickT_has _ _) hl hlt
/-- An integer in a slot, spelt otherwise. -/
theorem Rep.spell (h : Rep ρ B N st a w) (d : Nat) {k : IntKind} {x y : Int} (hg : getS st.slots d = some (.int k x)) (e : x = y) : Rep ρ B N (st.put d (.int k y)) a w := by
  subst e
  refine ⟨h.size, h.defers, fun i v hm => ?_, h.heap.slots _⟩
  simp only [St.put, List.mem_cons, Prod.mk.injEq] at hm
  rcases hm with ⟨rfl, rfl⟩ | hm
  · exact h.slots _ _ (getS_mem hg)
  · exact h.slots i v (dropS_mem hm).1
theorem ltT_nil (n : Nat) : ltT n [] := trivial
theorem ltT_row {n i sz m : Nat} {el : Nat → List SV} {l : List (Nat × Blk)} (h1 : i.blt n = true) (h2 : ∀ j, ltL n (el j) = true) (h3 : ltT n l) : ltT n ((i, .row sz m el) :: l) := ⟨nblt_t h1, h2, h3⟩
theorem ltT_cells {n i : Nat} {cs : List SV} {t : TypeId} {l : List (Nat × Blk)} (h1 : i.blt n = true) (h2 : ltL n cs = true) (h3 : ltT n l) : ltT n ((i, .cells cs t) :: l) := ⟨nblt_t h1, h2, h3⟩
end
end Go.Sx
