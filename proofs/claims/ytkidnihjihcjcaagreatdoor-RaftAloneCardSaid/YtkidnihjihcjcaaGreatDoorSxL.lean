/- Rules for whoever proves by the engine, second half: loops whose heads are states, readings of rows, appends. -/
import Derived.Test.YtkidnihjihcjcaaGreatDoorSxU
import Derived.Laws.OwnMore
import Derived.Lib.AppendStr
import Derived.Room.AppendUpon
set_option linter.unusedVariables false
set_option linter.unusedSimpArgs false
namespace Go.Sx
section
variable {P : Program} {ρ : Env} {N : Nat} {st st' : St} {a : Act} {v : SV} {B : Bases} {w : World}
  {fn : Func} {R : Ending → World → Prop} {M : Nat → Act → World → Prop} {S : World → Prop} {k : List It} {ρ0 : Env} {n0 : Nat}

def LoopI {ι : Type} (B : Bases) (N n0 : Nat) (ρ0 : Env) (F : ι → St) (G : ι → World → Prop) (i : ι) (a : Act) (w : World) : Prop :=
  G i w ∧ ∃ ρ, Env.Same n0 ρ0 ρ ∧ Rep ρ B N (F i) a w
def LoopM {ι : Type} (m : Nat) (μ : ι → Nat) (i : ι) (I : ι → Act → World → Prop) (M : Nat → Act → World → Prop) : Nat → Act → World → Prop :=
  fun j a w => if j = m then ∃ i', μ i' < μ i ∧ I i' a w else M j a w
/-- A loop that comes next. F: what a round's head looks like. G: what else is known there. μ goes down. -/
theorem loopF {ι : Type} (m : Nat) (F : ι → St) (G : ι → World → Prop) (μ : ι → Nat) (i : ι) (hk : isLoop k = true) (hm : noMark m k.tail = true) (hs : Env.Same n0 ρ0 ρ) (hi : G i w) (hR : Rep ρ B N (F i) a w)
    (round : ∀ i ρ a w, Env.Same n0 ρ0 ρ → G i w → Rep ρ B N (F i) a w → Kh P fn R (LoopM m μ i (LoopI B N n0 ρ0 F G) M) (fun _ => True) (.code (hdLoop k) :: .mark m :: k) a w) : Kh P fn R M S k a w :=
  loopAt m (LoopI B N n0 ρ0 F G) μ i hk hm ⟨hi, ρ, hs, hR⟩ fun i a w h => by
    obtain ⟨hi, ρ, hs, hR⟩ := h
    exact round i ρ a w hs hi hR
theorem smarkF {ι : Type} {m : Nat} {F : ι → St} {G : ι → World → Prop} {μ : ι → Nat} {i : ι} {s : St} {B' : Bases} {n1 : Nat} {ρ1 : Env}
    (h : ∀ ρ a w, Env.Same n1 ρ1 ρ → Rep ρ B' N s a w → ∃ i', μ i' < μ i ∧ G i' w ∧ ∃ ρ, Env.Same n0 ρ0 ρ ∧ Rep ρ B N (F i') a w) :
    Holds P fn R (LoopM m μ i (LoopI B N n0 ρ0 F G) M) B' N ρ1 n1 (.mark m s) := fun ρ a w hs hR => by
  show (if m = m then _ else _)
  rw [if_pos rfl]
  obtain ⟨i', h1, h2, h3⟩ := h ρ a w hs hR
  exact ⟨i', h1, h2, h3⟩
/-- Another loop's mark. -/
theorem smarkO {ι : Type} {m j : Nat} {μ : ι → Nat} {i : ι} {I : ι → Act → World → Prop} {s : St} (hj : j.beq m = false) (h : Holds P fn R M B N ρ0 n0 (.mark j s)) : Holds P fn R (LoopM m μ i I M) B N ρ0 n0 (.mark j s) := fun ρ a w hs hR => by
  show (if j = m then _ else _)
  rw [if_neg (nbeq_f hj)]
  exact h ρ a w hs hR

def keysS : List (Nat × SV) → List Nat
  | [] => []
  | (i, _) :: l => i :: keysS l
def keysT : List (Nat × Blk) → List Nat
  | [] => []
  | (i, _) :: l => i :: keysT l
/-- Down to a state of which all is known. -/
theorem Rep.into (h : Rep ρ B N st a w) {st' : St} (hs : pickS st.slots (keysS st'.slots) = st'.slots) (ht : pickT st.tbl (keysT st'.tbl) = st'.tbl) (hl : ltS st'.nid st'.slots = true) (hlt : ltT st'.nid st'.tbl) : Rep ρ B N st' a w :=
  h.down _ _ _ _ _ hs ht hl hlt
/-- Fewer bases. -/
theorem Rep.bases {B' : Bases} (h : Rep ρ B' N st a w) (hB : ∀ b J, (b, J) ∈ B → (b, J) ∈ B') : Rep ρ B N st a w :=
  ⟨h.size, h.defers, h.slots, ⟨h.heap.cells, h.heap.rows, h.heap.rowNe, h.heap.apart, h.heap.ids, h.heap.clt, h.heap.rlt, fun b J hm => h.heap.base b J (hB b J hm), fun b J hm => h.heap.free b J (hB b J hm)⟩⟩
theorem Rep.unbase {b : World} {J : Nat → Prop} (h : Rep ρ ((b, J) :: B) N st a w) : Rep ρ B N st a w := h.bases fun _ _ h => List.mem_cons_of_mem _ h
/-- What is not known whole. -/
def Rest (ρ : Env) (st : St) (k : Nat) : Prop := ∀ id cs t, (id, Blk.cells cs t) ∈ st.tbl → k ≠ ρ.nu id
/-- This world, as a base: all but what is known whole stays. -/
theorem Rep.snap (h : Rep ρ B N st a w) : Rep ρ ((w, Rest ρ st) :: B) N st a w :=
  h.base w (Rest ρ st) (Since.refl w _) fun id cs t hm hJ => (hJ id cs t hm rfl).elim

/-- n elements of sz cells each, in a block of J; el tells them. -/
def Row (J : Nat → Prop) (w : World) (A : Option Addr) (sz n : Nat) (el : Nat → List SV) : Prop :=
  ∀ i, i < n → ∃ ad : Addr, A = some ad ∧ ad.spot = none ∧ ad.block < w.heap.size ∧ J ad.block ∧ (el i).length = sz ∧ ltL 0 (el i) = true ∧
    ∀ j v, (el i)[j]? = some v → w.cell? ⟨ad.block, ad.off + i * sz + j, none⟩ = some (v.den ⟨fun _ => 0, fun _ => none⟩)
variable {J J' : Nat → Prop} {w' : World} {A : Option Addr} {sz n : Nat} {el : Nat → List SV}
theorem Row.rowIs (h : Row J w A sz n el) : RowIs ρ w A sz n el := fun i hi => by
  obtain ⟨ad, h1, h2, h3, _, h4, h5, h6⟩ := h i hi
  exact ⟨ad, h1, h2, h3, h4, fun j v hv => by
    rw [← SV.den_same (n := 0) (ρ := ⟨fun _ => 0, fun _ => none⟩) (fun i hi => (by omega)) v (ltL_all.1 h5 v (List.mem_of_getElem? hv))]
    exact h6 j v hv⟩
theorem Row.rowAt {id : Nat} (h : Row J w A sz n el) (hA : ρ.al id = A) : RowAt ρ w id sz n el := fun i hi => by
  obtain ⟨ad, h1, h2⟩ := h.rowIs (ρ := ρ) i hi
  exact ⟨ad, hA.trans h1, h2⟩
theorem Row.keep (h : Row J w A sz n el) (hs : Since w J' w') (hJ : ∀ k, J k → k < w.heap.size → J' k) : Row J w' A sz n el := fun i hi => by
  obtain ⟨ad, h1, h2, h3, hj, h4, h5, h6⟩ := h i hi
  exact ⟨ad, h1, h2, Nat.lt_of_lt_of_le h3 hs.size, hj, h4, h5, fun j v hv => by
    rw [← h6 j v hv]
    exact World.cell?_of_block (hs.block _ (hJ _ hj h3) h3)⟩
theorem Row.weak (h : Row J w A sz n el) (hJ : ∀ k, J k → J' k) : Row J' w A sz n el := fun i hi => by
  obtain ⟨ad, h1, h2, h3, hj, h4⟩ := h i hi
  exact ⟨ad, h1, h2, h3, hJ _ hj, h4⟩
theorem Row.cut (h : Row J w A sz n el) {m : Nat} (hm : m ≤ n) : Row J w A sz m el := fun i hi => h i (by omega)
theorem Row.same (h : Row J w A sz n el) {el' : Nat → List SV} (he : ∀ i, i < n → el' i = el i) : Row J w A sz n el' := fun i hi => by rw [he i hi]; exact h i hi
theorem Row.nil (J : Nat → Prop) (w : World) (A : Option Addr) (sz : Nat) (el : Nat → List SV) : Row J w A sz 0 el := fun i hi => by omega
theorem Row.block (h : Row J w A sz n el) (h0 : 0 < n) {ad : Addr} (had : A = some ad) : J ad.block ∧ ad.block < w.heap.size := by
  obtain ⟨ad', h1, h2, h3, h4, _⟩ := h 0 h0
  rw [had] at h1
  injection h1 with h1
  subst h1
  exact ⟨h4, h3⟩

/-- e's elements have sz cells, and so many bytes. -/
def elemOk (P : Program) (t e : TypeId) (sz bytes : Nat) : Bool := match P.underlying t, P.info? e with
  | some (.slice e'), some i => match i.zero with
    | some z => e'.beq e && i.size.beq sz && i.bytes.beq bytes && z.cells.size.beq sz && Nat.blt 0 sz
    | none => false
  | _, _ => false
theorem elemOk_get {t e : TypeId} {sz bytes : Nat} (h : elemOk P t e sz bytes = true) : P.underlying t = some (.slice e) ∧ ∃ i z, P.info? e = some i ∧ i.zero = some z ∧ z.cells.size = i.size ∧ i.size = sz ∧ i.bytes = bytes ∧ 0 < sz := by
  simp only [elemOk] at h
  split at h
  · rename_i e' i h1 h2
    split at h
    · rename_i z hz
      simp only [Bool.and_eq_true] at h
      obtain ⟨⟨⟨⟨h3, h4⟩, h5⟩, h6⟩, h7⟩ := h
      have h3 := nbeq_t h3
      subst h3
      exact ⟨h1, i, z, h2, hz, (nbeq_t h6).trans (nbeq_t h4).symm, nbeq_t h4, nbeq_t h5, nblt_t h7⟩
    · cases h
  · cases h
def byteOk (P : Program) (e : TypeId) : Bool := match P.info? e with
  | some i => match i.zero with
    | some (.int .u8 0) => i.size.beq 1 && i.bytes.beq 1
    | _ => false
  | none => false
/-- What can be appended: its cells. -/
inductive Feed (P : Program) (w : World) (t e : TypeId) (sz : Nat) : TypeId → Value → Nat → List Value → Prop
  | cells (ad : Addr) (m c : Nat) (news : List Value) (hl : news.length = m * sz) (hc : ∀ j u, news[j]? = some u → w.cell? (ad.add j) = some u) (h1 : ∀ u ∈ news, u.oneCell' = true) : Feed P w t e sz t (.slice (some ad) m c) m news
  | none (c : Nat) : Feed P w t e sz t (.slice .none 0 c) 0 []
  | str (u : TypeId) (s : ByteArray) (hu : P.underlying u = some .string) (hs : byteOk P e = true) : Feed P w t e sz u (.string s) s.size (Go.Lib.strCells s)
theorem Feed.src {t e : TypeId} {sz : Nat} (ht : P.underlying t = some (.slice e)) (he : ∀ i, P.info? e = some i → i.size = sz) (hi : (P.info? e).isSome = true) {tx : TypeId} {x : Value} {m : Nat} {news : List Value} (h : Feed P w t e sz tx x m news) : Src P sz tx x m news w := by
  cases h with
  | cells ad _ c _ hl hc h1 => exact Src.ofSlice w ht ad m c news hl hc h1
  | none c => exact Src.ofNil w ht c
  | str u s hu hs =>
    obtain ⟨i, hi⟩ := Option.isSome_iff_exists.1 hi
    have : sz = 1 := by
      simp only [byteOk, hi] at hs
      split at hs
      · simp only [Bool.and_eq_true] at hs
        rw [← he i hi]
        exact nbeq_t hs.1
      · cases hs
    subst this
    exact Src.ofString w hu s
/-- An append onto a row of one's own: the row is the same, or a new one. -/
theorem own_append {base : Nat} {t tx e : TypeId} {sz bytes : Nat} (hE : elemOk P t e sz bytes = true)
    {v x : Value} {n m : Nat} {xs news : List Value} (ty : TypeId) (hown : w.ownsRow base e sz v n xs) (hf : Feed P w t e sz tx x m news) (hbytes : (n + m) * bytes ≤ 140737488355328) (h63 : n + m ≤ 140737488355328) (hbase : base ≤ w.heap.size) :
    ∃ v' w', (Builtin.append_ #[t, tx] ty #[v, x]).run P w = .ok v' w' ∧ w'.ownsRow base e sz v' (n + m) (xs ++ news) ∧ w.grownBy w' v.ownBlock ∧ (v'.ownBlock = v.ownBlock ∨ v'.ownBlock = some w.heap.size) := by
  have hmax : n + m ≤ maxLen := by simp only [maxLen]; omega
  obtain ⟨ht, i, z, hi, hz, hzs, rfl, rfl, hsz⟩ := elemOk_get hE
  have src := hf.src ht (fun j hj => by rw [hi] at hj; injection hj with hj; rw [← hj]) (by rw [hi]; rfl)
  have key : ∀ v' w', (Builtin.append_ #[t, tx] ty #[v, x]).run P w = .ok v' w' → v'.ownBlock = v.ownBlock ∨ v'.ownBlock = some w.heap.size := by
    intro v' w' hr
    rcases hown.2 with ⟨rfl, rfl⟩ | ⟨g, cap, cur, rfl, hbg, hg, hnc, hcm, hcs, htake⟩
    · by_cases hm : 0 + m ≤ 0
      · exact .inl (by rw [run_append_cap_room (P := P) w t tx ty e i ht hi none 0 0 x m news src hm hr]; rfl)
      · have h2 := run_append_grow_src (P := P) w t tx ty e i z ht hi hz none 0 0 [] (run_firstCells_none w.drew i.size 0 0 0) x m news src (by omega) (by omega) (growslice_fits (by omega) hbytes)
        rw [hr] at h2
        injection h2 with h2 _
        exact .inr (by rw [h2]; rfl)
    · by_cases hm : n + m ≤ cap
      · exact .inl (by rw [run_append_cap_room (P := P) w t tx ty e i ht hi _ n cap x m news src hm hr]; rfl)
      · have h2 := run_append_grow_src (P := P) w t tx ty e i z ht hi hz (some ⟨g, 0, none⟩) n cap xs (run_firstCells_some w.drew i.size n _ n cap xs hown.1 (fun j u hu => by simpa using hown.cells (g := g) rfl j u hu)) x m news src (by omega) (by omega) (growslice_fits (by omega) hbytes)
        rw [hr] at h2
        injection h2 with h2 _
        exact .inr (by rw [h2]; rfl)
  cases hf with
  | cells ad _ c _ hl hc h1 =>
    obtain ⟨v', w', h1, h2, h3, _⟩ := run_append_own (P := P) w base t ty e i z i.size i.bytes ht hi hz rfl rfl hzs hsz v n xs hown ad m c news hl hc h1 hmax hbytes hbase
    exact ⟨v', w', h1, h2, h3, key _ _ h1⟩
  | none c =>
    have h1 : (Builtin.append_ #[t, t] ty #[v, .slice none 0 c]).run P w = .ok v w := by
      rcases hown.2 with ⟨rfl, rfl⟩ | ⟨g, cap, cur, rfl, _, _, hnc, _⟩
      · simp [Builtin.append_, run_underlying ht, sizeOf, typeInfo, hi, Builtin.lenOf, Builtin.firstCells]
      · simp [Builtin.append_, run_underlying ht, sizeOf, typeInfo, hi, Builtin.lenOf, Builtin.firstCells, hnc, storeCells]
    exact ⟨v, w, h1, by simpa using hown, ⟨rfl, rfl, rfl, Nat.le_refl _, fun _ _ _ => rfl⟩, key _ _ h1⟩
  | str u s hu hs' =>
    simp only [byteOk, hi] at hs'
    split at hs'
    · rename_i hz'
      simp only [Bool.and_eq_true] at hs'
      have h1 := nbeq_t hs'.1
      have h2 := nbeq_t hs'.2
      rw [h1] at hown ⊢
      obtain ⟨v', w', h1, h2, h3, _⟩ := Go.Lib.run_append_own_string (P := P) w base t tx ty e i ht hu hi hz' h1 h2 v n xs hown s hmax (by omega) hbase
      exact ⟨v', w', h1, h2, h3, key _ _ h1⟩
    · cases hs'
/-- The world has grown, by an append onto what is not known whole, nor as a row. -/
theorem Rep.grown {row : Option Nat} (h : Rep ρ B N st a w) (hg : w.grownBy w' row) (hc : ∀ id cs t, (id, Blk.cells cs t) ∈ st.tbl → some (ρ.nu id) ≠ row)
    (hr : ∀ id sz n el, (id, Blk.row sz n el) ∈ st.tbl → 0 < n → ∀ ad, ρ.al id = some ad → some ad.block ≠ row) (hB : ∀ b J, (b, J) ∈ B → ∀ k, row = some k → J k → b.heap.size ≤ k) : Rep ρ B N st a w' := by
  refine ⟨h.size, h.defers, h.slots, h.heap.world (fun id cs t hm => hg.block _ (Array.getElem?_eq_some_iff.1 (h.heap.cells id cs t hm)).1 (hc id cs t hm)) (fun id sz n el hm h0 ad had => ?_) hg.size fun b J hb => ?_⟩
  · obtain ⟨ad', h1, _, h3, _⟩ := h.heap.rows id sz n el hm 0 h0
    rw [h1] at had
    injection had with had
    subst had
    exact hg.block _ h3 (hr id sz n el hm h0 _ h1)
  · have hb' := h.heap.base b J hb
    refine hb'.trans (w := w) (J' := fun k => some k ≠ row) ⟨hg.os, hg.tape, hg.output, hg.size, fun k hk hlt => hg.block k hlt hk⟩ fun k hk hlt e => ?_
    have := hB b J hb k e.symm hk
    omega
/-- An append onto a row of one's own. -/
theorem hand_append {o : Oper} {Q : Exit → Act → World → Prop} {K : Act → World → Prop} (d : Option Tmp) (s x : Operand) (t tx : TypeId) (hd : o.dst = d) (ho : o.op = .call { callee := .builtin .append, args := #[s, x], argTypes := #[t, tx] })
    {base : Nat} {e : TypeId} {sz bytes : Nat} (hE : elemOk P t e sz bytes = true)
    {v xv : Value} {n m : Nat} {xs news : List Value} (hs : a.eval s = v) (hx : a.eval x = xv) (hown : w.ownsRow base e sz v n xs) (hf : Feed P w t e sz tx xv m news) (hbytes : (n + m) * bytes ≤ 140737488355328) (h63 : n + m ≤ 140737488355328) (hbase : base ≤ w.heap.size)
    (h : ∀ v' w', w'.ownsRow base e sz v' (n + m) (xs ++ news) → w.grownBy w' v.ownBlock → (v'.ownBlock = v.ownBlock ∨ v'.ownBlock = some w.heap.size) → K (a.put d v') w') : o.wp P a w K Q := by
  subst hd
  obtain ⟨v', w', hr, h2, h3, h4⟩ := own_append hE o.type hown hf hbytes h63 hbase
  unfold Oper.wp execOp
  simp only [ho, resolve, invoke, builtin, Sem.run_bind, Sem.run_pure, Result.andThen_ok, List.map_toArray, List.map_cons, List.map_nil, hs, hx, hr]
  exact h v' w' h2 h3 h4
end
end Go.Sx
