/- The engine's soundness: operations that read, make or write memory. -/
import Derived.Test.YtkidnihjihcjcaaGreatDoorSxO
set_option linter.unusedVariables false
set_option linter.unusedSimpArgs false
namespace Go.Sx
/-- What an operation does that is carried out: to the world, to the state; the slot is not yet written. -/
structure Good (P : Program) (ρ : Env) (B : Bases) (N : Nat) (st : St) (a : Act) (w : World) (o : Oper) (v : SV) (st' : St) (ρ' : Env) (x : Value) (w' : World) : Prop where
  run : (execOp a.eval o).run P w = .ok (.value x) w' ∨ ((execOp a.eval o).run P w = .ok .skip w' ∧ x = Go.undef)
  same : Env.Same st.nid ρ ρ'
  nid : st.nid ≤ st'.nid
  rep : Rep ρ' B N st' a w'
  den : v.den ρ' = x
  lt : v.lt st'.nid = true
  gd : ∀ j, gdOn j v = false
  keepT : ∀ id b, id < st.nid → (∀ t x y off, o.op = .store t x y → st.get x ≠ some (.ptr id off)) → ((id, b) ∈ st'.tbl ↔ (id, b) ∈ st.tbl)
section
variable {P : Program} {ρ : Env} {N : Nat} {st st' : St} {a : Act} {v : SV} {dst : Option Tmp} {ty : TypeId} {pos : String} {after : Array Edge} {g : Option (Nat × Bool)} {B : Bases} {w : World}

theorem addr_add {a : Addr} (h : a.spot = none) (n : Nat) : a.add n = ⟨a.block, a.off + n, none⟩ := by
  unfold Addr.add
  obtain ⟨b, o, s⟩ := a
  simp at h
  subst h
  split <;> simp_all
/-- A load of known cells. -/
theorem load_run {t : TypeId} {ag : Bool} {n : Nat} (hag : isAggD P t = some ag) (hn : szOf P t = some n) (h1 : (ag || n.beq 1) = true) {ad : Addr} (hs : ad.spot = none) {l : List SV} (hl : l.length = n)
    (hc : ∀ j v, l[j]? = some v → w.cell? ⟨ad.block, ad.off + j, none⟩ = some (v.den ρ)) {v : SV} (hp : pack ag l = some v) : (loadVar t ad).run P w = .ok (v.den ρ) w := by
  have hcs : ∀ j u, (denL ρ l)[j]? = some u → w.cell? (ad.add j) = some u := by
    intro j u hu
    rw [denL_map, List.getElem?_map] at hu
    obtain ⟨v, hv, rfl⟩ := Option.map_eq_some_iff.1 hu
    rw [addr_add hs]
    exact hc j v hv
  have hlen : (denL ρ l).length = n := by rw [denL_length, hl]
  rcases (pack_ok hp).2 with ⟨rfl, rfl⟩ | ⟨rfl, rfl⟩
  · have := run_loadCells_list (P := P) w ad (denL ρ l) hcs
    rw [hlen] at this
    simp [loadVar, isAgg_run hag, szOf_run hn, this, SV.den]
  · have h0 := hcs 0 (v.den ρ) (by simp [denL])
    have e : ad.add 0 = ad := by simp [Addr.add]
    rw [e] at h0
    simp [loadVar, isAgg_run hag, run_load, h0]
theorem cells_cell {id : Nat} {cs : List SV} {t : TypeId} {fr : Nat × Nat} (h : w.heap[ρ.nu id]? = some (.cells (denL ρ cs).toArray t fr)) {o : Nat} {v : SV} (hv : cs[o]? = some v) :
    w.cell? ⟨ρ.nu id, o, none⟩ = some (v.den ρ) := by
  simp [World.cell?, h, getElem_denL hv]
theorem take_get {cs : List SV} {off n j : Nat} {v : SV} (h : ((cs.drop off).take n)[j]? = some v) : cs[off + j]? = some v := by
  rw [List.getElem?_take] at h
  split at h
  · simpa using h
  · cases h
theorem loadP_run {id off : Nat} {cs : List SV} {t ct : TypeId} {ag : Bool} {n : Nat} (hag : isAggD P t = some ag) (hn : szOf P t = some n) (h1 : (ag || n.beq 1) = true)
    (hT : getT st.tbl id = some (.cells cs ct)) (hw : w.heap[ρ.nu id]? = some (.cells (denL ρ cs).toArray ct (0, 0))) {v : SV} (h : loadP st ag n id off = some v) :
    (loadVar t ⟨ρ.nu id, off, none⟩).run P w = .ok (v.den ρ) w := by
  unfold loadP at h
  rw [hT] at h
  dsimp only at h
  split at h
  · rename_i l hl
    obtain ⟨hle, rfl⟩ := takeAt_ok hl
    refine load_run hag hn h1 rfl (by simp; omega) (fun j u hu => ?_) h
    exact cells_cell hw (take_get hu)
  · cases h
theorem loadP_cells {id off n : Nat} {ag : Bool} {v : SV} (h : loadP st ag n id off = some v) : ∃ cs ct, getT st.tbl id = some (.cells cs ct) := by
  unfold loadP at h
  split at h
  · rename_i cs ct hT; exact ⟨cs, ct, hT⟩
  · cases h
theorem loadP_ok {id off n m : Nat} {ag : Bool} {v : SV} {cs : List SV} {ct : TypeId} (hT : getT st.tbl id = some (.cells cs ct)) (hl : ltL m cs = true) (h : loadP st ag n id off = some v) : v.lt m = true ∧ ∀ j, gdOn j v = false := by
  unfold loadP at h
  rw [hT] at h
  dsimp only at h
  split at h
  · rename_i l hl'
    obtain ⟨hle, rfl⟩ := takeAt_ok hl'
    exact ⟨pack_lt h (ltL_sub hl _ _), (pack_ok h).1⟩
  · cases h

/-- What an entry of the table says, at a world. -/
def EntryAt (ρ : Env) (w : World) (id : Nat) : Blk → Prop
  | .cells cs t => w.heap[ρ.nu id]? = some (.cells (denL ρ cs).toArray t (0, 0))
  | .row sz n el => RowAt ρ w id sz n el
theorem Heap.entry (h : Heap ρ B st w) {id : Nat} {b : Blk} (hb : getT st.tbl id = some b) : EntryAt ρ w id b := by
  have hm := getT_mem hb
  cases b with
  | cells cs t => exact h.cells id cs t hm
  | row sz n el => exact h.rows id sz n el hm

/-- A load through a known pointer. -/
theorem y_load {t : TypeId} {x : Operand} (hS : Slots ρ N st a) (hH : Heap ρ B st w) (h : step P st ⟨dst, .load t x, ty, pos, after, g⟩ = .ok v st') :
    st' = st ∧ v.lt st.nid = true ∧ (∀ j, gdOn j v = false) ∧ ∃ id off b, st.get x = some (.ptr id off) ∧ getT st.tbl id = some b ∧
      ∀ w', EntryAt ρ w' id b → (execOp a.eval ⟨dst, .load t x, ty, pos, after, g⟩).run P w' = .ok (.value (v.den ρ)) w' := by
  simp only [step] at h
  split at h
  · rename_i ag n id off hag hn hx
    cases hb : (ag || n.beq 1) with
    | false => rw [hb] at h; cases h
    | true =>
      rw [hb] at h
      obtain ⟨h1, h2⟩ := okv_ok h
      obtain ⟨cs, ct, hT⟩ := loadP_cells h1
      have hok := loadP_ok hT (hH.clt id cs ct (getT_mem hT)) h1
      refine ⟨h2, hok.1, hok.2, id, off, _, hx, hT, fun w' hw' => ?_⟩
      have kx := hS.knows hx
      have := loadP_run (ρ := ρ) hag hn hb hT hw' h1
      simp [execOp, ← kx.den, SV.den, Instr.loadAt, Instr.sureAddr, this]
  · split at h
    · split at h
      · split at h <;> (revert h; generalize (_ && _ : Bool) = bb; cases bb <;> (intro h; cases h))
      · revert h; generalize (_ && _ : Bool) = bb; cases bb <;> (intro h; cases h)
    · cases h
  · cases h
/-- A load of a row's element. -/
theorem y_loadE {t : TypeId} {x : Operand} {c : Bool} (hS : Slots ρ N st a) (hH : Heap ρ B st w) (h : step P st ⟨dst, .load t x, ty, pos, after, g⟩ = .need c v st') (hc : c = true) :
    st' = st ∧ v.lt st.nid = true ∧ (∀ j, gdOn j v = false) ∧ ∃ id sz i off b, st.get x = some (.ep id sz i off) ∧ getT st.tbl id = some b ∧
      ∀ w', EntryAt ρ w' id b → (execOp a.eval ⟨dst, .load t x, ty, pos, after, g⟩).run P w' = .ok (.value (v.den ρ)) w' := by
  simp only [step] at h
  split at h
  · revert h
    generalize (_ || _ : Bool) = bb
    cases bb
    · intro h; cases h
    · intro h; simp only [cond_true] at h; unfold okv at h; split at h <;> cases h
  · rename_i ag n id sz i off hag hn hx
    split at h
    · rename_i sz' m el hT
      cases hb : (sz.beq sz' && (ag || n.beq 1)) with
      | false => rw [hb] at h; cases h
      | true =>
        rw [hb] at h
        simp only [cond_true] at h
        simp only [Bool.and_eq_true] at hb
        have e := nbeq_t hb.1
        subst e
        split at h
        · rename_i l hl
          split at h
          · rename_i v' hp
            injection h with h0 h1 h2
            subst h1; subst h2; subst h0
            have hi : i < m := of_decide_eq_true hc
            obtain ⟨hle, rfl⟩ := takeAt_ok hl
            have hlt := hH.rlt id sz m el (getT_mem hT) i
            refine ⟨rfl, pack_lt hp (ltL_sub hlt _ _), (pack_ok hp).1, id, sz, i, off, _, hx, hT, fun w' hw' => ?_⟩
            have kx := hS.knows hx
            obtain ⟨ad, had, hsp, hbl, hlen, hcell⟩ := hw' i hi
            have ead : ρ.ad id = ad := by simp [Env.ad, had]
            have := load_run (P := P) (ρ := ρ) (w := w') hag hn hb.2 (ad := ⟨ad.block, ad.off + i * sz + off, none⟩) rfl (l := (List.drop off (el i)).take n) (by simp; omega)
              (fun j u hu => by have := hcell _ _ (take_get hu); simpa [Nat.add_assoc] using this) hp
            simp [execOp, ← kx.den, SV.den, Instr.loadAt, Instr.sureAddr, ead, this]
          · cases h
        · cases h
    · cases h
  · cases h
theorem y_indexAddr {t : TypeId} {x i : Operand} {c : Bool} (hS : Slots ρ N st a) (hH : Heap ρ B st w) (h : step P st ⟨dst, .indexAddr t x i, ty, pos, after, g⟩ = .need c v st') (hc : c = true) :
    st' = st ∧ Yields1 P ρ st a ⟨dst, .indexAddr t x i, ty, pos, after, g⟩ v := by
  simp only [step] at h
  split at h
  · rename_i e id n cp k' k he hx hi
    unfold elemOf at he
    split at he
    · rename_i hu
      injection he with he
      subst he
      split at h
      · rename_i sz sz' m el hsz hT
        cases hb : sz.beq sz' with
        | false => rw [hb] at h; cases h
        | true =>
          rw [hb] at h
          injection h with h0 h1 h2
          subst h0; subst h1; subst h2
          have e := nbeq_t hb
          subst e
          obtain ⟨c1, c2, c3⟩ := of_decide_eq_true hc
          have kx := hS.knows hx
          have ki := hS.knows hi
          obtain ⟨ad, had, hsp, hbl, hlen, hcell⟩ := hH.rows id sz m el (getT_mem hT) 0 (by omega)
          have ead : ρ.ad id = ad := by simp [Env.ad, had]
          refine ⟨rfl, fun w => ?_, kx.lt, fun _ => rfl⟩
          simp [execOp, ← kx.den, ← ki.den, SV.den, Instr.indexAt, asIntOf, run_underlying hu, szOf_run hsz, had, ead, c1, c2, addr_add hsp]
      · cases h
    · cases he
  · rename_i e id off n cp k' k he hx hi
    unfold elemOf at he
    split at he
    · rename_i hu
      injection he with he
      subst he
      split at h
      · rename_i sz hsz
        injection h with h0 h1 h2
        subst h0; subst h1; subst h2
        obtain ⟨c1, c2⟩ := of_decide_eq_true hc
        have kx := hS.knows hx
        have ki := hS.knows hi
        refine ⟨rfl, fun w => ?_, kx.lt, fun _ => rfl⟩
        simp [execOp, ← kx.den, ← ki.den, SV.den, Instr.indexAt, asIntOf, run_underlying hu, szOf_run hsz, c1, c2, addr_add]
      · cases h
    · cases he
  · cases h

theorem Rep.good1 (hR : Rep ρ B N st a w) {o : Oper} (h : Yields1 P ρ st a o v) : Good P ρ B N st a w o v st ρ (v.den ρ) w :=
  ⟨.inl (h.run w), fun _ _ => ⟨rfl, rfl⟩, Nat.le_refl _, hR, rfl, h.lt, h.gd, fun _ _ _ _ => Iff.rfl⟩

theorem Since.alloc {b : World} {J : Nat → Prop} (h : Since b J w) (o : Obj) : Since b J (w.alloc o) :=
  ⟨h.os, h.tape, h.output, Nat.le_trans h.size (by simp), fun k hJ hk => by
    rw [heap_alloc_old w o (Nat.lt_of_lt_of_le hk h.size)]; exact h.block k hJ hk⟩
theorem RowAt.keep {w w' : World} {id sz n : Nat} {el : Nat → List SV} (h : RowAt ρ w id sz n el) (hs : w.heap.size ≤ w'.heap.size)
    (hk : ∀ ad, ρ.al id = some ad → 0 < n → w'.heap[ad.block]? = w.heap[ad.block]?) : RowAt ρ w' id sz n el := by
  intro i hi
  obtain ⟨ad, h1, h2, h3, h4, h5⟩ := h i hi
  refine ⟨ad, h1, h2, by omega, h4, fun j v hv => ?_⟩
  rw [← h5 j v hv]
  exact World.cell?_of_block (hk ad h1 (by omega))
theorem RowAt.env {ρ ρ' : Env} {m : Nat} (hs : Env.Same m ρ ρ') {w : World} {id sz n : Nat} {el : Nat → List SV} (hid : id < m) (hl : ∀ i, ltL m (el i) = true) (h : RowAt ρ w id sz n el) : RowAt ρ' w id sz n el := by
  intro i hi
  obtain ⟨ad, h1, h2, h3, h4, h5⟩ := h i hi
  refine ⟨ad, by rw [← (hs id hid).2]; exact h1, h2, h3, h4, fun j v hv => ?_⟩
  rw [← SV.den_same hs v (ltL_all.1 (hl i) v (List.mem_of_getElem? hv))]
  exact h5 j v hv
/-- A new block. -/
theorem Rep.alloc (hR : Rep ρ B N st a w) {cs : List SV} {t : TypeId} (hl : ltL st.nid cs = true) :
    ∃ ρ', Env.Same st.nid ρ ρ' ∧ ρ'.nu st.nid = w.heap.size ∧ Rep ρ' B N (st.new (.cells cs t)) a (w.alloc (.cells (denL ρ cs).toArray t)) := by
  let ρ' : Env := ⟨fun i => if i = st.nid then w.heap.size else ρ.nu i, ρ.al⟩
  have hs : Env.Same st.nid ρ ρ' := fun i hi => ⟨by show _ = if i = st.nid then _ else _; rw [if_neg (by omega)], rfl⟩
  have hn : ρ'.nu st.nid = w.heap.size := by show (if st.nid = st.nid then _ else _) = _; rw [if_pos rfl]
  have old : ∀ id b, (id, b) ∈ st.tbl → ρ'.nu id = ρ.nu id := fun id b h => (hs id (hR.heap.ids id b h)).1.symm
  have lt_of : ∀ id cs t, (id, Blk.cells cs t) ∈ st.tbl → ρ.nu id < w.heap.size := fun id cs t h => (Array.getElem?_eq_some_iff.1 (hR.heap.cells id cs t h)).1
  refine ⟨ρ', hs, hn, hR.size, hR.defers, fun i v hm => ?_, ?_⟩
  · obtain ⟨h1, h2, h3⟩ := hR.slots i v hm
    exact ⟨by rw [← SV.at_same hs _ v h2]; exact h1, SV.lt_mono (Nat.le_succ _) v h2, h3⟩
  · have mem : ∀ {id b}, (id, b) ∈ (st.new (.cells cs t)).tbl → (id = st.nid ∧ b = .cells cs t) ∨ (id, b) ∈ st.tbl := by
      intro id b h
      simp only [St.new, List.mem_cons, Prod.mk.injEq] at h
      exact h
    refine ⟨?_, ?_, ?_, ?_, ?_, ?_, ?_, ?_, ?_⟩
    · intro id cs' t' h
      rcases mem h with ⟨rfl, he⟩ | h
      · injection he with h1 h2; subst h1; subst h2
        rw [hn, ← denL_same hs _ hl]; exact heap_alloc_new w _
      · rw [old _ _ h, ← denL_same hs _ (hR.heap.clt id cs' t' h), heap_alloc_old w _ (lt_of _ _ _ h)]
        exact hR.heap.cells id cs' t' h
    · intro id sz n el h
      rcases mem h with ⟨rfl, he⟩ | h
      · cases he
      · refine (RowAt.env hs (hR.heap.ids _ _ h) (hR.heap.rlt _ _ _ _ h) (hR.heap.rows id sz n el h)).keep (by simp) fun ad had hn0 => ?_
        obtain ⟨ad', h1, h2, h3, _⟩ := hR.heap.rows id sz n el h 0 hn0
        have : ad' = ad := by have e : ρ'.al id = ρ.al id := rfl; rw [e, h1] at had; injection had
        subst this
        exact heap_alloc_old w _ h3
    · intro id sz n el h hn0 id' cs' t' h' ad had
      rcases mem h with ⟨rfl, he⟩ | h
      · cases he
      · obtain ⟨ad', h1, h2, h3, _⟩ := hR.heap.rows id sz n el h 0 hn0
        have : ad' = ad := by have e : ρ'.al id = ρ.al id := rfl; rw [e, h1] at had; injection had
        subst this
        rcases mem h' with ⟨rfl, he⟩ | h'
        · rw [hn]; omega
        · rw [old _ _ h']; exact hR.heap.rowNe id sz n el h hn0 id' cs' t' h' _ h1
    · intro id cs1 t1 id' cs2 t2 h h' hne
      rcases mem h with ⟨rfl, he⟩ | h <;> rcases mem h' with ⟨rfl, he'⟩ | h'
      · exact (hne rfl).elim
      · rw [hn, old _ _ h']; have := lt_of _ _ _ h'; omega
      · rw [hn, old _ _ h]; have := lt_of _ _ _ h; omega
      · rw [old _ _ h, old _ _ h']; exact hR.heap.apart _ _ _ _ _ _ h h' hne
    · intro id b h
      rcases mem h with ⟨rfl, _⟩ | h
      · exact Nat.lt_succ_self _
      · exact Nat.lt_succ_of_lt (hR.heap.ids id b h)
    · intro id cs' t' h
      rcases mem h with ⟨rfl, he⟩ | h
      · injection he with h1 h2; subst h1; exact ltL_mono (Nat.le_succ _) _ hl
      · exact ltL_mono (Nat.le_succ _) _ (hR.heap.clt _ _ _ h)
    · intro id sz n el h i
      rcases mem h with ⟨rfl, he⟩ | h
      · cases he
      · exact ltL_mono (Nat.le_succ _) _ (hR.heap.rlt _ _ _ _ h i)
    · intro b J hb; exact (hR.heap.base b J hb).alloc _
    · intro b J hb id cs' t' h hJ
      rcases mem h with ⟨rfl, he⟩ | h
      · rw [hn]; exact (hR.heap.base b J hb).size
      · rw [old _ _ h] at hJ ⊢; exact hR.heap.free b J hb _ _ _ h hJ
end
end Go.Sx
