/- The engine's soundness: operations that make or write memory, and one step of any operation. -/
import Derived.Test.YtkidnihjihcjcaaGreatDoorSxM
set_option linter.unusedVariables false
set_option linter.unusedSimpArgs false
namespace Go.Sx
section
variable {P : Program} {ρ : Env} {N : Nat} {st st' : St} {a : Act} {v : SV} {dst : Option Tmp} {ty : TypeId} {pos : String} {after : Array Edge} {g : Option (Nat × Bool)} {B : Bases} {w : World}

theorem setAt_eq : ∀ (vs cs : List SV) (off : Nat), off + vs.length ≤ cs.length → setAt cs off vs = cs.take off ++ vs ++ cs.drop (off + vs.length)
  | [], cs, off, _ => by simp [setAt]
  | v :: vs, cs, off, h => by
    have hlt : off < cs.length := by simp at h; omega
    rw [setAt, setAt_eq vs (cs.set off v) (off + 1) (by simp at h ⊢; omega)]
    rw [List.take_set, List.drop_set_of_lt (by omega)]
    have e1 : (cs.take (off + 1)).set off v = cs.take off ++ [v] := by
      rw [List.take_succ_eq_append_getElem hlt]
      simp only [List.set_append, List.length_take, Nat.min_eq_left (Nat.le_of_lt hlt), Nat.lt_irrefl, if_false, Nat.sub_self, List.set_cons_zero]
    rw [e1]
    simp [Nat.add_assoc, Nat.add_comm 1]
theorem denL_setAt {vs cs : List SV} {off : Nat} (h : off + vs.length ≤ cs.length) :
    denL ρ (setAt cs off vs) = (denL ρ cs).take off ++ denL ρ vs ++ (denL ρ cs).drop (off + vs.length) := by
  rw [setAt_eq vs cs off h, denL_append, denL_append, denL_take, denL_drop]
theorem ltL_setAt {n : Nat} {vs cs : List SV} {off : Nat} (h : off + vs.length ≤ cs.length) (h1 : ltL n cs = true) (h2 : ltL n vs = true) : ltL n (setAt cs off vs) = true := by
  rw [setAt_eq vs cs off h, ltL_all]
  rw [ltL_all] at h1 h2
  intro v hv
  simp only [List.mem_append] at hv
  rcases hv with (hv | hv) | hv
  · exact h1 v (List.mem_of_mem_take hv)
  · exact h2 v hv
  · exact h1 v (List.mem_of_mem_drop hv)
theorem zeroCells_run {t : TypeId} {z : List SV} (h : zeroCells P t = some z) : ∃ x : Value, (∀ w, (zeroValue t).run P w = .ok x w) ∧ x.cells = (denL ρ z).toArray ∧ ones z = true ∧ ∀ n, ltL n z = true := by
  unfold zeroCells at h
  split at h
  · rename_i i hi
    split at h
    · rename_i x hx
      dsimp only at h
      cases ho : ones (ofVals x.cells.toList) with
      | false => rw [ho] at h; cases h
      | true =>
        rw [ho] at h
        injection h with h
        subst h
        refine ⟨x, fun w => by simp [zeroValue, typeInfo, hi, hx], ?_, ho, (ofVals_den ρ _).2⟩
        rw [(ofVals_den ρ _).1]
    · cases h
  · cases h
theorem good_alloc {t : TypeId} (hR : Rep ρ B N st a w) (h : step P st ⟨dst, .alloc t, ty, pos, after, g⟩ = .ok v st') :
    ∃ ρ' x w', Good P ρ B N st a w ⟨dst, .alloc t, ty, pos, after, g⟩ v st' ρ' x w' := by
  simp only [step] at h
  split at h
  · rename_i z hz
    injection h with h1 h2
    subst h1; subst h2
    obtain ⟨x, hx, hc, ho, hl⟩ := zeroCells_run (ρ := ρ) hz
    obtain ⟨ρ', hs, hn, hR'⟩ := hR.alloc (cs := z) (t := t) (hl _)
    refine ⟨ρ', _, _, .inl ?_, hs, Nat.le_succ _, hR', rfl, ?_, fun _ => rfl, ?_⟩
    · simp [execOp, Instr.alloc, hx, newVar, newRow, hc, SV.den, hn]
    · simp [SV.lt, St.new, Nat.blt]
    · intro id b hid _
      simp only [St.new, List.mem_cons, Prod.mk.injEq]
      exact ⟨fun h => h.resolve_left (fun h => by omega), .inr⟩
  · cases h
theorem good_box {t : TypeId} {x : Operand} (hR : Rep ρ B N st a w) (h : step P st ⟨dst, .box t x, ty, pos, after, g⟩ = .ok v st') :
    ∃ ρ' x' w', Good P ρ B N st a w ⟨dst, .box t x, ty, pos, after, g⟩ v st' ρ' x' w' := by
  simp only [step] at h
  split at h
  · rename_i u hx
    split at h
    · rename_i cs hcs
      injection h with h1 h2
      subst h1; subst h2
      have kx := hR.sl.knows hx
      obtain ⟨hc, ho, hl⟩ := cellsOf_den (ρ := ρ) hcs
      obtain ⟨ρ', hs, hn, hR'⟩ := hR.alloc (cs := cs) (t := t) (hl _ kx.lt)
      refine ⟨ρ', _, _, .inl ?_, hs, Nat.le_succ _, hR', rfl, ?_, fun _ => rfl, ?_⟩
      · simp [execOp, Instr.box, ← kx.den, newVar, newRow, hc, SV.den, hn]
      · simp [SV.lt, St.new, Nat.blt]
      · intro id b hid _
        simp only [St.new, List.mem_cons, Prod.mk.injEq]
        exact ⟨fun h => h.resolve_left (fun h => by omega), .inr⟩
    · cases h
  · cases h
/-- A known block is written. -/
theorem Rep.setRow (hR : Rep ρ B N st a w) {id : Nat} {cs cs' : List SV} {t : TypeId} (hm : (id, Blk.cells cs t) ∈ st.tbl) (hl : ltL st.nid cs' = true) :
    Rep ρ B N (st.setT id (.cells cs' t)) a (w.setRow (ρ.nu id) (denL ρ cs').toArray) := by
  have hw := hR.heap.cells id cs t hm
  have mem : ∀ {k b}, (k, b) ∈ (st.setT id (.cells cs' t)).tbl → (k = id ∧ b = .cells cs' t) ∨ ((k, b) ∈ st.tbl ∧ k ≠ id) := by
    intro k b h
    simp only [St.setT, List.mem_cons, Prod.mk.injEq] at h
    rcases h with h | h
    · exact .inl h
    · exact .inr (dropT_mem h)
  have far : ∀ k, k ≠ ρ.nu id → (w.setRow (ρ.nu id) (denL ρ cs').toArray).heap[k]? = w.heap[k]? := fun k hk => setRow_other w _ k _ hk
  refine ⟨hR.size, hR.defers, hR.slots, ?_⟩
  refine ⟨?_, ?_, ?_, ?_, ?_, ?_, ?_, ?_, ?_⟩
  · intro k c1 t1 h
    rcases mem h with ⟨rfl, he⟩ | ⟨h, hne⟩
    · injection he with h1 h2; subst h1; subst h2; exact setRow_heap w _ _ _ _ _ hw
    · rw [far _ (hR.heap.apart _ _ _ _ _ _ h hm hne)]; exact hR.heap.cells _ _ _ h
  · intro k sz n el h
    rcases mem h with ⟨rfl, he⟩ | ⟨h, hne⟩
    · cases he
    · exact (hR.heap.rows k sz n el h).keep (by simp) fun ad had hn0 => far _ (fun e => hR.heap.rowNe k sz n el h hn0 id cs t hm ad had e.symm)
  · intro k sz n el h hn0 id' c1 t1 h' ad had
    rcases mem h with ⟨rfl, he⟩ | ⟨h, hne⟩
    · cases he
    · rcases mem h' with ⟨e, _⟩ | ⟨h', _⟩
      · rw [e]; exact hR.heap.rowNe k sz n el h hn0 _ cs t hm ad had
      · exact hR.heap.rowNe k sz n el h hn0 _ _ _ h' ad had
  · intro k c1 t1 k' c2 t2 h h' hne
    rcases mem h with ⟨e, _⟩ | ⟨h, _⟩ <;> rcases mem h' with ⟨e', _⟩ | ⟨h', _⟩
    · exact (hne (e.trans e'.symm)).elim
    · rw [e] at hne ⊢; exact hR.heap.apart _ _ _ _ _ _ hm h' hne
    · rw [e'] at hne ⊢; exact hR.heap.apart _ _ _ _ _ _ h hm hne
    · exact hR.heap.apart _ _ _ _ _ _ h h' hne
  · intro k b h
    rcases mem h with ⟨rfl, _⟩ | ⟨h, _⟩
    · exact hR.heap.ids _ _ hm
    · exact hR.heap.ids _ _ h
  · intro k c1 t1 h
    rcases mem h with ⟨rfl, he⟩ | ⟨h, _⟩
    · injection he with h1 h2; subst h1; exact hl
    · exact hR.heap.clt _ _ _ h
  · intro k sz n el h i
    rcases mem h with ⟨rfl, he⟩ | ⟨h, _⟩
    · cases he
    · exact hR.heap.rlt _ _ _ _ h i
  · intro b J hb
    have hB := hR.heap.base b J hb
    refine ⟨hB.os, hB.tape, hB.output, by simpa using hB.size, fun k hJ hk => ?_⟩
    rw [far k ?_]
    · exact hB.block k hJ hk
    · rintro rfl
      have := hR.heap.free b J hb id cs t hm hJ
      omega
  · intro b J hb k c1 t1 h hJ
    rcases mem h with ⟨rfl, _⟩ | ⟨h, _⟩
    · exact hR.heap.free b J hb _ _ _ hm hJ
    · exact hR.heap.free b J hb _ _ _ h hJ
theorem good_store {t : TypeId} {x y : Operand} (hR : Rep ρ B N st a w) (h : step P st ⟨dst, .store t x y, ty, pos, after, g⟩ = .ok v st') :
    ∃ ρ' x' w', Good P ρ B N st a w ⟨dst, .store t x y, ty, pos, after, g⟩ v st' ρ' x' w' := by
  simp only [step] at h
  split at h
  · rename_i n id off u hn hx hy
    split at h
    · rename_i vs cs ct hvs hT
      cases hb : (vs.length.beq n && (off + n).ble cs.length) with
      | false => rw [hb] at h; cases h
      | true =>
        rw [hb] at h
        injection h with h1 h2
        subst h1; subst h2
        simp only [Bool.and_eq_true] at hb
        have e := nbeq_t hb.1
        have hle := nble_t hb.2
        subst e
        have kx := hR.sl.knows hx
        have ky := hR.sl.knows hy
        obtain ⟨hc, ho, hl⟩ := cellsOf_den (ρ := ρ) hvs
        have hm := getT_mem hT
        have hw := hR.heap.cells id cs ct hm
        have hR' := hR.setRow hm (ltL_setAt hle (hR.heap.clt _ _ _ hm) (hl _ ky.lt))
        have hrun := run_storeCells_at (P := P) (ρ.nu id) off ct (denL ρ vs) 0 (denL ρ cs).toArray w hw (by simp [denL_length]; omega) ho
        have ew : ((denL ρ cs).toArray.toList.take (off + 0) ++ denL ρ vs ++ (denL ρ cs).toArray.toList.drop (off + 0 + (denL ρ vs).length)).toArray = (denL ρ (setAt cs off vs)).toArray := by
          rw [denL_setAt hle]; simp [denL_length]
        rw [ew] at hrun
        refine ⟨ρ, _, _, .inr ⟨?_, rfl⟩, fun _ _ => ⟨rfl, rfl⟩, Nat.le_refl _, hR', rfl, rfl, fun _ => rfl, ?_⟩
        · have hcz : (SV.den ρ u).cells.size = vs.length := by rw [hc]; simp [denL_length]
          simp [execOp, ← kx.den, ← ky.den, Instr.storeAt, Instr.sureAddr, SV.den, storeVar, szOf_run hn, hcz]
          rw [hc]
          simp [hrun]
        · intro k b hk hne
          have hne' : k ≠ id := by rintro rfl; exact hne _ _ _ off rfl hx
          simp only [St.setT, List.mem_cons, Prod.mk.injEq]
          constructor
          · rintro (⟨rfl, _⟩ | h)
            · exact (hne' rfl).elim
            · exact (dropT_mem h).1
          · intro h
            refine .inr ?_
            have : ∀ l : List (Nat × Blk), (k, b) ∈ l → (k, b) ∈ dropT l id := by
              intro l
              induction l with
              | nil => simp
              | cons p l ih =>
                obtain ⟨k', b'⟩ := p
                intro h
                simp only [dropT]
                cases hk : k'.beq id with
                | true =>
                  have := nbeq_t hk
                  subst this
                  rcases List.mem_cons.1 h with h | h
                  · injection h with h1 h2; exact (hne' h1).elim
                  · exact ih h
                | false =>
                  rcases List.mem_cons.1 h with h | h
                  · rw [← h]; exact List.mem_cons_self
                  · exact List.mem_cons_of_mem _ (ih h)
            exact this _ h
    · cases h
  · cases h

theorem fold_set (off : Nat) : ∀ (vs : List Value) (k : Nat) (cs : List Value), off + k + vs.length ≤ cs.length →
    (vs.zipIdx k).foldl (fun (cs : Array Value) p => cs.setIfInBounds (off + p.2) p.1) cs.toArray = (cs.take (off + k) ++ vs ++ cs.drop (off + k + vs.length)).toArray
  | [], k, cs, _ => by simp
  | v :: vs, k, cs, h => by
    have hlt : off + k < cs.length := by simp at h; omega
    simp only [List.zipIdx_cons, List.foldl_cons]
    have e : cs.toArray.setIfInBounds (off + k) v = (cs.set (off + k) v).toArray := by simp
    rw [e, fold_set off vs (k + 1) (cs.set (off + k) v) (by simp at h ⊢; omega)]
    rw [List.take_set, List.drop_set_of_lt (by omega)]
    have e1 : (cs.take (off + (k + 1))).set (off + k) v = cs.take (off + k) ++ [v] := by
      rw [← Nat.add_assoc, List.take_succ_eq_append_getElem hlt]
      simp only [List.set_append, List.length_take, Nat.min_eq_left (Nat.le_of_lt hlt), Nat.lt_irrefl, if_false, Nat.sub_self, List.set_cons_zero]
    rw [e1]
    simp [Nat.add_assoc, Nat.add_comm 1]
theorem fold_cells (off : Nat) (vs : List Value) (cs : List Value) (h : off + vs.length ≤ cs.length) :
    vs.toArray.zipIdx.foldl (fun (cs : Array Value) (p : Value × Nat) => cs.setIfInBounds (off + p.2) p.1) cs.toArray = (cs.take off ++ vs ++ cs.drop (off + vs.length)).toArray := by
  have := fold_set off vs 0 cs (by simpa using h)
  rw [← Array.foldl_toList, Array.toList_zipIdx]
  simpa using this
theorem fillS_ok {t : TypeId} {fs : Array Field} (hu : P.underlying t = some (.struct fs)) (hS : Slots ρ N st a) {places : Array (Nat × Nat)}
    (hp : ∀ (f : Nat) (fd : Field), fs[f]? = some fd → ∀ n, szOf P fd.type = some n → places[f]? = some (fd.offset, n)) : ∀ (l : List (Nat × Operand)) (cs r : List SV), fillS P t st cs l = some r →
    ltL st.nid cs = true → ltL st.nid r = true ∧ Instr.fill (places[·]?) (denL ρ cs).toArray (l.map fun p => (p.1, a.eval p.2)) = some (denL ρ r).toArray := by
  intro l
  induction l with
  | nil => intro cs r h hl; injection h with h; subst h; exact ⟨hl, rfl⟩
  | cons p l ih =>
    obtain ⟨f, x⟩ := p
    intro cs r h hl
    simp only [fillS] at h
    split at h
    · rename_i off ft u hf hx
      obtain ⟨fs', fd, hu', hfd, rfl, rfl⟩ := fieldOf_ok hf
      rw [hu] at hu'
      injection hu' with hu'; injection hu' with hu'
      subst hu'
      split at h
      · rename_i n vs hn hvs
        cases hb : (vs.length.beq n && (fd.offset + n).ble cs.length) with
        | false => rw [hb] at h; cases h
        | true =>
          rw [hb] at h
          simp only [Bool.and_eq_true] at hb
          have e := nbeq_t hb.1
          have hle := nble_t hb.2
          subst e
          have kx := hS.knows hx
          obtain ⟨hc, ho, hlv⟩ := cellsOf_den (ρ := ρ) hvs
          obtain ⟨h1, h2⟩ := ih _ _ h (ltL_setAt hle hl (hlv _ kx.lt))
          refine ⟨h1, ?_⟩
          rw [denL_setAt hle] at h2
          have hcs : (a.eval x).cells = (denL ρ vs).toArray := by rw [← kx.den, hc]
          simp only [List.map_cons, Instr.fill, hp f fd hfd _ hn, hcs]
          have hsz : (denL ρ vs).toArray.size = vs.length := by simp [denL_length]
          have hcz : (denL ρ cs).toArray.size = cs.length := by simp [denL_length]
          rw [hsz, hcz]
          have hcond : (vs.length ≠ vs.length || decide (fd.offset + vs.length > cs.length)) = false := by simp; omega
          have ef := fold_cells fd.offset (denL ρ vs) (denL ρ cs) (by rw [denL_length, denL_length]; exact hle)
          rw [denL_length] at ef
          rw [if_neg (by simpa using hle)]
          rw [← ef] at h2
          exact h2
      · cases h
    · cases h
theorem fillR_ok (hS : Slots ρ N st a) {sz : Nat} : ∀ (l : List (Nat × Operand)) (cs r : List SV), fillR st sz cs l = some r →
    ltL st.nid cs = true → ltL st.nid r = true ∧ Instr.fill (fun i => some (i * sz, sz)) (denL ρ cs).toArray (l.map fun p => (p.1, a.eval p.2)) = some (denL ρ r).toArray := by
  intro l
  induction l with
  | nil => intro cs r h hl; injection h with h; subst h; exact ⟨hl, rfl⟩
  | cons p l ih =>
    obtain ⟨i, x⟩ := p
    intro cs r h hl
    simp only [fillR] at h
    split at h
    · rename_i u hx
      split at h
      · rename_i vs hvs
        cases hb : (vs.length.beq sz && (i * sz + sz).ble cs.length) with
        | false => rw [hb] at h; cases h
        | true =>
          rw [hb] at h
          simp only [Bool.and_eq_true] at hb
          have e := nbeq_t hb.1
          have hle := nble_t hb.2
          subst e
          have kx := hS.knows hx
          obtain ⟨hc, ho, hlv⟩ := cellsOf_den (ρ := ρ) hvs
          obtain ⟨h1, h2⟩ := ih _ _ h (ltL_setAt hle hl (hlv _ kx.lt))
          refine ⟨h1, ?_⟩
          rw [denL_setAt hle] at h2
          have hcs : (a.eval x).cells = (denL ρ vs).toArray := by rw [← kx.den, hc]
          simp only [List.map_cons, Instr.fill, hcs]
          have hsz : (denL ρ vs).toArray.size = vs.length := by simp [denL_length]
          have hcz : (denL ρ cs).toArray.size = cs.length := by simp [denL_length]
          rw [hsz, hcz]
          have ef := fold_cells (i * vs.length) (denL ρ vs) (denL ρ cs) (by rw [denL_length, denL_length]; exact hle)
          rw [denL_length] at ef
          rw [if_neg (by simpa using hle)]
          rw [← ef] at h2
          exact h2
      · cases h
    · cases h

theorem mapM_places (w : World) : ∀ l : List Field, l.all (fun f => (szOf P f.type).isSome) = true →
    (l.mapM fun f : Field => (do pure (f.offset, ← sizeOf f.type) : Sem (Nat × Nat))).run P w = .ok (l.map fun f => (f.offset, (szOf P f.type).getD 0)) w
  | [], _ => rfl
  | f :: l, h => by
    simp only [List.all_cons, Bool.and_eq_true] at h
    obtain ⟨n, hn⟩ := Option.isSome_iff_exists.1 h.1
    have ih := mapM_places w l h.2
    simp only [List.mapM_cons, Sem.run_bind, szOf_run hn, Result.andThen_ok, Sem.run_pure, List.map_cons, hn, Option.getD_some]
    rw [ih]
    rfl
theorem y_build {t : TypeId} {parts : Array (Nat × Operand)} (hS : Slots ρ N st a) (h : step P st ⟨dst, .build t parts, ty, pos, after, g⟩ = .ok v st') :
    st' = st ∧ Yields1 P ρ st a ⟨dst, .build t parts, ty, pos, after, g⟩ v := by
  simp only [step] at h
  split at h
  · rename_i fs z hu hz
    cases hb : fs.toList.all (fun f => (szOf P f.type).isSome) with
    | false => rw [hb] at h; cases h
    | true =>
      rw [hb] at h
      simp only [cond_true] at h
      split at h
      · rename_i cs hcs
        injection h with h1 h2
        subst h1; subst h2
        obtain ⟨x, hx, hc, ho, hl⟩ := zeroCells_run (ρ := ρ) hz
        obtain ⟨e1, e2⟩ := fillS_ok hu hS (places := (fs.toList.map fun f : Field => (f.offset, (szOf P f.type).getD 0)).toArray)
          (fun f fd hfd n hn => by simp [hfd, hn]) _ _ _ hcs (hl _)
        refine ⟨rfl, fun w => ?_, by simpa [SV.lt] using e1, fun _ => rfl⟩
        have hm : (fs.mapM fun f : Field => (do pure (f.offset, ← sizeOf f.type) : Sem (Nat × Nat))).run P w = .ok (fs.toList.map fun f : Field => (f.offset, (szOf P f.type).getD 0)).toArray w := by
          rw [Array.mapM_eq_mapM_toList, Sem.run_map, mapM_places w _ hb]
          rfl
        have e3 : (parts.map fun (i, x) => (i, a.eval x)).toList = parts.toList.map fun p => (p.1, a.eval p.2) := by simp
        simp only [execOp, Instr.build, Sem.run_bind, hx, Result.andThen_ok, Sem.run_pure, run_underlying hu, hm, hc, e3, e2, SV.den]
      · cases h
  · cases h
theorem repL_length (z : List SV) : ∀ n, (repL z n).length = n * z.length
  | 0 => by simp [repL]
  | n + 1 => by simp [repL, repL_length z n, Nat.succ_mul, Nat.add_comm]
theorem ltL_append {n : Nat} {l r : List SV} (h1 : ltL n l = true) (h2 : ltL n r = true) : ltL n (l ++ r) = true := by
  rw [ltL_all] at *
  intro v hv
  rcases List.mem_append.1 hv with h | h
  · exact h1 v h
  · exact h2 v h
theorem repL_lt {n : Nat} {z : List SV} (h : ltL n z = true) : ∀ k, ltL n (repL z k) = true
  | 0 => rfl
  | k + 1 => ltL_append h (repL_lt h k)
theorem repL_get {z : List SV} : ∀ (k i : Nat), i < k * z.length → (denL ρ (repL z k))[i]? = (denL ρ z)[i % z.length]?
  | 0, i, h => by simp at h
  | k + 1, i, h => by
    simp only [repL, denL_append]
    by_cases hi : i < z.length
    · rw [List.getElem?_append_left (by rw [denL_length]; exact hi), Nat.mod_eq_of_lt hi]
    · rw [List.getElem?_append_right (by rw [denL_length]; omega), denL_length, repL_get k _ (by rw [Nat.succ_mul] at h; omega), ← Nat.mod_eq_sub_mod (by omega)]
theorem zeros_eq {z : List SV} {len sz : Nat} (hz : z.length = sz) (h0 : 0 < len * sz) :
    (Array.range (len * sz)).map ((denL ρ z).toArray[· % (denL ρ z).toArray.size]!) = (denL ρ (repL z len)).toArray := by
  subst hz
  apply Array.ext'
  apply List.ext_getElem?
  intro i
  simp only [Array.toList_map, Array.toList_range, List.getElem?_map]
  by_cases hi : i < len * z.length
  · rw [List.getElem?_range hi, repL_get len i hi]
    have hm : i % z.length < z.length := Nat.mod_lt _ (Nat.pos_of_ne_zero fun h => by rw [h] at h0; simp at h0)
    simp [denL_length, List.getElem?_eq_getElem (show i % z.length < (denL ρ z).length by rw [denL_length]; exact hm)]
  · rw [List.getElem?_eq_none (by simp; omega), List.getElem?_eq_none (by rw [denL_length, repL_length]; omega)]
    rfl
theorem good_buildSlice {t : TypeId} {len : Nat} {parts : Array (Nat × Operand)} (hR : Rep ρ B N st a w) (h : step P st ⟨dst, .buildSlice t len parts, ty, pos, after, g⟩ = .ok v st') :
    ∃ ρ' x w', Good P ρ B N st a w ⟨dst, .buildSlice t len parts, ty, pos, after, g⟩ v st' ρ' x w' := by
  simp only [step] at h
  split at h
  · rename_i e he
    unfold elemOf at he
    split at he
    · rename_i hu
      injection he with he
      subst he
      split at h
      · rename_i sz z hsz hz
        cases hb : ((len * sz).ble 10000 && z.length.beq sz) with
        | false => rw [hb] at h; cases h
        | true =>
          rw [hb] at h
          simp only [cond_true] at h
          simp only [Bool.and_eq_true] at hb
          have hle := nble_t hb.1
          have hzl := nbeq_t hb.2
          split at h
          · rename_i cs hcs
            injection h with h1 h2
            subst h1; subst h2
            obtain ⟨x, hx, hc, ho, hl⟩ := zeroCells_run (ρ := ρ) hz
            obtain ⟨e1, e2⟩ := fillR_ok hR.sl _ _ _ hcs (repL_lt (hl _) len)
            obtain ⟨ρ', hs, hn, hR'⟩ := hR.alloc (cs := cs) (t := _) e1
            refine ⟨ρ', _, _, .inl ?_, hs, Nat.le_succ _, hR', rfl, ?_, fun _ => rfl, ?_⟩
            · have e3 : (parts.map fun (i, x) => (i, a.eval x)).toList = parts.toList.map fun p => (p.1, a.eval p.2) := by simp
              by_cases h0 : len * sz = 0
              · have er : (denL ρ (repL z len)) = [] := by
                  apply List.eq_nil_of_length_eq_zero; rw [denL_length, repL_length, hzl, h0]
                rw [er] at e2
                have e0 : ∀ f : Nat → Value, (Array.range 0).map f = #[] := fun f => by apply Array.ext'; simp [Array.toList_map, Array.toList_range]
                simp only [execOp, Instr.buildSlice, Sem.run_bind, run_underlying hu, szOf_run hsz, Result.andThen_ok, h0, e3, e2, e0, newRow, SV.den, hn, Sem.run_pure, run_newObj, if_true, Sem.run_ite]
                simp [e2, hn]
              · have := zeros_eq (ρ := ρ) (len := len) hzl (by omega)
                simp only [execOp, Instr.buildSlice, Sem.run_bind, run_underlying hu, szOf_run hsz, Result.andThen_ok, h0, hx, hc, this, e3, e2, newRow, SV.den, hn, Sem.run_pure, run_newObj, if_false, Sem.run_ite]
                rw [if_neg (by omega)]
                simp [hc, this, e2, hn]
            · simp [SV.lt, St.new, Nat.blt]
            · intro id b hid _
              simp only [St.new, List.mem_cons, Prod.mk.injEq]
              exact ⟨fun h => h.resolve_left (fun h => by omega), .inr⟩
          · cases h
      · cases h
    · cases he
  · cases h

/-- A row's facts, its address given. -/
def RowIs (ρ : Env) (w : World) (A : Option Addr) (sz n : Nat) (el : Nat → List SV) : Prop :=
  ∀ i, i < n → ∃ ad : Addr, A = some ad ∧ ad.spot = none ∧ ad.block < w.heap.size ∧ (el i).length = sz ∧
    ∀ j v, (el i)[j]? = some v → w.cell? ⟨ad.block, ad.off + i * sz + j, none⟩ = some (v.den ρ)
/-- A new readable row. -/
theorem Rep.row (hR : Rep ρ B N st a w) {A : Option Addr} {sz n : Nat} {el : Nat → List SV} (hr : RowIs ρ w A sz n el) (hl : ∀ i, ltL st.nid (el i) = true)
    (hne : 0 < n → ∀ id' cs t, (id', Blk.cells cs t) ∈ st.tbl → ∀ ad, A = some ad → ρ.nu id' ≠ ad.block) :
    ∃ ρ', Env.Same st.nid ρ ρ' ∧ ρ'.al st.nid = A ∧ Rep ρ' B N (st.new (.row sz n el)) a w := by
  let ρ' : Env := ⟨ρ.nu, fun i => if i = st.nid then A else ρ.al i⟩
  have hs : Env.Same st.nid ρ ρ' := fun i hi => ⟨rfl, by show _ = if i = st.nid then _ else _; rw [if_neg (by omega)]⟩
  have hn : ρ'.al st.nid = A := by show (if st.nid = st.nid then _ else _) = _; rw [if_pos rfl]
  have old : ∀ id b, (id, b) ∈ st.tbl → ρ'.al id = ρ.al id := fun id b h => (hs id (hR.heap.ids id b h)).2.symm
  refine ⟨ρ', hs, hn, hR.size, hR.defers, fun i v hm => ?_, ?_⟩
  · obtain ⟨h1, h2, h3⟩ := hR.slots i v hm
    exact ⟨by rw [← SV.at_same hs _ v h2]; exact h1, SV.lt_mono (Nat.le_succ _) v h2, h3⟩
  · have mem : ∀ {id b}, (id, b) ∈ (st.new (.row sz n el)).tbl → (id = st.nid ∧ b = .row sz n el) ∨ (id, b) ∈ st.tbl := by
      intro id b h
      simp only [St.new, List.mem_cons, Prod.mk.injEq] at h
      exact h
    refine ⟨?_, ?_, ?_, ?_, ?_, ?_, ?_, ?_, ?_⟩
    · intro id cs' t' h
      rcases mem h with ⟨rfl, he⟩ | h
      · cases he
      · rw [← denL_same hs _ (hR.heap.clt id cs' t' h)]
        exact hR.heap.cells id cs' t' h
    · intro id sz' n' el' h
      rcases mem h with ⟨rfl, he⟩ | h
      · injection he with h1 h2 h3; subst h1; subst h2; subst h3
        intro i hi
        obtain ⟨ad, h1, h2, h3, h4, h5⟩ := hr i hi
        refine ⟨ad, by rw [hn, h1], h2, h3, h4, fun j v hv => ?_⟩
        rw [← SV.den_same hs v (ltL_all.1 (hl i) v (List.mem_of_getElem? hv))]
        exact h5 j v hv
      · exact RowAt.env hs (hR.heap.ids _ _ h) (hR.heap.rlt _ _ _ _ h) (hR.heap.rows _ _ _ _ h)
    · intro id sz' n' el' h hn0 id' cs' t' h' ad had
      rcases mem h' with ⟨_, he⟩ | hc'
      · cases he
      · rcases mem h with ⟨e, he⟩ | hc
        · injection he with h1 h2 h3
          rw [e, hn] at had
          exact hne (by omega) id' cs' t' hc' ad had
        · rw [old _ _ hc] at had
          exact hR.heap.rowNe _ _ _ _ hc hn0 id' cs' t' hc' ad had
    · intro id cs1 t1 id' cs2 t2 h h' hne
      rcases mem h with ⟨_, he⟩ | h
      · cases he
      · rcases mem h' with ⟨_, he⟩ | h'
        · cases he
        · exact hR.heap.apart _ _ _ _ _ _ h h' hne
    · intro id b h
      rcases mem h with ⟨rfl, _⟩ | h
      · exact Nat.lt_succ_self _
      · exact Nat.lt_succ_of_lt (hR.heap.ids id b h)
    · intro id cs' t' h
      rcases mem h with ⟨rfl, he⟩ | h
      · cases he
      · exact ltL_mono (Nat.le_succ _) _ (hR.heap.clt _ _ _ h)
    · intro id sz' n' el' h i
      rcases mem h with ⟨rfl, he⟩ | h
      · injection he with h1 h2 h3; subst h3; exact ltL_mono (Nat.le_succ _) _ (hl i)
      · exact ltL_mono (Nat.le_succ _) _ (hR.heap.rlt _ _ _ _ h i)
    · exact hR.heap.base
    · intro b J hb id cs' t' h hJ
      rcases mem h with ⟨rfl, he⟩ | h
      · cases he
      · exact hR.heap.free b J hb _ _ _ h hJ
theorem natOf_ok (hS : Slots ρ N st a) {o : Option Operand} {d : Nat} {n : Int} (h : natOf o st d = some n) :
    (o = none ∧ n = d) ∨ ∃ x, o = some x ∧ a.eval x = .int .i64 n := by
  cases o with
  | none => injection h with h; exact .inl ⟨rfl, h.symm⟩
  | some x =>
    simp only [natOf] at h
    split at h
    · rename_i hx
      injection h with h
      subst h
      exact .inr ⟨x, rfl, (hS.knows hx).den.symm⟩
    · cases h
theorem bound_run {x : Value} {K y : Nat} (e : x = .int .i64 (K : Int)) (hK : K ≤ y) (code : BoundsCode) (w : World) : (Instr.sliceBound x y code).run P w = .ok K w := by
  subst e
  simp [Instr.sliceBound, asIntOf, hK]
theorem good_slice {t : TypeId} {x : Operand} {lo hi mx : Option Operand} {c : Bool} (hR : Rep ρ B N st a w) (h : step P st ⟨dst, .slice t x lo hi mx, ty, pos, after, g⟩ = .need c v st') (hc : c = true) :
    ∃ ρ' x' w', Good P ρ B N st a w ⟨dst, .slice t x lo hi mx, ty, pos, after, g⟩ v st' ρ' x' w' := by
  simp only [step] at h
  cases hbad : (hi.isNone && mx.isSome) with
  | true => rw [hbad] at h; cases h
  | false =>
    rw [hbad] at h
    simp only [cond_false] at h
    split at h
    · rename_i e id n cp he hx
      unfold elemOf at he
      split at he
      · rename_i hu
        injection he with he
        subst he
        split at h
        · rename_i sz sz' k el l hh m hsz hT hlo hhi hmx
          cases hb : sz.beq sz' with
          | false => rw [hb] at h; cases h
          | true =>
            rw [hb] at h
            injection h with h0 h1 h2
            subst h0; subst h1; subst h2
            have e := nbeq_t hb
            subst e
            obtain ⟨c1, c2, c3, c4, c5, c6⟩ := of_decide_eq_true hc
            have kx := hR.sl.knows hx
            have hm := getT_mem hT
            obtain ⟨L, rfl⟩ := Int.eq_ofNat_of_zero_le c1
            obtain ⟨H, rfl⟩ := Int.eq_ofNat_of_zero_le (Int.le_trans c1 c2)
            obtain ⟨M, rfl⟩ := Int.eq_ofNat_of_zero_le (show 0 ≤ m by omega)
            have d1 : L ≤ H := by omega
            have d2 : H ≤ n := by omega
            have d3 : H ≤ M := by omega
            have d4 : M ≤ cp := by omega
            have eH : ((H : Int) - (L : Int)).toNat = H - L := by omega
            have eM : ((M : Int) - (L : Int)).toNat = M - L := by omega
            simp only [eH, eM, Int.toNat_natCast]
            have hrow := hR.heap.rows id sz k el hm
            obtain ⟨ρ', hs, hn, hR'⟩ := hR.row (A := if M = L then ρ.al id else (ρ.al id).map (·.add (L * sz))) (sz := sz) (n := H - L) (el := fun i => el (L + i))
              (by
                intro i hi
                obtain ⟨ad, a1, a2, a3, a4, a5⟩ := hrow (L + i) (by omega)
                refine ⟨⟨ad.block, ad.off + L * sz, none⟩, ?_, rfl, a3, a4, fun j v hv => ?_⟩
                · rw [if_neg (by omega), a1]
                  simp [addr_add a2]
                · have := a5 j v hv
                  rw [Nat.add_mul, ← Nat.add_assoc] at this
                  exact this)
              (fun i => hR.heap.rlt _ _ _ _ hm _)
              (by
                intro h0 id' cs t hcs ad had
                rw [if_neg (by omega)] at had
                obtain ⟨ad', a1, a2, _⟩ := hrow 0 (by omega)
                rw [a1] at had
                injection had with had
                have had : ad'.add (L * sz) = ad := had
                rw [addr_add a2] at had
                subst had
                exact hR.heap.rowNe _ _ _ _ hm (by omega) id' cs t hcs ad' a1)
            refine ⟨ρ', _, w, .inl ?_, hs, Nat.le_succ _, hR', rfl, by simp [SV.lt, St.new, Nat.blt], fun _ => rfl, ?_⟩
            · have hb1 : (Instr.sliceBounds true n cp (lo.map a.eval) (hi.map a.eval) (mx.map a.eval)).run P w = .ok (L, H, M) w := by
                rcases natOf_ok hR.sl hmx with ⟨rfl, e3⟩ | ⟨xm, rfl, e3⟩
                · have e3 : M = cp := by omega
                  subst e3
                  rcases natOf_ok hR.sl hhi with ⟨rfl, e2⟩ | ⟨xh, rfl, e2⟩
                  · have e2 : H = n := by omega
                    subst e2
                    rcases natOf_ok hR.sl hlo with ⟨rfl, e1⟩ | ⟨xl, rfl, e1⟩
                    · have e1 : L = 0 := by omega
                      subst e1
                      simp [Instr.sliceBounds]
                    · simp [Instr.sliceBounds, bound_run (P := P) e1 d1]
                  · rcases natOf_ok hR.sl hlo with ⟨rfl, e1⟩ | ⟨xl, rfl, e1⟩
                    · have e1 : L = 0 := by omega
                      subst e1
                      simp [Instr.sliceBounds, bound_run (P := P) e2 d3]
                    · simp [Instr.sliceBounds, bound_run (P := P) e1 d1, bound_run (P := P) e2 d3]
                · rcases natOf_ok hR.sl hhi with ⟨rfl, e2⟩ | ⟨xh, rfl, e2⟩
                  · simp at hbad
                  · rcases natOf_ok hR.sl hlo with ⟨rfl, e1⟩ | ⟨xl, rfl, e1⟩
                    · have e1 : L = 0 := by omega
                      subst e1
                      simp [Instr.sliceBounds, bound_run (P := P) e2 d3, bound_run (P := P) e3 d4]
                    · simp [Instr.sliceBounds, bound_run (P := P) e1 d1, bound_run (P := P) e2 d3, bound_run (P := P) e3 d4]
              simp only [execOp, Instr.sliceAt, Instr.slice, Sem.run_bind, run_underlying hu, Result.andThen_ok, ← kx.den, SV.den, hb1, szOf_run hsz, Sem.run_pure, hn]
            · intro k' b hid _
              simp only [St.new, List.mem_cons, Prod.mk.injEq]
              exact ⟨fun h => h.resolve_left (fun h => by omega), .inr⟩
        · cases h
      · cases he
    · cases h
end
end Go.Sx
