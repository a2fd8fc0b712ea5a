/- The engine's soundness, second half of the first part: operations that only yield. -/
import Derived.Test.YtkidnihjihcjcaaGreatDoorSxS
set_option linter.unusedVariables false
set_option linter.unusedSimpArgs false
namespace Go.Sx
section
variable {P : Program} {ρ : Env} {N : Nat} {st st' : St} {a : Act} {v : SV} {dst : Option Tmp} {ty : TypeId} {pos : String} {after : Array Edge} {g : Option (Nat × Bool)}

/-- It yields, whatever the world. -/
structure Yields1 (P : Program) (ρ : Env) (st : St) (a : Act) (o : Oper) (v : SV) : Prop where
  run : ∀ w, (execOp a.eval o).run P w = .ok (.value (v.den ρ)) w
  lt : v.lt st.nid = true
  gd : ∀ j, gdOn j v = false

theorem okv_ok {st st' : St} {o : Option SV} {v : SV} (h : okv st o = .ok v st') : o = some v ∧ st' = st := by
  cases o with
  | none => cases h
  | some u => injection h with h1 h2; subst h1; subst h2; exact ⟨rfl, rfl⟩
theorem Knows.yields {o : Oper} {x : Value} (hk : Knows ρ st.nid v x) (hr : ∀ w, (execOp a.eval o).run P w = .ok (.value x) w) : Yields1 P ρ st a o v :=
  ⟨fun w => by rw [hr w, hk.den], hk.lt, hk.gd⟩

theorem y_move {x : Operand} (hS : Slots ρ N st a) (h : step P st ⟨dst, .move x, ty, pos, after, g⟩ = .ok v st') :
    st' = st ∧ Yields1 P ρ st a ⟨dst, .move x, ty, pos, after, g⟩ v := by
  obtain ⟨h1, h2⟩ := okv_ok h
  exact ⟨h2, (hS.knows h1).yields fun w => rfl⟩
theorem y_assign {x : Operand} (hS : Slots ρ N st a) (h : step P st ⟨dst, .assign x, ty, pos, after, g⟩ = .ok v st') :
    st' = st ∧ Yields1 P ρ st a ⟨dst, .assign x, ty, pos, after, g⟩ v := by
  obtain ⟨h1, h2⟩ := okv_ok h
  exact ⟨h2, (hS.knows h1).yields fun w => rfl⟩

theorem sameK_ints {u v : SV} (h : sameK u v = true) : ∃ k x y, u = .int k x ∧ v = .int k y := by
  cases u <;> cases v <;> first
    | (simp [sameK, kindOf] at h; done)
    | (rename_i k x k' y; simp [sameK, kindOf] at h; subst h; exact ⟨k, x, y, rfl, rfl⟩)
theorem posI_ne {y : Int} (h : posI y = true) : y ≠ 0 := by
  unfold posI at h
  split at h
  · intro e; injection e with e; omega
  · cases h
theorem bin_ints {op : BinOp} {k : IntKind} {x y : Int} {v : SV} (h : bin op (.int k x) (.int k y) = some v) (w : World) (t : TypeId) :
    (binOp op t (.int k x) (.int k y)).run P w = .ok (v.den ρ) w ∧ (∀ n, v.lt n = true) ∧ ∀ j, gdOn j v = false := by
  cases op <;> simp only [bin] at h <;> first
    | (cases h; done)
    | (injection h with h; subst h; refine ⟨?_, fun _ => rfl, fun _ => rfl⟩; simp [binOp, Op.intCmp, Op.intArith, SV.den]; done)
    | (cases hp : posI y with
       | false => rw [hp] at h; cases h
       | true =>
         rw [hp] at h
         injection h with h; subst h; refine ⟨?_, fun _ => rfl, fun _ => rfl⟩; simp [binOp, Op.intDiv, SV.den, posI_ne hp])
theorem notV_den {u v : SV} (h : notV u = some v) : ∃ b, u.den ρ = .bool b ∧ v.den ρ = .bool (!b) ∧ (∀ n, v.lt n = true) ∧ ∀ j, gdOn j v = false := by
  cases u <;> first
    | (cases h; done)
    | (injection h with h; subst h; exact ⟨_, rfl, rfl, fun _ => rfl, fun _ => rfl⟩)
theorem eqNil_in {u v r : SV} {d : TypeDesc} {t : TypeId} (h : eqNil d u v = some r) (hu : P.underlying t = some d) (n : Nat) (w : World) :
    ∃ b, r.den ρ = .bool b ∧ (Op.equalIn (n + 1) t (u.den ρ) (v.den ρ)).run P w = .ok b w ∧ (∀ n, r.lt n = true) ∧ ∀ j, gdOn j r = false := by
  unfold eqNil at h
  split at h
  · injection h with h; subst h
    rename_i o _
    refine ⟨_, rfl, ?_, fun _ => rfl, fun _ => rfl⟩
    cases o <;> simp [Op.equalIn, run_underlying hu, SV.den, isNoneA, isNoneI]
  · injection h with h; subst h
    rename_i o _ _ _ _
    refine ⟨_, rfl, ?_, fun _ => rfl, fun _ => rfl⟩
    cases o <;> simp [Op.equalIn, run_underlying hu, SV.den, isNoneA, isNoneI]
  · injection h with h; subst h
    refine ⟨_, rfl, ?_, fun _ => rfl, fun _ => rfl⟩
    simp [Op.equalIn, run_underlying hu, SV.den]
  · injection h with h; subst h
    refine ⟨_, rfl, ?_, fun _ => rfl, fun _ => rfl⟩
    simp [Op.equalIn, run_underlying hu, SV.den]
  · injection h with h; subst h
    refine ⟨_, rfl, ?_, fun _ => rfl, fun _ => rfl⟩
    simp [Op.equalIn, run_underlying hu, SV.den]
  · injection h with h; subst h
    refine ⟨_, rfl, ?_, fun _ => rfl, fun _ => rfl⟩
    simp [Op.equalIn, run_underlying hu, SV.den]
  · injection h with h; subst h
    refine ⟨_, rfl, ?_, fun _ => rfl, fun _ => rfl⟩
    simp [Op.equalIn, run_underlying hu, SV.den]
  · cases h
theorem eqNil_eq {u v r : SV} {d : TypeDesc} {t : TypeId} (h : eqNil d u v = some r) (hu : P.underlying t = some d) (w : World) :
    ∃ b, r.den ρ = .bool b ∧ (Op.equal t (u.den ρ) (v.den ρ)).run P w = .ok b w ∧ (∀ n, r.lt n = true) ∧ ∀ j, gdOn j r = false := eqNil_in h hu 9999 w
theorem eqNil_guard {u v r : SV} {d : TypeDesc} (h : eqNil d u v = some r) (x y : Operand) (hc : Region.isConst y = true) (op : BinOp) (t : TypeId) (w : World) :
    (eqGuard op t x y (u.den ρ) (v.den ρ)).run P w = .ok () w := by
  unfold eqNil at h
  cases y <;> simp only [Region.isConst] at hc <;> try (cases hc; done)
  split at h
  · rename_i o _
    cases o <;> cases op <;> simp [eqGuard, SV.den]
  · cases op <;> simp [eqGuard, SV.den]
  · cases op <;> simp [eqGuard, SV.den]
  · cases op <;> simp [eqGuard, SV.den]
  · cases op <;> simp [eqGuard, SV.den]
  · cases op <;> simp [eqGuard, SV.den]
  · cases op <;> simp [eqGuard, SV.den]
  · cases h
theorem eqNil_noInt {u v r : SV} {d : TypeDesc} (h : eqNil d u v = some r) (op : BinOp) (t : TypeId) (ho : op = .eql ∨ op = .neq) :
    binOp op t (u.den ρ) (v.den ρ) = (do let b ← Op.equal t (u.den ρ) (v.den ρ); pure (.bool (if op = .eql then b else !b))) := by
  unfold eqNil at h
  split at h
  · rename_i o _
    cases o <;> rcases ho with rfl | rfl <;> simp [binOp, SV.den]
  · rcases ho with rfl | rfl <;> simp [binOp, SV.den]
  · rcases ho with rfl | rfl <;> simp [binOp, SV.den]
  · rcases ho with rfl | rfl <;> simp [binOp, SV.den]
  · rcases ho with rfl | rfl <;> simp [binOp, SV.den]
  · rcases ho with rfl | rfl <;> simp [binOp, SV.den]
  · rcases ho with rfl | rfl <;> simp [binOp, SV.den]
  · cases h
theorem eqGuard_int (op : BinOp) (t : TypeId) (x y : Operand) (k k' : IntKind) (m n : Int) (w : World) :
    (eqGuard op t x y (.int k m) (.int k' n)).run P w = .ok () w := by
  cases op <;> simp [eqGuard]
theorem y_binOp {op : BinOp} {t t' : TypeId} {x y : Operand} (hS : Slots ρ N st a) (h : step P st ⟨dst, .binOp op t x y t', ty, pos, after, g⟩ = .ok v st') :
    st' = st ∧ Yields1 P ρ st a ⟨dst, .binOp op t x y t', ty, pos, after, g⟩ v := by
  simp only [step] at h
  split at h
  · rename_i u r hx hy
    have kx := hS.knows hx
    have ky := hS.knows hy
    cases hb : sameK u r with
    | true =>
      rw [hb] at h
      obtain ⟨k, m, n, rfl, rfl⟩ := sameK_ints hb
      simp only [cond_true] at h
      cases hdv : (divs op && !Region.isConst y) with
      | true =>
        rw [hdv] at h
        simp only [cond_true] at h
        unfold divV at h
        split at h <;> cases h
      | false =>
      rw [hdv] at h
      simp only [cond_false] at h
      obtain ⟨h1, h2⟩ := okv_ok h
      refine ⟨h2, fun w => ?_, (bin_ints (P := P) (ρ := ρ) h1 default t).2.1 _, (bin_ints (P := P) (ρ := ρ) h1 default t).2.2⟩
      have ex : a.eval x = .int k m := kx.den.symm
      have ey : a.eval y = .int k n := ky.den.symm
      simp [execOp, ex, ey, eqGuard_int, (bin_ints (P := P) (ρ := ρ) h1 w t).1]
    | false =>
      rw [hb] at h
      simp only [cond_false] at h
      split at h
      · rename_i d hc hu
        obtain ⟨h1, h2⟩ := okv_ok h
        refine ⟨h2, fun w => ?_, ?_, ?_⟩
        · obtain ⟨b, e1, e2, _⟩ := eqNil_eq (P := P) (ρ := ρ) h1 hu w
          simp [execOp, ← kx.den, ← ky.den, eqNil_guard (P := P) h1 x y hc, eqNil_noInt h1 .eql t (.inl rfl), e2, e1]
        · exact (eqNil_eq (P := P) (ρ := ρ) h1 hu default).choose_spec.2.2.1 _
        · exact (eqNil_eq (P := P) (ρ := ρ) h1 hu default).choose_spec.2.2.2
      · rename_i d hc hu
        obtain ⟨h1, h2⟩ := okv_ok h
        obtain ⟨r', h3, h4⟩ := Option.bind_eq_some_iff.1 h1
        obtain ⟨b', n1, n2, n3, n4⟩ := notV_den (ρ := ρ) h4
        refine ⟨h2, fun w => ?_, n3 _, n4⟩
        obtain ⟨b, e1, e2, _⟩ := eqNil_eq (P := P) (ρ := ρ) h3 hu w
        rw [n1] at e1
        injection e1 with e1
        subst e1
        simp [execOp, ← kx.den, ← ky.den, eqNil_guard (P := P) h3 x y hc, eqNil_noInt h3 .neq t (.inr rfl), e2, n2]
      · cases h
  · cases h
theorem posI_of {y : Int} (h : 0 < y) : posI y = true := by
  match y, h with
  | .ofNat (n + 1), _ => rfl
/-- A division by what is not written out. -/
theorem y_div {op : BinOp} {t t' : TypeId} {x y : Operand} {c : Bool} (hS : Slots ρ N st a) (h : step P st ⟨dst, .binOp op t x y t', ty, pos, after, g⟩ = .need c v st') (hc : c = true) :
    st' = st ∧ Yields1 P ρ st a ⟨dst, .binOp op t x y t', ty, pos, after, g⟩ v := by
  simp only [step] at h
  split at h
  · rename_i u r hx hy
    have kx := hS.knows hx
    have ky := hS.knows hy
    cases hb : sameK u r with
    | true =>
      rw [hb] at h
      simp only [cond_true] at h
      obtain ⟨k, m, n, rfl, rfl⟩ := sameK_ints hb
      cases hdv : (divs op && !Region.isConst y) with
      | false =>
        rw [hdv] at h
        simp only [cond_false] at h
        unfold okv at h
        split at h <;> cases h
      | true =>
        rw [hdv] at h
        simp only [cond_true] at h
        have key : ∃ v', v = v' ∧ st' = st ∧ c = decide (0 < n) ∧ (0 < n → bin op (.int k m) (.int k n) = some v') := by
          unfold divV at h
          split at h
          · rename_i e1 e2
            injection e1 with a1 a2; injection e2 with b1 b2
            subst a1; subst a2; subst b2
            injection h with h0 h1 h2
            exact ⟨_, h1.symm, h2.symm, h0.symm, fun hp => by simp [bin, posI_of hp]⟩
          · rename_i e1 e2
            injection e1 with a1 a2; injection e2 with b1 b2
            subst a1; subst a2; subst b2
            injection h with h0 h1 h2
            exact ⟨_, h1.symm, h2.symm, h0.symm, fun hp => by simp [bin, posI_of hp]⟩
          · cases h
        obtain ⟨v', rfl, h2, h3, h4⟩ := key
        rw [hc] at h3
        have h1 := h4 (of_decide_eq_true h3.symm)
        refine ⟨h2, fun w => ?_, (bin_ints (P := P) (ρ := ρ) h1 default t).2.1 _, (bin_ints (P := P) (ρ := ρ) h1 default t).2.2⟩
        have ex : a.eval x = .int k m := kx.den.symm
        have ey : a.eval y = .int k n := ky.den.symm
        simp [execOp, ex, ey, eqGuard_int, (bin_ints (P := P) (ρ := ρ) h1 w t).1]
    | false =>
      rw [hb] at h
      simp only [cond_false] at h
      split at h
      · unfold okv at h; split at h <;> cases h
      · unfold okv at h; split at h <;> cases h
      · cases h
  · cases h
theorem y_not {t : TypeId} {x : Operand} (hS : Slots ρ N st a) (h : step P st ⟨dst, .unOp .not t x, ty, pos, after, g⟩ = .ok v st') :
    st' = st ∧ Yields1 P ρ st a ⟨dst, .unOp .not t x, ty, pos, after, g⟩ v := by
  simp only [step] at h
  obtain ⟨h1, h2⟩ := okv_ok h
  obtain ⟨r', h3, h4⟩ := Option.bind_eq_some_iff.1 h1
  obtain ⟨b', n1, n2, n3, n4⟩ := notV_den (ρ := ρ) h4
  refine ⟨h2, fun w => ?_, n3 _, n4⟩
  have kx := hS.knows h3
  simp [execOp, ← kx.den, n1, n2, Op.unary]
theorem y_neg {t : TypeId} {x : Operand} (hS : Slots ρ N st a) (h : step P st ⟨dst, .unOp .neg t x, ty, pos, after, g⟩ = .ok v st') :
    st' = st ∧ Yields1 P ρ st a ⟨dst, .unOp .neg t x, ty, pos, after, g⟩ v := by
  simp only [step] at h
  split at h
  · rename_i k n hx
    injection h with h1 h2
    subst h1; subst h2
    have kx := hS.knows hx
    refine ⟨rfl, fun w => ?_, rfl, fun _ => rfl⟩
    simp [execOp, ← kx.den, Op.unary, SV.den, Op.intArith]
  · cases h
theorem y_convert {s d : TypeId} {x : Operand} (hS : Slots ρ N st a) (h : step P st ⟨dst, .convert s d x, ty, pos, after, g⟩ = .ok v st') :
    st' = st ∧ Yields1 P ρ st a ⟨dst, .convert s d x, ty, pos, after, g⟩ v := by
  simp only [step] at h
  split at h
  · rename_i ks k k' n hs hd hx
    injection h with h1 h2
    subst h1; subst h2
    have kx := hS.knows hx
    refine ⟨rfl, fun w => ?_, rfl, fun _ => rfl⟩
    simp [execOp, ← kx.den, convert, run_underlying hs, run_underlying hd, SV.den, Conv.intToInt]
  · cases h
theorem y_makeInterface {t : TypeId} {x : Operand} (hS : Slots ρ N st a) (h : step P st ⟨dst, .makeInterface t x, ty, pos, after, g⟩ = .ok v st') :
    st' = st ∧ Yields1 P ρ st a ⟨dst, .makeInterface t x, ty, pos, after, g⟩ v := by
  simp only [step] at h
  split at h
  · rename_i k n hs hx
    injection h with h1 h2
    subst h1; subst h2
    have kx := hS.knows hx
    refine ⟨rfl, fun w => ?_, rfl, fun _ => rfl⟩
    simp [execOp, ← kx.den, Instr.makeInterface, run_underlying hs, SV.den]
  · cases h
theorem getElem_denL {l : List SV} {i : Nat} {v : SV} (h : l[i]? = some v) : (denL ρ l)[i]? = some (v.den ρ) := by
  rw [denL_map, List.getElem?_map, h]; rfl
theorem noGd_ok {u v : SV} (h : noGd u = some v) : u = v ∧ ∀ j, gdOn j v = false := by
  cases u <;> first
    | (cases h; done)
    | (injection h with h; subst h; exact ⟨rfl, fun _ => rfl⟩)
theorem y_extract {x : Operand} {i : Nat} (hS : Slots ρ N st a) (h : step P st ⟨dst, .extract x i, ty, pos, after, g⟩ = .ok v st') :
    st' = st ∧ Yields1 P ρ st a ⟨dst, .extract x i, ty, pos, after, g⟩ v := by
  simp only [step] at h
  split at h
  · rename_i l hx
    obtain ⟨h1, h2⟩ := okv_ok h
    obtain ⟨u, h4, h3⟩ := Option.bind_eq_some_iff.1 h1
    obtain ⟨rfl, hg⟩ := noGd_ok h3
    have kx := hS.knows hx
    refine ⟨h2, fun w => ?_, ?_, hg⟩
    · have e := getElem_denL (ρ := ρ) h4
      simp [execOp, ← kx.den, Instr.extract, SV.den, e]
    · have := kx.lt
      simp only [SV.lt] at this
      exact ltL_all.1 this u (List.mem_of_getElem? h4)
  · cases h
theorem isAgg_run {t : TypeId} {ag : Bool} (h : isAggD P t = some ag) (w : World) : (isAgg t).run P w = .ok ag w := by
  unfold isAggD at h
  split at h
  · rename_i hu; injection h with h; subst h; simp [isAgg, run_underlying hu]
  · rename_i hu; injection h with h; subst h; simp [isAgg, run_underlying hu]
  · rename_i d h1 h2 hu
    injection h with h; subst h
    cases d with
    | struct fs => exact (h1 _ rfl).elim
    | array n e => exact (h2 _ _ rfl).elim
    | _ => simp [isAgg, run_underlying hu]
  · cases h
theorem szOf_run {t : TypeId} {n : Nat} (h : szOf P t = some n) (w : World) : (sizeOf t).run P w = .ok n w := by
  unfold szOf at h
  obtain ⟨i, h1, h2⟩ := Option.map_eq_some_iff.1 h
  simp [sizeOf, typeInfo, h1, h2]
theorem takeAt_ok {cs l : List SV} {off n : Nat} (h : takeAt cs off n = some l) : off + n ≤ cs.length ∧ l = (cs.drop off).take n := by
  unfold takeAt at h
  cases hb : (off + n).ble cs.length with
  | false => rw [hb] at h; cases h
  | true => rw [hb] at h; injection h with h; exact ⟨nble_t hb, h.symm⟩
theorem denL_take (l : List SV) (n : Nat) : denL ρ (l.take n) = (denL ρ l).take n := by rw [denL_map, denL_map, List.map_take]
theorem denL_drop (l : List SV) (n : Nat) : denL ρ (l.drop n) = (denL ρ l).drop n := by rw [denL_map, denL_map, List.map_drop]
theorem pack_ok {ag : Bool} {l : List SV} {v : SV} (h : pack ag l = some v) :
    (∀ j, gdOn j v = false) ∧ ((ag = true ∧ v = .agg l) ∨ (ag = false ∧ l = [v])) := by
  cases ag with
  | true => injection h with h; subst h; exact ⟨fun _ => rfl, .inl ⟨rfl, rfl⟩⟩
  | false =>
    simp only [pack, cond_false] at h
    split at h
    · obtain ⟨rfl, hg⟩ := noGd_ok h
      exact ⟨hg, .inr ⟨rfl, rfl⟩⟩
    · cases h
theorem fieldOf_ok {t : TypeId} {f off : Nat} {ft : TypeId} (h : fieldOf P t f = some (off, ft)) :
    ∃ fs fd, P.underlying t = some (.struct fs) ∧ fs[f]? = some fd ∧ fd.offset = off ∧ fd.type = ft := by
  unfold fieldOf at h
  split at h
  · rename_i fs hu
    split at h
    · rename_i fd hf
      injection h with h; injection h with h1 h2
      exact ⟨fs, fd, hu, hf, h1, h2⟩
    · cases h
  · cases h
theorem ltL_sub {n : Nat} {l : List SV} (h : ltL n l = true) (off k : Nat) : ltL n ((l.drop off).take k) = true := by
  rw [ltL_all] at *
  intro v hv
  exact h v (List.mem_of_mem_drop (List.mem_of_mem_take hv))
theorem pack_lt {n : Nat} {ag : Bool} {l : List SV} {v : SV} (h : pack ag l = some v) (hl : ltL n l = true) : v.lt n = true := by
  rcases (pack_ok h).2 with ⟨_, rfl⟩ | ⟨_, rfl⟩
  · simpa [SV.lt] using hl
  · simpa [ltL] using hl
theorem y_field {t : TypeId} {x : Operand} {f : Nat} (hS : Slots ρ N st a) (h : step P st ⟨dst, .field t x f, ty, pos, after, g⟩ = .ok v st') :
    st' = st ∧ Yields1 P ρ st a ⟨dst, .field t x f, ty, pos, after, g⟩ v := by
  simp only [step] at h
  split at h
  · rename_i off ft l hf hx
    obtain ⟨fs, fd, hu, hfd, rfl, rfl⟩ := fieldOf_ok hf
    split at h
    · rename_i ag n hag hn
      split at h
      · rename_i r hr
        cases hb : (ag || n.beq 1) with
        | false => rw [hb] at h; cases h
        | true =>
          rw [hb] at h
          obtain ⟨h1, h2⟩ := okv_ok h
          obtain ⟨hle, rfl⟩ := takeAt_ok hr
          have kx := hS.knows hx
          have hl : ltL st.nid l = true := by simpa [SV.lt] using kx.lt
          refine ⟨h2, fun w => ?_, pack_lt h1 (ltL_sub hl _ _), (pack_ok h1).1⟩
          have hlen : (denL ρ l).length = l.length := denL_length ρ l
          rcases (pack_ok h1).2 with ⟨rfl, rfl⟩ | ⟨rfl, he⟩
          · simp [execOp, ← kx.den, Instr.field, run_underlying hu, hfd, SV.den, asAgg, part, isAgg_run hag, szOf_run hn, denL_take, denL_drop, List.extract_eq_take_drop]
          · simp at hb
            subst hb
            have e : (denL ρ l)[fd.offset]? = some (v.den ρ) := by
              rw [denL_map, List.getElem?_map]
              have : (List.take 1 (List.drop fd.offset l))[0]? = some v := by rw [he]; rfl
              simp at this
              simp [this]
            simp [execOp, ← kx.den, Instr.field, run_underlying hu, hfd, SV.den, asAgg, part, isAgg_run hag, e]
      · cases h
    · cases h
  · cases h
theorem y_fieldAddr {t : TypeId} {x : Operand} {f : Nat} (hS : Slots ρ N st a) (h : step P st ⟨dst, .fieldAddr t x f, ty, pos, after, g⟩ = .ok v st') :
    st' = st ∧ Yields1 P ρ st a ⟨dst, .fieldAddr t x f, ty, pos, after, g⟩ v := by
  simp only [step] at h
  split at h
  · rename_i off ft u hf hx
    obtain ⟨fs, fd, hu, hfd, rfl, rfl⟩ := fieldOf_ok hf
    have kx := hS.knows hx
    split at h
    · rename_i m id o hsz
      injection h with h1 h2
      subst h1; subst h2
      refine ⟨rfl, fun w => ?_, kx.lt, fun _ => rfl⟩
      by_cases h0 : fd.offset = 0 <;> simp [execOp, ← kx.den, Instr.fieldAt, run_underlying hu, hfd, SV.den, Instr.sureAddr, fieldPlace, szOf_run hsz, Addr.add, h0]
    · rename_i m id sz i o hsz
      injection h with h1 h2
      subst h1; subst h2
      refine ⟨rfl, fun w => ?_, kx.lt, fun _ => rfl⟩
      by_cases h0 : fd.offset = 0 <;> simp [execOp, ← kx.den, Instr.fieldAt, run_underlying hu, hfd, SV.den, Instr.sureAddr, fieldPlace, szOf_run hsz, Addr.add, h0]
      all_goals omega
    · cases h
  · cases h
theorem y_nilCheck {x : Operand} (hS : Slots ρ N st a) (h : step P st ⟨dst, .nilCheck x, ty, pos, after, g⟩ = .ok v st') :
    st' = st ∧ Yields1 P ρ st a ⟨dst, .nilCheck x, ty, pos, after, g⟩ v := by
  simp only [step] at h
  split at h
  · rename_i id o hx
    injection h with h1 h2
    subst h1; subst h2
    have kx := hS.knows hx
    exact ⟨rfl, fun w => by simp [execOp, ← kx.den, SV.den], kx.lt, fun _ => rfl⟩
  · rename_i id sz i o hx
    injection h with h1 h2
    subst h1; subst h2
    have kx := hS.knows hx
    exact ⟨rfl, fun w => by simp [execOp, ← kx.den, SV.den], kx.lt, fun _ => rfl⟩
  · cases h
theorem getRaw_knows (hS : Slots ρ N st a) {x : Operand} {u : SV} (h : getRaw st x = some u) :
    a.eval x = u.at ρ a.tmps ∧ u.lt st.nid = true ∧ flat u = true := by
  cases x with
  | tmp t =>
    have hk := hS.slots t u (getS_mem h)
    exact ⟨by simp [Act.eval, hk.1], hk.2⟩
  | const c =>
    have hk := hS.knows (show st.get (.const c) = some u from h)
    exact ⟨by rw [SV.at_den hk.gd, hk.den], hk.lt, by cases u <;> first | rfl | (rename_i j w v; have := hk.gd j; simp [gdOn] at this)⟩
  | global c =>
    have hk := hS.knows (show st.get (.global c) = some u from h)
    exact ⟨by rw [SV.at_den hk.gd, hk.den], hk.lt, by cases u <;> first | rfl | (rename_i j w v; have := hk.gd j; simp [gdOn] at this)⟩
  | func c =>
    have hk := hS.knows (show st.get (.func c) = some u from h)
    exact ⟨by rw [SV.at_den hk.gd, hk.den], hk.lt, by cases u <;> first | rfl | (rename_i j w v; have := hk.gd j; simp [gdOn] at this)⟩
theorem bareV_at {j : Nat} {w : Bool} {u : SV} {tm : Array Value} (hj : tm[j]? = some (.bool w)) (hf : flat u = true) : u.at ρ tm = (bareV j w u).at ρ tm ∧ ∀ n, u.lt n = true → (bareV j w u).lt n = true := by
  cases u with
  | gd j' w' v =>
    simp only [bareV]
    cases hb : (j.beq j' && (w == w')) with
    | false => exact ⟨rfl, fun _ h => h⟩
    | true =>
      simp only [Bool.and_eq_true] at hb
      have e1 := nbeq_t hb.1
      have e2 : w = w' := by simpa using hb.2
      subst e1; subst e2
      have e : v.at ρ tm = v.den ρ := by cases v <;> first | rfl | (simp [flat] at hf)
      refine ⟨?_, fun n h => by simpa [SV.lt] using h⟩
      show _ = v.at ρ tm
      rw [e]
      simp [SV.at, hj]
  | _ => exact ⟨rfl, fun _ h => h⟩
theorem pickB_ok {c : Bool} {x y v : SV} (h : pickB c x y = some v) :
    v.den ρ = (if c then x.den ρ else y.den ρ) ∧ (∀ n, v.lt n = true) ∧ (∀ j, gdOn j v = false) ∧ (∀ j, gdOn j x = false) ∧ ∀ j, gdOn j y = false := by
  unfold pickB at h
  split at h <;> first
    | (cases h; done)
    | (injection h with h; subst h; refine ⟨?_, fun _ => rfl, fun _ => rfl, fun _ => rfl, fun _ => rfl⟩; cases c <;> simp [SV.den])
    | (rename_i k p k' q; cases hk : (k == k') with
        | false => rw [hk] at h; cases h
        | true =>
          rw [hk] at h; injection h with h; subst h
          have hk : k = k' := by simpa using hk
          subst hk
          refine ⟨?_, fun _ => rfl, fun _ => rfl, fun _ => rfl, fun _ => rfl⟩
          cases c <;> simp [SV.den])
theorem y_pick {c x y : Operand} (hS : Slots ρ N st a) (h : step P st ⟨dst, .pick c x y, ty, pos, after, g⟩ = .ok v st') :
    st' = st ∧ Yields1 P ρ st a ⟨dst, .pick c x y, ty, pos, after, g⟩ v := by
  obtain ⟨h1, h2⟩ := okv_ok h
  refine ⟨h2, ?_⟩
  unfold pickv at h1
  split at h1
  case h_2 => cases h1
  rename_i j
  split at h1
  · rename_i _ u hc hx
    have kc := hS.slots j _ (getS_mem hc)
    have kx := getRaw_knows hS hx
    have hj : a.tmps[j]? = some (.bool true) := kc.1
    have hc' : a.eval (.tmp j) = .bool true := by simp [Act.eval, hj]
    have kb := bareV_at (ρ := ρ) hj kx.2.2
    have hgd : (∀ i, gdOn i v = false) ∧ bareV j true u = v := by
      split at h1
      · cases h1
      · rename_i hne
        injection h1 with h1
        exact ⟨fun i => by rw [← h1]; cases hb : bareV j true u <;> first | rfl | exact absurd hb (hne _ _ _), h1⟩
    refine ⟨fun w => ?_, ?_, hgd.1⟩
    · have e : a.eval x = v.den ρ := by rw [kx.1, kb.1, hgd.2, SV.at_den hgd.1]
      simp [execOp, asBool, hc']
      exact e
    · rw [← hgd.2]; exact kb.2 _ kx.2.1
  · rename_i u hc hx
    have kc := hS.slots j _ (getS_mem hc)
    have kx := getRaw_knows hS hx
    have hj : a.tmps[j]? = some (.bool false) := kc.1
    have hc' : a.eval (.tmp j) = .bool false := by simp [Act.eval, hj]
    have kb := bareV_at (ρ := ρ) hj kx.2.2
    have hgd : (∀ i, gdOn i v = false) ∧ bareV j false u = v := by
      split at h1
      · cases h1
      · rename_i hne
        injection h1 with h1
        exact ⟨fun i => by rw [← h1]; cases hb : bareV j false u <;> first | rfl | exact absurd hb (hne _ _ _), h1⟩
    refine ⟨fun w => ?_, ?_, hgd.1⟩
    · have e : a.eval y = v.den ρ := by rw [kx.1, kb.1, hgd.2, SV.at_den hgd.1]
      simp [execOp, asBool, hc']
      exact e
    · rw [← hgd.2]; exact kb.2 _ kx.2.1
  · rename_i b u u' hc hx hy
    have kc := hS.slots j _ (getS_mem hc)
    have kx := getRaw_knows hS hx
    have ky := getRaw_knows hS hy
    have hj : a.tmps[j]? = some (.bool b) := kc.1
    have hc' : a.eval (.tmp j) = .bool b := by simp [Act.eval, hj]
    obtain ⟨e1, e2, e3, e4, e5⟩ := pickB_ok (ρ := ρ) h1
    refine ⟨fun w => ?_, e2 _, e3⟩
    cases b with
    | true =>
      have kb := bareV_at (ρ := ρ) hj kx.2.2
      have e : a.eval x = v.den ρ := by rw [kx.1, kb.1, SV.at_den e4, e1]; rfl
      simp [execOp, asBool, hc']
      exact e
    | false =>
      have kb := bareV_at (ρ := ρ) hj ky.2.2
      have e : a.eval y = v.den ρ := by rw [ky.1, kb.1, SV.at_den e5, e1]; rfl
      simp [execOp, asBool, hc']
      exact e
  · cases h1
theorem y_len {c : Call} {x : Operand} (hc : c.callee = .builtin .len) (hS : Slots ρ N st a) (h : step P st ⟨dst, .call c, ty, pos, after, g⟩ = .ok v st') :
    st' = st ∧ Yields1 P ρ st a ⟨dst, .call c, ty, pos, after, g⟩ v := by
  obtain ⟨cal, args, at_⟩ := c
  subst hc
  simp only [step] at h
  split at h
  · rename_i y hcal hargs
    split at h
    all_goals first
      | (cases h; done)
      | skip
    all_goals
      rename_i hu hx
      injection h with h1 h2
      subst h1; subst h2
      have kx := hS.knows hx
      obtain ⟨t, ht, hu⟩ := Option.bind_eq_some_iff.1 hu
      refine ⟨rfl, fun w => ?_, rfl, fun _ => rfl⟩
      have ha : args = #[y] := by rw [← Array.toList_inj]; exact hargs
      subst ha
      simp [execOp, resolve, invoke, builtin, Builtin.len_, ht, run_underlying hu, ← kx.den, SV.den, goInt]
  · simp at *
  · simp at *
  · cases h
theorem maxL_run (w : World) : ∀ (l : List SV) (x m : Int), maxL x l = some m → ((denL ρ l).foldlM Builtin.max2 (.int .i64 x)).run P w = .ok (.int .i64 m) w := by
  intro l
  induction l with
  | nil => intro x m h; injection h with h; subst h; rfl
  | cons u l ih =>
    intro x m h
    unfold maxL at h
    split at h
    · rename_i he; cases he
    · rename_i b l' he
      injection he with e1 e2
      subst e1; subst e2
      have := ih _ _ h
      have e : ∀ x b : Int, (if x < b then b else x) = max x b := by intro x b; omega
      simp [denL, SV.den, Builtin.max2, e, this]
    · cases h
theorem minL_run (w : World) : ∀ (l : List SV) (x m : Int), minL x l = some m → ((denL ρ l).foldlM Builtin.min2 (.int .i64 x)).run P w = .ok (.int .i64 m) w := by
  intro l
  induction l with
  | nil => intro x m h; injection h with h; subst h; rfl
  | cons u l ih =>
    intro x m h
    unfold minL at h
    split at h
    · rename_i he; cases he
    · rename_i b l' he
      injection he with e1 e2
      subst e1; subst e2
      have := ih _ _ h
      have e : ∀ x b : Int, (if b < x then b else x) = min x b := by intro x b; omega
      simp [denL, SV.den, Builtin.min2, e, this]
    · cases h
theorem getL_knows (hS : Slots ρ N st a) : ∀ (l : List Operand) (vs : List SV), getL st l = some vs → l.map a.eval = denL ρ vs ∧ ltL st.nid vs = true ∧ ∀ v ∈ vs, ∀ j, gdOn j v = false := by
  intro l
  induction l with
  | nil => intro vs h; injection h with h; subst h; exact ⟨rfl, rfl, by simp⟩
  | cons x l ih =>
    intro vs h
    simp only [getL] at h
    split at h
    · rename_i u r hx hr
      injection h with h
      subst h
      have kx := hS.knows hx
      obtain ⟨h1, h2, h3⟩ := ih r hr
      refine ⟨by simp [denL, kx.den, h1], by simp [ltL, kx.lt, h2], fun v hv => ?_⟩
      rcases List.mem_cons.1 hv with rfl | hv
      · exact kx.gd
      · exact h3 v hv
    · cases h
theorem y_max {c : Call} (hc : c.callee = .builtin .max) (hS : Slots ρ N st a) (h : step P st ⟨dst, .call c, ty, pos, after, g⟩ = .ok v st') :
    st' = st ∧ Yields1 P ρ st a ⟨dst, .call c, ty, pos, after, g⟩ v := by
  obtain ⟨cal, args, at_⟩ := c
  subst hc
  simp only [step] at h
  split at h
  · simp at *
  · rename_i x l hcal hargs
    split at h
    · rename_i n r hx hr
      split at h
      · rename_i m hm
        injection h with h1 h2
        subst h1; subst h2
        have kx := hS.knows hx
        have kr := (getL_knows hS _ _ hr).1
        refine ⟨rfl, fun w => ?_, rfl, fun _ => rfl⟩
        have ha : args = (x :: l).toArray := by rw [← Array.toList_inj]; exact hargs
        subst ha
        simp [execOp, resolve, invoke, builtin, Builtin.max_, kr, ← kx.den, SV.den, maxL_run w r n m hm]
      · cases h
    · cases h
  · simp at *
  · cases h
theorem y_min {c : Call} (hc : c.callee = .builtin .min) (hS : Slots ρ N st a) (h : step P st ⟨dst, .call c, ty, pos, after, g⟩ = .ok v st') :
    st' = st ∧ Yields1 P ρ st a ⟨dst, .call c, ty, pos, after, g⟩ v := by
  obtain ⟨cal, args, at_⟩ := c
  subst hc
  simp only [step] at h
  split at h
  · simp at *
  · simp at *
  · rename_i x l hcal hargs
    split at h
    · rename_i n r hx hr
      split at h
      · rename_i m hm
        injection h with h1 h2
        subst h1; subst h2
        have kx := hS.knows hx
        have kr := (getL_knows hS _ _ hr).1
        refine ⟨rfl, fun w => ?_, rfl, fun _ => rfl⟩
        have ha : args = (x :: l).toArray := by rw [← Array.toList_inj]; exact hargs
        subst ha
        simp [execOp, resolve, invoke, builtin, Builtin.min_, kr, ← kx.den, SV.den, minL_run w r n m hm]
      · cases h
    · cases h
  · cases h
end
end Go.Sx
