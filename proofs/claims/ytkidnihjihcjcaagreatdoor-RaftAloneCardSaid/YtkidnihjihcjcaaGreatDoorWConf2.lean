/- Walks of package conf, second part: copies of members, majorities. -/
import Derived.Test.YtkidnihjihcjcaaGreatDoorWConf1
import Derived.Test.YtkidnihjihcjcaaGreatDoorSxI
set_option linter.unusedSimpArgs false
set_option linter.unusedVariables false
namespace Go.Sx
open Go.Proofs
theorem elI_one (l : List Int) : ∀ i, i < l.length → ∀ u ∈ denL env0 (elI l i), u.oneCell' = true := fun i hi u hu => by
  simp [elI, denL, SV.den] at hu; subst hu; rfl
theorem cloneConf_c {J : Nat → Prop} {w0 : World} {v : Value} {l : List Int} (h : Ints J w0 v l) (hl : l.length ≤ 1099511627776) :
    Calls Tryz.prog 36 #[v] w0 (fun e w' => ∃ v', e = .returned v' ∧ w'.ownsRow w0.heap.size 3 1 v' l.length (rcells l.length (elI l)) ∧ Since w0 (fun _ => True) w') := by
  obtain ⟨A, c, rfl, hc, hr⟩ := h
  refine enterP 8 [.val (.slice A l.length c)] Tryz.func36 rfl rfl rfl rfl rfl fun a hR => ?_
  have hs := Env.Same.refl 0 env0
  refine go [ResultVar.tmp 2] 100 (fun r => .br (isNoneA A) (.ret (.val (Value.slice none 0 0)) (⟨[], [], 0⟩ : St)) (.hand (opNth (bodyOf Go.Proofs.Tryz.f36) [1, 1, 0] 2) [.ops (opsAt (bodyOf Go.Proofs.Tryz.f36) [1, 1, 0]) (List.drop 3 (opsAt (bodyOf Go.Proofs.Tryz.f36) [1, 1, 0])), .code (codeAt (bodyOf Go.Proofs.Tryz.f36) [1, 0, 1, 0, 1])] (⟨[(6, .val (Value.slice A l.length c)), (5, .csl 0 0 (0) (0)), (2, .val (Value.slice none 0 0))], [(0, .cells [] 3)], 1⟩ : St))) rfl (by kernel_rfl) (by kernel_rfl) (by kernel_rfl) hs hR ?_
  refine sbr (fun h1 => sret fun ρ w hs hH => ?_) (fun h1 => shand fun S ρ a w hs hR hS Q => ?_)
  · cases A with
    | some _ => cases h1
    | none =>
      obtain rfl : l = [] := List.eq_nil_of_length_eq_zero hr.none_zero
      exact ⟨_, rfl, World.ownsRow_nil _ _ _ _, hH.since0⟩
  · refine append_step 7 (.tmp 5) (.tmp 6) 29 29 (by kernel_rfl) (by kernel_rfl) w0.heap.size 3 1 8 (by kernel_rfl) hR ⟨[], [], 0⟩ rfl rfl rfl trivial rfl (u := .csl 0 0 0 0) (y := .val (.slice A l.length c)) (by kernel_rfl) (by kernel_rfl)
      (hR.own 0 [] 3 0 1 (by kernel_rfl) rfl (by decide) (hR.heap.fresh List.mem_cons_self 0 [] 3 (by kernel_rfl))) (Feed.row (hr.keep hR.heap.since0 fun _ _ _ => trivial) (elI_one l))
      (by omega) (by omega) hR.heap.since0.size (fun _ _ _ h => nomatch h) (fun _ _ _ _ h => nomatch h) (noB0 (Nat.le_refl _)) fun v' w' hown hg hnew hR => ?_
    have hR := hR.snap
    refine go [ResultVar.tmp 2] 100 (fun r => .ret (.val (v')) (⟨[], [], 0⟩ : St)) rfl (by kernel_rfl) (by kernel_rfl) (by kernel_rfl) hs hR ?_
    exact sret fun ρ w'' hs hH => ⟨v', rfl, ownsRow_keep (by simpa [denL] using hown) hH.since1 (fun k _ id cs t hm => nomatch hm), hH.tail.since0⟩
/-- How many of c some are. -/
def cntM (some : List Int) : List Int → Nat
  | [] => 0
  | x :: l => (if x ∈ some then 1 else 0) + cntM some l
theorem cntM_le (some : List Int) : ∀ l, cntM some l ≤ l.length
  | [] => Nat.le_refl _
  | x :: l => by
    have := cntM_le some l
    simp only [cntM, List.length_cons]
    split <;> omega
def quorumM (c some : List Int) : Bool := confMay c && decide ((c.length : Int) / 2 < cntM some c)
theorem Quorum_c {J : Nat → Prop} {w0 : World} {v u : Value} {c l : List Int} (h : Ints J w0 v c) (hl : c.length ≤ 1099511627776) (h' : Ints J w0 u l) (hl' : l.length ≤ 1099511627776) :
    Calls Tryz.prog 29 #[v, u] w0 (fun r w' => r = .returned (.bool (quorumM c l)) ∧ Since w0 (fun _ => True) w') := by
  have h0 := h
  obtain ⟨A', k', rfl⟩ := h'.form
  obtain ⟨A, k, rfl, hc, hr⟩ := h
  refine enterR 29 [.sl 0 c.length k, .val (.slice A' l.length k')] hr (fun _ => rfl) Tryz.func29 rfl rfl rfl rfl rfl fun a hR => ?_
  have hs := Env.Same.refl 1 (⟨fun _ => 0, fun _ => A⟩ : Env)
  refine go [ResultVar.tmp 4] 100 (fun r => .stop [.code (codeAt (bodyOf Go.Proofs.Tryz.f29) [1, 1, 0, 1, 0]), .blk 0, .code (codeAt (bodyOf Go.Proofs.Tryz.f29) [1, 1, 1])] (⟨[(10, .int .i64 (0)), (9, .int .i64 ((↑c.length : Int))), (8, .sl 0 (c.length) (k)), (5, .int .i64 (0)), (4, .lit false), (0, .sl 0 (c.length) (k)), (1, .val (Value.slice A' l.length k'))], [(0, .row 1 (c.length) (elI c))], 1⟩ : St)) rfl (by kernel_rfl) (by kernel_rfl) (by kernel_rfl) hs hR ?_
  refine sstop fun S ρ a w hs hR hS => ?_
  let F : Nat × Nat → St := fun p => ⟨[(0, .sl 0 c.length k), (1, .val (.slice A' l.length k')), (5, .int .i64 (p.2 : Int)), (8, .sl 0 c.length k), (9, .int .i64 (c.length : Int)), (10, .int .i64 (p.1 : Int))], [(0, .row 1 c.length (elI c))], 1⟩
  refine loopF (N := 29) (B := B0 w0) 0 F (fun p _ => p.1 ≤ c.length ∧ p.2 ≤ p.1 ∧ cntM l c = p.2 + cntM l (c.drop p.1)) (fun p => c.length - p.1) (0, 0) (by kernel_rfl) (by kernel_rfl) hs ⟨Nat.zero_le _, Nat.zero_le _, by simp⟩ (hR.into (by kernel_rfl) (by kernel_rfl) rfl (ltT_row rfl (fun _ => rfl) (ltT_nil _))) ?_
  rintro ⟨i, n⟩ ρ a w hs ⟨hi, hn, he⟩ hR
  dsimp only at hi hn he
  refine go [ResultVar.tmp 4] 400 (fun r => .br (decide ((↑i : Int) < (↑c.length : Int))) (.need (decide (0 ≤ (↑i : Int) ∧ (↑i : Int) < (↑c.length : Int) ∧ c.length ≤ c.length)) (.need (decide ((↑i : Int).toNat < c.length)) (.call 58 [.val (Value.slice A' l.length k'), .int .i64 (c.getD (↑i : Int).toNat 0)] (some 16) [.ops (opsAt (bodyOf Go.Proofs.Tryz.f29) [1, 1, 0, 1, 0, 0, 1, 1, 0, 0, 1, 0]) (List.drop 3 (opsAt (bodyOf Go.Proofs.Tryz.f29) [1, 1, 0, 1, 0, 0, 1, 1, 0, 0, 1, 0])), .code (codeAt (bodyOf Go.Proofs.Tryz.f29) [1, 1, 0, 1, 0, 0, 1, 1, 0, 0, 1, 1]), .blk 1, .code (codeAt (bodyOf Go.Proofs.Tryz.f29) [1, 1, 0, 1, 0, 0, 1, 1, 1]), .mark 0, .code (codeAt (bodyOf Go.Proofs.Tryz.f29) [1, 1, 0, 1, 0]), .blk 0, .code (codeAt (bodyOf Go.Proofs.Tryz.f29) [1, 1, 1])] (⟨[(15, .int .i64 (c.getD (↑i : Int).toNat 0)), (14, .val (Value.slice A' l.length k')), (7, .int .i64 (c.getD (↑i : Int).toNat 0)), (13, .int .i64 (c.getD (↑i : Int).toNat 0)), (12, .ep 0 1 ((↑i : Int).toNat) 0), (11, .lit true), (0, .sl 0 (c.length) (k)), (1, .val (Value.slice A' l.length k')), (5, .int .i64 ((↑n : Int))), (8, .sl 0 (c.length) (k)), (9, .int .i64 ((↑c.length : Int))), (10, .int .i64 ((↑i : Int)))], [(0, .row 1 (c.length) (elI c))], 1⟩ : St)))) (.call 59 [.sl 0 (c.length) (k)] (some 21) [.ops (opsAt (bodyOf Go.Proofs.Tryz.f29) [1, 1, 1, 0]) (List.drop 2 (opsAt (bodyOf Go.Proofs.Tryz.f29) [1, 1, 1, 0])), .code (codeAt (bodyOf Go.Proofs.Tryz.f29) [1, 1, 1, 1])] (⟨[(0, .sl 0 (c.length) (k)), (5, .int .i64 ((↑n : Int)))], [(0, .row 1 (c.length) (elI c))], 1⟩ : St))) rfl (by kernel_rfl) (by kernel_rfl) (by kernel_rfl) hs hR ?_
  refine sbr (fun h1 => ?_) (fun h1 => scall fun S ρ a w hs hRn hS => ?_)
  · have h1 : i < c.length := by simpa using h1
    rw [drop_getD h1 0, cntM] at he
    refine sneed (by simp; omega) (sneed (by simp; omega) (scall fun S ρ a w hs hR hS => Calls.mono (containsInts_c (c.getD i 0) (h'.keep hR.heap.since0 fun _ _ _ => trivial) hl') fun r w' he' => ?_))
    obtain ⟨rfl, hsn⟩ := he'
    refine ⟨_, rfl, ?_⟩
    have hR := (hR.pure hsn).res (d := 16) (v := .bool (decide (c.getD i 0 ∈ l))) rfl rfl rfl rfl
    refine go [ResultVar.tmp 4] 100 (fun r => .br (decide (c.getD i 0 ∈ l)) (.mark 0 (r.get [0]).st) (.mark 0 (r.get [1]).st)) rfl (by kernel_rfl) (by kernel_rfl) (by kernel_rfl) hs hR ?_
    refine sbr (fun h2 => smarkF fun ρ' a w5 hs' hR5 => ⟨(i + 1, n + 1), by show c.length - (i + 1) < c.length - i; omega, ⟨h1, Nat.succ_le_succ hn, ?_⟩, ρ', hs', ?_⟩) (fun h2 => smarkF fun ρ' a w5 hs' hR5 => ⟨(i + 1, n), by show c.length - (i + 1) < c.length - i; omega, ⟨h1, Nat.le_succ_of_le hn, ?_⟩, ρ', hs', ?_⟩)
    · have h2 : c.getD i 0 ∈ l := by simpa using h2
      rw [if_pos h2] at he
      show cntM l c = n + 1 + cntM l (c.drop (i + 1))
      omega
    · exact ((hR5.spell64 10 (IntKind.i64.wrap ((i : Int) + 1)) ((i + 1 : Nat) : Int) (by kernel_rfl) (wrap_succ (by omega))).spell64 5 (IntKind.i64.wrap ((n : Int) + 1)) ((n + 1 : Nat) : Int) (by kernel_rfl) (wrap_succ (by omega))).into (by kernel_rfl) (by kernel_rfl) rfl (ltT_row rfl (fun _ => rfl) (ltT_nil _))
    · have h2 : ¬ c.getD i 0 ∈ l := by simpa using h2
      rw [if_neg h2] at he
      show cntM l c = n + cntM l (c.drop (i + 1))
      omega
    · exact (hR5.spell64 10 (IntKind.i64.wrap ((i : Int) + 1)) ((i + 1 : Nat) : Int) (by kernel_rfl) (wrap_succ (by omega))).into (by kernel_rfl) (by kernel_rfl) rfl (ltT_row rfl (fun _ => rfl) (ltT_nil _))
  · have hi : i = c.length := by simp at h1; omega
    subst hi
    have he : cntM l c = n := by rw [he]; simp [cntM]
    have e : (denL ρ [.sl 0 c.length k]).toArray = #[.slice A c.length k] := by simp [denL, SV.den, ← (hs 0 (by decide)).2]
    rw [e]
    refine Calls.mono (confMay_c (h0.keep hRn.heap.since0 fun _ _ _ => trivial) hl) fun r w' he' => ?_
    obtain ⟨rfl, hsn⟩ := he'
    refine ⟨_, rfl, ?_⟩
    have hR := (hRn.pure hsn).res (d := 21) (v := .bool (confMay c)) rfl rfl rfl rfl
    refine go [ResultVar.tmp 4] 100 (fun r => .ret (.bool (confMay c && decide ((↑n : Int) > IntKind.i64.wrap ((↑c.length : Int).tdiv 2)))) (⟨[], [(0, .row 1 (c.length) (elI c))], 1⟩ : St)) rfl (by kernel_rfl) (by kernel_rfl) (by kernel_rfl) hs hR ?_
    refine sret fun ρ w hs hH => ⟨?_, hH.since0⟩
    show Ending.returned (.bool _) = _
    have e2 : IntKind.i64.wrap (Int.tdiv (c.length : Int) 2) = (c.length : Int) / 2 := by
      rw [Int.tdiv_eq_ediv_of_nonneg (by omega)]
      exact wrap_i64 (by omega) (by omega)
    rw [quorumM, he]
    congr 2
    simp only [e2, gt_iff_lt]
end Go.Sx
