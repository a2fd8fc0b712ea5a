/- One member alone leads at its wait, and commits each entry at once: the tied card. No condition beyond what the card ties to the program's text. -/
import Derived.Test.YtkidnihjihcjcaaGreatDoorAloneLift
import Derived.Test.YtkidnihjihcjcaaGreatDoorTie
import Derived.Test.YtkidnihjihcjcaaGreatDoorCards
import Derived.SevenTiedAt
set_option linter.unusedSimpArgs false
set_option linter.unusedVariables false
namespace Go.Proofs.YtkidnihjihcjcaaGreatDoor
open Go
theorem raftAlone_card_holds : Rows.RaftAloneCardSaid :=
  Claim7.holds_tied_plain_at .later [] [.data, .data, .data, .handle, .sentinel, .sentinel] true (true, "a083ddbef5e02f638fa8fc452c19c6f6f0f337de182fd4e7c68d931c49f1d1e2") true
    raftAlone_holds (fun _ h => by cases h) (by kernel_rfl) (fun _ h => by cases h) raftAlone_row_tie rfl ⟨rfl, rfl⟩ (by kernel_rfl) rfl
    (fun f fn hf hfn => by
      obtain rfl : f = 3 := Option.some.inj ((show Tryz.prog.funcNamed "tollbar/tollbarlaw13.RaftAlone" = some 3 by kernel_rfl).symm.trans hf) |>.symm
      obtain rfl : fn = Tryz.f3 := (Option.some.inj (Tryz.func3.symm.trans hfn)).symm
      exact ⟨by kernel_rfl, fun j t ht => by
        rw [Tryz.params3] at ht
        have hm : t ∈ [22, 3] := by simpa using Array.mem_of_getElem? ht
        have hall : ([22, 3].all fun u => !Tryz.prog.wantsStandIn u) = true := by kernel_rfl
        exact (show Tryz.prog.wantsStandIn t = false by simpa using List.all_eq_true.1 hall t hm)⟩)
    (by kernel_rfl)
#print axioms raftAlone_card_holds
end Go.Proofs.YtkidnihjihcjcaaGreatDoor
