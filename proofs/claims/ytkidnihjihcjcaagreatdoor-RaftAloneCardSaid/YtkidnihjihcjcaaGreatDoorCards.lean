/-
  DERIVED. GIVEN WITH THE SEED: THE CARDS: each row of YtkidnihjihcjcaaGreatDoorRows.lean that lists a variable, with what it lists TIED to the program's text (the seventh form; the later family's looks); each row that meets fmt, with fmt's text TOLD by the authors' own Lean function (tested against real Go, not proved from fmt's source: count such statements apart). THE CARD IS WHAT COUNTS. Prove the row's statement (the work); the ties are given (YtkidnihjihcjcaaGreatDoorTie.lean); close each card by the builder's one call (the guide's Derived/Test/ToyasCard.lean, 'card_holds'). Laid BY PROGRAM, IN A SANDBOX (cutbox-door.mjs). By AI agents, Wed Nov 11 2026. No macro, syntax, notation, axiom, sorry.
-/
import Derived.Test.YtkidnihjihcjcaaGreatDoorRows
import GoSem.ClaimSeven
namespace Go.Proofs.YtkidnihjihcjcaaGreatDoor
namespace Rows

/-- THE TIED CARD OF 'tollbarlaw13.RaftAlone'. -/
def raftAloneCard : Claim7 := { stood := { row := raftAloneRow, standIns := [], harness := (true, "a083ddbef5e02f638fa8fc452c19c6f6f0f337de182fd4e7c68d931c49f1d1e2"), looks := true }, kinds := [], alts := [], laidByText := true, laidKinds := [.data, .data, .data, .handle, .sentinel, .sentinel], laidTests := true, laidLooks := .later }
def RaftAloneCardSaid : Prop := Claim7.holds Tryz.pinned (.plain (OpenSpec.ofChange raftAloneSpec)) raftAloneCard

/-- THE SECOND FORM's CARD OF 'tollbarlaw13.RaftAlone'. -/
def raftAloneUptoCard : Claim7 := { stood := { row := raftAloneUptoRow, standIns := [], harness := (true, "a083ddbef5e02f638fa8fc452c19c6f6f0f337de182fd4e7c68d931c49f1d1e2"), looks := true }, kinds := [], alts := [], laidByText := true, laidKinds := [.data, .data, .data, .handle, .sentinel, .sentinel], laidTests := true, laidLooks := .later }
def RaftAloneUptoCardSaid : Prop := Claim7.holds Tryz.pinned (.plain (OpenSpec.upto raftAloneSpec)) raftAloneUptoCard
end Rows
end Go.Proofs.YtkidnihjihcjcaaGreatDoor
