/-
  DERIVED. GIVEN WITH THE SEED: THE CARDS: each row of YteddkgpnklfppaaGreatDoorRows.lean that lists a variable, with what it lists TIED to the program's text (the seventh form; the later family's looks); each row that meets fmt, with fmt's text TOLD by the authors' own Lean function (tested against real Go, not proved from fmt's source: count such statements apart). THE CARD IS WHAT COUNTS. Prove the row's statement (the work); the ties are given (YteddkgpnklfppaaGreatDoorTie.lean); close each card by the builder's one call (the guide's Derived/Test/ToyasCard.lean, 'card_holds'). Laid BY PROGRAM, IN A SANDBOX (cutbox-door.mjs). By AI agents, Wed Nov 11 2026. No macro, syntax, notation, axiom, sorry.
-/
import Derived.Test.YteddkgpnklfppaaGreatDoorRows
import GoSem.ClaimSeven
namespace Go.Proofs.YteddkgpnklfppaaGreatDoor
namespace Rows

/-- THE TIED CARD OF 'paraventtop.TopPolicy'. -/
def topPolicyCard : Claim7 := { stood := { row := topPolicyRow, standIns := [], harness := (true, "e44485bba438ff7cdd813ddabc3757c8268c342be869b50fa07a3e6bb526de66"), looks := false }, kinds := [], alts := [], laidByText := true, laidKinds := [.data, .data, .data], laidTests := true, laidLooks := .later }
def TopPolicyCardSaid : Prop := Claim7.holds Tryz.pinned (.plain (OpenSpec.ofChange topPolicySpec)) topPolicyCard

/-- THE SECOND FORM's CARD OF 'paraventtop.TopPolicy'. -/
def topPolicyUptoCard : Claim7 := { stood := { row := topPolicyUptoRow, standIns := [], harness := (true, "e44485bba438ff7cdd813ddabc3757c8268c342be869b50fa07a3e6bb526de66"), looks := false }, kinds := [], alts := [], laidByText := true, laidKinds := [.data, .data, .data], laidTests := true, laidLooks := .later }
def TopPolicyUptoCardSaid : Prop := Claim7.holds Tryz.pinned (.plain (OpenSpec.upto topPolicySpec)) topPolicyUptoCard
end Rows
end Go.Proofs.YteddkgpnklfppaaGreatDoor
