/-
  DERIVED. GIVEN WITH THE SEED: THE CARDS: each row of YtnoieobjfihbeaaGreatDoorRows.lean that lists a variable, with what it lists TIED to the program's text (the seventh form; the later family's looks); each row that meets fmt, with fmt's text TOLD by the authors' own Lean function (tested against real Go, not proved from fmt's source: count such statements apart). THE CARD IS WHAT COUNTS. Prove the row's statement (the work); the ties are given (YtnoieobjfihbeaaGreatDoorTie.lean); close each card by the builder's one call (the guide's Derived/Test/ToyasCard.lean, 'card_holds'). Laid BY PROGRAM, IN A SANDBOX (cutbox-door.mjs). By AI agents, Wed Nov 11 2026. No macro, syntax, notation, axiom, sorry.
-/
import Derived.Test.YtnoieobjfihbeaaGreatDoorRows
import GoSem.ClaimSeven
namespace Go.Proofs.YtnoieobjfihbeaaGreatDoor
namespace Rows

/-- THE TIED CARD OF 'paraventlaw11.PolicyParses'. -/
def policyParsesCard : Claim7 := { stood := { row := policyParsesRow, standIns := [], harness := (true, "c4106e9e060d5ac97e52bc6b7696ac2db93737d48bb4a158e30978055faf8e37"), looks := false }, kinds := [], alts := [], laidByText := true, laidKinds := [.data, .data, .data], laidTests := true, laidLooks := .later }
def PolicyParsesCardSaid : Prop := Claim7.holds Tryz.pinned (.plain (OpenSpec.ofChange policyParsesSpec)) policyParsesCard

/-- THE TIED CARD OF 'paraventlaw12.RulesForms'. -/
def rulesFormsCard : Claim7 := { stood := { row := rulesFormsRow, standIns := [], harness := (true, "c4106e9e060d5ac97e52bc6b7696ac2db93737d48bb4a158e30978055faf8e37"), looks := false }, kinds := [], alts := [], laidByText := true, laidKinds := [.data, .data, .data], laidTests := true, laidLooks := .later }
def RulesFormsCardSaid : Prop := Claim7.holds Tryz.pinned (.plain (OpenSpec.ofChange rulesFormsSpec)) rulesFormsCard

/-- THE SECOND FORM's CARD OF 'paraventlaw11.PolicyParses'. -/
def policyParsesUptoCard : Claim7 := { stood := { row := policyParsesUptoRow, standIns := [], harness := (true, "c4106e9e060d5ac97e52bc6b7696ac2db93737d48bb4a158e30978055faf8e37"), looks := false }, kinds := [], alts := [], laidByText := true, laidKinds := [.data, .data, .data], laidTests := true, laidLooks := .later }
def PolicyParsesUptoCardSaid : Prop := Claim7.holds Tryz.pinned (.plain (OpenSpec.upto policyParsesSpec)) policyParsesUptoCard

/-- THE SECOND FORM's CARD OF 'paraventlaw12.RulesForms'. -/
def rulesFormsUptoCard : Claim7 := { stood := { row := rulesFormsUptoRow, standIns := [], harness := (true, "c4106e9e060d5ac97e52bc6b7696ac2db93737d48bb4a158e30978055faf8e37"), looks := false }, kinds := [], alts := [], laidByText := true, laidKinds := [.data, .data, .data], laidTests := true, laidLooks := .later }
def RulesFormsUptoCardSaid : Prop := Claim7.holds Tryz.pinned (.plain (OpenSpec.upto rulesFormsSpec)) rulesFormsUptoCard
end Rows
end Go.Proofs.YtnoieobjfihbeaaGreatDoor
