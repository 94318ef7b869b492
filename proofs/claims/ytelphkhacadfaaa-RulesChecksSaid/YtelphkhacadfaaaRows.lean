/-
  No cell of these rows narrows 'for every input' (looked for: loops, veiled, ifaces, maps, wideKeys, modest, calm, conditions, laid).
  DERIVED. THE GIVEN ROWS OF THIS SEAT. 4 by the template 'for every input the law returns true; each argument reads behind the call as it read before'; 0 by the template 'total and deterministic' (their statements: YtelphkhacadfaaaTotals.lean).
  GIVEN WITH THE SEED: the statements are not yours to turn. If you find one false, say at which input.
  Laid BY PROGRAM, IN A SANDBOX (cutbox-rows.mjs): the forced cells as the released guide's own fill.sh prints them over the translation 769f6ec18dd60d43… (all of the seat's roots in one cut). By AI agents, Wed Nov 11 2026. No macro, syntax, notation, axiom, sorry.
-/
import Derived.Test.YtelphkhacadfaaaChecked
import GoSem.Claim
import GoSem.ClaimJoined
import GoSem.ClaimMapViews
import Derived.JoinedTies
import Derived.KernelRfl
namespace Go.Proofs.Ytelphkhacadfaaa
/- THE CELL 'sum', in the pinned program and in every row, IS THE sha256 OF THE DUMP (.gsa) THAT YtelphkhacadfaaaProg.lean LOADS. Nothing in Lean hashes anything: it is a label: what it is worth is what the hold of that sum in a sandbox is worth. -/
noncomputable def Try.pinned : Pinned := { name := "ytelphkhacadfaaa", sum := "769f6ec18dd60d43d15873ebcf9b1a4c1ef180a918afac5551c5007ee1cb16c4", checked := Try.checked }
namespace Rows
def none {H : Type} : Left H := { results := [], args := [] }

/-- 'paraventlaw12.RulesChecks': WHATEVER THE INPUT: true; the input reads as it did. -/
def rulesChecksSpec : ChangeSpec := { name := "rulesChecks", fn := fun _ => fun
  | [d] => { results := [.lit (.bool true)], args := [d] }
  | _ => none }
def rulesChecksRow : OpenClaim := { program := "ytelphkhacadfaaa", sum := "769f6ec18dd60d43d15873ebcf9b1a4c1ef180a918afac5551c5007ee1cb16c4", func := "paravent/paraventlaw12.RulesChecks", spec := "rulesChecks", unfollowed := true, recurses := true, apart := false }
def RulesChecksSaid : Prop := rulesChecksRow.holds Try.pinned (OpenSpec.ofChange rulesChecksSpec)

/-- ITS FALSE NEIGHBOUR: 'it returns false'. Refute it at one input. -/
def rulesChecksWrong : ChangeSpec := { name := "rulesChecks", fn := fun _ => fun
  | [d] => { results := [.lit (.bool false)], args := [d] }
  | _ => none }
def RulesChecksWrongFalsely : Prop := rulesChecksRow.holds Try.pinned (OpenSpec.ofChange rulesChecksWrong)

/-- 'paraventlaw12.RulesMore': WHATEVER THE INPUT: true; the input reads as it did. -/
def rulesMoreSpec : ChangeSpec := { name := "rulesMore", fn := fun _ => fun
  | [d1, d2, d3] => { results := [.lit (.bool true)], args := [d1, d2, d3] }
  | _ => none }
def rulesMoreRow : OpenClaim := { program := "ytelphkhacadfaaa", sum := "769f6ec18dd60d43d15873ebcf9b1a4c1ef180a918afac5551c5007ee1cb16c4", func := "paravent/paraventlaw12.RulesMore", spec := "rulesMore", unfollowed := true, recurses := true, apart := false }
def RulesMoreSaid : Prop := rulesMoreRow.holds Try.pinned (OpenSpec.ofChange rulesMoreSpec)

/-- ITS FALSE NEIGHBOUR: 'it returns false'. Refute it at one input. -/
def rulesMoreWrong : ChangeSpec := { name := "rulesMore", fn := fun _ => fun
  | [d1, d2, d3] => { results := [.lit (.bool false)], args := [d1, d2, d3] }
  | _ => none }
def RulesMoreWrongFalsely : Prop := rulesMoreRow.holds Try.pinned (OpenSpec.ofChange rulesMoreWrong)

/-- 'paraventlaw12.RulesZooms': WHATEVER THE INPUT: true; the input reads as it did. -/
def rulesZoomsSpec : ChangeSpec := { name := "rulesZooms", fn := fun _ => fun
  | [d1, d2] => { results := [.lit (.bool true)], args := [d1, d2] }
  | _ => none }
def rulesZoomsRow : OpenClaim := { program := "ytelphkhacadfaaa", sum := "769f6ec18dd60d43d15873ebcf9b1a4c1ef180a918afac5551c5007ee1cb16c4", func := "paravent/paraventlaw12.RulesZooms", spec := "rulesZooms", unfollowed := true, recurses := true, apart := false }
def RulesZoomsSaid : Prop := rulesZoomsRow.holds Try.pinned (OpenSpec.ofChange rulesZoomsSpec)

/-- ITS FALSE NEIGHBOUR: 'it returns false'. Refute it at one input. -/
def rulesZoomsWrong : ChangeSpec := { name := "rulesZooms", fn := fun _ => fun
  | [d1, d2] => { results := [.lit (.bool false)], args := [d1, d2] }
  | _ => none }
def RulesZoomsWrongFalsely : Prop := rulesZoomsRow.holds Try.pinned (OpenSpec.ofChange rulesZoomsWrong)

/-- 'paraventlaw12.RulesTurned': WHATEVER THE INPUT: true; the input reads as it did. -/
def rulesTurnedSpec : ChangeSpec := { name := "rulesTurned", fn := fun _ => fun
  | [d1, d2, d3] => { results := [.lit (.bool true)], args := [d1, d2, d3] }
  | _ => none }
def rulesTurnedRow : OpenClaim := { program := "ytelphkhacadfaaa", sum := "769f6ec18dd60d43d15873ebcf9b1a4c1ef180a918afac5551c5007ee1cb16c4", func := "paravent/paraventlaw12.RulesTurned", spec := "rulesTurned", unfollowed := true, recurses := true, apart := false }
def RulesTurnedSaid : Prop := rulesTurnedRow.holds Try.pinned (OpenSpec.ofChange rulesTurnedSpec)

/-- ITS FALSE NEIGHBOUR: 'it returns false'. Refute it at one input. -/
def rulesTurnedWrong : ChangeSpec := { name := "rulesTurned", fn := fun _ => fun
  | [d1, d2, d3] => { results := [.lit (.bool false)], args := [d1, d2, d3] }
  | _ => none }
def RulesTurnedWrongFalsely : Prop := rulesTurnedRow.holds Try.pinned (OpenSpec.ofChange rulesTurnedWrong)

/- THE SECOND FORM. 'bulk': how many values and letters a reading holds, each counted each time it is reached (what is shared counts as often as it is met; a slice's spare places count too). A statement '..UptoSaid' is the law's where the arguments, and the package variables that the reading takes, are together of bulk at most 1048576: NARROWER than '..Said'. Prove '..Said' where nothing that the law and all that it calls make is longer than what came in: it says more and counts as full. Else prove '..UptoSaid'. A law counts once. -/
mutual
def uptoBulk {H : Type} : DataW H → Nat
  | .lit (.string bytes) => bytes.length + 1
  | .lit _ => 1
  | .nil => 1
  | .ptr d => uptoBulk d + 1
  | .slice elems spare => uptoBulkAll elems + uptoBulkAll spare + 1
  | .agg parts => uptoBulkAll parts + 1
  | .iface _ d => uptoBulk d + 1
  | .map entries => uptoBulkEntries entries + 1
  | .held _ => 1
def uptoBulkAll {H : Type} : List (DataW H) → Nat
  | [] => 0
  | d :: r => uptoBulk d + uptoBulkAll r
def uptoBulkEntries {H : Type} : List (Lit × DataW H) → Nat
  | [] => 0
  | x :: r => uptoBulkEntry x + uptoBulkEntries r
def uptoBulkEntry {H : Type} : Lit × DataW H → Nat
  | (.string bytes, d) => bytes.length + uptoBulk d + 1
  | (_, d) => uptoBulk d + 1
 end
def uptoSmall : (H : Type) → List (DataW H) → Bool := fun _ ds => decide (uptoBulkAll ds ≤ 1048576)
def OpenSpec.upto (s : _root_.Go.ChangeSpec) : _root_.Go.OpenSpec := { _root_.Go.OpenSpec.ofChange s with cond := some uptoSmall }

/-- 'paraventlaw12.RulesChecks', WHERE WHAT IT READS IS OF BULK AT MOST 1048576: true; the input reads as it did. -/
def rulesChecksUptoRow : OpenClaim := { program := "ytelphkhacadfaaa", sum := "769f6ec18dd60d43d15873ebcf9b1a4c1ef180a918afac5551c5007ee1cb16c4", func := "paravent/paraventlaw12.RulesChecks", spec := "rulesChecks", unfollowed := true, recurses := true, apart := false, narrowed := true }
def RulesChecksUptoSaid : Prop := rulesChecksUptoRow.holds Try.pinned (OpenSpec.upto rulesChecksSpec)

/-- 'paraventlaw12.RulesMore', WHERE WHAT IT READS IS OF BULK AT MOST 1048576: true; the input reads as it did. -/
def rulesMoreUptoRow : OpenClaim := { program := "ytelphkhacadfaaa", sum := "769f6ec18dd60d43d15873ebcf9b1a4c1ef180a918afac5551c5007ee1cb16c4", func := "paravent/paraventlaw12.RulesMore", spec := "rulesMore", unfollowed := true, recurses := true, apart := false, narrowed := true }
def RulesMoreUptoSaid : Prop := rulesMoreUptoRow.holds Try.pinned (OpenSpec.upto rulesMoreSpec)

/-- 'paraventlaw12.RulesZooms', WHERE WHAT IT READS IS OF BULK AT MOST 1048576: true; the input reads as it did. -/
def rulesZoomsUptoRow : OpenClaim := { program := "ytelphkhacadfaaa", sum := "769f6ec18dd60d43d15873ebcf9b1a4c1ef180a918afac5551c5007ee1cb16c4", func := "paravent/paraventlaw12.RulesZooms", spec := "rulesZooms", unfollowed := true, recurses := true, apart := false, narrowed := true }
def RulesZoomsUptoSaid : Prop := rulesZoomsUptoRow.holds Try.pinned (OpenSpec.upto rulesZoomsSpec)

/-- 'paraventlaw12.RulesTurned', WHERE WHAT IT READS IS OF BULK AT MOST 1048576: true; the input reads as it did. -/
def rulesTurnedUptoRow : OpenClaim := { program := "ytelphkhacadfaaa", sum := "769f6ec18dd60d43d15873ebcf9b1a4c1ef180a918afac5551c5007ee1cb16c4", func := "paravent/paraventlaw12.RulesTurned", spec := "rulesTurned", unfollowed := true, recurses := true, apart := false, narrowed := true }
def RulesTurnedUptoSaid : Prop := rulesTurnedUptoRow.holds Try.pinned (OpenSpec.upto rulesTurnedSpec)

end Rows
end Go.Proofs.Ytelphkhacadfaaa
