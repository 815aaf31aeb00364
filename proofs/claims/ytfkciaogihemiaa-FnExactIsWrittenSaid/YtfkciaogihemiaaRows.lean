/-
  No cell of these rows narrows 'for every input' (looked for: loops, veiled, ifaces, maps, wideKeys, modest, calm, conditions, laid).
  DERIVED. THE GIVEN ROWS OF THIS SEAT. 5 by the template 'for every input the law returns true; each argument reads behind the call as it read before'; 0 by the template 'total and deterministic' (their statements: YtfkciaogihemiaaTotals.lean).
  GIVEN WITH THE SEED: the statements are not yours to turn. If you find one false, say at which input.
  Laid BY PROGRAM, IN A SANDBOX (cutbox-rows.mjs): the forced cells as the released guide's own fill.sh prints them over the translation e192e92ed4d1a9f5… (all of the seat's roots in one cut). By AI agents, Wed Nov 11 2026. No macro, syntax, notation, axiom, sorry.
-/
import Derived.Test.YtfkciaogihemiaaChecked
import GoSem.Claim
import GoSem.ClaimJoined
import GoSem.ClaimMapViews
import Derived.JoinedTies
import Derived.KernelRfl
namespace Go.Proofs.Ytfkciaogihemiaa
/- THE CELL 'sum', in the pinned program and in every row, IS THE sha256 OF THE DUMP (.gsa) THAT YtfkciaogihemiaaProg.lean LOADS. Nothing in Lean hashes anything: it is a label: what it is worth is what the hold of that sum in a sandbox is worth. -/
noncomputable def Try.pinned : Pinned := { name := "ytfkciaogihemiaa", sum := "e192e92ed4d1a9f50fbc3f3f6491c18f9a0af936cd1742f0c87bcfef3febf9f8", checked := Try.checked }
namespace Rows
def none {H : Type} : Left H := { results := [], args := [] }

/-- 'laws.FnExactIsTrace': WHATEVER THE INPUT: true; the input reads as it did. -/
def fnExactIsTraceSpec : ChangeSpec := { name := "fnExactIsTrace", fn := fun _ => fun
  | [d1, d2] => { results := [.lit (.bool true)], args := [d1, d2] }
  | _ => none }
def fnExactIsTraceRow : OpenClaim := { program := "ytfkciaogihemiaa", sum := "e192e92ed4d1a9f50fbc3f3f6491c18f9a0af936cd1742f0c87bcfef3febf9f8", func := "loop.example/g03008/laws.FnExactIsTrace", spec := "fnExactIsTrace", apart := false }
def FnExactIsTraceSaid : Prop := fnExactIsTraceRow.holds Try.pinned (OpenSpec.ofChange fnExactIsTraceSpec)

/-- ITS FALSE NEIGHBOUR: 'it returns false'. Refute it at one input. -/
def fnExactIsTraceWrong : ChangeSpec := { name := "fnExactIsTrace", fn := fun _ => fun
  | [d1, d2] => { results := [.lit (.bool false)], args := [d1, d2] }
  | _ => none }
def FnExactIsTraceWrongFalsely : Prop := fnExactIsTraceRow.holds Try.pinned (OpenSpec.ofChange fnExactIsTraceWrong)

/-- 'laws.FnExactNothingLost': WHATEVER THE INPUT: true; the input reads as it did. -/
def fnExactNothingLostSpec : ChangeSpec := { name := "fnExactNothingLost", fn := fun _ => fun
  | [d] => { results := [.lit (.bool true)], args := [d] }
  | _ => none }
def fnExactNothingLostRow : OpenClaim := { program := "ytfkciaogihemiaa", sum := "e192e92ed4d1a9f50fbc3f3f6491c18f9a0af936cd1742f0c87bcfef3febf9f8", func := "loop.example/g03008/laws.FnExactNothingLost", spec := "fnExactNothingLost", apart := false }
def FnExactNothingLostSaid : Prop := fnExactNothingLostRow.holds Try.pinned (OpenSpec.ofChange fnExactNothingLostSpec)

/-- ITS FALSE NEIGHBOUR: 'it returns false'. Refute it at one input. -/
def fnExactNothingLostWrong : ChangeSpec := { name := "fnExactNothingLost", fn := fun _ => fun
  | [d] => { results := [.lit (.bool false)], args := [d] }
  | _ => none }
def FnExactNothingLostWrongFalsely : Prop := fnExactNothingLostRow.holds Try.pinned (OpenSpec.ofChange fnExactNothingLostWrong)

/-- 'laws.FnExactKeepsRule': WHATEVER THE INPUT: true; the input reads as it did. -/
def fnExactKeepsRuleSpec : ChangeSpec := { name := "fnExactKeepsRule", fn := fun _ => fun
  | [d] => { results := [.lit (.bool true)], args := [d] }
  | _ => none }
def fnExactKeepsRuleRow : OpenClaim := { program := "ytfkciaogihemiaa", sum := "e192e92ed4d1a9f50fbc3f3f6491c18f9a0af936cd1742f0c87bcfef3febf9f8", func := "loop.example/g03008/laws.FnExactKeepsRule", spec := "fnExactKeepsRule", apart := false }
def FnExactKeepsRuleSaid : Prop := fnExactKeepsRuleRow.holds Try.pinned (OpenSpec.ofChange fnExactKeepsRuleSpec)

/-- ITS FALSE NEIGHBOUR: 'it returns false'. Refute it at one input. -/
def fnExactKeepsRuleWrong : ChangeSpec := { name := "fnExactKeepsRule", fn := fun _ => fun
  | [d] => { results := [.lit (.bool false)], args := [d] }
  | _ => none }
def FnExactKeepsRuleWrongFalsely : Prop := fnExactKeepsRuleRow.holds Try.pinned (OpenSpec.ofChange fnExactKeepsRuleWrong)

/-- 'laws.FnExactIsWritten': WHATEVER THE INPUT: true; the input reads as it did. -/
def fnExactIsWrittenSpec : ChangeSpec := { name := "fnExactIsWritten", fn := fun _ => fun
  | [d] => { results := [.lit (.bool true)], args := [d] }
  | _ => none }
def fnExactIsWrittenRow : OpenClaim := { program := "ytfkciaogihemiaa", sum := "e192e92ed4d1a9f50fbc3f3f6491c18f9a0af936cd1742f0c87bcfef3febf9f8", func := "loop.example/g03008/laws.FnExactIsWritten", spec := "fnExactIsWritten", apart := false }
def FnExactIsWrittenSaid : Prop := fnExactIsWrittenRow.holds Try.pinned (OpenSpec.ofChange fnExactIsWrittenSpec)

/-- ITS FALSE NEIGHBOUR: 'it returns false'. Refute it at one input. -/
def fnExactIsWrittenWrong : ChangeSpec := { name := "fnExactIsWritten", fn := fun _ => fun
  | [d] => { results := [.lit (.bool false)], args := [d] }
  | _ => none }
def FnExactIsWrittenWrongFalsely : Prop := fnExactIsWrittenRow.holds Try.pinned (OpenSpec.ofChange fnExactIsWrittenWrong)

/-- 'laws.FnExactTakeStep': WHATEVER THE INPUT: true; the input reads as it did. -/
def fnExactTakeStepSpec : ChangeSpec := { name := "fnExactTakeStep", fn := fun _ => fun
  | [d1, d2, d3, d4, d5, d6] => { results := [.lit (.bool true)], args := [d1, d2, d3, d4, d5, d6] }
  | _ => none }
def fnExactTakeStepRow : OpenClaim := { program := "ytfkciaogihemiaa", sum := "e192e92ed4d1a9f50fbc3f3f6491c18f9a0af936cd1742f0c87bcfef3febf9f8", func := "loop.example/g03008/laws.FnExactTakeStep", spec := "fnExactTakeStep", apart := false }
def FnExactTakeStepSaid : Prop := fnExactTakeStepRow.holds Try.pinned (OpenSpec.ofChange fnExactTakeStepSpec)

/-- ITS FALSE NEIGHBOUR: 'it returns false'. Refute it at one input. -/
def fnExactTakeStepWrong : ChangeSpec := { name := "fnExactTakeStep", fn := fun _ => fun
  | [d1, d2, d3, d4, d5, d6] => { results := [.lit (.bool false)], args := [d1, d2, d3, d4, d5, d6] }
  | _ => none }
def FnExactTakeStepWrongFalsely : Prop := fnExactTakeStepRow.holds Try.pinned (OpenSpec.ofChange fnExactTakeStepWrong)

/- THE SECOND FORM. 'bulk': how many values and letters a reading holds, each counted each time it is reached (what is shared counts as often as it is met; a slice's spare places count too). A statement '..UptoSaid' is the law's where the arguments, and the package variables that the reading takes, are together of bulk at most 1048576: NARROWER than '..Said'. Prove '..Said' where nothing that the law and all that it calls make is longer than what came in: it says more and counts as full. Else prove '..UptoSaid'. A law counts once. -/
mutual
def uptoBulk {H : Type} : DataW H → Nat
  | .lit (.string bytes) => bytes.length + 1
  | .lit _ => 1
  | .nil => 1
  | .ptr d => uptoBulk d + 1
  | .slice elems spare => uptoBulkAll elems + uptoBulkAll spare + 1
  | .agg parts => uptoBulkAll parts + 1
  | .iface _ d => uptoBulk d + 1
  | .map entries => uptoBulkEntries entries + 1
  | .held _ => 1
def uptoBulkAll {H : Type} : List (DataW H) → Nat
  | [] => 0
  | d :: r => uptoBulk d + uptoBulkAll r
def uptoBulkEntries {H : Type} : List (Lit × DataW H) → Nat
  | [] => 0
  | x :: r => uptoBulkEntry x + uptoBulkEntries r
def uptoBulkEntry {H : Type} : Lit × DataW H → Nat
  | (.string bytes, d) => bytes.length + uptoBulk d + 1
  | (_, d) => uptoBulk d + 1
 end
def uptoSmall : (H : Type) → List (DataW H) → Bool := fun _ ds => decide (uptoBulkAll ds ≤ 1048576)
def OpenSpec.upto (s : _root_.Go.ChangeSpec) : _root_.Go.OpenSpec := { _root_.Go.OpenSpec.ofChange s with cond := some uptoSmall }

/-- 'laws.FnExactIsTrace', WHERE WHAT IT READS IS OF BULK AT MOST 1048576: true; the input reads as it did. -/
def fnExactIsTraceUptoRow : OpenClaim := { program := "ytfkciaogihemiaa", sum := "e192e92ed4d1a9f50fbc3f3f6491c18f9a0af936cd1742f0c87bcfef3febf9f8", func := "loop.example/g03008/laws.FnExactIsTrace", spec := "fnExactIsTrace", apart := false, narrowed := true }
def FnExactIsTraceUptoSaid : Prop := fnExactIsTraceUptoRow.holds Try.pinned (OpenSpec.upto fnExactIsTraceSpec)

/-- 'laws.FnExactNothingLost', WHERE WHAT IT READS IS OF BULK AT MOST 1048576: true; the input reads as it did. -/
def fnExactNothingLostUptoRow : OpenClaim := { program := "ytfkciaogihemiaa", sum := "e192e92ed4d1a9f50fbc3f3f6491c18f9a0af936cd1742f0c87bcfef3febf9f8", func := "loop.example/g03008/laws.FnExactNothingLost", spec := "fnExactNothingLost", apart := false, narrowed := true }
def FnExactNothingLostUptoSaid : Prop := fnExactNothingLostUptoRow.holds Try.pinned (OpenSpec.upto fnExactNothingLostSpec)

/-- 'laws.FnExactKeepsRule', WHERE WHAT IT READS IS OF BULK AT MOST 1048576: true; the input reads as it did. -/
def fnExactKeepsRuleUptoRow : OpenClaim := { program := "ytfkciaogihemiaa", sum := "e192e92ed4d1a9f50fbc3f3f6491c18f9a0af936cd1742f0c87bcfef3febf9f8", func := "loop.example/g03008/laws.FnExactKeepsRule", spec := "fnExactKeepsRule", apart := false, narrowed := true }
def FnExactKeepsRuleUptoSaid : Prop := fnExactKeepsRuleUptoRow.holds Try.pinned (OpenSpec.upto fnExactKeepsRuleSpec)

/-- 'laws.FnExactIsWritten', WHERE WHAT IT READS IS OF BULK AT MOST 1048576: true; the input reads as it did. -/
def fnExactIsWrittenUptoRow : OpenClaim := { program := "ytfkciaogihemiaa", sum := "e192e92ed4d1a9f50fbc3f3f6491c18f9a0af936cd1742f0c87bcfef3febf9f8", func := "loop.example/g03008/laws.FnExactIsWritten", spec := "fnExactIsWritten", apart := false, narrowed := true }
def FnExactIsWrittenUptoSaid : Prop := fnExactIsWrittenUptoRow.holds Try.pinned (OpenSpec.upto fnExactIsWrittenSpec)

/-- 'laws.FnExactTakeStep', WHERE WHAT IT READS IS OF BULK AT MOST 1048576: true; the input reads as it did. -/
def fnExactTakeStepUptoRow : OpenClaim := { program := "ytfkciaogihemiaa", sum := "e192e92ed4d1a9f50fbc3f3f6491c18f9a0af936cd1742f0c87bcfef3febf9f8", func := "loop.example/g03008/laws.FnExactTakeStep", spec := "fnExactTakeStep", apart := false, narrowed := true }
def FnExactTakeStepUptoSaid : Prop := fnExactTakeStepUptoRow.holds Try.pinned (OpenSpec.upto fnExactTakeStepSpec)

end Rows
end Go.Proofs.Ytfkciaogihemiaa
