/-
  No cell of these rows narrows 'for every input' (looked for: loops, veiled, ifaces, maps, wideKeys, modest, calm, conditions, laid).
  DERIVED. THE GIVEN ROWS OF THIS SEAT. 10 by the template 'for every input the law returns true; each argument reads behind the call as it read before'; 0 by the template 'total and deterministic' (their statements: YtlhlgcghfidglaaGreatTotals.lean).
  GIVEN WITH THE SEED: the statements are not yours to turn. If you find one false, say at which input.
  Laid BY PROGRAM, IN A SANDBOX (cutbox-rows.mjs): the forced cells as the released guide's own fill.sh prints them over the translation 3559c1a4768747b7… (all of the seat's roots in one cut). By AI agents, Wed Nov 11 2026. No macro, syntax, notation, axiom, sorry.
-/
import Derived.Test.YtlhlgcghfidglaaGreatChecked
import GoSem.Claim
import GoSem.ClaimJoined
import GoSem.ClaimMapViews
import Derived.JoinedTies
import Derived.KernelRfl
namespace Go.Proofs.YtlhlgcghfidglaaGreat
/- THE CELL 'sum', in the pinned program and in every row, IS THE sha256 OF THE DUMP (.gsa) THAT YtlhlgcghfidglaaGreatProg.lean LOADS. Nothing in Lean hashes anything: it is a label: what it is worth is what the hold of that sum in a sandbox is worth. -/
noncomputable def Tryz.pinned : Pinned := { name := "ytlhlgcghfidglaagreat", sum := "3559c1a4768747b7de774e6d9a8efcddf4a2628073a46ce2f409fa6a33d169f1", checked := Tryz.checked }
namespace Rows
def none {H : Type} : Left H := { results := [], args := [] }

/-- 'laws.FnExactGoStep': WHATEVER THE INPUT: true; the input reads as it did. -/
def fnExactGoStepSpec : ChangeSpec := { name := "fnExactGoStep", fn := fun _ => fun
  | [d1, d2, d3, d4, d5, d6, d7] => { results := [.lit (.bool true)], args := [d1, d2, d3, d4, d5, d6, d7] }
  | _ => none }
def fnExactGoStepRow : OpenClaim := { program := "ytlhlgcghfidglaagreat", sum := "3559c1a4768747b7de774e6d9a8efcddf4a2628073a46ce2f409fa6a33d169f1", func := "loop.example/g03008/laws.FnExactGoStep", spec := "fnExactGoStep", apart := false }
def FnExactGoStepSaid : Prop := fnExactGoStepRow.holds Tryz.pinned (OpenSpec.ofChange fnExactGoStepSpec)

/-- ITS FALSE NEIGHBOUR: 'it returns false'. Refute it at one input. -/
def fnExactGoStepWrong : ChangeSpec := { name := "fnExactGoStep", fn := fun _ => fun
  | [d1, d2, d3, d4, d5, d6, d7] => { results := [.lit (.bool false)], args := [d1, d2, d3, d4, d5, d6, d7] }
  | _ => none }
def FnExactGoStepWrongFalsely : Prop := fnExactGoStepRow.holds Tryz.pinned (OpenSpec.ofChange fnExactGoStepWrong)

/-- 'laws.FnExactSafeTargets': WHATEVER THE INPUT: true; the input reads as it did. -/
def fnExactSafeTargetsSpec : ChangeSpec := { name := "fnExactSafeTargets", fn := fun _ => fun
  | [d1, d2, d3, d4, d5] => { results := [.lit (.bool true)], args := [d1, d2, d3, d4, d5] }
  | _ => none }
def fnExactSafeTargetsRow : OpenClaim := { program := "ytlhlgcghfidglaagreat", sum := "3559c1a4768747b7de774e6d9a8efcddf4a2628073a46ce2f409fa6a33d169f1", func := "loop.example/g03008/laws.FnExactSafeTargets", spec := "fnExactSafeTargets", apart := false }
def FnExactSafeTargetsSaid : Prop := fnExactSafeTargetsRow.holds Tryz.pinned (OpenSpec.ofChange fnExactSafeTargetsSpec)

/-- ITS FALSE NEIGHBOUR: 'it returns false'. Refute it at one input. -/
def fnExactSafeTargetsWrong : ChangeSpec := { name := "fnExactSafeTargets", fn := fun _ => fun
  | [d1, d2, d3, d4, d5] => { results := [.lit (.bool false)], args := [d1, d2, d3, d4, d5] }
  | _ => none }
def FnExactSafeTargetsWrongFalsely : Prop := fnExactSafeTargetsRow.holds Tryz.pinned (OpenSpec.ofChange fnExactSafeTargetsWrong)

/-- 'laws.FnExactLayStep': WHATEVER THE INPUT: true; the input reads as it did. -/
def fnExactLayStepSpec : ChangeSpec := { name := "fnExactLayStep", fn := fun _ => fun
  | [d1, d2, d3, d4, d5, d6] => { results := [.lit (.bool true)], args := [d1, d2, d3, d4, d5, d6] }
  | _ => none }
def fnExactLayStepRow : OpenClaim := { program := "ytlhlgcghfidglaagreat", sum := "3559c1a4768747b7de774e6d9a8efcddf4a2628073a46ce2f409fa6a33d169f1", func := "loop.example/g03008/laws.FnExactLayStep", spec := "fnExactLayStep", apart := false }
def FnExactLayStepSaid : Prop := fnExactLayStepRow.holds Tryz.pinned (OpenSpec.ofChange fnExactLayStepSpec)

/-- ITS FALSE NEIGHBOUR: 'it returns false'. Refute it at one input. -/
def fnExactLayStepWrong : ChangeSpec := { name := "fnExactLayStep", fn := fun _ => fun
  | [d1, d2, d3, d4, d5, d6] => { results := [.lit (.bool false)], args := [d1, d2, d3, d4, d5, d6] }
  | _ => none }
def FnExactLayStepWrongFalsely : Prop := fnExactLayStepRow.holds Tryz.pinned (OpenSpec.ofChange fnExactLayStepWrong)

/-- 'laws.FnExactReturnAll': WHATEVER THE INPUT: true; the input reads as it did. -/
def fnExactReturnAllSpec : ChangeSpec := { name := "fnExactReturnAll", fn := fun _ => fun
  | [d1, d2, d3, d4, d5, d6] => { results := [.lit (.bool true)], args := [d1, d2, d3, d4, d5, d6] }
  | _ => none }
def fnExactReturnAllRow : OpenClaim := { program := "ytlhlgcghfidglaagreat", sum := "3559c1a4768747b7de774e6d9a8efcddf4a2628073a46ce2f409fa6a33d169f1", func := "loop.example/g03008/laws.FnExactReturnAll", spec := "fnExactReturnAll", apart := false }
def FnExactReturnAllSaid : Prop := fnExactReturnAllRow.holds Tryz.pinned (OpenSpec.ofChange fnExactReturnAllSpec)

/-- ITS FALSE NEIGHBOUR: 'it returns false'. Refute it at one input. -/
def fnExactReturnAllWrong : ChangeSpec := { name := "fnExactReturnAll", fn := fun _ => fun
  | [d1, d2, d3, d4, d5, d6] => { results := [.lit (.bool false)], args := [d1, d2, d3, d4, d5, d6] }
  | _ => none }
def FnExactReturnAllWrongFalsely : Prop := fnExactReturnAllRow.holds Tryz.pinned (OpenSpec.ofChange fnExactReturnAllWrong)

/-- 'laws.FnExactIsTrek': WHATEVER THE INPUT: true; the input reads as it did. -/
def fnExactIsTrekSpec : ChangeSpec := { name := "fnExactIsTrek", fn := fun _ => fun
  | [d] => { results := [.lit (.bool true)], args := [d] }
  | _ => none }
def fnExactIsTrekRow : OpenClaim := { program := "ytlhlgcghfidglaagreat", sum := "3559c1a4768747b7de774e6d9a8efcddf4a2628073a46ce2f409fa6a33d169f1", func := "loop.example/g03008/laws.FnExactIsTrek", spec := "fnExactIsTrek", apart := false }
def FnExactIsTrekSaid : Prop := fnExactIsTrekRow.holds Tryz.pinned (OpenSpec.ofChange fnExactIsTrekSpec)

/-- ITS FALSE NEIGHBOUR: 'it returns false'. Refute it at one input. -/
def fnExactIsTrekWrong : ChangeSpec := { name := "fnExactIsTrek", fn := fun _ => fun
  | [d] => { results := [.lit (.bool false)], args := [d] }
  | _ => none }
def FnExactIsTrekWrongFalsely : Prop := fnExactIsTrekRow.holds Tryz.pinned (OpenSpec.ofChange fnExactIsTrekWrong)

/-- 'laws.FnExactFoodLeftShare': WHATEVER THE INPUT: true; the input reads as it did. -/
def fnExactFoodLeftShareSpec : ChangeSpec := { name := "fnExactFoodLeftShare", fn := fun _ => fun
  | [d] => { results := [.lit (.bool true)], args := [d] }
  | _ => none }
def fnExactFoodLeftShareRow : OpenClaim := { program := "ytlhlgcghfidglaagreat", sum := "3559c1a4768747b7de774e6d9a8efcddf4a2628073a46ce2f409fa6a33d169f1", func := "loop.example/g03008/laws.FnExactFoodLeftShare", spec := "fnExactFoodLeftShare", apart := false }
def FnExactFoodLeftShareSaid : Prop := fnExactFoodLeftShareRow.holds Tryz.pinned (OpenSpec.ofChange fnExactFoodLeftShareSpec)

/-- ITS FALSE NEIGHBOUR: 'it returns false'. Refute it at one input. -/
def fnExactFoodLeftShareWrong : ChangeSpec := { name := "fnExactFoodLeftShare", fn := fun _ => fun
  | [d] => { results := [.lit (.bool false)], args := [d] }
  | _ => none }
def FnExactFoodLeftShareWrongFalsely : Prop := fnExactFoodLeftShareRow.holds Tryz.pinned (OpenSpec.ofChange fnExactFoodLeftShareWrong)

/-- 'laws.FnExactNewTrek': WHATEVER THE INPUT: true; the input reads as it did. -/
def fnExactNewTrekSpec : ChangeSpec := { name := "fnExactNewTrek", fn := fun _ => fun
  | [d1, d2, d3, d4] => { results := [.lit (.bool true)], args := [d1, d2, d3, d4] }
  | _ => none }
def fnExactNewTrekRow : OpenClaim := { program := "ytlhlgcghfidglaagreat", sum := "3559c1a4768747b7de774e6d9a8efcddf4a2628073a46ce2f409fa6a33d169f1", func := "loop.example/g03008/laws.FnExactNewTrek", spec := "fnExactNewTrek", apart := false }
def FnExactNewTrekSaid : Prop := fnExactNewTrekRow.holds Tryz.pinned (OpenSpec.ofChange fnExactNewTrekSpec)

/-- ITS FALSE NEIGHBOUR: 'it returns false'. Refute it at one input. -/
def fnExactNewTrekWrong : ChangeSpec := { name := "fnExactNewTrek", fn := fun _ => fun
  | [d1, d2, d3, d4] => { results := [.lit (.bool false)], args := [d1, d2, d3, d4] }
  | _ => none }
def FnExactNewTrekWrongFalsely : Prop := fnExactNewTrekRow.holds Tryz.pinned (OpenSpec.ofChange fnExactNewTrekWrong)

/-- 'laws.FnExactHomeEvents': WHATEVER THE INPUT: true; the input reads as it did. -/
def fnExactHomeEventsSpec : ChangeSpec := { name := "fnExactHomeEvents", fn := fun _ => fun
  | [d] => { results := [.lit (.bool true)], args := [d] }
  | _ => none }
def fnExactHomeEventsRow : OpenClaim := { program := "ytlhlgcghfidglaagreat", sum := "3559c1a4768747b7de774e6d9a8efcddf4a2628073a46ce2f409fa6a33d169f1", func := "loop.example/g03008/laws.FnExactHomeEvents", spec := "fnExactHomeEvents", apart := false }
def FnExactHomeEventsSaid : Prop := fnExactHomeEventsRow.holds Tryz.pinned (OpenSpec.ofChange fnExactHomeEventsSpec)

/-- ITS FALSE NEIGHBOUR: 'it returns false'. Refute it at one input. -/
def fnExactHomeEventsWrong : ChangeSpec := { name := "fnExactHomeEvents", fn := fun _ => fun
  | [d] => { results := [.lit (.bool false)], args := [d] }
  | _ => none }
def FnExactHomeEventsWrongFalsely : Prop := fnExactHomeEventsRow.holds Tryz.pinned (OpenSpec.ofChange fnExactHomeEventsWrong)

/-- 'laws.FnTreks': WHATEVER THE INPUT: true; the input reads as it did. -/
def fnTreksSpec : ChangeSpec := { name := "fnTreks", fn := fun _ => fun
  | [d] => { results := [.lit (.bool true)], args := [d] }
  | _ => none }
def fnTreksRow : OpenClaim := { program := "ytlhlgcghfidglaagreat", sum := "3559c1a4768747b7de774e6d9a8efcddf4a2628073a46ce2f409fa6a33d169f1", func := "loop.example/g03008/laws.FnTreks", spec := "fnTreks", apart := false }
def FnTreksSaid : Prop := fnTreksRow.holds Tryz.pinned (OpenSpec.ofChange fnTreksSpec)

/-- ITS FALSE NEIGHBOUR: 'it returns false'. Refute it at one input. -/
def fnTreksWrong : ChangeSpec := { name := "fnTreks", fn := fun _ => fun
  | [d] => { results := [.lit (.bool false)], args := [d] }
  | _ => none }
def FnTreksWrongFalsely : Prop := fnTreksRow.holds Tryz.pinned (OpenSpec.ofChange fnTreksWrong)

/-- 'laws.FnTurns': WHATEVER THE INPUT: true; the input reads as it did. -/
def fnTurnsSpec : ChangeSpec := { name := "fnTurns", fn := fun _ => fun
  | [d] => { results := [.lit (.bool true)], args := [d] }
  | _ => none }
def fnTurnsRow : OpenClaim := { program := "ytlhlgcghfidglaagreat", sum := "3559c1a4768747b7de774e6d9a8efcddf4a2628073a46ce2f409fa6a33d169f1", func := "loop.example/g03008/laws.FnTurns", spec := "fnTurns", apart := false }
def FnTurnsSaid : Prop := fnTurnsRow.holds Tryz.pinned (OpenSpec.ofChange fnTurnsSpec)

/-- ITS FALSE NEIGHBOUR: 'it returns false'. Refute it at one input. -/
def fnTurnsWrong : ChangeSpec := { name := "fnTurns", fn := fun _ => fun
  | [d] => { results := [.lit (.bool false)], args := [d] }
  | _ => none }
def FnTurnsWrongFalsely : Prop := fnTurnsRow.holds Tryz.pinned (OpenSpec.ofChange fnTurnsWrong)

/- THE SECOND FORM. 'bulk': how many values and letters a reading holds, each counted each time it is reached (what is shared counts as often as it is met; a slice's spare places count too). A statement '..UptoSaid' is the law's where the arguments, and the package variables that the reading takes, are together of bulk at most 1048576: NARROWER than '..Said'. Prove '..Said' where nothing that the law and all that it calls make is longer than what came in: it says more and counts as full. Else prove '..UptoSaid'. A law counts once. -/
mutual
def uptoBulk {H : Type} : DataW H → Nat
  | .lit (.string bytes) => bytes.length + 1
  | .lit _ => 1
  | .nil => 1
  | .ptr d => uptoBulk d + 1
  | .slice elems spare => uptoBulkAll elems + uptoBulkAll spare + 1
  | .agg parts => uptoBulkAll parts + 1
  | .iface _ d => uptoBulk d + 1
  | .map entries => uptoBulkEntries entries + 1
  | .held _ => 1
def uptoBulkAll {H : Type} : List (DataW H) → Nat
  | [] => 0
  | d :: r => uptoBulk d + uptoBulkAll r
def uptoBulkEntries {H : Type} : List (Lit × DataW H) → Nat
  | [] => 0
  | x :: r => uptoBulkEntry x + uptoBulkEntries r
def uptoBulkEntry {H : Type} : Lit × DataW H → Nat
  | (.string bytes, d) => bytes.length + uptoBulk d + 1
  | (_, d) => uptoBulk d + 1
 end
def uptoSmall : (H : Type) → List (DataW H) → Bool := fun _ ds => decide (uptoBulkAll ds ≤ 1048576)
def OpenSpec.upto (s : _root_.Go.ChangeSpec) : _root_.Go.OpenSpec := { _root_.Go.OpenSpec.ofChange s with cond := some uptoSmall }

/-- 'laws.FnExactGoStep', WHERE WHAT IT READS IS OF BULK AT MOST 1048576: true; the input reads as it did. -/
def fnExactGoStepUptoRow : OpenClaim := { program := "ytlhlgcghfidglaagreat", sum := "3559c1a4768747b7de774e6d9a8efcddf4a2628073a46ce2f409fa6a33d169f1", func := "loop.example/g03008/laws.FnExactGoStep", spec := "fnExactGoStep", apart := false, narrowed := true }
def FnExactGoStepUptoSaid : Prop := fnExactGoStepUptoRow.holds Tryz.pinned (OpenSpec.upto fnExactGoStepSpec)

/-- 'laws.FnExactSafeTargets', WHERE WHAT IT READS IS OF BULK AT MOST 1048576: true; the input reads as it did. -/
def fnExactSafeTargetsUptoRow : OpenClaim := { program := "ytlhlgcghfidglaagreat", sum := "3559c1a4768747b7de774e6d9a8efcddf4a2628073a46ce2f409fa6a33d169f1", func := "loop.example/g03008/laws.FnExactSafeTargets", spec := "fnExactSafeTargets", apart := false, narrowed := true }
def FnExactSafeTargetsUptoSaid : Prop := fnExactSafeTargetsUptoRow.holds Tryz.pinned (OpenSpec.upto fnExactSafeTargetsSpec)

/-- 'laws.FnExactLayStep', WHERE WHAT IT READS IS OF BULK AT MOST 1048576: true; the input reads as it did. -/
def fnExactLayStepUptoRow : OpenClaim := { program := "ytlhlgcghfidglaagreat", sum := "3559c1a4768747b7de774e6d9a8efcddf4a2628073a46ce2f409fa6a33d169f1", func := "loop.example/g03008/laws.FnExactLayStep", spec := "fnExactLayStep", apart := false, narrowed := true }
def FnExactLayStepUptoSaid : Prop := fnExactLayStepUptoRow.holds Tryz.pinned (OpenSpec.upto fnExactLayStepSpec)

/-- 'laws.FnExactReturnAll', WHERE WHAT IT READS IS OF BULK AT MOST 1048576: true; the input reads as it did. -/
def fnExactReturnAllUptoRow : OpenClaim := { program := "ytlhlgcghfidglaagreat", sum := "3559c1a4768747b7de774e6d9a8efcddf4a2628073a46ce2f409fa6a33d169f1", func := "loop.example/g03008/laws.FnExactReturnAll", spec := "fnExactReturnAll", apart := false, narrowed := true }
def FnExactReturnAllUptoSaid : Prop := fnExactReturnAllUptoRow.holds Tryz.pinned (OpenSpec.upto fnExactReturnAllSpec)

/-- 'laws.FnExactIsTrek', WHERE WHAT IT READS IS OF BULK AT MOST 1048576: true; the input reads as it did. -/
def fnExactIsTrekUptoRow : OpenClaim := { program := "ytlhlgcghfidglaagreat", sum := "3559c1a4768747b7de774e6d9a8efcddf4a2628073a46ce2f409fa6a33d169f1", func := "loop.example/g03008/laws.FnExactIsTrek", spec := "fnExactIsTrek", apart := false, narrowed := true }
def FnExactIsTrekUptoSaid : Prop := fnExactIsTrekUptoRow.holds Tryz.pinned (OpenSpec.upto fnExactIsTrekSpec)

/-- 'laws.FnExactFoodLeftShare', WHERE WHAT IT READS IS OF BULK AT MOST 1048576: true; the input reads as it did. -/
def fnExactFoodLeftShareUptoRow : OpenClaim := { program := "ytlhlgcghfidglaagreat", sum := "3559c1a4768747b7de774e6d9a8efcddf4a2628073a46ce2f409fa6a33d169f1", func := "loop.example/g03008/laws.FnExactFoodLeftShare", spec := "fnExactFoodLeftShare", apart := false, narrowed := true }
def FnExactFoodLeftShareUptoSaid : Prop := fnExactFoodLeftShareUptoRow.holds Tryz.pinned (OpenSpec.upto fnExactFoodLeftShareSpec)

/-- 'laws.FnExactNewTrek', WHERE WHAT IT READS IS OF BULK AT MOST 1048576: true; the input reads as it did. -/
def fnExactNewTrekUptoRow : OpenClaim := { program := "ytlhlgcghfidglaagreat", sum := "3559c1a4768747b7de774e6d9a8efcddf4a2628073a46ce2f409fa6a33d169f1", func := "loop.example/g03008/laws.FnExactNewTrek", spec := "fnExactNewTrek", apart := false, narrowed := true }
def FnExactNewTrekUptoSaid : Prop := fnExactNewTrekUptoRow.holds Tryz.pinned (OpenSpec.upto fnExactNewTrekSpec)

/-- 'laws.FnExactHomeEvents', WHERE WHAT IT READS IS OF BULK AT MOST 1048576: true; the input reads as it did. -/
def fnExactHomeEventsUptoRow : OpenClaim := { program := "ytlhlgcghfidglaagreat", sum := "3559c1a4768747b7de774e6d9a8efcddf4a2628073a46ce2f409fa6a33d169f1", func := "loop.example/g03008/laws.FnExactHomeEvents", spec := "fnExactHomeEvents", apart := false, narrowed := true }
def FnExactHomeEventsUptoSaid : Prop := fnExactHomeEventsUptoRow.holds Tryz.pinned (OpenSpec.upto fnExactHomeEventsSpec)

/-- 'laws.FnTreks', WHERE WHAT IT READS IS OF BULK AT MOST 1048576: true; the input reads as it did. -/
def fnTreksUptoRow : OpenClaim := { program := "ytlhlgcghfidglaagreat", sum := "3559c1a4768747b7de774e6d9a8efcddf4a2628073a46ce2f409fa6a33d169f1", func := "loop.example/g03008/laws.FnTreks", spec := "fnTreks", apart := false, narrowed := true }
def FnTreksUptoSaid : Prop := fnTreksUptoRow.holds Tryz.pinned (OpenSpec.upto fnTreksSpec)

/-- 'laws.FnTurns', WHERE WHAT IT READS IS OF BULK AT MOST 1048576: true; the input reads as it did. -/
def fnTurnsUptoRow : OpenClaim := { program := "ytlhlgcghfidglaagreat", sum := "3559c1a4768747b7de774e6d9a8efcddf4a2628073a46ce2f409fa6a33d169f1", func := "loop.example/g03008/laws.FnTurns", spec := "fnTurns", apart := false, narrowed := true }
def FnTurnsUptoSaid : Prop := fnTurnsUptoRow.holds Tryz.pinned (OpenSpec.upto fnTurnsSpec)

end Rows
end Go.Proofs.YtlhlgcghfidglaaGreat
