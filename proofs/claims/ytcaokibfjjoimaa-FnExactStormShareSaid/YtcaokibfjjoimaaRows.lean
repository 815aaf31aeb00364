/-
  No cell of these rows narrows 'for every input' (looked for: loops, veiled, ifaces, maps, wideKeys, modest, calm, conditions, laid).
  DERIVED. THE GIVEN ROWS OF THIS SEAT. 12 by the template 'for every input the law returns true; each argument reads behind the call as it read before'; 0 by the template 'total and deterministic' (their statements: YtcaokibfjjoimaaTotals.lean).
  GIVEN WITH THE SEED: the statements are not yours to turn. If you find one false, say at which input.
  Laid BY PROGRAM, IN A SANDBOX (cutbox-rows.mjs): the forced cells as the released guide's own fill.sh prints them over the translation 106ec19c1f6f0372… (all of the seat's roots in one cut). By AI agents, Wed Nov 11 2026. No macro, syntax, notation, axiom, sorry.
-/
import Derived.Test.YtcaokibfjjoimaaChecked
import GoSem.Claim
import GoSem.ClaimJoined
import GoSem.ClaimMapViews
import Derived.JoinedTies
import Derived.KernelRfl
namespace Go.Proofs.Ytcaokibfjjoimaa
/- THE CELL 'sum', in the pinned program and in every row, IS THE sha256 OF THE DUMP (.gsa) THAT YtcaokibfjjoimaaProg.lean LOADS. Nothing in Lean hashes anything: it is a label: what it is worth is what the hold of that sum in a sandbox is worth. -/
noncomputable def Try.pinned : Pinned := { name := "ytcaokibfjjoimaa", sum := "106ec19c1f6f037261dc615bcc0ed5a6ab39993a50a183df57bb73195c7f8fe4", checked := Try.checked }
namespace Rows
def none {H : Type} : Left H := { results := [], args := [] }

/-- 'laws.FnExactEventName': WHATEVER THE INPUT: true; the input reads as it did. -/
def fnExactEventNameSpec : ChangeSpec := { name := "fnExactEventName", fn := fun _ => fun
  | [d] => { results := [.lit (.bool true)], args := [d] }
  | _ => none }
def fnExactEventNameRow : OpenClaim := { program := "ytcaokibfjjoimaa", sum := "106ec19c1f6f037261dc615bcc0ed5a6ab39993a50a183df57bb73195c7f8fe4", func := "loop.example/g03008/laws.FnExactEventName", spec := "fnExactEventName", apart := false }
def FnExactEventNameSaid : Prop := fnExactEventNameRow.holds Try.pinned (OpenSpec.ofChange fnExactEventNameSpec)

/-- ITS FALSE NEIGHBOUR: 'it returns false'. Refute it at one input. -/
def fnExactEventNameWrong : ChangeSpec := { name := "fnExactEventName", fn := fun _ => fun
  | [d] => { results := [.lit (.bool false)], args := [d] }
  | _ => none }
def FnExactEventNameWrongFalsely : Prop := fnExactEventNameRow.holds Try.pinned (OpenSpec.ofChange fnExactEventNameWrong)

/-- 'laws.FnExactStormShare': WHATEVER THE INPUT: true; the input reads as it did. -/
def fnExactStormShareSpec : ChangeSpec := { name := "fnExactStormShare", fn := fun _ => fun
  | [d] => { results := [.lit (.bool true)], args := [d] }
  | _ => none }
def fnExactStormShareRow : OpenClaim := { program := "ytcaokibfjjoimaa", sum := "106ec19c1f6f037261dc615bcc0ed5a6ab39993a50a183df57bb73195c7f8fe4", func := "loop.example/g03008/laws.FnExactStormShare", spec := "fnExactStormShare", apart := false }
def FnExactStormShareSaid : Prop := fnExactStormShareRow.holds Try.pinned (OpenSpec.ofChange fnExactStormShareSpec)

/-- ITS FALSE NEIGHBOUR: 'it returns false'. Refute it at one input. -/
def fnExactStormShareWrong : ChangeSpec := { name := "fnExactStormShare", fn := fun _ => fun
  | [d] => { results := [.lit (.bool false)], args := [d] }
  | _ => none }
def FnExactStormShareWrongFalsely : Prop := fnExactStormShareRow.holds Try.pinned (OpenSpec.ofChange fnExactStormShareWrong)

/-- 'laws.FnExactCountEvents': WHATEVER THE INPUT: true; the input reads as it did. -/
def fnExactCountEventsSpec : ChangeSpec := { name := "fnExactCountEvents", fn := fun _ => fun
  | [d1, d2] => { results := [.lit (.bool true)], args := [d1, d2] }
  | _ => none }
def fnExactCountEventsRow : OpenClaim := { program := "ytcaokibfjjoimaa", sum := "106ec19c1f6f037261dc615bcc0ed5a6ab39993a50a183df57bb73195c7f8fe4", func := "loop.example/g03008/laws.FnExactCountEvents", spec := "fnExactCountEvents", apart := false }
def FnExactCountEventsSaid : Prop := fnExactCountEventsRow.holds Try.pinned (OpenSpec.ofChange fnExactCountEventsSpec)

/-- ITS FALSE NEIGHBOUR: 'it returns false'. Refute it at one input. -/
def fnExactCountEventsWrong : ChangeSpec := { name := "fnExactCountEvents", fn := fun _ => fun
  | [d1, d2] => { results := [.lit (.bool false)], args := [d1, d2] }
  | _ => none }
def FnExactCountEventsWrongFalsely : Prop := fnExactCountEventsRow.holds Try.pinned (OpenSpec.ofChange fnExactCountEventsWrong)

/-- 'laws.FnExactStillDays': WHATEVER THE INPUT: true; the input reads as it did. -/
def fnExactStillDaysSpec : ChangeSpec := { name := "fnExactStillDays", fn := fun _ => fun
  | [d] => { results := [.lit (.bool true)], args := [d] }
  | _ => none }
def fnExactStillDaysRow : OpenClaim := { program := "ytcaokibfjjoimaa", sum := "106ec19c1f6f037261dc615bcc0ed5a6ab39993a50a183df57bb73195c7f8fe4", func := "loop.example/g03008/laws.FnExactStillDays", spec := "fnExactStillDays", apart := false }
def FnExactStillDaysSaid : Prop := fnExactStillDaysRow.holds Try.pinned (OpenSpec.ofChange fnExactStillDaysSpec)

/-- ITS FALSE NEIGHBOUR: 'it returns false'. Refute it at one input. -/
def fnExactStillDaysWrong : ChangeSpec := { name := "fnExactStillDays", fn := fun _ => fun
  | [d] => { results := [.lit (.bool false)], args := [d] }
  | _ => none }
def FnExactStillDaysWrongFalsely : Prop := fnExactStillDaysRow.holds Try.pinned (OpenSpec.ofChange fnExactStillDaysWrong)

/-- 'laws.FnExactOpenShare': WHATEVER THE INPUT: true; the input reads as it did. -/
def fnExactOpenShareSpec : ChangeSpec := { name := "fnExactOpenShare", fn := fun _ => fun
  | [d] => { results := [.lit (.bool true)], args := [d] }
  | _ => none }
def fnExactOpenShareRow : OpenClaim := { program := "ytcaokibfjjoimaa", sum := "106ec19c1f6f037261dc615bcc0ed5a6ab39993a50a183df57bb73195c7f8fe4", func := "loop.example/g03008/laws.FnExactOpenShare", spec := "fnExactOpenShare", apart := false }
def FnExactOpenShareSaid : Prop := fnExactOpenShareRow.holds Try.pinned (OpenSpec.ofChange fnExactOpenShareSpec)

/-- ITS FALSE NEIGHBOUR: 'it returns false'. Refute it at one input. -/
def fnExactOpenShareWrong : ChangeSpec := { name := "fnExactOpenShare", fn := fun _ => fun
  | [d] => { results := [.lit (.bool false)], args := [d] }
  | _ => none }
def FnExactOpenShareWrongFalsely : Prop := fnExactOpenShareRow.holds Try.pinned (OpenSpec.ofChange fnExactOpenShareWrong)

/-- 'laws.FnExactVisited': WHATEVER THE INPUT: true; the input reads as it did. -/
def fnExactVisitedSpec : ChangeSpec := { name := "fnExactVisited", fn := fun _ => fun
  | [d] => { results := [.lit (.bool true)], args := [d] }
  | _ => none }
def fnExactVisitedRow : OpenClaim := { program := "ytcaokibfjjoimaa", sum := "106ec19c1f6f037261dc615bcc0ed5a6ab39993a50a183df57bb73195c7f8fe4", func := "loop.example/g03008/laws.FnExactVisited", spec := "fnExactVisited", apart := false }
def FnExactVisitedSaid : Prop := fnExactVisitedRow.holds Try.pinned (OpenSpec.ofChange fnExactVisitedSpec)

/-- ITS FALSE NEIGHBOUR: 'it returns false'. Refute it at one input. -/
def fnExactVisitedWrong : ChangeSpec := { name := "fnExactVisited", fn := fun _ => fun
  | [d] => { results := [.lit (.bool false)], args := [d] }
  | _ => none }
def FnExactVisitedWrongFalsely : Prop := fnExactVisitedRow.holds Try.pinned (OpenSpec.ofChange fnExactVisitedWrong)

/-- 'laws.FnExactFirstAt': WHATEVER THE INPUT: true; the input reads as it did. -/
def fnExactFirstAtSpec : ChangeSpec := { name := "fnExactFirstAt", fn := fun _ => fun
  | [d1, d2] => { results := [.lit (.bool true)], args := [d1, d2] }
  | _ => none }
def fnExactFirstAtRow : OpenClaim := { program := "ytcaokibfjjoimaa", sum := "106ec19c1f6f037261dc615bcc0ed5a6ab39993a50a183df57bb73195c7f8fe4", func := "loop.example/g03008/laws.FnExactFirstAt", spec := "fnExactFirstAt", apart := false }
def FnExactFirstAtSaid : Prop := fnExactFirstAtRow.holds Try.pinned (OpenSpec.ofChange fnExactFirstAtSpec)

/-- ITS FALSE NEIGHBOUR: 'it returns false'. Refute it at one input. -/
def fnExactFirstAtWrong : ChangeSpec := { name := "fnExactFirstAt", fn := fun _ => fun
  | [d1, d2] => { results := [.lit (.bool false)], args := [d1, d2] }
  | _ => none }
def FnExactFirstAtWrongFalsely : Prop := fnExactFirstAtRow.holds Try.pinned (OpenSpec.ofChange fnExactFirstAtWrong)

/-- 'laws.FnExactLowestFood': WHATEVER THE INPUT: true; the input reads as it did. -/
def fnExactLowestFoodSpec : ChangeSpec := { name := "fnExactLowestFood", fn := fun _ => fun
  | [d] => { results := [.lit (.bool true)], args := [d] }
  | _ => none }
def fnExactLowestFoodRow : OpenClaim := { program := "ytcaokibfjjoimaa", sum := "106ec19c1f6f037261dc615bcc0ed5a6ab39993a50a183df57bb73195c7f8fe4", func := "loop.example/g03008/laws.FnExactLowestFood", spec := "fnExactLowestFood", apart := false }
def FnExactLowestFoodSaid : Prop := fnExactLowestFoodRow.holds Try.pinned (OpenSpec.ofChange fnExactLowestFoodSpec)

/-- ITS FALSE NEIGHBOUR: 'it returns false'. Refute it at one input. -/
def fnExactLowestFoodWrong : ChangeSpec := { name := "fnExactLowestFood", fn := fun _ => fun
  | [d] => { results := [.lit (.bool false)], args := [d] }
  | _ => none }
def FnExactLowestFoodWrongFalsely : Prop := fnExactLowestFoodRow.holds Try.pinned (OpenSpec.ofChange fnExactLowestFoodWrong)

/-- 'laws.FnExactCanSee': WHATEVER THE INPUT: true; the input reads as it did. -/
def fnExactCanSeeSpec : ChangeSpec := { name := "fnExactCanSee", fn := fun _ => fun
  | [d1, d2, d3] => { results := [.lit (.bool true)], args := [d1, d2, d3] }
  | _ => none }
def fnExactCanSeeRow : OpenClaim := { program := "ytcaokibfjjoimaa", sum := "106ec19c1f6f037261dc615bcc0ed5a6ab39993a50a183df57bb73195c7f8fe4", func := "loop.example/g03008/laws.FnExactCanSee", spec := "fnExactCanSee", apart := false }
def FnExactCanSeeSaid : Prop := fnExactCanSeeRow.holds Try.pinned (OpenSpec.ofChange fnExactCanSeeSpec)

/-- ITS FALSE NEIGHBOUR: 'it returns false'. Refute it at one input. -/
def fnExactCanSeeWrong : ChangeSpec := { name := "fnExactCanSee", fn := fun _ => fun
  | [d1, d2, d3] => { results := [.lit (.bool false)], args := [d1, d2, d3] }
  | _ => none }
def FnExactCanSeeWrongFalsely : Prop := fnExactCanSeeRow.holds Try.pinned (OpenSpec.ofChange fnExactCanSeeWrong)

/-- 'laws.FnExactExampleLand': WHATEVER THE INPUT: true; the input reads as it did. -/
def fnExactExampleLandSpec : ChangeSpec := { name := "fnExactExampleLand", fn := fun _ => fun
  | [] => { results := [.lit (.bool true)], args := [] }
  | _ => none }
def fnExactExampleLandRow : OpenClaim := { program := "ytcaokibfjjoimaa", sum := "106ec19c1f6f037261dc615bcc0ed5a6ab39993a50a183df57bb73195c7f8fe4", func := "loop.example/g03008/laws.FnExactExampleLand", spec := "fnExactExampleLand", inPlace := ["internal/bytealg.IndexByteString", "internal/bytealg.IndexString"], named := ["internal/bytealg.MaxLen"], apart := false }
def FnExactExampleLandSaid : Prop := fnExactExampleLandRow.holds Try.pinned (OpenSpec.ofChange fnExactExampleLandSpec)

/-- ITS FALSE NEIGHBOUR: 'it returns false'. Refute it at one input. -/
def fnExactExampleLandWrong : ChangeSpec := { name := "fnExactExampleLand", fn := fun _ => fun
  | [] => { results := [.lit (.bool false)], args := [] }
  | _ => none }
def FnExactExampleLandWrongFalsely : Prop := fnExactExampleLandRow.holds Try.pinned (OpenSpec.ofChange fnExactExampleLandWrong)

/-- 'laws.FnExactDaysNear': WHATEVER THE INPUT: true; the input reads as it did. -/
def fnExactDaysNearSpec : ChangeSpec := { name := "fnExactDaysNear", fn := fun _ => fun
  | [d1, d2, d3, d4] => { results := [.lit (.bool true)], args := [d1, d2, d3, d4] }
  | _ => none }
def fnExactDaysNearRow : OpenClaim := { program := "ytcaokibfjjoimaa", sum := "106ec19c1f6f037261dc615bcc0ed5a6ab39993a50a183df57bb73195c7f8fe4", func := "loop.example/g03008/laws.FnExactDaysNear", spec := "fnExactDaysNear", apart := false }
def FnExactDaysNearSaid : Prop := fnExactDaysNearRow.holds Try.pinned (OpenSpec.ofChange fnExactDaysNearSpec)

/-- ITS FALSE NEIGHBOUR: 'it returns false'. Refute it at one input. -/
def fnExactDaysNearWrong : ChangeSpec := { name := "fnExactDaysNear", fn := fun _ => fun
  | [d1, d2, d3, d4] => { results := [.lit (.bool false)], args := [d1, d2, d3, d4] }
  | _ => none }
def FnExactDaysNearWrongFalsely : Prop := fnExactDaysNearRow.holds Try.pinned (OpenSpec.ofChange fnExactDaysNearWrong)

/-- 'laws.FnExactFarthestOut': WHATEVER THE INPUT: true; the input reads as it did. -/
def fnExactFarthestOutSpec : ChangeSpec := { name := "fnExactFarthestOut", fn := fun _ => fun
  | [d1, d2, d3] => { results := [.lit (.bool true)], args := [d1, d2, d3] }
  | _ => none }
def fnExactFarthestOutRow : OpenClaim := { program := "ytcaokibfjjoimaa", sum := "106ec19c1f6f037261dc615bcc0ed5a6ab39993a50a183df57bb73195c7f8fe4", func := "loop.example/g03008/laws.FnExactFarthestOut", spec := "fnExactFarthestOut", apart := false }
def FnExactFarthestOutSaid : Prop := fnExactFarthestOutRow.holds Try.pinned (OpenSpec.ofChange fnExactFarthestOutSpec)

/-- ITS FALSE NEIGHBOUR: 'it returns false'. Refute it at one input. -/
def fnExactFarthestOutWrong : ChangeSpec := { name := "fnExactFarthestOut", fn := fun _ => fun
  | [d1, d2, d3] => { results := [.lit (.bool false)], args := [d1, d2, d3] }
  | _ => none }
def FnExactFarthestOutWrongFalsely : Prop := fnExactFarthestOutRow.holds Try.pinned (OpenSpec.ofChange fnExactFarthestOutWrong)

/- THE SECOND FORM. 'bulk': how many values and letters a reading holds, each counted each time it is reached (what is shared counts as often as it is met; a slice's spare places count too). A statement '..UptoSaid' is the law's where the arguments, and the package variables that the reading takes, are together of bulk at most 1048576: NARROWER than '..Said'. Prove '..Said' where nothing that the law and all that it calls make is longer than what came in: it says more and counts as full. Else prove '..UptoSaid'. A law counts once. -/
mutual
def uptoBulk {H : Type} : DataW H → Nat
  | .lit (.string bytes) => bytes.length + 1
  | .lit _ => 1
  | .nil => 1
  | .ptr d => uptoBulk d + 1
  | .slice elems spare => uptoBulkAll elems + uptoBulkAll spare + 1
  | .agg parts => uptoBulkAll parts + 1
  | .iface _ d => uptoBulk d + 1
  | .map entries => uptoBulkEntries entries + 1
  | .held _ => 1
def uptoBulkAll {H : Type} : List (DataW H) → Nat
  | [] => 0
  | d :: r => uptoBulk d + uptoBulkAll r
def uptoBulkEntries {H : Type} : List (Lit × DataW H) → Nat
  | [] => 0
  | x :: r => uptoBulkEntry x + uptoBulkEntries r
def uptoBulkEntry {H : Type} : Lit × DataW H → Nat
  | (.string bytes, d) => bytes.length + uptoBulk d + 1
  | (_, d) => uptoBulk d + 1
 end
def uptoSmall : (H : Type) → List (DataW H) → Bool := fun _ ds => decide (uptoBulkAll ds ≤ 1048576)
def OpenSpec.upto (s : _root_.Go.ChangeSpec) : _root_.Go.OpenSpec := { _root_.Go.OpenSpec.ofChange s with cond := some uptoSmall }

/-- 'laws.FnExactEventName', WHERE WHAT IT READS IS OF BULK AT MOST 1048576: true; the input reads as it did. -/
def fnExactEventNameUptoRow : OpenClaim := { program := "ytcaokibfjjoimaa", sum := "106ec19c1f6f037261dc615bcc0ed5a6ab39993a50a183df57bb73195c7f8fe4", func := "loop.example/g03008/laws.FnExactEventName", spec := "fnExactEventName", apart := false, narrowed := true }
def FnExactEventNameUptoSaid : Prop := fnExactEventNameUptoRow.holds Try.pinned (OpenSpec.upto fnExactEventNameSpec)

/-- 'laws.FnExactStormShare', WHERE WHAT IT READS IS OF BULK AT MOST 1048576: true; the input reads as it did. -/
def fnExactStormShareUptoRow : OpenClaim := { program := "ytcaokibfjjoimaa", sum := "106ec19c1f6f037261dc615bcc0ed5a6ab39993a50a183df57bb73195c7f8fe4", func := "loop.example/g03008/laws.FnExactStormShare", spec := "fnExactStormShare", apart := false, narrowed := true }
def FnExactStormShareUptoSaid : Prop := fnExactStormShareUptoRow.holds Try.pinned (OpenSpec.upto fnExactStormShareSpec)

/-- 'laws.FnExactCountEvents', WHERE WHAT IT READS IS OF BULK AT MOST 1048576: true; the input reads as it did. -/
def fnExactCountEventsUptoRow : OpenClaim := { program := "ytcaokibfjjoimaa", sum := "106ec19c1f6f037261dc615bcc0ed5a6ab39993a50a183df57bb73195c7f8fe4", func := "loop.example/g03008/laws.FnExactCountEvents", spec := "fnExactCountEvents", apart := false, narrowed := true }
def FnExactCountEventsUptoSaid : Prop := fnExactCountEventsUptoRow.holds Try.pinned (OpenSpec.upto fnExactCountEventsSpec)

/-- 'laws.FnExactStillDays', WHERE WHAT IT READS IS OF BULK AT MOST 1048576: true; the input reads as it did. -/
def fnExactStillDaysUptoRow : OpenClaim := { program := "ytcaokibfjjoimaa", sum := "106ec19c1f6f037261dc615bcc0ed5a6ab39993a50a183df57bb73195c7f8fe4", func := "loop.example/g03008/laws.FnExactStillDays", spec := "fnExactStillDays", apart := false, narrowed := true }
def FnExactStillDaysUptoSaid : Prop := fnExactStillDaysUptoRow.holds Try.pinned (OpenSpec.upto fnExactStillDaysSpec)

/-- 'laws.FnExactOpenShare', WHERE WHAT IT READS IS OF BULK AT MOST 1048576: true; the input reads as it did. -/
def fnExactOpenShareUptoRow : OpenClaim := { program := "ytcaokibfjjoimaa", sum := "106ec19c1f6f037261dc615bcc0ed5a6ab39993a50a183df57bb73195c7f8fe4", func := "loop.example/g03008/laws.FnExactOpenShare", spec := "fnExactOpenShare", apart := false, narrowed := true }
def FnExactOpenShareUptoSaid : Prop := fnExactOpenShareUptoRow.holds Try.pinned (OpenSpec.upto fnExactOpenShareSpec)

/-- 'laws.FnExactVisited', WHERE WHAT IT READS IS OF BULK AT MOST 1048576: true; the input reads as it did. -/
def fnExactVisitedUptoRow : OpenClaim := { program := "ytcaokibfjjoimaa", sum := "106ec19c1f6f037261dc615bcc0ed5a6ab39993a50a183df57bb73195c7f8fe4", func := "loop.example/g03008/laws.FnExactVisited", spec := "fnExactVisited", apart := false, narrowed := true }
def FnExactVisitedUptoSaid : Prop := fnExactVisitedUptoRow.holds Try.pinned (OpenSpec.upto fnExactVisitedSpec)

/-- 'laws.FnExactFirstAt', WHERE WHAT IT READS IS OF BULK AT MOST 1048576: true; the input reads as it did. -/
def fnExactFirstAtUptoRow : OpenClaim := { program := "ytcaokibfjjoimaa", sum := "106ec19c1f6f037261dc615bcc0ed5a6ab39993a50a183df57bb73195c7f8fe4", func := "loop.example/g03008/laws.FnExactFirstAt", spec := "fnExactFirstAt", apart := false, narrowed := true }
def FnExactFirstAtUptoSaid : Prop := fnExactFirstAtUptoRow.holds Try.pinned (OpenSpec.upto fnExactFirstAtSpec)

/-- 'laws.FnExactLowestFood', WHERE WHAT IT READS IS OF BULK AT MOST 1048576: true; the input reads as it did. -/
def fnExactLowestFoodUptoRow : OpenClaim := { program := "ytcaokibfjjoimaa", sum := "106ec19c1f6f037261dc615bcc0ed5a6ab39993a50a183df57bb73195c7f8fe4", func := "loop.example/g03008/laws.FnExactLowestFood", spec := "fnExactLowestFood", apart := false, narrowed := true }
def FnExactLowestFoodUptoSaid : Prop := fnExactLowestFoodUptoRow.holds Try.pinned (OpenSpec.upto fnExactLowestFoodSpec)

/-- 'laws.FnExactCanSee', WHERE WHAT IT READS IS OF BULK AT MOST 1048576: true; the input reads as it did. -/
def fnExactCanSeeUptoRow : OpenClaim := { program := "ytcaokibfjjoimaa", sum := "106ec19c1f6f037261dc615bcc0ed5a6ab39993a50a183df57bb73195c7f8fe4", func := "loop.example/g03008/laws.FnExactCanSee", spec := "fnExactCanSee", apart := false, narrowed := true }
def FnExactCanSeeUptoSaid : Prop := fnExactCanSeeUptoRow.holds Try.pinned (OpenSpec.upto fnExactCanSeeSpec)

/-- 'laws.FnExactExampleLand', WHERE WHAT IT READS IS OF BULK AT MOST 1048576: true; the input reads as it did. -/
def fnExactExampleLandUptoRow : OpenClaim := { program := "ytcaokibfjjoimaa", sum := "106ec19c1f6f037261dc615bcc0ed5a6ab39993a50a183df57bb73195c7f8fe4", func := "loop.example/g03008/laws.FnExactExampleLand", spec := "fnExactExampleLand", inPlace := ["internal/bytealg.IndexByteString", "internal/bytealg.IndexString"], named := ["internal/bytealg.MaxLen"], apart := false, narrowed := true }
def FnExactExampleLandUptoSaid : Prop := fnExactExampleLandUptoRow.holds Try.pinned (OpenSpec.upto fnExactExampleLandSpec)

/-- 'laws.FnExactDaysNear', WHERE WHAT IT READS IS OF BULK AT MOST 1048576: true; the input reads as it did. -/
def fnExactDaysNearUptoRow : OpenClaim := { program := "ytcaokibfjjoimaa", sum := "106ec19c1f6f037261dc615bcc0ed5a6ab39993a50a183df57bb73195c7f8fe4", func := "loop.example/g03008/laws.FnExactDaysNear", spec := "fnExactDaysNear", apart := false, narrowed := true }
def FnExactDaysNearUptoSaid : Prop := fnExactDaysNearUptoRow.holds Try.pinned (OpenSpec.upto fnExactDaysNearSpec)

/-- 'laws.FnExactFarthestOut', WHERE WHAT IT READS IS OF BULK AT MOST 1048576: true; the input reads as it did. -/
def fnExactFarthestOutUptoRow : OpenClaim := { program := "ytcaokibfjjoimaa", sum := "106ec19c1f6f037261dc615bcc0ed5a6ab39993a50a183df57bb73195c7f8fe4", func := "loop.example/g03008/laws.FnExactFarthestOut", spec := "fnExactFarthestOut", apart := false, narrowed := true }
def FnExactFarthestOutUptoSaid : Prop := fnExactFarthestOutUptoRow.holds Try.pinned (OpenSpec.upto fnExactFarthestOutSpec)

end Rows
end Go.Proofs.Ytcaokibfjjoimaa
