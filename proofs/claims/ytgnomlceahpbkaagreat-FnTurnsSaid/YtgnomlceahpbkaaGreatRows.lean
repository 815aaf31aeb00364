/-
  No cell of these rows narrows 'for every input' (looked for: loops, veiled, ifaces, maps, wideKeys, modest, calm, conditions, laid).
  DERIVED. THE GIVEN ROWS OF THIS SEAT. 12 by the template 'for every input the law returns true; each argument reads behind the call as it read before'; 0 by the template 'total and deterministic' (their statements: YtgnomlceahpbkaaGreatTotals.lean).
  GIVEN WITH THE SEED: the statements are not yours to turn. If you find one false, say at which input.
  Laid BY PROGRAM, IN A SANDBOX (cutbox-rows.mjs): the forced cells as the released guide's own fill.sh prints them over the translation 6e04c28036f7790a… (all of the seat's roots in one cut). By AI agents, Wed Nov 11 2026. No macro, syntax, notation, axiom, sorry.
-/
import Derived.Test.YtgnomlceahpbkaaGreatChecked
import GoSem.Claim
import GoSem.ClaimJoined
import GoSem.ClaimMapViews
import Derived.JoinedTies
import Derived.KernelRfl
namespace Go.Proofs.YtgnomlceahpbkaaGreat
/- THE CELL 'sum', in the pinned program and in every row, IS THE sha256 OF THE DUMP (.gsa) THAT YtgnomlceahpbkaaGreatProg.lean LOADS. Nothing in Lean hashes anything: it is a label: what it is worth is what the hold of that sum in a sandbox is worth. -/
noncomputable def Tryz.pinned : Pinned := { name := "ytgnomlceahpbkaagreat", sum := "6e04c28036f7790ab3065d4e5fa805a99d07a69c766ffe46c9ba9d63d14267ca", checked := Tryz.checked }
namespace Rows
def none {H : Type} : Left H := { results := [], args := [] }

/-- 'laws.FnExactStepGive': WHATEVER THE INPUT: true; the input reads as it did. -/
def fnExactStepGiveSpec : ChangeSpec := { name := "fnExactStepGive", fn := fun _ => fun
  | [d1, d2] => { results := [.lit (.bool true)], args := [d1, d2] }
  | _ => none }
def fnExactStepGiveRow : OpenClaim := { program := "ytgnomlceahpbkaagreat", sum := "6e04c28036f7790ab3065d4e5fa805a99d07a69c766ffe46c9ba9d63d14267ca", func := "loop.example/g03008/laws.FnExactStepGive", spec := "fnExactStepGive", apart := false }
def FnExactStepGiveSaid : Prop := fnExactStepGiveRow.holds Tryz.pinned (OpenSpec.ofChange fnExactStepGiveSpec)

/-- ITS FALSE NEIGHBOUR: 'it returns false'. Refute it at one input. -/
def fnExactStepGiveWrong : ChangeSpec := { name := "fnExactStepGive", fn := fun _ => fun
  | [d1, d2] => { results := [.lit (.bool false)], args := [d1, d2] }
  | _ => none }
def FnExactStepGiveWrongFalsely : Prop := fnExactStepGiveRow.holds Tryz.pinned (OpenSpec.ofChange fnExactStepGiveWrong)

/-- 'laws.FnExactStepTake': WHATEVER THE INPUT: true; the input reads as it did. -/
def fnExactStepTakeSpec : ChangeSpec := { name := "fnExactStepTake", fn := fun _ => fun
  | [d1, d2] => { results := [.lit (.bool true)], args := [d1, d2] }
  | _ => none }
def fnExactStepTakeRow : OpenClaim := { program := "ytgnomlceahpbkaagreat", sum := "6e04c28036f7790ab3065d4e5fa805a99d07a69c766ffe46c9ba9d63d14267ca", func := "loop.example/g03008/laws.FnExactStepTake", spec := "fnExactStepTake", apart := false }
def FnExactStepTakeSaid : Prop := fnExactStepTakeRow.holds Tryz.pinned (OpenSpec.ofChange fnExactStepTakeSpec)

/-- ITS FALSE NEIGHBOUR: 'it returns false'. Refute it at one input. -/
def fnExactStepTakeWrong : ChangeSpec := { name := "fnExactStepTake", fn := fun _ => fun
  | [d1, d2] => { results := [.lit (.bool false)], args := [d1, d2] }
  | _ => none }
def FnExactStepTakeWrongFalsely : Prop := fnExactStepTakeRow.holds Tryz.pinned (OpenSpec.ofChange fnExactStepTakeWrong)

/-- 'laws.FnExactStepLay': WHATEVER THE INPUT: true; the input reads as it did. -/
def fnExactStepLaySpec : ChangeSpec := { name := "fnExactStepLay", fn := fun _ => fun
  | [d1, d2] => { results := [.lit (.bool true)], args := [d1, d2] }
  | _ => none }
def fnExactStepLayRow : OpenClaim := { program := "ytgnomlceahpbkaagreat", sum := "6e04c28036f7790ab3065d4e5fa805a99d07a69c766ffe46c9ba9d63d14267ca", func := "loop.example/g03008/laws.FnExactStepLay", spec := "fnExactStepLay", apart := false }
def FnExactStepLaySaid : Prop := fnExactStepLayRow.holds Tryz.pinned (OpenSpec.ofChange fnExactStepLaySpec)

/-- ITS FALSE NEIGHBOUR: 'it returns false'. Refute it at one input. -/
def fnExactStepLayWrong : ChangeSpec := { name := "fnExactStepLay", fn := fun _ => fun
  | [d1, d2] => { results := [.lit (.bool false)], args := [d1, d2] }
  | _ => none }
def FnExactStepLayWrongFalsely : Prop := fnExactStepLayRow.holds Tryz.pinned (OpenSpec.ofChange fnExactStepLayWrong)

/-- 'laws.FnExactStepWait': WHATEVER THE INPUT: true; the input reads as it did. -/
def fnExactStepWaitSpec : ChangeSpec := { name := "fnExactStepWait", fn := fun _ => fun
  | [d1, d2] => { results := [.lit (.bool true)], args := [d1, d2] }
  | _ => none }
def fnExactStepWaitRow : OpenClaim := { program := "ytgnomlceahpbkaagreat", sum := "6e04c28036f7790ab3065d4e5fa805a99d07a69c766ffe46c9ba9d63d14267ca", func := "loop.example/g03008/laws.FnExactStepWait", spec := "fnExactStepWait", apart := false }
def FnExactStepWaitSaid : Prop := fnExactStepWaitRow.holds Tryz.pinned (OpenSpec.ofChange fnExactStepWaitSpec)

/-- ITS FALSE NEIGHBOUR: 'it returns false'. Refute it at one input. -/
def fnExactStepWaitWrong : ChangeSpec := { name := "fnExactStepWait", fn := fun _ => fun
  | [d1, d2] => { results := [.lit (.bool false)], args := [d1, d2] }
  | _ => none }
def FnExactStepWaitWrongFalsely : Prop := fnExactStepWaitRow.holds Tryz.pinned (OpenSpec.ofChange fnExactStepWaitWrong)

/-- 'laws.FnExactStepGo': WHATEVER THE INPUT: true; the input reads as it did. -/
def fnExactStepGoSpec : ChangeSpec := { name := "fnExactStepGo", fn := fun _ => fun
  | [d1, d2, d3] => { results := [.lit (.bool true)], args := [d1, d2, d3] }
  | _ => none }
def fnExactStepGoRow : OpenClaim := { program := "ytgnomlceahpbkaagreat", sum := "6e04c28036f7790ab3065d4e5fa805a99d07a69c766ffe46c9ba9d63d14267ca", func := "loop.example/g03008/laws.FnExactStepGo", spec := "fnExactStepGo", apart := false }
def FnExactStepGoSaid : Prop := fnExactStepGoRow.holds Tryz.pinned (OpenSpec.ofChange fnExactStepGoSpec)

/-- ITS FALSE NEIGHBOUR: 'it returns false'. Refute it at one input. -/
def fnExactStepGoWrong : ChangeSpec := { name := "fnExactStepGo", fn := fun _ => fun
  | [d1, d2, d3] => { results := [.lit (.bool false)], args := [d1, d2, d3] }
  | _ => none }
def FnExactStepGoWrongFalsely : Prop := fnExactStepGoRow.holds Tryz.pinned (OpenSpec.ofChange fnExactStepGoWrong)

/-- 'laws.FnExactStepHome': WHATEVER THE INPUT: true; the input reads as it did. -/
def fnExactStepHomeSpec : ChangeSpec := { name := "fnExactStepHome", fn := fun _ => fun
  | [d1, d2] => { results := [.lit (.bool true)], args := [d1, d2] }
  | _ => none }
def fnExactStepHomeRow : OpenClaim := { program := "ytgnomlceahpbkaagreat", sum := "6e04c28036f7790ab3065d4e5fa805a99d07a69c766ffe46c9ba9d63d14267ca", func := "loop.example/g03008/laws.FnExactStepHome", spec := "fnExactStepHome", apart := false }
def FnExactStepHomeSaid : Prop := fnExactStepHomeRow.holds Tryz.pinned (OpenSpec.ofChange fnExactStepHomeSpec)

/-- ITS FALSE NEIGHBOUR: 'it returns false'. Refute it at one input. -/
def fnExactStepHomeWrong : ChangeSpec := { name := "fnExactStepHome", fn := fun _ => fun
  | [d1, d2] => { results := [.lit (.bool false)], args := [d1, d2] }
  | _ => none }
def FnExactStepHomeWrongFalsely : Prop := fnExactStepHomeRow.holds Tryz.pinned (OpenSpec.ofChange fnExactStepHomeWrong)

/-- 'laws.FnExactComesHome': WHATEVER THE INPUT: true; the input reads as it did. -/
def fnExactComesHomeSpec : ChangeSpec := { name := "fnExactComesHome", fn := fun _ => fun
  | [d] => { results := [.lit (.bool true)], args := [d] }
  | _ => none }
def fnExactComesHomeRow : OpenClaim := { program := "ytgnomlceahpbkaagreat", sum := "6e04c28036f7790ab3065d4e5fa805a99d07a69c766ffe46c9ba9d63d14267ca", func := "loop.example/g03008/laws.FnExactComesHome", spec := "fnExactComesHome", apart := false }
def FnExactComesHomeSaid : Prop := fnExactComesHomeRow.holds Tryz.pinned (OpenSpec.ofChange fnExactComesHomeSpec)

/-- ITS FALSE NEIGHBOUR: 'it returns false'. Refute it at one input. -/
def fnExactComesHomeWrong : ChangeSpec := { name := "fnExactComesHome", fn := fun _ => fun
  | [d] => { results := [.lit (.bool false)], args := [d] }
  | _ => none }
def FnExactComesHomeWrongFalsely : Prop := fnExactComesHomeRow.holds Tryz.pinned (OpenSpec.ofChange fnExactComesHomeWrong)

/-- 'laws.FnExactFaultOf': WHATEVER THE INPUT: true; the input reads as it did. -/
def fnExactFaultOfSpec : ChangeSpec := { name := "fnExactFaultOf", fn := fun _ => fun
  | [d] => { results := [.lit (.bool true)], args := [d] }
  | _ => none }
def fnExactFaultOfRow : OpenClaim := { program := "ytgnomlceahpbkaagreat", sum := "6e04c28036f7790ab3065d4e5fa805a99d07a69c766ffe46c9ba9d63d14267ca", func := "loop.example/g03008/laws.FnExactFaultOf", spec := "fnExactFaultOf", apart := false }
def FnExactFaultOfSaid : Prop := fnExactFaultOfRow.holds Tryz.pinned (OpenSpec.ofChange fnExactFaultOfSpec)

/-- ITS FALSE NEIGHBOUR: 'it returns false'. Refute it at one input. -/
def fnExactFaultOfWrong : ChangeSpec := { name := "fnExactFaultOf", fn := fun _ => fun
  | [d] => { results := [.lit (.bool false)], args := [d] }
  | _ => none }
def FnExactFaultOfWrongFalsely : Prop := fnExactFaultOfRow.holds Tryz.pinned (OpenSpec.ofChange fnExactFaultOfWrong)

/-- 'laws.FnExactApplyEvent': WHATEVER THE INPUT: true; the input reads as it did. -/
def fnExactApplyEventSpec : ChangeSpec := { name := "fnExactApplyEvent", fn := fun _ => fun
  | [d1, d2] => { results := [.lit (.bool true)], args := [d1, d2] }
  | _ => none }
def fnExactApplyEventRow : OpenClaim := { program := "ytgnomlceahpbkaagreat", sum := "6e04c28036f7790ab3065d4e5fa805a99d07a69c766ffe46c9ba9d63d14267ca", func := "loop.example/g03008/laws.FnExactApplyEvent", spec := "fnExactApplyEvent", apart := false }
def FnExactApplyEventSaid : Prop := fnExactApplyEventRow.holds Tryz.pinned (OpenSpec.ofChange fnExactApplyEventSpec)

/-- ITS FALSE NEIGHBOUR: 'it returns false'. Refute it at one input. -/
def fnExactApplyEventWrong : ChangeSpec := { name := "fnExactApplyEvent", fn := fun _ => fun
  | [d1, d2] => { results := [.lit (.bool false)], args := [d1, d2] }
  | _ => none }
def FnExactApplyEventWrongFalsely : Prop := fnExactApplyEventRow.holds Tryz.pinned (OpenSpec.ofChange fnExactApplyEventWrong)

/-- 'laws.FnExactRunEvents': WHATEVER THE INPUT: true; the input reads as it did. -/
def fnExactRunEventsSpec : ChangeSpec := { name := "fnExactRunEvents", fn := fun _ => fun
  | [d1, d2] => { results := [.lit (.bool true)], args := [d1, d2] }
  | _ => none }
def fnExactRunEventsRow : OpenClaim := { program := "ytgnomlceahpbkaagreat", sum := "6e04c28036f7790ab3065d4e5fa805a99d07a69c766ffe46c9ba9d63d14267ca", func := "loop.example/g03008/laws.FnExactRunEvents", spec := "fnExactRunEvents", apart := false }
def FnExactRunEventsSaid : Prop := fnExactRunEventsRow.holds Tryz.pinned (OpenSpec.ofChange fnExactRunEventsSpec)

/-- ITS FALSE NEIGHBOUR: 'it returns false'. Refute it at one input. -/
def fnExactRunEventsWrong : ChangeSpec := { name := "fnExactRunEvents", fn := fun _ => fun
  | [d1, d2] => { results := [.lit (.bool false)], args := [d1, d2] }
  | _ => none }
def FnExactRunEventsWrongFalsely : Prop := fnExactRunEventsRow.holds Tryz.pinned (OpenSpec.ofChange fnExactRunEventsWrong)

/-- 'laws.FnTreks': WHATEVER THE INPUT: true; the input reads as it did. -/
def fnTreksSpec : ChangeSpec := { name := "fnTreks", fn := fun _ => fun
  | [d] => { results := [.lit (.bool true)], args := [d] }
  | _ => none }
def fnTreksRow : OpenClaim := { program := "ytgnomlceahpbkaagreat", sum := "6e04c28036f7790ab3065d4e5fa805a99d07a69c766ffe46c9ba9d63d14267ca", func := "loop.example/g03008/laws.FnTreks", spec := "fnTreks", apart := false }
def FnTreksSaid : Prop := fnTreksRow.holds Tryz.pinned (OpenSpec.ofChange fnTreksSpec)

/-- ITS FALSE NEIGHBOUR: 'it returns false'. Refute it at one input. -/
def fnTreksWrong : ChangeSpec := { name := "fnTreks", fn := fun _ => fun
  | [d] => { results := [.lit (.bool false)], args := [d] }
  | _ => none }
def FnTreksWrongFalsely : Prop := fnTreksRow.holds Tryz.pinned (OpenSpec.ofChange fnTreksWrong)

/-- 'laws.FnTurns': WHATEVER THE INPUT: true; the input reads as it did. -/
def fnTurnsSpec : ChangeSpec := { name := "fnTurns", fn := fun _ => fun
  | [d] => { results := [.lit (.bool true)], args := [d] }
  | _ => none }
def fnTurnsRow : OpenClaim := { program := "ytgnomlceahpbkaagreat", sum := "6e04c28036f7790ab3065d4e5fa805a99d07a69c766ffe46c9ba9d63d14267ca", func := "loop.example/g03008/laws.FnTurns", spec := "fnTurns", apart := false }
def FnTurnsSaid : Prop := fnTurnsRow.holds Tryz.pinned (OpenSpec.ofChange fnTurnsSpec)

/-- ITS FALSE NEIGHBOUR: 'it returns false'. Refute it at one input. -/
def fnTurnsWrong : ChangeSpec := { name := "fnTurns", fn := fun _ => fun
  | [d] => { results := [.lit (.bool false)], args := [d] }
  | _ => none }
def FnTurnsWrongFalsely : Prop := fnTurnsRow.holds Tryz.pinned (OpenSpec.ofChange fnTurnsWrong)

/- THE SECOND FORM. 'bulk': how many values and letters a reading holds, each counted each time it is reached (what is shared counts as often as it is met; a slice's spare places count too). A statement '..UptoSaid' is the law's where the arguments, and the package variables that the reading takes, are together of bulk at most 1048576: NARROWER than '..Said'. Prove '..Said' where nothing that the law and all that it calls make is longer than what came in: it says more and counts as full. Else prove '..UptoSaid'. A law counts once. -/
mutual
def uptoBulk {H : Type} : DataW H → Nat
  | .lit (.string bytes) => bytes.length + 1
  | .lit _ => 1
  | .nil => 1
  | .ptr d => uptoBulk d + 1
  | .slice elems spare => uptoBulkAll elems + uptoBulkAll spare + 1
  | .agg parts => uptoBulkAll parts + 1
  | .iface _ d => uptoBulk d + 1
  | .map entries => uptoBulkEntries entries + 1
  | .held _ => 1
def uptoBulkAll {H : Type} : List (DataW H) → Nat
  | [] => 0
  | d :: r => uptoBulk d + uptoBulkAll r
def uptoBulkEntries {H : Type} : List (Lit × DataW H) → Nat
  | [] => 0
  | x :: r => uptoBulkEntry x + uptoBulkEntries r
def uptoBulkEntry {H : Type} : Lit × DataW H → Nat
  | (.string bytes, d) => bytes.length + uptoBulk d + 1
  | (_, d) => uptoBulk d + 1
 end
def uptoSmall : (H : Type) → List (DataW H) → Bool := fun _ ds => decide (uptoBulkAll ds ≤ 1048576)
def OpenSpec.upto (s : _root_.Go.ChangeSpec) : _root_.Go.OpenSpec := { _root_.Go.OpenSpec.ofChange s with cond := some uptoSmall }

/-- 'laws.FnExactStepGive', WHERE WHAT IT READS IS OF BULK AT MOST 1048576: true; the input reads as it did. -/
def fnExactStepGiveUptoRow : OpenClaim := { program := "ytgnomlceahpbkaagreat", sum := "6e04c28036f7790ab3065d4e5fa805a99d07a69c766ffe46c9ba9d63d14267ca", func := "loop.example/g03008/laws.FnExactStepGive", spec := "fnExactStepGive", apart := false, narrowed := true }
def FnExactStepGiveUptoSaid : Prop := fnExactStepGiveUptoRow.holds Tryz.pinned (OpenSpec.upto fnExactStepGiveSpec)

/-- 'laws.FnExactStepTake', WHERE WHAT IT READS IS OF BULK AT MOST 1048576: true; the input reads as it did. -/
def fnExactStepTakeUptoRow : OpenClaim := { program := "ytgnomlceahpbkaagreat", sum := "6e04c28036f7790ab3065d4e5fa805a99d07a69c766ffe46c9ba9d63d14267ca", func := "loop.example/g03008/laws.FnExactStepTake", spec := "fnExactStepTake", apart := false, narrowed := true }
def FnExactStepTakeUptoSaid : Prop := fnExactStepTakeUptoRow.holds Tryz.pinned (OpenSpec.upto fnExactStepTakeSpec)

/-- 'laws.FnExactStepLay', WHERE WHAT IT READS IS OF BULK AT MOST 1048576: true; the input reads as it did. -/
def fnExactStepLayUptoRow : OpenClaim := { program := "ytgnomlceahpbkaagreat", sum := "6e04c28036f7790ab3065d4e5fa805a99d07a69c766ffe46c9ba9d63d14267ca", func := "loop.example/g03008/laws.FnExactStepLay", spec := "fnExactStepLay", apart := false, narrowed := true }
def FnExactStepLayUptoSaid : Prop := fnExactStepLayUptoRow.holds Tryz.pinned (OpenSpec.upto fnExactStepLaySpec)

/-- 'laws.FnExactStepWait', WHERE WHAT IT READS IS OF BULK AT MOST 1048576: true; the input reads as it did. -/
def fnExactStepWaitUptoRow : OpenClaim := { program := "ytgnomlceahpbkaagreat", sum := "6e04c28036f7790ab3065d4e5fa805a99d07a69c766ffe46c9ba9d63d14267ca", func := "loop.example/g03008/laws.FnExactStepWait", spec := "fnExactStepWait", apart := false, narrowed := true }
def FnExactStepWaitUptoSaid : Prop := fnExactStepWaitUptoRow.holds Tryz.pinned (OpenSpec.upto fnExactStepWaitSpec)

/-- 'laws.FnExactStepGo', WHERE WHAT IT READS IS OF BULK AT MOST 1048576: true; the input reads as it did. -/
def fnExactStepGoUptoRow : OpenClaim := { program := "ytgnomlceahpbkaagreat", sum := "6e04c28036f7790ab3065d4e5fa805a99d07a69c766ffe46c9ba9d63d14267ca", func := "loop.example/g03008/laws.FnExactStepGo", spec := "fnExactStepGo", apart := false, narrowed := true }
def FnExactStepGoUptoSaid : Prop := fnExactStepGoUptoRow.holds Tryz.pinned (OpenSpec.upto fnExactStepGoSpec)

/-- 'laws.FnExactStepHome', WHERE WHAT IT READS IS OF BULK AT MOST 1048576: true; the input reads as it did. -/
def fnExactStepHomeUptoRow : OpenClaim := { program := "ytgnomlceahpbkaagreat", sum := "6e04c28036f7790ab3065d4e5fa805a99d07a69c766ffe46c9ba9d63d14267ca", func := "loop.example/g03008/laws.FnExactStepHome", spec := "fnExactStepHome", apart := false, narrowed := true }
def FnExactStepHomeUptoSaid : Prop := fnExactStepHomeUptoRow.holds Tryz.pinned (OpenSpec.upto fnExactStepHomeSpec)

/-- 'laws.FnExactComesHome', WHERE WHAT IT READS IS OF BULK AT MOST 1048576: true; the input reads as it did. -/
def fnExactComesHomeUptoRow : OpenClaim := { program := "ytgnomlceahpbkaagreat", sum := "6e04c28036f7790ab3065d4e5fa805a99d07a69c766ffe46c9ba9d63d14267ca", func := "loop.example/g03008/laws.FnExactComesHome", spec := "fnExactComesHome", apart := false, narrowed := true }
def FnExactComesHomeUptoSaid : Prop := fnExactComesHomeUptoRow.holds Tryz.pinned (OpenSpec.upto fnExactComesHomeSpec)

/-- 'laws.FnExactFaultOf', WHERE WHAT IT READS IS OF BULK AT MOST 1048576: true; the input reads as it did. -/
def fnExactFaultOfUptoRow : OpenClaim := { program := "ytgnomlceahpbkaagreat", sum := "6e04c28036f7790ab3065d4e5fa805a99d07a69c766ffe46c9ba9d63d14267ca", func := "loop.example/g03008/laws.FnExactFaultOf", spec := "fnExactFaultOf", apart := false, narrowed := true }
def FnExactFaultOfUptoSaid : Prop := fnExactFaultOfUptoRow.holds Tryz.pinned (OpenSpec.upto fnExactFaultOfSpec)

/-- 'laws.FnExactApplyEvent', WHERE WHAT IT READS IS OF BULK AT MOST 1048576: true; the input reads as it did. -/
def fnExactApplyEventUptoRow : OpenClaim := { program := "ytgnomlceahpbkaagreat", sum := "6e04c28036f7790ab3065d4e5fa805a99d07a69c766ffe46c9ba9d63d14267ca", func := "loop.example/g03008/laws.FnExactApplyEvent", spec := "fnExactApplyEvent", apart := false, narrowed := true }
def FnExactApplyEventUptoSaid : Prop := fnExactApplyEventUptoRow.holds Tryz.pinned (OpenSpec.upto fnExactApplyEventSpec)

/-- 'laws.FnExactRunEvents', WHERE WHAT IT READS IS OF BULK AT MOST 1048576: true; the input reads as it did. -/
def fnExactRunEventsUptoRow : OpenClaim := { program := "ytgnomlceahpbkaagreat", sum := "6e04c28036f7790ab3065d4e5fa805a99d07a69c766ffe46c9ba9d63d14267ca", func := "loop.example/g03008/laws.FnExactRunEvents", spec := "fnExactRunEvents", apart := false, narrowed := true }
def FnExactRunEventsUptoSaid : Prop := fnExactRunEventsUptoRow.holds Tryz.pinned (OpenSpec.upto fnExactRunEventsSpec)

/-- 'laws.FnTreks', WHERE WHAT IT READS IS OF BULK AT MOST 1048576: true; the input reads as it did. -/
def fnTreksUptoRow : OpenClaim := { program := "ytgnomlceahpbkaagreat", sum := "6e04c28036f7790ab3065d4e5fa805a99d07a69c766ffe46c9ba9d63d14267ca", func := "loop.example/g03008/laws.FnTreks", spec := "fnTreks", apart := false, narrowed := true }
def FnTreksUptoSaid : Prop := fnTreksUptoRow.holds Tryz.pinned (OpenSpec.upto fnTreksSpec)

/-- 'laws.FnTurns', WHERE WHAT IT READS IS OF BULK AT MOST 1048576: true; the input reads as it did. -/
def fnTurnsUptoRow : OpenClaim := { program := "ytgnomlceahpbkaagreat", sum := "6e04c28036f7790ab3065d4e5fa805a99d07a69c766ffe46c9ba9d63d14267ca", func := "loop.example/g03008/laws.FnTurns", spec := "fnTurns", apart := false, narrowed := true }
def FnTurnsUptoSaid : Prop := fnTurnsUptoRow.holds Tryz.pinned (OpenSpec.upto fnTurnsSpec)

end Rows
end Go.Proofs.YtgnomlceahpbkaaGreat
