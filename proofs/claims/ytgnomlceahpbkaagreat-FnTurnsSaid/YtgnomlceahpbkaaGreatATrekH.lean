/- Expeditions are marked, and their marks are read. -/
import Derived.Test.YtgnomlceahpbkaaGreatATrek
namespace Go.Abs
open Go.RowKit Go.Proofs
set_option linter.unusedVariables false
set_option linter.unusedSimpArgs false
set_option maxRecDepth 100000
set_option maxHeartbeats 4000000

theorem laws_markTrek (x : DTrek) (k : Int) (h1 : 0 ≤ k) (h2 : k ≤ 281474976710656) (hc : x.land.cells.length ≤ 1099511627776) (hd : x.depots.length ≤ 1099511627776) (hm : x.party.crew.length ≤ 1099511627776) (hp : x.party.past.length ≤ 1099511627776) (hj : x.journal.length ≤ 1099511627776) :
    SC Tryz.prog 20 [.ag [.v (.int .i64 x.land.w), .v (.int .i64 x.land.h), .ow 0 0 1 x.land.cells.length, .v (.int .i64 x.base), .v (.int .i64 x.rule.most), .v (.int .i64 x.rule.window), .ow 1 0 2 x.depots.length, .v (.int .i64 x.party.at_), .v (.int .i64 x.party.food), .ow 2 0 4 x.party.crew.length, .ow 3 0 1 x.party.past.length, .ow 4 0 4 x.journal.length, .v (.int .i64 x.day), .v (.int .i64 x.given), .v (.int .i64 x.eaten)], .at (.v (.int .i64 k))]
      [.arr 0 1 (x.land.cells.map intRow), .arr 0 2 (x.depots.map DDepot.row), .arr 0 4 (x.party.crew.map DMember.row), .arr 0 1 (x.party.past.map boolRow), .arr 0 4 (x.journal.map DPage.row)]
      (.at (.v (.int .i64 (k + 1 * x.land.cells.length + 2 * x.depots.length + 4 * x.party.crew.length + 1 * x.party.past.length + 4 * x.journal.length))))
      [.arr 0 1 (marks markInt 1 k x.land.cells.length), .arr 0 2 (marks markDepot 2 (k + 1 * x.land.cells.length) x.depots.length), .arr 0 4 (marks markMember 4 (k + 1 * x.land.cells.length + 2 * x.depots.length) x.party.crew.length), .arr 0 1 (marks markBool 1 (k + 1 * x.land.cells.length + 2 * x.depots.length + 4 * x.party.crew.length) x.party.past.length), .arr 0 4 (marks markPage 4 (k + 1 * x.land.cells.length + 2 * x.depots.length + 4 * x.party.crew.length + 1 * x.party.past.length) x.journal.length)] := by
  refine SC.of_M mixed Tryz.func20 (by kernel_rfl) rfl Tryz.results20 _ Tryz.ntmps20 (by simp) (by simp) ?_
  simp -implicitDefEqProofs only [go_sem, invOf]
  refine callXM [0] (laws_markLand x.land k h1 (by omega) hc) (by decide) (by simp -implicitDefEqProofs only [go_sem]) ?_
  simp -implicitDefEqProofs only [go_sem]
  refine callXM [1] (laws_markDepotS x.depots (k + 1 * x.land.cells.length) (by omega) (by omega) hd) (by decide) (by simp -implicitDefEqProofs only [go_sem]) ?_
  simp -implicitDefEqProofs only [go_sem]
  refine callXM [2, 3] (laws_markParty x.party (k + 1 * x.land.cells.length + 2 * x.depots.length) (by omega) (by omega) hm hp) (by decide) (by simp -implicitDefEqProofs only [go_sem]) ?_
  simp -implicitDefEqProofs only [go_sem]
  refine callXM [4] (laws_markPageS x.journal (k + 1 * x.land.cells.length + 2 * x.depots.length + 4 * x.party.crew.length + 1 * x.party.past.length) (by omega) (by omega) hj) (by decide) (by simp -implicitDefEqProofs only [go_sem]) ?_
  simp -implicitDefEqProofs only [go_sem]
theorem laws_heldTrek (x : DTrek) (k : Int) (h1 : 0 ≤ k) (h2 : k ≤ 281474976710656) (hc : x.land.cells.length ≤ 1099511627776) (hd : x.depots.length ≤ 1099511627776) (hm : x.party.crew.length ≤ 1099511627776) (hp : x.party.past.length ≤ 1099511627776) (hj : x.journal.length ≤ 1099511627776) :
    SC Tryz.prog 21 [.ag [.v (.int .i64 x.land.w), .v (.int .i64 x.land.h), .im 1 (marks markInt 1 k x.land.cells.length), .v (.int .i64 x.base), .v (.int .i64 x.rule.most), .v (.int .i64 x.rule.window), .im 2 (marks markDepot 2 (k + 1 * x.land.cells.length) x.depots.length), .v (.int .i64 x.party.at_), .v (.int .i64 x.party.food), .im 4 (marks markMember 4 (k + 1 * x.land.cells.length + 2 * x.depots.length) x.party.crew.length), .im 1 (marks markBool 1 (k + 1 * x.land.cells.length + 2 * x.depots.length + 4 * x.party.crew.length) x.party.past.length), .im 4 (marks markPage 4 (k + 1 * x.land.cells.length + 2 * x.depots.length + 4 * x.party.crew.length + 1 * x.party.past.length) x.journal.length), .v (.int .i64 x.day), .v (.int .i64 x.given), .v (.int .i64 x.eaten)], .at (.v (.int .i64 k))] [] (.at (.v (.int .i64 (k + 1 * x.land.cells.length + 2 * x.depots.length + 4 * x.party.crew.length + 1 * x.party.past.length + 4 * x.journal.length)))) [] := by
  refine SC.of_V mixed Tryz.func21 (by kernel_rfl) rfl Tryz.results21 _ Tryz.ntmps21 (by simp) ?_
  simp -implicitDefEqProofs only [go_sem]
  refine callX [] (laws_heldLand x.land k h1 (by omega) hc) (by simp -implicitDefEqProofs only [go_sem]) ?_
  simp -implicitDefEqProofs only [go_sem]
  refine ⟨fun h => absurd h (by omega), fun _ => ?_⟩
  refine callX [] (laws_heldDepotS x.depots.length (k + 1 * x.land.cells.length) (by omega) (by omega) hd) (by simp -implicitDefEqProofs only [go_sem]) ?_
  simp -implicitDefEqProofs only [go_sem]
  refine ⟨fun h => absurd h (by omega), fun _ => ?_⟩
  refine callX [] (laws_heldParty x.party (k + 1 * x.land.cells.length + 2 * x.depots.length) (by omega) (by omega) hm hp) (by simp -implicitDefEqProofs only [go_sem]) ?_
  simp -implicitDefEqProofs only [go_sem]
  refine ⟨fun h => absurd h (by omega), fun _ => ?_⟩
  refine callX [] (laws_heldPageS x.journal.length (k + 1 * x.land.cells.length + 2 * x.depots.length + 4 * x.party.crew.length + 1 * x.party.past.length) (by omega) (by omega) hj) (by simp -implicitDefEqProofs only [go_sem]) ?_
  simp -implicitDefEqProofs only [go_sem]
  exact fun h => absurd h (by omega)
end Go.Abs
