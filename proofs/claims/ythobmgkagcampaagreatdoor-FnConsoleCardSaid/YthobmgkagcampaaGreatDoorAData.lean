/- The structs of the program that is given, as Lean structures, and how a law's arguments are read as such. -/
import Derived.Test.YthobmgkagcampaaGreatDoorATypes
namespace Go.Abs
open Go.RowKit Go.Proofs
set_option linter.all false
set_option maxRecDepth 100000
def I64 (n : Int) : Prop := -9223372036854775808 <= n /\ n <= 9223372036854775807
theorem I64.of {n : Int} (h : (Lit.int .i64 n).wf = true) : I64 n := by
 unfold I64
 simp [Lit.wf, IntKind.min, IntKind.max, IntKind.bits, IntKind.signed] at h
 omega
def intRow (n : Int) : List Value := [.int .i64 n]
def boolRow (b : Bool) : List Value := [.bool b]
def strRow (s : ByteArray) : List Value := [.string s]
attribute [go_sem] intRow boolRow strRow
structure DPage where
 day : Int
 cell : Int
 food : Int
 mark : Int
 deriving DecidableEq
def DPage.row (p : DPage) : List Value := [.int .i64 p.day, .int .i64 p.cell, .int .i64 p.food, .int .i64 p.mark]
def DPage.ats (p : DPage) : List A := [.v (.int .i64 p.day), .v (.int .i64 p.cell), .v (.int .i64 p.food), .v (.int .i64 p.mark)]
attribute [go_sem] DPage.ats DPage.row
def DPage.wf (p : DPage) : Prop := I64 p.day /\ I64 p.cell /\ I64 p.food /\ I64 p.mark
structure DEvent where
 kind : Int
 n : Int
 storm : Bool
 deriving DecidableEq
def DEvent.row (p : DEvent) : List Value := [.int .i64 p.kind, .int .i64 p.n, .bool p.storm]
def DEvent.ats (p : DEvent) : List A := [.v (.int .i64 p.kind), .v (.int .i64 p.n), .v (.bool p.storm)]
attribute [go_sem] DEvent.ats DEvent.row
def DEvent.wf (p : DEvent) : Prop := I64 p.kind /\ I64 p.n
structure DRule where
 most : Int
 window : Int
 deriving DecidableEq
def DRule.row (p : DRule) : List Value := [.int .i64 p.most, .int .i64 p.window]
def DRule.ats (p : DRule) : List A := [.v (.int .i64 p.most), .v (.int .i64 p.window)]
attribute [go_sem] DRule.ats DRule.row
def DRule.wf (p : DRule) : Prop := I64 p.most /\ I64 p.window
structure DMember where
 id : Int
 strength : Int
 need : Int
 ill : Bool
 deriving DecidableEq
def DMember.row (p : DMember) : List Value := [.int .i64 p.id, .int .i64 p.strength, .int .i64 p.need, .bool p.ill]
def DMember.ats (p : DMember) : List A := [.v (.int .i64 p.id), .v (.int .i64 p.strength), .v (.int .i64 p.need), .v (.bool p.ill)]
attribute [go_sem] DMember.ats DMember.row
def DMember.wf (p : DMember) : Prop := I64 p.id /\ I64 p.strength /\ I64 p.need
structure DDepot where
 cell : Int
 food : Int
 deriving DecidableEq
def DDepot.row (p : DDepot) : List Value := [.int .i64 p.cell, .int .i64 p.food]
def DDepot.ats (p : DDepot) : List A := [.v (.int .i64 p.cell), .v (.int .i64 p.food)]
attribute [go_sem] DDepot.ats DDepot.row
def DDepot.wf (p : DDepot) : Prop := I64 p.cell /\ I64 p.food
structure DLand where
 w : Int
 h : Int
 cells : List Int
 deriving DecidableEq
def DLand.ats (p : DLand) : List A := [.v (.int .i64 p.w), .v (.int .i64 p.h), .im 1 (p.cells.map intRow)]
def DLand.frs (p : DLand) : List A := [.v (.int .i64 p.w), .v (.int .i64 p.h), .fr 1 (p.cells.map intRow)]
attribute [go_sem] DLand.frs
attribute [go_sem] DLand.ats
def DLand.wf (p : DLand) : Prop := I64 p.w /\ I64 p.h /\ (∀ y ∈ p.cells, I64 y) /\ p.cells.length <= maxLen
structure DParty where
 at_ : Int
 food : Int
 crew : List DMember
 past : List Bool
 deriving DecidableEq
def DParty.ats (p : DParty) : List A := [.v (.int .i64 p.at_), .v (.int .i64 p.food), .im 4 (p.crew.map DMember.row), .im 1 (p.past.map boolRow)]
def DParty.frs (p : DParty) : List A := [.v (.int .i64 p.at_), .v (.int .i64 p.food), .fr 4 (p.crew.map DMember.row), .fr 1 (p.past.map boolRow)]
attribute [go_sem] DParty.frs
attribute [go_sem] DParty.ats
def DParty.wf (p : DParty) : Prop := I64 p.at_ /\ I64 p.food /\ (∀ y ∈ p.crew, y.wf) /\ p.crew.length <= maxLen /\ p.past.length <= maxLen
structure DTrek where
 land : DLand
 base : Int
 rule : DRule
 depots : List DDepot
 party : DParty
 journal : List DPage
 day : Int
 given : Int
 eaten : Int
 deriving DecidableEq
def DTrek.ats (p : DTrek) : List A := [.v (.int .i64 p.land.w), .v (.int .i64 p.land.h), .im 1 (p.land.cells.map intRow), .v (.int .i64 p.base), .v (.int .i64 p.rule.most), .v (.int .i64 p.rule.window), .im 2 (p.depots.map DDepot.row), .v (.int .i64 p.party.at_), .v (.int .i64 p.party.food), .im 4 (p.party.crew.map DMember.row), .im 1 (p.party.past.map boolRow), .im 4 (p.journal.map DPage.row), .v (.int .i64 p.day), .v (.int .i64 p.given), .v (.int .i64 p.eaten)]
def DTrek.frs (p : DTrek) : List A := [.v (.int .i64 p.land.w), .v (.int .i64 p.land.h), .fr 1 (p.land.cells.map intRow), .v (.int .i64 p.base), .v (.int .i64 p.rule.most), .v (.int .i64 p.rule.window), .fr 2 (p.depots.map DDepot.row), .v (.int .i64 p.party.at_), .v (.int .i64 p.party.food), .fr 4 (p.party.crew.map DMember.row), .fr 1 (p.party.past.map boolRow), .fr 4 (p.journal.map DPage.row), .v (.int .i64 p.day), .v (.int .i64 p.given), .v (.int .i64 p.eaten)]
attribute [go_sem] DTrek.frs
attribute [go_sem] DTrek.ats
def DTrek.wf (p : DTrek) : Prop := p.land.wf /\ I64 p.base /\ p.rule.wf /\ (∀ y ∈ p.depots, y.wf) /\ p.depots.length <= maxLen /\ p.party.wf /\ (∀ y ∈ p.journal, y.wf) /\ p.journal.length <= maxLen /\ I64 p.day /\ I64 p.given /\ I64 p.eaten
section
variable {H : Type} {enc : TypeId × Value -> H} {w : World} {fuel : Nat} {cs : List Value} {x : DataW H × List MemPlace}
end
end Go.Abs
