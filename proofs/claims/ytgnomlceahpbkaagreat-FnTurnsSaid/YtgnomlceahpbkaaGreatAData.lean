/- The structs of the program that is given, as Lean structures, and how a law's arguments are read as such. -/
import Derived.Test.YtgnomlceahpbkaaGreatATypes
namespace Go.Abs
open Go.RowKit Go.Proofs
set_option linter.unusedVariables false
set_option linter.unusedSimpArgs false
set_option maxRecDepth 100000

def I64 (n : Int) : Prop := -9223372036854775808 ≤ n ∧ n ≤ 9223372036854775807
theorem I64.of {n : Int} (h : (Lit.int .i64 n).wf = true) : I64 n := by
  unfold I64
  simp [Lit.wf, IntKind.min, IntKind.max, IntKind.bits, IntKind.signed] at h
  omega
def intRow (n : Int) : List Value := [.int .i64 n]
def boolRow (b : Bool) : List Value := [.bool b]
def strRow (s : ByteArray) : List Value := [.string s]
attribute [go_sem] intRow boolRow strRow
structure DPage where
  day : Int
  cell : Int
  food : Int
  mark : Int
  deriving DecidableEq
def DPage.row (p : DPage) : List Value := [.int .i64 p.day, .int .i64 p.cell, .int .i64 p.food, .int .i64 p.mark]
def DPage.ats (p : DPage) : List A := [.v (.int .i64 p.day), .v (.int .i64 p.cell), .v (.int .i64 p.food), .v (.int .i64 p.mark)]
theorem DPage.ats_row (p : DPage) : p.row.map A.v = p.ats := rfl
attribute [go_sem] DPage.ats DPage.row
def DPage.wf (p : DPage) : Prop := I64 p.day ∧ I64 p.cell ∧ I64 p.food ∧ I64 p.mark
structure DEvent where
  kind : Int
  n : Int
  storm : Bool
  deriving DecidableEq
def DEvent.row (p : DEvent) : List Value := [.int .i64 p.kind, .int .i64 p.n, .bool p.storm]
def DEvent.ats (p : DEvent) : List A := [.v (.int .i64 p.kind), .v (.int .i64 p.n), .v (.bool p.storm)]
theorem DEvent.ats_row (p : DEvent) : p.row.map A.v = p.ats := rfl
attribute [go_sem] DEvent.ats DEvent.row
def DEvent.wf (p : DEvent) : Prop := I64 p.kind ∧ I64 p.n
structure DRule where
  most : Int
  window : Int
  deriving DecidableEq
def DRule.row (p : DRule) : List Value := [.int .i64 p.most, .int .i64 p.window]
def DRule.ats (p : DRule) : List A := [.v (.int .i64 p.most), .v (.int .i64 p.window)]
theorem DRule.ats_row (p : DRule) : p.row.map A.v = p.ats := rfl
attribute [go_sem] DRule.ats DRule.row
def DRule.wf (p : DRule) : Prop := I64 p.most ∧ I64 p.window
structure DMember where
  id : Int
  strength : Int
  need : Int
  ill : Bool
  deriving DecidableEq
def DMember.row (p : DMember) : List Value := [.int .i64 p.id, .int .i64 p.strength, .int .i64 p.need, .bool p.ill]
def DMember.ats (p : DMember) : List A := [.v (.int .i64 p.id), .v (.int .i64 p.strength), .v (.int .i64 p.need), .v (.bool p.ill)]
theorem DMember.ats_row (p : DMember) : p.row.map A.v = p.ats := rfl
attribute [go_sem] DMember.ats DMember.row
def DMember.wf (p : DMember) : Prop := I64 p.id ∧ I64 p.strength ∧ I64 p.need
structure DDepot where
  cell : Int
  food : Int
  deriving DecidableEq
def DDepot.row (p : DDepot) : List Value := [.int .i64 p.cell, .int .i64 p.food]
def DDepot.ats (p : DDepot) : List A := [.v (.int .i64 p.cell), .v (.int .i64 p.food)]
theorem DDepot.ats_row (p : DDepot) : p.row.map A.v = p.ats := rfl
attribute [go_sem] DDepot.ats DDepot.row
def DDepot.wf (p : DDepot) : Prop := I64 p.cell ∧ I64 p.food
structure DLand where
  w : Int
  h : Int
  cells : List Int
  deriving DecidableEq
def DLand.ats (p : DLand) : List A := [.v (.int .i64 p.w), .v (.int .i64 p.h), .im 1 (p.cells.map intRow)]
def DLand.frs (p : DLand) : List A := [.v (.int .i64 p.w), .v (.int .i64 p.h), .fr 1 (p.cells.map intRow)]
attribute [go_sem] DLand.frs
attribute [go_sem] DLand.ats
def DLand.wf (p : DLand) : Prop := I64 p.w ∧ I64 p.h ∧ (∀ y ∈ p.cells, I64 y) ∧ p.cells.length ≤ maxLen
structure DParty where
  at_ : Int
  food : Int
  crew : List DMember
  past : List Bool
  deriving DecidableEq
def DParty.ats (p : DParty) : List A := [.v (.int .i64 p.at_), .v (.int .i64 p.food), .im 4 (p.crew.map DMember.row), .im 1 (p.past.map boolRow)]
def DParty.frs (p : DParty) : List A := [.v (.int .i64 p.at_), .v (.int .i64 p.food), .fr 4 (p.crew.map DMember.row), .fr 1 (p.past.map boolRow)]
attribute [go_sem] DParty.frs
attribute [go_sem] DParty.ats
def DParty.wf (p : DParty) : Prop := I64 p.at_ ∧ I64 p.food ∧ (∀ y ∈ p.crew, y.wf) ∧ p.crew.length ≤ maxLen ∧ p.past.length ≤ maxLen
structure DTrek where
  land : DLand
  base : Int
  rule : DRule
  depots : List DDepot
  party : DParty
  journal : List DPage
  day : Int
  given : Int
  eaten : Int
  deriving DecidableEq
def DTrek.ats (p : DTrek) : List A := [.v (.int .i64 p.land.w), .v (.int .i64 p.land.h), .im 1 (p.land.cells.map intRow), .v (.int .i64 p.base), .v (.int .i64 p.rule.most), .v (.int .i64 p.rule.window), .im 2 (p.depots.map DDepot.row), .v (.int .i64 p.party.at_), .v (.int .i64 p.party.food), .im 4 (p.party.crew.map DMember.row), .im 1 (p.party.past.map boolRow), .im 4 (p.journal.map DPage.row), .v (.int .i64 p.day), .v (.int .i64 p.given), .v (.int .i64 p.eaten)]
def DTrek.frs (p : DTrek) : List A := [.v (.int .i64 p.land.w), .v (.int .i64 p.land.h), .fr 1 (p.land.cells.map intRow), .v (.int .i64 p.base), .v (.int .i64 p.rule.most), .v (.int .i64 p.rule.window), .fr 2 (p.depots.map DDepot.row), .v (.int .i64 p.party.at_), .v (.int .i64 p.party.food), .fr 4 (p.party.crew.map DMember.row), .fr 1 (p.party.past.map boolRow), .fr 4 (p.journal.map DPage.row), .v (.int .i64 p.day), .v (.int .i64 p.given), .v (.int .i64 p.eaten)]
attribute [go_sem] DTrek.frs
attribute [go_sem] DTrek.ats
def DTrek.wf (p : DTrek) : Prop := p.land.wf ∧ I64 p.base ∧ p.rule.wf ∧ (∀ y ∈ p.depots, y.wf) ∧ p.depots.length ≤ maxLen ∧ p.party.wf ∧ (∀ y ∈ p.journal, y.wf) ∧ p.journal.length ≤ maxLen ∧ I64 p.day ∧ I64 p.given ∧ I64 p.eaten

theorem four {β : Type} {l : List β} {n : Nat} (h : l.length = n + 1) : ∃ a l', l = a :: l' ∧ l'.length = n := by
  cases l with
  | nil => simp at h
  | cons a l => exact ⟨a, l, rfl, by simpa using h⟩

section
variable {H : Type} {enc : TypeId × Value → H} {w : World} {fuel : Nat} {cs : List Value} {x : DataW H × List MemPlace}
theorem und_int : Tryz.prog.underlying 3 = some (.int .i64) := Tryz.underlying3
theorem cl_int : Tryz.prog.cellsOf 3 = 1 := by kernel_rfl
theorem cl_bool : Tryz.prog.cellsOf 4 = 1 := by kernel_rfl
theorem und_string : Tryz.prog.underlying 9 = some .string := Tryz.underlying9
theorem cl_string : Tryz.prog.cellsOf 9 = 1 := by kernel_rfl
theorem cl_lawsPage : Tryz.prog.cellsOf 170 = 4 := by kernel_rfl
theorem opn_lawsPage (h : DataW.trod enc Tryz.prog w 0 (fun _ => true) true fuel 170 cs = some x) : ∃ p : DPage, cs = p.row ∧ p.wf := by
  obtain ⟨hl, f, h⟩ := opn_struct Tryz.underlying170 h
  rw [cl_lawsPage] at hl
  have k0 := hl
  clear hl
  obtain ⟨a0, c0, rfl, k1⟩ := four k0
  obtain ⟨a1, c1, rfl, k2⟩ := four k1
  obtain ⟨a2, c2, rfl, k3⟩ := four k2
  obtain ⟨a3, c3, rfl, k4⟩ := four k3
  obtain rfl := List.eq_nil_of_length_eq_zero k4
  obtain ⟨y0, h0⟩ := h ⟨ "Day", 3, 0, false, "", "", 0⟩ (by simp)
  simp only [cl_int, List.drop_succ_cons, List.drop_zero, List.take_succ_cons, List.take_zero] at h0
  obtain ⟨n0, e0, w0⟩ := opn_int und_int h0
  obtain rfl := List.head_eq_of_cons_eq e0
  obtain ⟨y1, h1⟩ := h ⟨ "Cell", 3, 1, false, "", "", 8⟩ (by simp)
  simp only [cl_int, List.drop_succ_cons, List.drop_zero, List.take_succ_cons, List.take_zero] at h1
  obtain ⟨n1, e1, w1⟩ := opn_int und_int h1
  obtain rfl := List.head_eq_of_cons_eq e1
  obtain ⟨y2, h2⟩ := h ⟨ "Food", 3, 2, false, "", "", 16⟩ (by simp)
  simp only [cl_int, List.drop_succ_cons, List.drop_zero, List.take_succ_cons, List.take_zero] at h2
  obtain ⟨n2, e2, w2⟩ := opn_int und_int h2
  obtain rfl := List.head_eq_of_cons_eq e2
  obtain ⟨y3, h3⟩ := h ⟨ "Seal", 3, 3, false, "", "", 24⟩ (by simp)
  simp only [cl_int, List.drop_succ_cons, List.drop_zero, List.take_succ_cons, List.take_zero] at h3
  obtain ⟨n3, e3, w3⟩ := opn_int und_int h3
  obtain rfl := List.head_eq_of_cons_eq e3
  exact ⟨⟨n0, n1, n2, n3⟩, rfl, ⟨I64.of w0, I64.of w1, I64.of w2, I64.of w3⟩⟩
theorem cl_lawsEvent : Tryz.prog.cellsOf 59 = 3 := by kernel_rfl
theorem opn_lawsEvent (h : DataW.trod enc Tryz.prog w 0 (fun _ => true) true fuel 59 cs = some x) : ∃ p : DEvent, cs = p.row ∧ p.wf := by
  obtain ⟨hl, f, h⟩ := opn_struct Tryz.underlying59 h
  rw [cl_lawsEvent] at hl
  have k0 := hl
  clear hl
  obtain ⟨a0, c0, rfl, k1⟩ := four k0
  obtain ⟨a1, c1, rfl, k2⟩ := four k1
  obtain ⟨a2, c2, rfl, k3⟩ := four k2
  obtain rfl := List.eq_nil_of_length_eq_zero k3
  obtain ⟨y0, h0⟩ := h ⟨ "Kind", 3, 0, false, "", "", 0⟩ (by simp)
  simp only [cl_int, List.drop_succ_cons, List.drop_zero, List.take_succ_cons, List.take_zero] at h0
  obtain ⟨n0, e0, w0⟩ := opn_int und_int h0
  obtain rfl := List.head_eq_of_cons_eq e0
  obtain ⟨y1, h1⟩ := h ⟨ "N", 3, 1, false, "", "", 8⟩ (by simp)
  simp only [cl_int, List.drop_succ_cons, List.drop_zero, List.take_succ_cons, List.take_zero] at h1
  obtain ⟨n1, e1, w1⟩ := opn_int und_int h1
  obtain rfl := List.head_eq_of_cons_eq e1
  obtain ⟨y2, h2⟩ := h ⟨ "Storm", 4, 2, false, "", "", 16⟩ (by simp)
  simp only [cl_bool, List.drop_succ_cons, List.drop_zero, List.take_succ_cons, List.take_zero] at h2
  obtain ⟨n2, e2⟩ := opn_bool und_bool h2
  obtain rfl := List.head_eq_of_cons_eq e2
  exact ⟨⟨n0, n1, n2⟩, rfl, ⟨I64.of w0, I64.of w1⟩⟩
theorem cl_lawsRule : Tryz.prog.cellsOf 26 = 2 := by kernel_rfl
theorem opn_lawsRule (h : DataW.trod enc Tryz.prog w 0 (fun _ => true) true fuel 26 cs = some x) : ∃ p : DRule, cs = p.row ∧ p.wf := by
  obtain ⟨hl, f, h⟩ := opn_struct Tryz.underlying26 h
  rw [cl_lawsRule] at hl
  have k0 := hl
  clear hl
  obtain ⟨a0, c0, rfl, k1⟩ := four k0
  obtain ⟨a1, c1, rfl, k2⟩ := four k1
  obtain rfl := List.eq_nil_of_length_eq_zero k2
  obtain ⟨y0, h0⟩ := h ⟨ "Most", 3, 0, false, "", "", 0⟩ (by simp)
  simp only [cl_int, List.drop_succ_cons, List.drop_zero, List.take_succ_cons, List.take_zero] at h0
  obtain ⟨n0, e0, w0⟩ := opn_int und_int h0
  obtain rfl := List.head_eq_of_cons_eq e0
  obtain ⟨y1, h1⟩ := h ⟨ "Window", 3, 1, false, "", "", 8⟩ (by simp)
  simp only [cl_int, List.drop_succ_cons, List.drop_zero, List.take_succ_cons, List.take_zero] at h1
  obtain ⟨n1, e1, w1⟩ := opn_int und_int h1
  obtain rfl := List.head_eq_of_cons_eq e1
  exact ⟨⟨n0, n1⟩, rfl, ⟨I64.of w0, I64.of w1⟩⟩
theorem cl_lawsMember : Tryz.prog.cellsOf 204 = 4 := by kernel_rfl
theorem opn_lawsMember (h : DataW.trod enc Tryz.prog w 0 (fun _ => true) true fuel 204 cs = some x) : ∃ p : DMember, cs = p.row ∧ p.wf := by
  obtain ⟨hl, f, h⟩ := opn_struct Tryz.underlying204 h
  rw [cl_lawsMember] at hl
  have k0 := hl
  clear hl
  obtain ⟨a0, c0, rfl, k1⟩ := four k0
  obtain ⟨a1, c1, rfl, k2⟩ := four k1
  obtain ⟨a2, c2, rfl, k3⟩ := four k2
  obtain ⟨a3, c3, rfl, k4⟩ := four k3
  obtain rfl := List.eq_nil_of_length_eq_zero k4
  obtain ⟨y0, h0⟩ := h ⟨ "Id", 3, 0, false, "", "", 0⟩ (by simp)
  simp only [cl_int, List.drop_succ_cons, List.drop_zero, List.take_succ_cons, List.take_zero] at h0
  obtain ⟨n0, e0, w0⟩ := opn_int und_int h0
  obtain rfl := List.head_eq_of_cons_eq e0
  obtain ⟨y1, h1⟩ := h ⟨ "Strength", 3, 1, false, "", "", 8⟩ (by simp)
  simp only [cl_int, List.drop_succ_cons, List.drop_zero, List.take_succ_cons, List.take_zero] at h1
  obtain ⟨n1, e1, w1⟩ := opn_int und_int h1
  obtain rfl := List.head_eq_of_cons_eq e1
  obtain ⟨y2, h2⟩ := h ⟨ "Need", 3, 2, false, "", "", 16⟩ (by simp)
  simp only [cl_int, List.drop_succ_cons, List.drop_zero, List.take_succ_cons, List.take_zero] at h2
  obtain ⟨n2, e2, w2⟩ := opn_int und_int h2
  obtain rfl := List.head_eq_of_cons_eq e2
  obtain ⟨y3, h3⟩ := h ⟨ "Ill", 4, 3, false, "", "", 24⟩ (by simp)
  simp only [cl_bool, List.drop_succ_cons, List.drop_zero, List.take_succ_cons, List.take_zero] at h3
  obtain ⟨n3, e3⟩ := opn_bool und_bool h3
  obtain rfl := List.head_eq_of_cons_eq e3
  exact ⟨⟨n0, n1, n2, n3⟩, rfl, ⟨I64.of w0, I64.of w1, I64.of w2⟩⟩
theorem cl_lawsDepot : Tryz.prog.cellsOf 166 = 2 := by kernel_rfl
theorem opn_lawsDepot (h : DataW.trod enc Tryz.prog w 0 (fun _ => true) true fuel 166 cs = some x) : ∃ p : DDepot, cs = p.row ∧ p.wf := by
  obtain ⟨hl, f, h⟩ := opn_struct Tryz.underlying166 h
  rw [cl_lawsDepot] at hl
  have k0 := hl
  clear hl
  obtain ⟨a0, c0, rfl, k1⟩ := four k0
  obtain ⟨a1, c1, rfl, k2⟩ := four k1
  obtain rfl := List.eq_nil_of_length_eq_zero k2
  obtain ⟨y0, h0⟩ := h ⟨ "Cell", 3, 0, false, "", "", 0⟩ (by simp)
  simp only [cl_int, List.drop_succ_cons, List.drop_zero, List.take_succ_cons, List.take_zero] at h0
  obtain ⟨n0, e0, w0⟩ := opn_int und_int h0
  obtain rfl := List.head_eq_of_cons_eq e0
  obtain ⟨y1, h1⟩ := h ⟨ "Food", 3, 1, false, "", "", 8⟩ (by simp)
  simp only [cl_int, List.drop_succ_cons, List.drop_zero, List.take_succ_cons, List.take_zero] at h1
  obtain ⟨n1, e1, w1⟩ := opn_int und_int h1
  obtain rfl := List.head_eq_of_cons_eq e1
  exact ⟨⟨n0, n1⟩, rfl, ⟨I64.of w0, I64.of w1⟩⟩
end
end Go.Abs
