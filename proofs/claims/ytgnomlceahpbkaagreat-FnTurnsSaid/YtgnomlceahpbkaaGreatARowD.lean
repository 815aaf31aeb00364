/- How the arguments of a law are read as data. -/
import Derived.Test.YtgnomlceahpbkaaGreatAData
namespace Go.Abs
open Go.RowKit Go.Proofs
set_option linter.unusedVariables false
set_option linter.unusedSimpArgs false
set_option maxRecDepth 100000
def RLo (w : World) (F : Nat → Prop) (ats : List A) (us : List Value) : Prop := RL (fun a u => RA w F (ofM 0 1000 [] []) (fun _ => none) a u ∧ u.oneCell' = true) ats us
theorem RLo.nil {w : World} {F : Nat → Prop} : RLo w F [] [] := ⟨rfl, by simp⟩
theorem RLo.cons {w : World} {F : Nat → Prop} {a : A} {ats : List A} {u : Value} {us : List Value} (h1 : RA w F (ofM 0 1000 [] []) (fun _ => none) a u) (h2 : u.oneCell' = true) (h3 : RLo w F ats us) : RLo w F (a :: ats) (u :: us) := RL_cons.2 ⟨⟨h1, h2⟩, h3⟩
theorem RLo.head {w : World} {F : Nat → Prop} {a : A} {ats : List A} {u : Value} {us : List Value} (h : RLo w F (a :: ats) (u :: us)) : RA w F (ofM 0 1000 [] []) (fun _ => none) a u := (RL_cons.1 h).1.1
theorem RLo.one {w : World} {F : Nat → Prop} {a : A} {ats : List A} {u : Value} {us : List Value} (h : RLo w F (a :: ats) (u :: us)) : u.oneCell' = true := (RL_cons.1 h).1.2
theorem RLo.tail {w : World} {F : Nat → Prop} {a : A} {ats : List A} {u : Value} {us : List Value} (h : RLo w F (a :: ats) (u :: us)) : RLo w F ats us := (RL_cons.1 h).2
section
variable {H : Type} {enc : TypeId × Value → H} {w : World} {fuel : Nat} {cs : List Value} {x : DataW H × List MemPlace} {F : Nat → Prop}

theorem opS_int (hF : ∀ b, b < w.heap.size → F b) (h : DataW.trod enc Tryz.prog w 0 (fun _ => true) true fuel 22 cs = some x) :
    ∃ (v : Value) (l : List Int), cs = [v] ∧ v.oneCell' = true ∧ RA w F (ofM 0 1000 [] []) (fun _ => none) (.im 1 (l.map intRow)) v ∧ l.length ≤ maxLen ∧ ∀ p ∈ l, (fun n => I64 n) p :=
  opn_rows (f := intRow) (q := fun n => I64 n) (m := ofM 0 1000 [] []) (lam := fun _ => none) und_intS cl_int (by omega) hF (fun fu r y hy => by obtain ⟨n, e, h⟩ := opn_int und_int hy; exact ⟨n, e, I64.of h⟩) (fun p u hu => by
    simp only [intRow, List.mem_cons, List.not_mem_nil, or_false] at hu
    rcases hu with rfl <;> rfl) h
theorem opS_bool (hF : ∀ b, b < w.heap.size → F b) (h : DataW.trod enc Tryz.prog w 0 (fun _ => true) true fuel 29 cs = some x) :
    ∃ (v : Value) (l : List Bool), cs = [v] ∧ v.oneCell' = true ∧ RA w F (ofM 0 1000 [] []) (fun _ => none) (.im 1 (l.map boolRow)) v ∧ l.length ≤ maxLen ∧ ∀ p ∈ l, (fun _ => True) p :=
  opn_rows (f := boolRow) (q := fun _ => True) (m := ofM 0 1000 [] []) (lam := fun _ => none) und_boolS cl_bool (by omega) hF (fun fu r y hy => by obtain ⟨b, e⟩ := opn_bool und_bool hy; exact ⟨b, e, trivial⟩) (fun p u hu => by
    simp only [boolRow, List.mem_cons, List.not_mem_nil, or_false] at hu
    rcases hu with rfl <;> rfl) h
theorem opS_Page (hF : ∀ b, b < w.heap.size → F b) (h : DataW.trod enc Tryz.prog w 0 (fun _ => true) true fuel 32 cs = some x) :
    ∃ (v : Value) (l : List DPage), cs = [v] ∧ v.oneCell' = true ∧ RA w F (ofM 0 1000 [] []) (fun _ => none) (.im 4 (l.map DPage.row)) v ∧ l.length ≤ maxLen ∧ ∀ p ∈ l, (DPage.wf) p :=
  opn_rows (f := DPage.row) (q := DPage.wf) (m := ofM 0 1000 [] []) (lam := fun _ => none) und_lawsPageS cl_lawsPage (by omega) hF (fun fu r y hy => by exact opn_lawsPage hy) (fun p u hu => by
    simp only [DPage.row, List.mem_cons, List.not_mem_nil, or_false] at hu
    rcases hu with rfl | rfl | rfl | rfl <;> rfl) h
theorem opS_Event (hF : ∀ b, b < w.heap.size → F b) (h : DataW.trod enc Tryz.prog w 0 (fun _ => true) true fuel 64 cs = some x) :
    ∃ (v : Value) (l : List DEvent), cs = [v] ∧ v.oneCell' = true ∧ RA w F (ofM 0 1000 [] []) (fun _ => none) (.im 3 (l.map DEvent.row)) v ∧ l.length ≤ maxLen ∧ ∀ p ∈ l, (DEvent.wf) p :=
  opn_rows (f := DEvent.row) (q := DEvent.wf) (m := ofM 0 1000 [] []) (lam := fun _ => none) und_lawsEventS cl_lawsEvent (by omega) hF (fun fu r y hy => by exact opn_lawsEvent hy) (fun p u hu => by
    simp only [DEvent.row, List.mem_cons, List.not_mem_nil, or_false] at hu
    rcases hu with rfl | rfl | rfl <;> rfl) h
theorem opS_Member (hF : ∀ b, b < w.heap.size → F b) (h : DataW.trod enc Tryz.prog w 0 (fun _ => true) true fuel 28 cs = some x) :
    ∃ (v : Value) (l : List DMember), cs = [v] ∧ v.oneCell' = true ∧ RA w F (ofM 0 1000 [] []) (fun _ => none) (.im 4 (l.map DMember.row)) v ∧ l.length ≤ maxLen ∧ ∀ p ∈ l, (DMember.wf) p :=
  opn_rows (f := DMember.row) (q := DMember.wf) (m := ofM 0 1000 [] []) (lam := fun _ => none) und_lawsMemberS cl_lawsMember (by omega) hF (fun fu r y hy => by exact opn_lawsMember hy) (fun p u hu => by
    simp only [DMember.row, List.mem_cons, List.not_mem_nil, or_false] at hu
    rcases hu with rfl | rfl | rfl | rfl <;> rfl) h
theorem opS_Depot (hF : ∀ b, b < w.heap.size → F b) (h : DataW.trod enc Tryz.prog w 0 (fun _ => true) true fuel 27 cs = some x) :
    ∃ (v : Value) (l : List DDepot), cs = [v] ∧ v.oneCell' = true ∧ RA w F (ofM 0 1000 [] []) (fun _ => none) (.im 2 (l.map DDepot.row)) v ∧ l.length ≤ maxLen ∧ ∀ p ∈ l, (DDepot.wf) p :=
  opn_rows (f := DDepot.row) (q := DDepot.wf) (m := ofM 0 1000 [] []) (lam := fun _ => none) und_lawsDepotS cl_lawsDepot (by omega) hF (fun fu r y hy => by exact opn_lawsDepot hy) (fun p u hu => by
    simp only [DDepot.row, List.mem_cons, List.not_mem_nil, or_false] at hu
    rcases hu with rfl | rfl <;> rfl) h
theorem opR_Event (hF : ∀ b, b < w.heap.size → F b) (h : DataW.trod enc Tryz.prog w 0 (fun _ => true) true fuel 59 cs = some x) : ∃ p : DEvent, RLo w F p.ats cs ∧ p.wf := by
  obtain ⟨hl, f, h⟩ := opn_struct Tryz.underlying59 h
  rw [cl_lawsEvent] at hl
  have k0 := hl
  clear hl
  obtain ⟨a0, c0, rfl, k1⟩ := four k0
  obtain ⟨a1, c1, rfl, k2⟩ := four k1
  obtain ⟨a2, c2, rfl, k3⟩ := four k2
  obtain rfl := List.eq_nil_of_length_eq_zero k3
  obtain ⟨y0, h0⟩ := h ⟨ "Kind", 3, 0, false, "", "", 0⟩ (by simp)
  simp only [cl_int, List.drop_succ_cons, List.drop_zero, List.take_succ_cons, List.take_zero] at h0
  obtain ⟨n0, e0, w0⟩ := opn_int und_int h0
  obtain rfl := List.head_eq_of_cons_eq e0
  obtain ⟨y1, h1⟩ := h ⟨ "N", 3, 1, false, "", "", 8⟩ (by simp)
  simp only [cl_int, List.drop_succ_cons, List.drop_zero, List.take_succ_cons, List.take_zero] at h1
  obtain ⟨n1, e1, w1⟩ := opn_int und_int h1
  obtain rfl := List.head_eq_of_cons_eq e1
  obtain ⟨y2, h2⟩ := h ⟨ "Storm", 4, 2, false, "", "", 16⟩ (by simp)
  simp only [cl_bool, List.drop_succ_cons, List.drop_zero, List.take_succ_cons, List.take_zero] at h2
  obtain ⟨n2, e2⟩ := opn_bool und_bool h2
  obtain rfl := List.head_eq_of_cons_eq e2
  exact ⟨⟨n0, n1, n2⟩, .cons ⟨rfl, rfl⟩ rfl (.cons ⟨rfl, rfl⟩ rfl (.cons ⟨rfl, rfl⟩ rfl .nil)), ⟨I64.of w0, I64.of w1⟩⟩
theorem cl_lawsLand : Tryz.prog.cellsOf 24 = 3 := by kernel_rfl
theorem opR_Land (hF : ∀ b, b < w.heap.size → F b) (h : DataW.trod enc Tryz.prog w 0 (fun _ => true) true fuel 24 cs = some x) : ∃ p : DLand, RLo w F p.ats cs ∧ p.wf := by
  obtain ⟨hl, f, h⟩ := opn_struct Tryz.underlying24 h
  rw [cl_lawsLand] at hl
  have k0 := hl
  clear hl
  obtain ⟨a0, c0, rfl, k1⟩ := four k0
  obtain ⟨a1, c1, rfl, k2⟩ := four k1
  obtain ⟨a2, c2, rfl, k3⟩ := four k2
  obtain rfl := List.eq_nil_of_length_eq_zero k3
  obtain ⟨y0, h0⟩ := h ⟨ "W", 3, 0, false, "", "", 0⟩ (by simp)
  simp only [cl_int, List.drop_succ_cons, List.drop_zero, List.take_succ_cons, List.take_zero] at h0
  obtain ⟨n0, e0, w0⟩ := opn_int und_int h0
  obtain rfl := List.head_eq_of_cons_eq e0
  obtain ⟨y1, h1⟩ := h ⟨ "H", 3, 1, false, "", "", 8⟩ (by simp)
  simp only [cl_int, List.drop_succ_cons, List.drop_zero, List.take_succ_cons, List.take_zero] at h1
  obtain ⟨n1, e1, w1⟩ := opn_int und_int h1
  obtain rfl := List.head_eq_of_cons_eq e1
  obtain ⟨y2, h2⟩ := h ⟨ "Cells", 22, 2, false, "", "", 16⟩ (by simp)
  simp only [show Tryz.prog.cellsOf 22 = 1 by kernel_rfl, List.drop_succ_cons, List.drop_zero, List.take_succ_cons, List.take_zero] at h2
  obtain ⟨v2, n2, e2, o2, r2, b2, q2⟩ := opS_int hF h2
  obtain rfl := List.head_eq_of_cons_eq e2
  exact ⟨⟨n0, n1, n2⟩, .cons ⟨rfl, rfl⟩ rfl (.cons ⟨rfl, rfl⟩ rfl (.cons r2 o2 .nil)), ⟨I64.of w0, I64.of w1, q2, b2⟩⟩
theorem opR_Rule (hF : ∀ b, b < w.heap.size → F b) (h : DataW.trod enc Tryz.prog w 0 (fun _ => true) true fuel 26 cs = some x) : ∃ p : DRule, RLo w F p.ats cs ∧ p.wf := by
  obtain ⟨hl, f, h⟩ := opn_struct Tryz.underlying26 h
  rw [cl_lawsRule] at hl
  have k0 := hl
  clear hl
  obtain ⟨a0, c0, rfl, k1⟩ := four k0
  obtain ⟨a1, c1, rfl, k2⟩ := four k1
  obtain rfl := List.eq_nil_of_length_eq_zero k2
  obtain ⟨y0, h0⟩ := h ⟨ "Most", 3, 0, false, "", "", 0⟩ (by simp)
  simp only [cl_int, List.drop_succ_cons, List.drop_zero, List.take_succ_cons, List.take_zero] at h0
  obtain ⟨n0, e0, w0⟩ := opn_int und_int h0
  obtain rfl := List.head_eq_of_cons_eq e0
  obtain ⟨y1, h1⟩ := h ⟨ "Window", 3, 1, false, "", "", 8⟩ (by simp)
  simp only [cl_int, List.drop_succ_cons, List.drop_zero, List.take_succ_cons, List.take_zero] at h1
  obtain ⟨n1, e1, w1⟩ := opn_int und_int h1
  obtain rfl := List.head_eq_of_cons_eq e1
  exact ⟨⟨n0, n1⟩, .cons ⟨rfl, rfl⟩ rfl (.cons ⟨rfl, rfl⟩ rfl .nil), ⟨I64.of w0, I64.of w1⟩⟩
theorem cl_lawsParty : Tryz.prog.cellsOf 31 = 4 := by kernel_rfl
theorem opR_Party (hF : ∀ b, b < w.heap.size → F b) (h : DataW.trod enc Tryz.prog w 0 (fun _ => true) true fuel 31 cs = some x) : ∃ p : DParty, RLo w F p.ats cs ∧ p.wf := by
  obtain ⟨hl, f, h⟩ := opn_struct Tryz.underlying31 h
  rw [cl_lawsParty] at hl
  have k0 := hl
  clear hl
  obtain ⟨a0, c0, rfl, k1⟩ := four k0
  obtain ⟨a1, c1, rfl, k2⟩ := four k1
  obtain ⟨a2, c2, rfl, k3⟩ := four k2
  obtain ⟨a3, c3, rfl, k4⟩ := four k3
  obtain rfl := List.eq_nil_of_length_eq_zero k4
  obtain ⟨y0, h0⟩ := h ⟨ "At", 3, 0, false, "", "", 0⟩ (by simp)
  simp only [cl_int, List.drop_succ_cons, List.drop_zero, List.take_succ_cons, List.take_zero] at h0
  obtain ⟨n0, e0, w0⟩ := opn_int und_int h0
  obtain rfl := List.head_eq_of_cons_eq e0
  obtain ⟨y1, h1⟩ := h ⟨ "Food", 3, 1, false, "", "", 8⟩ (by simp)
  simp only [cl_int, List.drop_succ_cons, List.drop_zero, List.take_succ_cons, List.take_zero] at h1
  obtain ⟨n1, e1, w1⟩ := opn_int und_int h1
  obtain rfl := List.head_eq_of_cons_eq e1
  obtain ⟨y2, h2⟩ := h ⟨ "Crew", 28, 2, false, "", "", 16⟩ (by simp)
  simp only [show Tryz.prog.cellsOf 28 = 1 by kernel_rfl, List.drop_succ_cons, List.drop_zero, List.take_succ_cons, List.take_zero] at h2
  obtain ⟨v2, n2, e2, o2, r2, b2, q2⟩ := opS_Member hF h2
  obtain rfl := List.head_eq_of_cons_eq e2
  obtain ⟨y3, h3⟩ := h ⟨ "Past", 29, 3, false, "", "", 40⟩ (by simp)
  simp only [show Tryz.prog.cellsOf 29 = 1 by kernel_rfl, List.drop_succ_cons, List.drop_zero, List.take_succ_cons, List.take_zero] at h3
  obtain ⟨v3, n3, e3, o3, r3, b3, q3⟩ := opS_bool hF h3
  obtain rfl := List.head_eq_of_cons_eq e3
  exact ⟨⟨n0, n1, n2, n3⟩, .cons ⟨rfl, rfl⟩ rfl (.cons ⟨rfl, rfl⟩ rfl (.cons r2 o2 (.cons r3 o3 .nil))), ⟨I64.of w0, I64.of w1, q2, b2, b3⟩⟩
theorem cl_lawsTrek : Tryz.prog.cellsOf 34 = 15 := by kernel_rfl
theorem opR_Trek (hF : ∀ b, b < w.heap.size → F b) (h : DataW.trod enc Tryz.prog w 0 (fun _ => true) true fuel 34 cs = some x) : ∃ p : DTrek, RLo w F p.ats cs ∧ p.wf := by
  obtain ⟨hl, f, h⟩ := opn_struct Tryz.underlying34 h
  rw [cl_lawsTrek] at hl
  have k0 := hl
  clear hl
  obtain ⟨a0, c0, rfl, k1⟩ := four k0
  obtain ⟨a1, c1, rfl, k2⟩ := four k1
  obtain ⟨a2, c2, rfl, k3⟩ := four k2
  obtain ⟨a3, c3, rfl, k4⟩ := four k3
  obtain ⟨a4, c4, rfl, k5⟩ := four k4
  obtain ⟨a5, c5, rfl, k6⟩ := four k5
  obtain ⟨a6, c6, rfl, k7⟩ := four k6
  obtain ⟨a7, c7, rfl, k8⟩ := four k7
  obtain ⟨a8, c8, rfl, k9⟩ := four k8
  obtain ⟨a9, c9, rfl, k10⟩ := four k9
  obtain ⟨a10, c10, rfl, k11⟩ := four k10
  obtain ⟨a11, c11, rfl, k12⟩ := four k11
  obtain ⟨a12, c12, rfl, k13⟩ := four k12
  obtain ⟨a13, c13, rfl, k14⟩ := four k13
  obtain ⟨a14, c14, rfl, k15⟩ := four k14
  obtain rfl := List.eq_nil_of_length_eq_zero k15
  obtain ⟨y0, h0⟩ := h ⟨ "Land", 24, 0, false, "", "", 0⟩ (by simp)
  simp only [cl_lawsLand, List.drop_succ_cons, List.drop_zero, List.take_succ_cons, List.take_zero] at h0
  obtain ⟨n0, r0, q0⟩ := opR_Land hF h0
  obtain ⟨y1, h1⟩ := h ⟨ "Base", 3, 3, false, "", "", 40⟩ (by simp)
  simp only [cl_int, List.drop_succ_cons, List.drop_zero, List.take_succ_cons, List.take_zero] at h1
  obtain ⟨n1, e1, w1⟩ := opn_int und_int h1
  obtain rfl := List.head_eq_of_cons_eq e1
  obtain ⟨y2, h2⟩ := h ⟨ "Rule", 26, 4, false, "", "", 48⟩ (by simp)
  simp only [cl_lawsRule, List.drop_succ_cons, List.drop_zero, List.take_succ_cons, List.take_zero] at h2
  obtain ⟨n2, r2, q2⟩ := opR_Rule hF h2
  obtain ⟨y3, h3⟩ := h ⟨ "Depots", 27, 6, false, "", "", 64⟩ (by simp)
  simp only [show Tryz.prog.cellsOf 27 = 1 by kernel_rfl, List.drop_succ_cons, List.drop_zero, List.take_succ_cons, List.take_zero] at h3
  obtain ⟨v3, n3, e3, o3, r3, b3, q3⟩ := opS_Depot hF h3
  obtain rfl := List.head_eq_of_cons_eq e3
  obtain ⟨y4, h4⟩ := h ⟨ "Party", 31, 7, false, "", "", 88⟩ (by simp)
  simp only [cl_lawsParty, List.drop_succ_cons, List.drop_zero, List.take_succ_cons, List.take_zero] at h4
  obtain ⟨n4, r4, q4⟩ := opR_Party hF h4
  obtain ⟨y5, h5⟩ := h ⟨ "Journal", 32, 11, false, "", "", 152⟩ (by simp)
  simp only [show Tryz.prog.cellsOf 32 = 1 by kernel_rfl, List.drop_succ_cons, List.drop_zero, List.take_succ_cons, List.take_zero] at h5
  obtain ⟨v5, n5, e5, o5, r5, b5, q5⟩ := opS_Page hF h5
  obtain rfl := List.head_eq_of_cons_eq e5
  obtain ⟨y6, h6⟩ := h ⟨ "Day", 3, 12, false, "", "", 176⟩ (by simp)
  simp only [cl_int, List.drop_succ_cons, List.drop_zero, List.take_succ_cons, List.take_zero] at h6
  obtain ⟨n6, e6, w6⟩ := opn_int und_int h6
  obtain rfl := List.head_eq_of_cons_eq e6
  obtain ⟨y7, h7⟩ := h ⟨ "Given", 3, 13, false, "", "", 184⟩ (by simp)
  simp only [cl_int, List.drop_succ_cons, List.drop_zero, List.take_succ_cons, List.take_zero] at h7
  obtain ⟨n7, e7, w7⟩ := opn_int und_int h7
  obtain rfl := List.head_eq_of_cons_eq e7
  obtain ⟨y8, h8⟩ := h ⟨ "Eaten", 3, 14, false, "", "", 192⟩ (by simp)
  simp only [cl_int, List.drop_succ_cons, List.drop_zero, List.take_succ_cons, List.take_zero] at h8
  obtain ⟨n8, e8, w8⟩ := opn_int und_int h8
  obtain rfl := List.head_eq_of_cons_eq e8
  exact ⟨⟨n0, n1, n2, n3, n4, n5, n6, n7, n8⟩, .cons r0.head r0.one (.cons r0.tail.head r0.tail.one (.cons r0.tail.tail.head r0.tail.tail.one (.cons ⟨rfl, rfl⟩ rfl (.cons r2.head r2.one (.cons r2.tail.head r2.tail.one (.cons r3 o3 (.cons r4.head r4.one (.cons r4.tail.head r4.tail.one (.cons r4.tail.tail.head r4.tail.tail.one (.cons r4.tail.tail.tail.head r4.tail.tail.tail.one (.cons r5 o5 (.cons ⟨rfl, rfl⟩ rfl (.cons ⟨rfl, rfl⟩ rfl (.cons ⟨rfl, rfl⟩ rfl .nil)))))))))))))), ⟨q0, I64.of w1, q2, q3, b3, q4, q5, b5, I64.of w6, I64.of w7, I64.of w8⟩⟩
end
end Go.Abs
