/- How the arguments of a law are read as data. -/
import Derived.Test.YtcaokibfjjoimaaAData
namespace Go.Abs
open Go.RowKit Go.Proofs
set_option linter.unusedVariables false
set_option linter.unusedSimpArgs false
set_option maxRecDepth 100000
def RLo (w : World) (F : Nat → Prop) (ats : List A) (us : List Value) : Prop := RL (fun a u => RA w F (ofM 0 1000 [] []) (fun _ => none) a u ∧ u.oneCell' = true) ats us
theorem RLo.nil {w : World} {F : Nat → Prop} : RLo w F [] [] := ⟨rfl, by simp⟩
theorem RLo.cons {w : World} {F : Nat → Prop} {a : A} {ats : List A} {u : Value} {us : List Value} (h1 : RA w F (ofM 0 1000 [] []) (fun _ => none) a u) (h2 : u.oneCell' = true) (h3 : RLo w F ats us) : RLo w F (a :: ats) (u :: us) := RL_cons.2 ⟨⟨h1, h2⟩, h3⟩
theorem RLo.head {w : World} {F : Nat → Prop} {a : A} {ats : List A} {u : Value} {us : List Value} (h : RLo w F (a :: ats) (u :: us)) : RA w F (ofM 0 1000 [] []) (fun _ => none) a u := (RL_cons.1 h).1.1
theorem RLo.one {w : World} {F : Nat → Prop} {a : A} {ats : List A} {u : Value} {us : List Value} (h : RLo w F (a :: ats) (u :: us)) : u.oneCell' = true := (RL_cons.1 h).1.2
theorem RLo.tail {w : World} {F : Nat → Prop} {a : A} {ats : List A} {u : Value} {us : List Value} (h : RLo w F (a :: ats) (u :: us)) : RLo w F ats us := (RL_cons.1 h).2
section
variable {H : Type} {enc : TypeId × Value → H} {w : World} {fuel : Nat} {cs : List Value} {x : DataW H × List MemPlace} {F : Nat → Prop}

theorem opS_int (hF : ∀ b, b < w.heap.size → F b) (h : DataW.trod enc Try.prog w 0 (fun _ => true) true fuel 43 cs = some x) :
    ∃ (v : Value) (l : List Int), cs = [v] ∧ v.oneCell' = true ∧ RA w F (ofM 0 1000 [] []) (fun _ => none) (.im 1 (l.map intRow)) v ∧ l.length ≤ maxLen ∧ ∀ p ∈ l, (fun n => I64 n) p :=
  opn_rows (f := intRow) (q := fun n => I64 n) (m := ofM 0 1000 [] []) (lam := fun _ => none) und_intS cl_int (by omega) hF (fun fu r y hy => by obtain ⟨n, e, h⟩ := opn_int und_int hy; exact ⟨n, e, I64.of h⟩) (fun p u hu => by
    simp only [intRow, List.mem_cons, List.not_mem_nil, or_false] at hu
    rcases hu with rfl <;> rfl) h
theorem opS_bool (hF : ∀ b, b < w.heap.size → F b) (h : DataW.trod enc Try.prog w 0 (fun _ => true) true fuel 24 cs = some x) :
    ∃ (v : Value) (l : List Bool), cs = [v] ∧ v.oneCell' = true ∧ RA w F (ofM 0 1000 [] []) (fun _ => none) (.im 1 (l.map boolRow)) v ∧ l.length ≤ maxLen ∧ ∀ p ∈ l, (fun _ => True) p :=
  opn_rows (f := boolRow) (q := fun _ => True) (m := ofM 0 1000 [] []) (lam := fun _ => none) und_boolS cl_bool (by omega) hF (fun fu r y hy => by obtain ⟨b, e⟩ := opn_bool und_bool hy; exact ⟨b, e, trivial⟩) (fun p u hu => by
    simp only [boolRow, List.mem_cons, List.not_mem_nil, or_false] at hu
    rcases hu with rfl <;> rfl) h
theorem opS_string (hF : ∀ b, b < w.heap.size → F b) (h : DataW.trod enc Try.prog w 0 (fun _ => true) true fuel 67 cs = some x) :
    ∃ (v : Value) (l : List ByteArray), cs = [v] ∧ v.oneCell' = true ∧ RA w F (ofM 0 1000 [] []) (fun _ => none) (.im 1 (l.map strRow)) v ∧ l.length ≤ maxLen ∧ ∀ p ∈ l, (fun s => s.size ≤ maxLen) p :=
  opn_rows (f := strRow) (q := fun s => s.size ≤ maxLen) (m := ofM 0 1000 [] []) (lam := fun _ => none) und_stringS cl_string (by omega) hF (fun fu r y hy => by obtain ⟨s, e, h⟩ := opn_string und_string hy; exact ⟨s, e, h⟩) (fun p u hu => by
    simp only [strRow, List.mem_cons, List.not_mem_nil, or_false] at hu
    rcases hu with rfl <;> rfl) h
theorem opS_Page (hF : ∀ b, b < w.heap.size → F b) (h : DataW.trod enc Try.prog w 0 (fun _ => true) true fuel 36 cs = some x) :
    ∃ (v : Value) (l : List DPage), cs = [v] ∧ v.oneCell' = true ∧ RA w F (ofM 0 1000 [] []) (fun _ => none) (.im 4 (l.map DPage.row)) v ∧ l.length ≤ maxLen ∧ ∀ p ∈ l, (DPage.wf) p :=
  opn_rows (f := DPage.row) (q := DPage.wf) (m := ofM 0 1000 [] []) (lam := fun _ => none) und_lawsPageS cl_lawsPage (by omega) hF (fun fu r y hy => by exact opn_lawsPage hy) (fun p u hu => by
    simp only [DPage.row, List.mem_cons, List.not_mem_nil, or_false] at hu
    rcases hu with rfl | rfl | rfl | rfl <;> rfl) h
theorem opS_Event (hF : ∀ b, b < w.heap.size → F b) (h : DataW.trod enc Try.prog w 0 (fun _ => true) true fuel 29 cs = some x) :
    ∃ (v : Value) (l : List DEvent), cs = [v] ∧ v.oneCell' = true ∧ RA w F (ofM 0 1000 [] []) (fun _ => none) (.im 3 (l.map DEvent.row)) v ∧ l.length ≤ maxLen ∧ ∀ p ∈ l, (DEvent.wf) p :=
  opn_rows (f := DEvent.row) (q := DEvent.wf) (m := ofM 0 1000 [] []) (lam := fun _ => none) und_lawsEventS cl_lawsEvent (by omega) hF (fun fu r y hy => by exact opn_lawsEvent hy) (fun p u hu => by
    simp only [DEvent.row, List.mem_cons, List.not_mem_nil, or_false] at hu
    rcases hu with rfl | rfl | rfl <;> rfl) h
theorem opR_Event (hF : ∀ b, b < w.heap.size → F b) (h : DataW.trod enc Try.prog w 0 (fun _ => true) true fuel 71 cs = some x) : ∃ p : DEvent, RLo w F p.ats cs ∧ p.wf := by
  obtain ⟨hl, f, h⟩ := opn_struct Try.underlying71 h
  rw [cl_lawsEvent] at hl
  have k0 := hl
  clear hl
  obtain ⟨a0, c0, rfl, k1⟩ := four k0
  obtain ⟨a1, c1, rfl, k2⟩ := four k1
  obtain ⟨a2, c2, rfl, k3⟩ := four k2
  obtain rfl := List.eq_nil_of_length_eq_zero k3
  obtain ⟨y0, h0⟩ := h ⟨ "Kind", 3, 0, false, "", "", 0⟩ (by simp)
  simp only [cl_int, List.drop_succ_cons, List.drop_zero, List.take_succ_cons, List.take_zero] at h0
  obtain ⟨n0, e0, w0⟩ := opn_int und_int h0
  obtain rfl := List.head_eq_of_cons_eq e0
  obtain ⟨y1, h1⟩ := h ⟨ "N", 3, 1, false, "", "", 8⟩ (by simp)
  simp only [cl_int, List.drop_succ_cons, List.drop_zero, List.take_succ_cons, List.take_zero] at h1
  obtain ⟨n1, e1, w1⟩ := opn_int und_int h1
  obtain rfl := List.head_eq_of_cons_eq e1
  obtain ⟨y2, h2⟩ := h ⟨ "Storm", 4, 2, false, "", "", 16⟩ (by simp)
  simp only [cl_bool, List.drop_succ_cons, List.drop_zero, List.take_succ_cons, List.take_zero] at h2
  obtain ⟨n2, e2⟩ := opn_bool und_bool h2
  obtain rfl := List.head_eq_of_cons_eq e2
  exact ⟨⟨n0, n1, n2⟩, .cons ⟨rfl, rfl⟩ rfl (.cons ⟨rfl, rfl⟩ rfl (.cons ⟨rfl, rfl⟩ rfl .nil)), ⟨I64.of w0, I64.of w1⟩⟩
theorem cl_lawsLand : Try.prog.cellsOf 45 = 3 := by kernel_rfl
theorem opR_Land (hF : ∀ b, b < w.heap.size → F b) (h : DataW.trod enc Try.prog w 0 (fun _ => true) true fuel 45 cs = some x) : ∃ p : DLand, RLo w F p.ats cs ∧ p.wf := by
  obtain ⟨hl, f, h⟩ := opn_struct Try.underlying45 h
  rw [cl_lawsLand] at hl
  have k0 := hl
  clear hl
  obtain ⟨a0, c0, rfl, k1⟩ := four k0
  obtain ⟨a1, c1, rfl, k2⟩ := four k1
  obtain ⟨a2, c2, rfl, k3⟩ := four k2
  obtain rfl := List.eq_nil_of_length_eq_zero k3
  obtain ⟨y0, h0⟩ := h ⟨ "W", 3, 0, false, "", "", 0⟩ (by simp)
  simp only [cl_int, List.drop_succ_cons, List.drop_zero, List.take_succ_cons, List.take_zero] at h0
  obtain ⟨n0, e0, w0⟩ := opn_int und_int h0
  obtain rfl := List.head_eq_of_cons_eq e0
  obtain ⟨y1, h1⟩ := h ⟨ "H", 3, 1, false, "", "", 8⟩ (by simp)
  simp only [cl_int, List.drop_succ_cons, List.drop_zero, List.take_succ_cons, List.take_zero] at h1
  obtain ⟨n1, e1, w1⟩ := opn_int und_int h1
  obtain rfl := List.head_eq_of_cons_eq e1
  obtain ⟨y2, h2⟩ := h ⟨ "Cells", 43, 2, false, "", "", 16⟩ (by simp)
  simp only [show Try.prog.cellsOf 43 = 1 by kernel_rfl, List.drop_succ_cons, List.drop_zero, List.take_succ_cons, List.take_zero] at h2
  obtain ⟨v2, n2, e2, o2, r2, b2, q2⟩ := opS_int hF h2
  obtain rfl := List.head_eq_of_cons_eq e2
  exact ⟨⟨n0, n1, n2⟩, .cons ⟨rfl, rfl⟩ rfl (.cons ⟨rfl, rfl⟩ rfl (.cons r2 o2 .nil)), ⟨I64.of w0, I64.of w1, q2, b2⟩⟩
end
end Go.Abs
