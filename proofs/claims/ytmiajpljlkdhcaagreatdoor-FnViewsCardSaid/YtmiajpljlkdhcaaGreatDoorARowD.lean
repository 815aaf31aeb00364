/- How the arguments of a law are read as data. -/
import Derived.Test.YtmiajpljlkdhcaaGreatDoorAData
namespace Go.Abs
open Go.RowKit Go.Proofs
set_option linter.unusedVariables false
set_option linter.unusedSimpArgs false
set_option maxRecDepth 100000
def RLo (w : World) (F : Nat → Prop) (ats : List A) (us : List Value) : Prop := RL (fun a u => RA w F (ofM 0 1000 [] []) (fun _ => none) a u ∧ u.oneCell' = true) ats us
theorem RLo.nil {w : World} {F : Nat → Prop} : RLo w F [] [] := ⟨rfl, by simp⟩
theorem RLo.cons {w : World} {F : Nat → Prop} {a : A} {ats : List A} {u : Value} {us : List Value} (h1 : RA w F (ofM 0 1000 [] []) (fun _ => none) a u) (h2 : u.oneCell' = true) (h3 : RLo w F ats us) : RLo w F (a :: ats) (u :: us) := RL_cons.2 ⟨⟨h1, h2⟩, h3⟩
theorem RLo.head {w : World} {F : Nat → Prop} {a : A} {ats : List A} {u : Value} {us : List Value} (h : RLo w F (a :: ats) (u :: us)) : RA w F (ofM 0 1000 [] []) (fun _ => none) a u := (RL_cons.1 h).1.1
theorem RLo.one {w : World} {F : Nat → Prop} {a : A} {ats : List A} {u : Value} {us : List Value} (h : RLo w F (a :: ats) (u :: us)) : u.oneCell' = true := (RL_cons.1 h).1.2
theorem RLo.tail {w : World} {F : Nat → Prop} {a : A} {ats : List A} {u : Value} {us : List Value} (h : RLo w F (a :: ats) (u :: us)) : RLo w F ats us := (RL_cons.1 h).2
section
variable {H : Type} {enc : TypeId × Value → H} {w : World} {fuel : Nat} {cs : List Value} {x : DataW H × List MemPlace} {F : Nat → Prop}

theorem opS_int (hF : ∀ b, b < w.heap.size → F b) (h : DataW.trod enc Tryz.prog w 0 (fun _ => true) true fuel 24 cs = some x) :
    ∃ (v : Value) (l : List Int), cs = [v] ∧ v.oneCell' = true ∧ RA w F (ofM 0 1000 [] []) (fun _ => none) (.im 1 (l.map intRow)) v ∧ l.length ≤ maxLen ∧ ∀ p ∈ l, (fun n => I64 n) p :=
  opn_rows (f := intRow) (q := fun n => I64 n) (m := ofM 0 1000 [] []) (lam := fun _ => none) und_intS cl_int (by omega) hF (fun fu r y hy => by obtain ⟨n, e, h⟩ := opn_int und_int hy; exact ⟨n, e, I64.of h⟩) (fun p u hu => by
    simp only [intRow, List.mem_cons, List.not_mem_nil, or_false] at hu
    rcases hu with rfl <;> rfl) h
theorem opS_bool (hF : ∀ b, b < w.heap.size → F b) (h : DataW.trod enc Tryz.prog w 0 (fun _ => true) true fuel 39 cs = some x) :
    ∃ (v : Value) (l : List Bool), cs = [v] ∧ v.oneCell' = true ∧ RA w F (ofM 0 1000 [] []) (fun _ => none) (.im 1 (l.map boolRow)) v ∧ l.length ≤ maxLen ∧ ∀ p ∈ l, (fun _ => True) p :=
  opn_rows (f := boolRow) (q := fun _ => True) (m := ofM 0 1000 [] []) (lam := fun _ => none) und_boolS cl_bool (by omega) hF (fun fu r y hy => by obtain ⟨b, e⟩ := opn_bool und_bool hy; exact ⟨b, e, trivial⟩) (fun p u hu => by
    simp only [boolRow, List.mem_cons, List.not_mem_nil, or_false] at hu
    rcases hu with rfl <;> rfl) h
theorem opS_string (hF : ∀ b, b < w.heap.size → F b) (h : DataW.trod enc Tryz.prog w 0 (fun _ => true) true fuel 49 cs = some x) :
    ∃ (v : Value) (l : List ByteArray), cs = [v] ∧ v.oneCell' = true ∧ RA w F (ofM 0 1000 [] []) (fun _ => none) (.im 1 (l.map strRow)) v ∧ l.length ≤ maxLen ∧ ∀ p ∈ l, (fun s => s.size ≤ maxLen) p :=
  opn_rows (f := strRow) (q := fun s => s.size ≤ maxLen) (m := ofM 0 1000 [] []) (lam := fun _ => none) und_stringS cl_string (by omega) hF (fun fu r y hy => by obtain ⟨s, e, h⟩ := opn_string und_string hy; exact ⟨s, e, h⟩) (fun p u hu => by
    simp only [strRow, List.mem_cons, List.not_mem_nil, or_false] at hu
    rcases hu with rfl <;> rfl) h
end
end Go.Abs
