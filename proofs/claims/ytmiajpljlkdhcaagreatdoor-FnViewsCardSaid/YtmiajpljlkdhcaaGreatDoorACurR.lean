/- The law's one argument, the code: its bytes as data. -/
import Derived.Test.YtmiajpljlkdhcaaGreatDoorACur
import Derived.Test.YtmiajpljlkdhcaaGreatDoorARowD
namespace Go.Abs
open Go.RowKit Go.Proofs
set_option linter.unusedVariables false
set_option linter.unusedSimpArgs false
set_option maxRecDepth 100000
section
variable {H : Type} {enc : TypeId × Value → H} {w : World} {fuel : Nat} {cs : List Value} {x : DataW H × List MemPlace} {F : Nat → Prop}
theorem und_uint8 : Tryz.prog.underlying 5 = some (.int .u8) := Tryz.underlying5
theorem cl_uint8 : Tryz.prog.cellsOf 5 = 1 := by kernel_rfl
theorem opS_uint8 (hF : ∀ b, b < w.heap.size → F b) (h : DataW.trod enc Tryz.prog w 0 (fun _ => true) true fuel 22 cs = some x) :
    ∃ (v : Value) (l : List Int), cs = [v] ∧ v.oneCell' = true ∧ RA w F (ofM 0 1000 [] []) (fun _ => none) (.im 1 (l.map byteRow)) v ∧ l.length ≤ maxLen ∧ ∀ p ∈ l, (fun _ => True) p :=
  opn_rows (f := byteRow) (q := fun _ => True) (m := ofM 0 1000 [] []) (lam := fun _ => none) und_uint8S cl_uint8 (by omega) hF (fun fu r y hy => by obtain ⟨n, e, h⟩ := opn_int und_uint8 hy; exact ⟨n, e, trivial⟩) (fun p u hu => by
    simp only [byteRow, List.mem_cons, List.not_mem_nil, or_false] at hu
    rcases hu with rfl <;> rfl) h
end
end Go.Abs
