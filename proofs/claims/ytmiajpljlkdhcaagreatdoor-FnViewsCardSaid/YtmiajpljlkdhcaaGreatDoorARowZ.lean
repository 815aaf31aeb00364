/- The laid tables: what the row's condition gives the walk, and a start that meets it. -/
import Derived.Test.YtmiajpljlkdhcaaGreatDoorARowD
import Derived.Test.YtmiajpljlkdhcaaGreatDoorRows
import Derived.Test.YtmiajpljlkdhcaaGreatDoorAShelf
import Derived.ProofKit
import Derived.LaidMore
import Derived.LaidSub
import Derived.MakeChecks
import Derived.Stop.Joined
namespace Go.Abs
open Go.RowKit Go.Proofs Go.Proofs.YtmiajpljlkdhcaaGreatDoor
set_option linter.unusedVariables false
set_option linter.unusedSimpArgs false
set_option maxRecDepth 100000

def laidL : List (String × DataW Unit) := [("math/bits.deBruijn32tab", Rows.laid_math_bits_deBruijn32tab), ("math/bits.deBruijn64tab", Rows.laid_math_bits_deBruijn64tab), ("internal/strconv.uint64pow10", Rows.laid_internal_strconv_uint64pow10)]
theorem z_of {W : World} (hL : laidMetH Tryz.prog laidL W) : Z Tryz.prog W (fun b => b < W.heap.size) (fun _ => False) := by
  have h := hL.filter (fun x => x.1 == tabName)
  rw [MakeChecks.laidMetH_plain _ _ _ (by kernel_rfl)] at h
  have e : (laidL.filter fun x => x.1 == tabName) = [(tabName, Lib.tabData .u64 Lib.pow10Tab)] := by kernel_rfl
  rw [e] at h
  intro b hb
  have hg : Tryz.prog.globalNamed tabName = some (Tryz.laysM171_ren.g 17) := Tryz.laysM171.m17
  have htab := Lib.tabIs_of_head (n := 20) (t := 147) (e := 124) hg (by kernel_rfl) (by kernel_rfl) (by kernel_rfl) (by kernel_rfl) (by kernel_rfl) h
  refine ⟨?_, id, htab⟩
  simp only [Lib.TabIs, World.var?, hb, Option.bind_some] at htab
  split at htab
  · rename_i hg; exact (Array.getElem?_eq_some_iff.1 hg).1
  · cases htab
theorem door_met (os : Os) (args : Array Value) : laidMetH Tryz.prog laidL ((World.doorLaid Tryz.prog 400 os).forCall (fun _ _ => 0) ⟨#[], args, []⟩).memory :=
  laidMetH_of_parts3 (fuel := 8) (laidMet_of_run' 8 (by kernel_rfl) (by kernel_rfl)) (by kernel_rfl) (by kernel_rfl)
end Go.Abs
