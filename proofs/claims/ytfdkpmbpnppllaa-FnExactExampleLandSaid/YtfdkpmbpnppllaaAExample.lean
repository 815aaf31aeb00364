/- The land that serves as an example. -/
import Derived.Test.YtfdkpmbpnppllaaAShelf
import Derived.Test.YtfdkpmbpnppllaaALand
namespace Go.Abs
open Go.RowKit Go.Proofs
set_option linter.unusedVariables false
set_option linter.unusedSimpArgs false
set_option maxRecDepth 100000
set_option maxHeartbeats 4000000

theorem SC.of_TW {P : Program} {f : FuncId} {fn : Func} {c : Code} {args : List AV} {res : AV} {rs : List ResultVar} (hf : P.funcs[f]? = some fn) (hn : (fn.name == "runtime.NumGoroutine") = false) (hb : fn.body = some c)
    (hr : fn.results = rs.toArray) (n : Nat) (hnt : fn.ntmps = n) (hsz : args.length ≤ n) (h : T P 0 n c (finW P 0 rs res []) ⟨ofT (slotsOf 0 args), M0⟩) : SC P f args [] res [] := by
  subst hnt
  rw [← ofM_M0] at h
  exact SC.of_T hf hn hb hsz (T.mono h (finW_S (by rw [hr])))

def exS : ByteArray := ⟨#[46, 46, 46, 46, 46, 46, 35, 35, 105, 46, 46, 46, 46, 105, 46, 46, 35, 46, 46, 46]⟩
def exL : List Int := [0, 0, 0, 0, 0, 0, 2, 2, 1, 0, 0, 0, 0, 1, 0, 0, 2, 0, 0, 0]
def exZ : DLand := ⟨5, 4, exL⟩

theorem ex_at (pos : Nat) (h : pos < exS.size) : (exS[pos]'h).toNat < 128 ∧ exL[pos]? = some (Lib.indexByte [46, 105, 35] ((((exS[pos]'h).toNat : Nat) : Int).toNat.toUInt8)) := by
  have key : ∀ i : Fin 20, (exS[i.val]'(show i.val < 20 from i.isLt)).toNat < 128 ∧ exL[i.val]? = some (Lib.indexByte [46, 105, 35] ((((exS[i.val]'(show i.val < 20 from i.isLt)).toNat : Nat) : Int).toNat.toUInt8)) := by decide +kernel
  exact key ⟨pos, h⟩
theorem ex_step {pos : Nat} {v : Int} (h : exL[pos]? = some v) : (exL.take (pos + 1)).map intRow = (exL.take pos).map intRow ++ [[.int .i64 v]] := by
  rw [List.take_add_one, h]; simp [intRow]
theorem spec_ExampleLand : SC Try.prog 4 [] [] (.ag exZ.frs) [] := by
  refine SC.of_W mixed Try.func4 (by kernel_rfl) rfl Try.results4 _ Try.ntmps4 (by simp) ?_
  simp -implicitDefEqProofs only [go_sem]
  exact ⟨⟨rfl, rfl, rfl⟩, rfl⟩
theorem std_IndexRune (s : ByteArray) (r : Int) (h0 : 0 ≤ r) (h1 : r < 128) : SC Try.prog 9 [.at (.v (.string s)), .at (.v (.int .i32 r))] [] (.at (.v (.int .i64 (Lib.indexByte s.data.toList r.toNat.toUInt8)))) [] :=
  SC.indexRune (f := 9) ⟨_, Try.func9, by kernel_rfl, by kernel_rfl⟩ rfl fun w => Try.strings_IndexRune_ascii s r w h0 h1
theorem impl_ExampleLand : SC Try.prog 5 [] [] (.ag exZ.frs) [] := by
  refine SC.of_TW Try.func5 (by kernel_rfl) rfl Try.results5 _ Try.ntmps5 (by simp) ?_
  refine T.seq (W.T mixed ?_)
  simp -implicitDefEqProofs only [go_sem]
  refine T.seq (W.T mixed ?_)
  simp -implicitDefEqProofs only [go_sem]
  refine T.seq ?_
  refine T.rangeW (s := exS) mixed Try.underlying9 (by decide) (by decide) (by decide) (by decide) [0, 1] (by decide) (fun pos vs es => vs = [.at (.bx 100 0 0), .at (.bx 101 0 0)] ∧ ((pos = 0 ∧ es = [.box 0 [.v (.int .i64 0), .v (.int .i64 0), .nil], .box 0 [.v (.int .i64 5), .v (.int .i64 4), .nil]]) ∨ (0 < pos ∧ es = [.box 0 [.v (.int .i64 0), .v (.int .i64 0), .nil], .box 0 [.v (.int .i64 5), .v (.int .i64 4), .ow 102 0 1 pos], .arr 0 1 ((exL.take pos).map intRow)]))) ?_ ?_ ?_
  · simp -implicitDefEqProofs only [go_sem]
  · rintro ib pos _ _ h ⟨rfl, ⟨rfl, rfl⟩ | ⟨hp, rfl⟩⟩
    · simp -implicitDefEqProofs only [go_sem]
      simp only [tick]
      simp -implicitDefEqProofs only [go_sem]
      refine ⟨some [999999], by decide +kernel, ?_⟩
      simp -implicitDefEqProofs only [go_sem]
      have ha := ex_at 0 h
      refine callXQ [] (std_IndexRune ⟨#[46, 105, 35]⟩ (exS[0]'h).toNat (by omega) (by omega)) (by simp -implicitDefEqProofs only [go_sem]) ?_
      simp -implicitDefEqProofs only [go_sem]
      refine ⟨by unfold Room; omega, .inr ?_⟩
      have := ex_step ha.2
      simpa using this.symm
    · simp -implicitDefEqProofs only [go_sem]
      simp only [tick]
      simp -implicitDefEqProofs only [go_sem]
      refine ⟨some [999999, 102], by decide +kernel, ?_⟩
      simp -implicitDefEqProofs only [go_sem]
      have ha := ex_at pos h
      refine callXQ [] (std_IndexRune ⟨#[46, 105, 35]⟩ (exS[pos]'h).toNat (by omega) (by omega)) (by simp -implicitDefEqProofs only [go_sem]) ?_
      simp -implicitDefEqProofs only [go_sem]
      have hlen : exL.length = 20 := rfl
      have h20 : exS.size = 20 := rfl
      have hmin : min pos exL.length = pos := by omega
      rw [hmin]
      refine ⟨by unfold Room; omega, .inr ⟨rfl, ?_⟩⟩
      have := ex_step ha.2
      exact this.symm
  · rintro ib _ _ ⟨rfl, ⟨h, rfl⟩ | ⟨hp, rfl⟩⟩
    · exact absurd h (by decide)
    · simp -implicitDefEqProofs only [go_sem]
      refine W.T mixed ?_
      simp -implicitDefEqProofs only [go_sem]
      exact ⟨⟨rfl, rfl, rfl⟩, rfl⟩
end Go.Abs
