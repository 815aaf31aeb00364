/- Commands of the console: what they do to an expedition. -/
import Derived.Test.YthobmgkagcampaaGreatDoorAShelf
import Derived.Test.YthobmgkagcampaaGreatDoorALand
import Derived.Test.YthobmgkagcampaaGreatDoorAStpY
import Derived.Test.YthobmgkagcampaaGreatDoorAEvt
namespace Go.Abs
open Go.RowKit Go.Proofs
set_option linter.all false
set_option maxRecDepth 100000
set_option maxHeartbeats 4000000
theorem SC.of_TW {P : Program} {f : FuncId} {fn : Func} {c : Code} {args : List AV} {res : AV} {rs : List ResultVar} (hf : P.funcs[f]? = some fn) (hn : (fn.name == "runtime.NumGoroutine") = false) (hb : fn.body = some c)
  (hr : fn.results = rs.toArray) (n : Nat) (hnt : fn.ntmps = n) (hsz : args.length <= n) (h : T P 0 n c (finW P 0 rs res []) ⟨ofT (slotsOf 0 args), M0⟩) : SC P f args [] res [] := by
 subst hnt
 rw [<- ofM_M0] at h
 exact SC.of_T hf hn hb hsz (T.mono h (finW_S (by rw [hr])))
def exS : ByteArray := ⟨#[46, 46, 46, 46, 46, 46, 35, 35, 105, 46, 46, 46, 46, 105, 46, 46, 35, 46, 46, 46]⟩
def exL : List Int := [0, 0, 0, 0, 0, 0, 2, 2, 1, 0, 0, 0, 0, 1, 0, 0, 2, 0, 0, 0]
def exZ : DLand := ⟨5, 4, exL⟩
theorem ex_at (pos : Nat) (h : pos < exS.size) : (exS[pos]'h).toNat < 128 /\ exL[pos]? = some (Lib.indexByte [46, 105, 35] ((((exS[pos]'h).toNat : Nat) : Int).toNat.toUInt8)) := by
 have key : ∀ i : Fin 20, (exS[i.val]'(show i.val < 20 from i.isLt)).toNat < 128 /\ exL[i.val]? = some (Lib.indexByte [46, 105, 35] ((((exS[i.val]'(show i.val < 20 from i.isLt)).toNat : Nat) : Int).toNat.toUInt8)) := by decide +kernel
 exact key ⟨pos, h⟩
theorem ex_step {pos : Nat} {v : Int} (h : exL[pos]? = some v) : (exL.take (pos + 1)).map intRow = (exL.take pos).map intRow ++ [[.int .i64 v]] := by
 rw [List.take_add_one, h]; simp [intRow]
theorem std_IndexRune (s : ByteArray) (r : Int) (h0 : 0 <= r) (h1 : r < 128) : SC Tryz.prog 36 [.at (.v (.string s)), .at (.v (.int .i32 r))] [] (.at (.v (.int .i64 (Lib.indexByte s.data.toList r.toNat.toUInt8)))) [] :=
 SC.indexRune (f := 36) ⟨_, Tryz.func36, by kernel_rfl, by kernel_rfl⟩ rfl fun w => Tryz.strings_IndexRune_ascii s r w h0 h1
theorem impl_ExampleLand : SC Tryz.prog 11 [] [] (.ag exZ.frs) [] := by
 refine SC.of_TW Tryz.func11 (by kernel_rfl) rfl Tryz.results11 _ Tryz.ntmps11 (by simp) ?_
 refine T.seq (W.T mixed ?_)
 simp -implicitDefEqProofs only [go_sem]
 refine T.seq (W.T mixed ?_)
 simp -implicitDefEqProofs only [go_sem]
 refine T.seq ?_
 refine T.rangeW (s := exS) mixed Tryz.underlying9 (by decide) (by decide) (by decide) (by decide) [0, 1] (by decide) (fun pos vs es => vs = [.at (.bx 100 0 0), .at (.bx 101 0 0)] /\ ((pos = 0 /\ es = [.box 0 [.v (.int .i64 0), .v (.int .i64 0), .nil], .box 0 [.v (.int .i64 5), .v (.int .i64 4), .nil]]) \/ (0 < pos /\ es = [.box 0 [.v (.int .i64 0), .v (.int .i64 0), .nil], .box 0 [.v (.int .i64 5), .v (.int .i64 4), .ow 102 0 1 pos], .arr 0 1 ((exL.take pos).map intRow)]))) ?_ ?_ ?_
 ·simp -implicitDefEqProofs only [go_sem]
 ·rintro ib pos _ _ h ⟨rfl, ⟨rfl, rfl⟩ | ⟨hp, rfl⟩⟩
  ·simp -implicitDefEqProofs only [go_sem]
   simp only [tick]
   simp -implicitDefEqProofs only [go_sem]
   refine ⟨some [999999], by decide +kernel, ?_⟩
   simp -implicitDefEqProofs only [go_sem]
   have ha := ex_at 0 h
   refine callXQ [] (std_IndexRune ⟨#[46, 105, 35]⟩ (exS[0]'h).toNat (by omega) (by omega)) (by simp -implicitDefEqProofs only [go_sem]) ?_
   simp -implicitDefEqProofs only [go_sem]
   refine ⟨by unfold Room; omega, .inr ?_⟩
   have := ex_step ha.2
   simpa using this.symm
  ·simp -implicitDefEqProofs only [go_sem]
   simp only [tick]
   simp -implicitDefEqProofs only [go_sem]
   refine ⟨some [999999, 102], by decide +kernel, ?_⟩
   simp -implicitDefEqProofs only [go_sem]
   have ha := ex_at pos h
   refine callXQ [] (std_IndexRune ⟨#[46, 105, 35]⟩ (exS[pos]'h).toNat (by omega) (by omega)) (by simp -implicitDefEqProofs only [go_sem]) ?_
   simp -implicitDefEqProofs only [go_sem]
   have hlen : exL.length = 20 := rfl
   have h20 : exS.size = 20 := rfl
   have hmin : min pos exL.length = pos := by omega
   rw [hmin]
   refine ⟨by unfold Room; omega, .inr ⟨rfl, ?_⟩⟩
   have := ex_step ha.2
   exact this.symm
 ·rintro ib _ _ ⟨rfl, ⟨h, rfl⟩ | ⟨hp, rfl⟩⟩
  ·exact absurd h (by decide)
  ·simp -implicitDefEqProofs only [go_sem]
   refine W.T mixed ?_
   simp -implicitDefEqProofs only [go_sem]
   exact ⟨⟨rfl, rfl, rfl⟩, rfl⟩
end Go.Abs
namespace Go.Abs
open Go.RowKit Go.Proofs
set_option linter.all false
set_option maxRecDepth 100000
set_option maxHeartbeats 4000000
def crewC : List DMember := [⟨1, 20, 2, false⟩, ⟨2, 12, 1, false⟩]
noncomputable def newC (a b : Int) : DTrek := newTrekZ exZ 0 ⟨a, b⟩ crewC
def newP (a b : Int) : Prop := trekP (newT exZ 0 ⟨a, b⟩ crewC)
noncomputable instance (a b : Int) : Decidable (newP a b) := Classical.propDecidable _
def evtW (w : ByteArray) (n : List Int) : DEvent :=
 if w = (⟨#[103, 105, 118, 101]⟩ : ByteArray) then ⟨1, n.getD 0 0, false⟩
 else if w = (⟨#[103, 111]⟩ : ByteArray) then ⟨2, n.getD 0 0, decide (n.getD 1 0 = 1)⟩
 else if w = (⟨#[119, 97, 105, 116]⟩ : ByteArray) then ⟨3, 0, decide (n.getD 0 0 = 1)⟩
 else if w = (⟨#[104, 111, 109, 101]⟩ : ByteArray) then ⟨4, 0, decide (n.getD 0 0 = 1)⟩
 else if w = (⟨#[108, 97, 121]⟩ : ByteArray) then ⟨5, n.getD 0 0, false⟩
 else ⟨6, n.getD 0 0, false⟩
noncomputable def stepZ (t : DTrek) (w : ByteArray) (n : List Int) : DTrek × Bool :=
 if w = (⟨#[110, 101, 119]⟩ : ByteArray) then (newC (n.getD 0 0) (n.getD 1 0), decide (newP (n.getD 0 0) (n.getD 1 0))) else (applyZ t (evtW w n), decide (applyP t (evtW w n)))
section
variable {t : DTrek} {w : ByteArray} {n : List Int}
theorem step_new (h : w = (⟨#[110, 101, 119]⟩ : ByteArray)) : stepZ t w n = (newC (n.getD 0 0) (n.getD 1 0), decide (newP (n.getD 0 0) (n.getD 1 0))) := if_pos h
theorem step_evt (h : w ≠ (⟨#[110, 101, 119]⟩ : ByteArray)) : stepZ t w n = (applyZ t (evtW w n), decide (applyP t (evtW w n))) := if_neg h
theorem evt_give (h : w = (⟨#[103, 105, 118, 101]⟩ : ByteArray)) : evtW w n = ⟨1, n.getD 0 0, false⟩ := if_pos h
theorem evt_go (h1 : w ≠ (⟨#[103, 105, 118, 101]⟩ : ByteArray)) (h : w = (⟨#[103, 111]⟩ : ByteArray)) : evtW w n = ⟨2, n.getD 0 0, decide (n.getD 1 0 = 1)⟩ := by rw [evtW, if_neg h1, if_pos h]
theorem evt_wait (h1 : w ≠ (⟨#[103, 105, 118, 101]⟩ : ByteArray)) (h2 : w ≠ (⟨#[103, 111]⟩ : ByteArray)) (h : w = (⟨#[119, 97, 105, 116]⟩ : ByteArray)) : evtW w n = ⟨3, 0, decide (n.getD 0 0 = 1)⟩ := by rw [evtW, if_neg h1, if_neg h2, if_pos h]
theorem evt_home (h1 : w ≠ (⟨#[103, 105, 118, 101]⟩ : ByteArray)) (h2 : w ≠ (⟨#[103, 111]⟩ : ByteArray)) (h3 : w ≠ (⟨#[119, 97, 105, 116]⟩ : ByteArray)) (h : w = (⟨#[104, 111, 109, 101]⟩ : ByteArray)) : evtW w n = ⟨4, 0, decide (n.getD 0 0 = 1)⟩ := by rw [evtW, if_neg h1, if_neg h2, if_neg h3, if_pos h]
theorem evt_lay (h1 : w ≠ (⟨#[103, 105, 118, 101]⟩ : ByteArray)) (h2 : w ≠ (⟨#[103, 111]⟩ : ByteArray)) (h3 : w ≠ (⟨#[119, 97, 105, 116]⟩ : ByteArray)) (h4 : w ≠ (⟨#[104, 111, 109, 101]⟩ : ByteArray)) (h : w = (⟨#[108, 97, 121]⟩ : ByteArray)) : evtW w n = ⟨5, n.getD 0 0, false⟩ := by rw [evtW, if_neg h1, if_neg h2, if_neg h3, if_neg h4, if_pos h]
theorem evt_take (h1 : w ≠ (⟨#[103, 105, 118, 101]⟩ : ByteArray)) (h2 : w ≠ (⟨#[103, 111]⟩ : ByteArray)) (h3 : w ≠ (⟨#[119, 97, 105, 116]⟩ : ByteArray)) (h4 : w ≠ (⟨#[104, 111, 109, 101]⟩ : ByteArray)) (h5 : w ≠ (⟨#[108, 97, 121]⟩ : ByteArray)) : evtW w n = ⟨6, n.getD 0 0, false⟩ := by rw [evtW, if_neg h1, if_neg h2, if_neg h3, if_neg h4, if_neg h5]
end
theorem crew_rows : List.map DMember.row crewC = [[.int .i64 1, .int .i64 20, .int .i64 2, .bool false], [.int .i64 2, .int .i64 12, .int .i64 1, .bool false]] := rfl
attribute [go_sem] crew_rows
theorem getD_of {l : List Int} {i : Nat} {c : Int} (h : l[i]? = some c) : l.getD i 0 = c := by rw [List.getD_eq_getElem?_getD, h]; rfl
theorem impl_step (t : DTrek) (w : ByteArray) (n : List Int) (h : t.Sane) (hn : ∀ c ∈ n, I64 c) (h1 : 1 <= n.length) (hl : n.length <= 1048577) (h2 : w = (⟨#[110, 101, 119]⟩ : ByteArray) \/ w = (⟨#[103, 111]⟩ : ByteArray) -> 2 <= n.length) :
  SC Tryz.prog 32 [.ag t.ats, .at (.v (.string w)), .at (.im 1 (n.map intRow))] [] (.tp [.ag (stepZ t w n).1.frs, .at (.v (.bool ((stepZ t w n).2)))]) [] := by
 refine SC.of_W mixed Tryz.func32 (by kernel_rfl) rfl Tryz.results32 _ Tryz.ntmps32 (by simp) ?_
 simp -implicitDefEqProofs only [go_sem]
 refine ⟨fun e0 => ?_, fun e0 => ⟨fun e1 => ?_, fun e1 => ⟨fun e2 => ?_, fun e2 => ⟨fun e3 => ?_, fun e3 => ⟨fun e4 => ?_, fun e4 => ⟨fun e5 => ?_, fun e5 => ?_⟩⟩⟩⟩⟩⟩
 ·rw [step_new (tl_t e0)]
  have hlen := h2 (.inl (tl_t e0))
  refine ⟨some [1096], by decide +kernel, ?_⟩
  simp -implicitDefEqProofs only [go_sem]
  refine callXQ [] ((impl_ExampleLand).frozen) (by simp -implicitDefEqProofs only [go_sem]) ?_
  simp -implicitDefEqProofs only [go_sem]
  refine ⟨by omega, fun c hc => ⟨by omega, fun d hd => ?_⟩⟩
  have g0 : n.getD 0 0 = c := getD_of (i := 0) hc
  have g1 : n.getD 1 0 = d := getD_of (i := 1) hd
  have hP : decide (newP c d) = decide (trekP (newT exZ 0 ⟨c, d⟩ crewC)) := decide_eq_decide.2 Iff.rfl
  rw [g0, g1, hP, newC]
  refine callXQ [1336] (impl_NewTrek exZ 0 ⟨c, d⟩ crewC (by decide) (by decide)) (by simp -implicitDefEqProofs only [go_sem]) ?_
  simp -implicitDefEqProofs only [go_sem]
  skip
 ·rw [step_evt (tl_f e0), evt_give (tl_t e1)]
  refine ⟨some [1096], by decide +kernel, ?_⟩
  simp -implicitDefEqProofs only [go_sem]
  refine ⟨by omega, fun c hc => ?_⟩
  have g0 : n.getD 0 0 = c := getD_of (i := 0) hc
  rw [g0]
  simp only [apply_1 (t := t) (e := (⟨1, c, false⟩ : DEvent)) rfl]
  refine callXQ [] (impl_StepGive t c h.fit) (by simp -implicitDefEqProofs only [go_sem]) ?_
  simp -implicitDefEqProofs only [go_sem]
 ·rw [step_evt (tl_f e0), evt_go (tl_f e1) (tl_t e2)]
  have hlen := h2 (.inr (tl_t e2))
  refine ⟨some [1096], by decide +kernel, ?_⟩
  simp -implicitDefEqProofs only [go_sem]
  refine ⟨by omega, fun c hc => ⟨by omega, fun d hd => ?_⟩⟩
  have g0 : n.getD 0 0 = c := getD_of (i := 0) hc
  have g1 : n.getD 1 0 = d := getD_of (i := 1) hd
  rw [g0, g1]
  simp only [apply_2 (t := t) (e := (⟨2, c, decide (d = 1)⟩ : DEvent)) rfl]
  refine callXQ [] (impl_StepGo t c (decide (d = 1)) h (hn c (List.mem_of_getElem? hc))) (by simp -implicitDefEqProofs only [go_sem]) ?_
  simp -implicitDefEqProofs only [go_sem]
 ·rw [step_evt (tl_f e0), evt_wait (tl_f e1) (tl_f e2) (tl_t e3)]
  refine ⟨some [1096], by decide +kernel, ?_⟩
  simp -implicitDefEqProofs only [go_sem]
  refine ⟨by omega, fun c hc => ?_⟩
  have g0 : n.getD 0 0 = c := getD_of (i := 0) hc
  rw [g0]
  simp only [apply_3 (t := t) (e := (⟨3, 0, decide (c = 1)⟩ : DEvent)) rfl]
  refine callXQ [] (impl_StepWait t (decide (c = 1)) h) (by simp -implicitDefEqProofs only [go_sem]) ?_
  simp -implicitDefEqProofs only [go_sem]
 ·rw [step_evt (tl_f e0), evt_home (tl_f e1) (tl_f e2) (tl_f e3) (tl_t e4)]
  refine ⟨some [1096], by decide +kernel, ?_⟩
  simp -implicitDefEqProofs only [go_sem]
  refine ⟨by omega, fun c hc => ?_⟩
  have g0 : n.getD 0 0 = c := getD_of (i := 0) hc
  rw [g0]
  simp only [apply_4 (t := t) (e := (⟨4, 0, decide (c = 1)⟩ : DEvent)) rfl]
  refine callXQ [] (impl_StepHome t (decide (c = 1)) h) (by simp -implicitDefEqProofs only [go_sem]) ?_
  simp -implicitDefEqProofs only [go_sem]
 ·rw [step_evt (tl_f e0), evt_lay (tl_f e1) (tl_f e2) (tl_f e3) (tl_f e4) (tl_t e5)]
  refine ⟨some [1096], by decide +kernel, ?_⟩
  simp -implicitDefEqProofs only [go_sem]
  refine ⟨by omega, fun c hc => ?_⟩
  have g0 : n.getD 0 0 = c := getD_of (i := 0) hc
  rw [g0]
  simp only [apply_5 (t := t) (e := (⟨5, c, false⟩ : DEvent)) rfl]
  refine callXQ [] (impl_StepLay t c h.fit) (by simp -implicitDefEqProofs only [go_sem]) ?_
  simp -implicitDefEqProofs only [go_sem]
 ·rw [step_evt (tl_f e0), evt_take (tl_f e1) (tl_f e2) (tl_f e3) (tl_f e4) (tl_f e5)]
  refine ⟨some [1096], by decide +kernel, ?_⟩
  simp -implicitDefEqProofs only [go_sem]
  refine ⟨by omega, fun c hc => ?_⟩
  have g0 : n.getD 0 0 = c := getD_of (i := 0) hc
  rw [g0]
  simp only [apply_6 (t := t) (e := (⟨6, c, false⟩ : DEvent)) rfl]
  refine callXQ [] (impl_StepTake t c h.fit) (by simp -implicitDefEqProofs only [go_sem]) ?_
  simp -implicitDefEqProofs only [go_sem]
end Go.Abs
