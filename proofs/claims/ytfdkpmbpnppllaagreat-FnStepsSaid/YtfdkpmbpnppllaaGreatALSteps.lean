/- The law FnSteps: its walk. -/
import Derived.Test.YtfdkpmbpnppllaaGreatADrawS
import Derived.Test.YtfdkpmbpnppllaaGreatAEqT
import Derived.Test.YtfdkpmbpnppllaaGreatAHalt
namespace Go.Abs
open Go.RowKit Go.Proofs
set_option linter.unusedVariables false
set_option linter.unusedSimpArgs false
set_option maxRecDepth 100000
set_option maxHeartbeats 4000000

theorem laws_big (code : List Int) (h : code.length ≤ maxLen) : SC Tryz.prog 9 [.at (.im 1 (code.map byteRow))] [] (.at (.v (.bool (decide ((1048576 : Int) < code.length))))) [] := by
  refine SC.of_V mixed Tryz.func9 (by kernel_rfl) rfl Tryz.results9 _ Tryz.ntmps9 (by simp) ?_
  simp -implicitDefEqProofs only [go_sem]
theorem go_Give (a : DTrek) (n : Int) (h : a.Sane) : ∃ (b : DTrek) (X : Bool), (SC Tryz.prog 11 [.ag a.ats, .at (.v (.int .i64 n))] [] (.tp [.ag b.ats, .at (.v (.bool X))]) []) ∧ b.Fit ∧ (X = true → trekP b ∧ b.party.food = IntKind.i64.wrap (a.party.food + n)) ∧ (X = false → b = a) :=
  ⟨giveZ a n, decide (giveP a n), (impl_StepGive a n h.fit).frozen, giveZ_fit h.fit, fun hX => by
    have hp := of_decide_eq_true hX
    rw [giveZ, if_pos hp]; exact ⟨hp.2.2.2, rfl⟩, fun hX => if_neg (of_decide_eq_false hX)⟩
theorem day_Has {t : DTrek} {p : DParty} {l : List DDepot} {Q : Prop} : (dayP t p l Q → trekP (dayR t p l Q) ∧ (dayR t p l Q).day = IntKind.i64.wrap (t.day + 1) ∧ (dayR t p l Q).party = p) ∧ (¬ dayP t p l Q → dayR t p l Q = t) := by
  refine ⟨fun h => ?_, fun h => if_neg h⟩
  rw [dayR, if_pos h]; exact ⟨h.2.2, rfl, rfl⟩
theorem go_Go (a : DTrek) (to : Int) (s : Bool) (h : a.Sane) (hto : I64 to) : ∃ (b : DTrek) (X : Bool), (SC Tryz.prog 13 [.ag a.ats, .at (.v (.int .i64 to)), .at (.v (.bool s))] [] (.tp [.ag b.ats, .at (.v (.bool X))]) []) ∧ b.Fit ∧ (X = true → trekP b ∧ b.day = IntKind.i64.wrap (a.day + 1)) ∧ (X = false → b = a) :=
  ⟨_, _, (impl_StepGo a to s h hto).frozen, goR_fit h hto, fun hX => ⟨(day_Has.1 (of_decide_eq_true hX)).1, (day_Has.1 (of_decide_eq_true hX)).2.1⟩, fun hX => day_Has.2 (of_decide_eq_false hX)⟩
theorem go_Wait (a : DTrek) (s : Bool) (h : a.Sane) : ∃ (b : DTrek) (X : Bool), (SC Tryz.prog 15 [.ag a.ats, .at (.v (.bool s))] [] (.tp [.ag b.ats, .at (.v (.bool X))]) []) ∧ b.Fit ∧ (X = true → trekP b ∧ b.party.at_ = a.party.at_ ∧ b.day = IntKind.i64.wrap (a.day + 1)) ∧ (X = false → b = a) :=
  ⟨_, _, (impl_StepWait a s h).frozen, waitR_fit h, fun hX => by
    have hp := of_decide_eq_true hX
    have hd := day_Has.1 hp
    refine ⟨hd.1, ?_, hd.2.1⟩
    rw [hd.2.2, waitStepZ, if_pos hp.1]; rfl, fun hX => day_Has.2 (of_decide_eq_false hX)⟩
theorem go_Home (a : DTrek) (s : Bool) (h : a.Sane) : ∃ (b : DTrek) (X : Bool), (SC Tryz.prog 16 [.ag a.ats, .at (.v (.bool s))] [] (.tp [.ag b.ats, .at (.v (.bool X))]) []) ∧ b.Fit ∧ (X = true → trekP b ∧ b.day = IntKind.i64.wrap (a.day + 1)) ∧ (X = false → b = a) :=
  ⟨_, _, (impl_StepHome a s h).frozen, homeR_fit h, fun hX => ⟨(day_Has.1 (of_decide_eq_true hX)).1, (day_Has.1 (of_decide_eq_true hX)).2.1⟩, fun hX => day_Has.2 (of_decide_eq_false hX)⟩
theorem go_Lay (a : DTrek) (n : Int) (h : a.Sane) : ∃ (b : DTrek) (X : Bool), (SC Tryz.prog 18 [.ag a.ats, .at (.v (.int .i64 n))] [] (.tp [.ag b.ats, .at (.v (.bool X))]) []) ∧ b.Fit ∧ (X = true → trekP b ∧ b.party.food = IntKind.i64.wrap (a.party.food - n) ∧ b.day = a.day) ∧ (X = false → b = a) :=
  ⟨_, _, (impl_StepLay a n h.fit).frozen, layR_fit h.fit, fun hX => by
    have hp := of_decide_eq_true hX
    rw [putR, if_pos hp]
    refine ⟨hp.2.2, ?_, rfl⟩
    have hb := hp.1.1.1.food
    have hn := hp.1.1.2
    show (layStepZ _ _ _ _ _ _).food = _
    rw [layStepZ, if_pos hp.1, wrap64 (by omega) (by omega)], fun hX => if_neg (of_decide_eq_false hX)⟩
theorem go_Take (a : DTrek) (n : Int) (h : a.Sane) : ∃ (b : DTrek) (X : Bool), (SC Tryz.prog 20 [.ag a.ats, .at (.v (.int .i64 n))] [] (.tp [.ag b.ats, .at (.v (.bool X))]) []) ∧ b.Fit ∧ (X = true → trekP b ∧ b.party.food = IntKind.i64.wrap (a.party.food + n)) ∧ (X = false → b = a) :=
  ⟨_, _, (impl_StepTake a n h.fit).frozen, takeR_fit h.fit, fun hX => by
    have hp := of_decide_eq_true hX
    rw [putR, if_pos hp]
    refine ⟨hp.2.2, ?_⟩
    have hb := hp.1.2.1.food
    have hn := hp.1.1.2
    have hd := foodAt_bnd hp.1.1.1.food a.party.at_
    show (takeStepZ _ _ _ _ _ _).food = _
    rw [takeStepZ, if_pos hp.1, wrap64 (by omega) (by omega)], fun hX => if_neg (of_decide_eq_false hX)⟩
theorem law_Steps (code : List Int) (code_max : code.length ≤ maxLen) : SC Tryz.prog 3 [.at (.im 1 (code.map byteRow))] [] (.at (.v (.bool true))) [] := by
  refine SC.of_VJ mixed Tryz.func3 (by kernel_rfl) rfl Tryz.results3 _ Tryz.ntmps3 (by simp) ?_
  simp -implicitDefEqProofs only [go_sem]
  refine T.stepJ mixed ?_
  simp -implicitDefEqProofs only [go_sem]
  refine callX [] (laws_big code code_max) (by simp -implicitDefEqProofs only [go_sem]) ?_
  simp -implicitDefEqProofs only [go_sem]
  intro hbig
  have hl : code.length ≤ 1099511627776 := by omega
  have hso := so_ok hl
  obtain ⟨a, n1, cA, hA⟩ : ∃ (a : DTrek) (n : Int), (SC Tryz.prog 10 [.at (.im 1 (code.map byteRow))] [] (.tp [.ag a.ats, .at (.v (.int .i64 n))]) []) ∧ a.Sane := ⟨_, _, spec_DrawStepGive code hl, (sg_ok hl).1⟩
  obtain ⟨b, X1, cB, fB, tB, nB⟩ := go_Give a n1 hA
  obtain ⟨c, to, s, cC, hC, hto⟩ : ∃ (c : DTrek) (to : Int) (s : Bool), (SC Tryz.prog 12 [.at (.im 1 (code.map byteRow))] [] (.tp [.ag c.ats, .at (.v (.int .i64 to)), .at (.v (.bool s))]) []) ∧ c.Sane ∧ I64 to := ⟨_, _, _, spec_DrawStepGo code hl, (d34_ok hl).1, hso.1⟩
  obtain ⟨d, X2, cD, fD, tD, nD⟩ := go_Go c to s hC hto
  obtain ⟨e, u, cE, hE⟩ : ∃ (e : DTrek) (u : Bool), (SC Tryz.prog 14 [.at (.im 1 (code.map byteRow))] [] (.tp [.ag e.ats, .at (.v (.bool u))]) []) ∧ e.Sane := ⟨_, _, spec_DrawStepWait code hl, (d34_ok hl).1⟩
  obtain ⟨f, X3, cF, fF, tF, nF⟩ := go_Wait e u hE
  obtain ⟨g, X4, cG, fG, tG, nG⟩ := go_Home e u hE
  obtain ⟨h, n5, cH, hH⟩ : ∃ (h : DTrek) (n : Int), (SC Tryz.prog 17 [.at (.im 1 (code.map byteRow))] [] (.tp [.ag h.ats, .at (.v (.int .i64 n))]) []) ∧ h.Sane := ⟨_, _, spec_DrawStepLay code hl, (d34_ok hl).1⟩
  obtain ⟨i, X5, cI, fI, tI, nI⟩ := go_Lay h n5 hH
  obtain ⟨j, n6, cJ, hJ⟩ : ∃ (j : DTrek) (n : Int), (SC Tryz.prog 19 [.at (.im 1 (code.map byteRow))] [] (.tp [.ag j.ats, .at (.v (.int .i64 n))]) []) ∧ j.Sane := ⟨_, _, spec_DrawStepTake code hl, (d34_ok hl).1⟩
  obtain ⟨l, X6, cL, fL, tL, nL⟩ := go_Take j n6 hJ
  refine callX [] (cA) (by simp -implicitDefEqProofs only [go_sem]) ?_
  simp -implicitDefEqProofs only [go_sem]
  refine callX [] (cB) (by simp -implicitDefEqProofs only [go_sem]) ?_
  simp -implicitDefEqProofs only [go_sem]
  refine callX [] (cC) (by simp -implicitDefEqProofs only [go_sem]) ?_
  simp -implicitDefEqProofs only [go_sem]
  refine callX [] (cD) (by simp -implicitDefEqProofs only [go_sem]) ?_
  simp -implicitDefEqProofs only [go_sem]
  refine callX [] (cE) (by simp -implicitDefEqProofs only [go_sem]) ?_
  simp -implicitDefEqProofs only [go_sem]
  refine callX [] (cF) (by simp -implicitDefEqProofs only [go_sem]) ?_
  simp -implicitDefEqProofs only [go_sem]
  refine callX [] (cG) (by simp -implicitDefEqProofs only [go_sem]) ?_
  simp -implicitDefEqProofs only [go_sem]
  refine callX [] (cH) (by simp -implicitDefEqProofs only [go_sem]) ?_
  simp -implicitDefEqProofs only [go_sem]
  refine callX [] (cI) (by simp -implicitDefEqProofs only [go_sem]) ?_
  simp -implicitDefEqProofs only [go_sem]
  refine callX [] (cJ) (by simp -implicitDefEqProofs only [go_sem]) ?_
  simp -implicitDefEqProofs only [go_sem]
  refine callX [] (cL) (by simp -implicitDefEqProofs only [go_sem]) ?_
  simp -implicitDefEqProofs only [go_sem]
  refine T.ifR mixed ?_
  refine TR.join 17 [3, 4, 5, 6, 7, 10, 11, 12, 14, 15, 16, 17, 18, 19, 20, 21, 22, 23, 24, 25, 107] (fun vs es => ∃ (_ : Unit), vs = [.at (.bx 100 0 0), .at (.v (.int .i64 n1)), .at (.bx 101 0 0), .at (.v (.bool X1)), .at (.bx 102 0 0), .at (.bx 103 0 0), .at (.v (.bool X2)), .at (.bx 104 0 0), .at (.bx 105 0 0), .at (.v (.bool X3)), .at (.bx 106 0 0), .at (.v (.bool X4)), .at (.bx 107 0 0), .at (.v (.int .i64 n5)), .at (.bx 108 0 0), .at (.v (.bool X5)), .at (.bx 109 0 0), .at (.v (.int .i64 n6)), .at (.bx 110 0 0), .at (.v (.bool X6)), .at (.v (.bool false))] ∧ es = [.box 0 a.ats, .box 0 b.ats, .box 0 c.ats, .box 0 d.ats, .box 0 e.ats, .box 0 f.ats, .box 0 g.ats, .box 0 h.ats, .box 0 i.ats, .box 0 j.ats, .box 0 l.ats] ∧ True) ?_ ?_
  · simp -implicitDefEqProofs only [go_sem, List.take_succ_cons, List.take_zero, List.drop_succ_cons, List.drop_zero, List.toList_toArray]
    refine ⟨fun x => ?_, fun x => ?_⟩
    · have tt := tB x
      refine callX [] (impl_IsTrek b fB) (by simp -implicitDefEqProofs only [go_sem]) ?_
      simp -implicitDefEqProofs only [go_sem]
      refine ⟨fun _ => ?_, fun k => absurd tt.1 k⟩
      exact ⟨(), tt.2⟩
    · exact ⟨(), trivial⟩
  rintro _ _ ⟨_, rfl, rfl, _⟩
  refine TR.join 16 [3, 4, 5, 6, 7, 10, 11, 12, 14, 15, 16, 17, 18, 19, 20, 21, 22, 23, 24, 25, 123] (fun vs es => ∃ (_ : Unit), vs = [.at (.bx 100 0 0), .at (.v (.int .i64 n1)), .at (.bx 101 0 0), .at (.v (.bool X1)), .at (.bx 102 0 0), .at (.bx 103 0 0), .at (.v (.bool X2)), .at (.bx 104 0 0), .at (.bx 105 0 0), .at (.v (.bool X3)), .at (.bx 106 0 0), .at (.v (.bool X4)), .at (.bx 107 0 0), .at (.v (.int .i64 n5)), .at (.bx 108 0 0), .at (.v (.bool X5)), .at (.bx 109 0 0), .at (.v (.int .i64 n6)), .at (.bx 110 0 0), .at (.v (.bool X6)), .at (.v (.bool false))] ∧ es = [.box 0 a.ats, .box 0 b.ats, .box 0 c.ats, .box 0 d.ats, .box 0 e.ats, .box 0 f.ats, .box 0 g.ats, .box 0 h.ats, .box 0 i.ats, .box 0 j.ats, .box 0 l.ats] ∧ True) ?_ ?_
  · simp -implicitDefEqProofs only [go_sem, List.take_succ_cons, List.take_zero, List.drop_succ_cons, List.drop_zero, List.toList_toArray]
    refine ⟨fun x => ?_, fun x => ?_⟩
    · have tt := tD x
      refine callX [] (impl_IsTrek d fD) (by simp -implicitDefEqProofs only [go_sem]) ?_
      simp -implicitDefEqProofs only [go_sem]
      refine ⟨fun _ => ?_, fun k => absurd tt.1 k⟩
      exact ⟨(), tt.2⟩
    · exact ⟨(), trivial⟩
  rintro _ _ ⟨_, rfl, rfl, _⟩
  refine TR.join 25 [3, 4, 5, 6, 7, 10, 11, 12, 14, 15, 16, 17, 18, 19, 20, 21, 22, 23, 24, 25, 148] (fun vs es => ∃ (_ : Unit), vs = [.at (.bx 100 0 0), .at (.v (.int .i64 n1)), .at (.bx 101 0 0), .at (.v (.bool X1)), .at (.bx 102 0 0), .at (.bx 103 0 0), .at (.v (.bool X2)), .at (.bx 104 0 0), .at (.bx 105 0 0), .at (.v (.bool X3)), .at (.bx 106 0 0), .at (.v (.bool X4)), .at (.bx 107 0 0), .at (.v (.int .i64 n5)), .at (.bx 108 0 0), .at (.v (.bool X5)), .at (.bx 109 0 0), .at (.v (.int .i64 n6)), .at (.bx 110 0 0), .at (.v (.bool X6)), .at (.v (.bool false))] ∧ es = [.box 0 a.ats, .box 0 b.ats, .box 0 c.ats, .box 0 d.ats, .box 0 e.ats, .box 0 f.ats, .box 0 g.ats, .box 0 h.ats, .box 0 i.ats, .box 0 j.ats, .box 0 l.ats] ∧ True) ?_ ?_
  · simp -implicitDefEqProofs only [go_sem, List.take_succ_cons, List.take_zero, List.drop_succ_cons, List.drop_zero, List.toList_toArray]
    refine ⟨fun x => ?_, fun x => ?_⟩
    · have tt := tF x
      refine callX [] (impl_IsTrek f fF) (by simp -implicitDefEqProofs only [go_sem]) ?_
      simp -implicitDefEqProofs only [go_sem]
      refine ⟨fun _ => ?_, fun k => absurd tt.1 k⟩
      exact ⟨fun _ => ⟨(), tt.2.2⟩, fun k => absurd tt.2.1 k⟩
    · exact ⟨(), trivial⟩
  rintro _ _ ⟨_, rfl, rfl, _⟩
  refine TR.join 16 [3, 4, 5, 6, 7, 10, 11, 12, 14, 15, 16, 17, 18, 19, 20, 21, 22, 23, 24, 25, 164] (fun vs es => ∃ (_ : Unit), vs = [.at (.bx 100 0 0), .at (.v (.int .i64 n1)), .at (.bx 101 0 0), .at (.v (.bool X1)), .at (.bx 102 0 0), .at (.bx 103 0 0), .at (.v (.bool X2)), .at (.bx 104 0 0), .at (.bx 105 0 0), .at (.v (.bool X3)), .at (.bx 106 0 0), .at (.v (.bool X4)), .at (.bx 107 0 0), .at (.v (.int .i64 n5)), .at (.bx 108 0 0), .at (.v (.bool X5)), .at (.bx 109 0 0), .at (.v (.int .i64 n6)), .at (.bx 110 0 0), .at (.v (.bool X6)), .at (.v (.bool false))] ∧ es = [.box 0 a.ats, .box 0 b.ats, .box 0 c.ats, .box 0 d.ats, .box 0 e.ats, .box 0 f.ats, .box 0 g.ats, .box 0 h.ats, .box 0 i.ats, .box 0 j.ats, .box 0 l.ats] ∧ True) ?_ ?_
  · simp -implicitDefEqProofs only [go_sem, List.take_succ_cons, List.take_zero, List.drop_succ_cons, List.drop_zero, List.toList_toArray]
    refine ⟨fun x => ?_, fun x => ?_⟩
    · have tt := tG x
      refine callX [] (impl_IsTrek g fG) (by simp -implicitDefEqProofs only [go_sem]) ?_
      simp -implicitDefEqProofs only [go_sem]
      refine ⟨fun _ => ?_, fun k => absurd tt.1 k⟩
      exact ⟨(), tt.2⟩
    · exact ⟨(), trivial⟩
  rintro _ _ ⟨_, rfl, rfl, _⟩
  refine TR.join 26 [3, 4, 5, 6, 7, 10, 11, 12, 14, 15, 16, 17, 18, 19, 20, 21, 22, 23, 24, 25, 190] (fun vs es => ∃ (_ : Unit), vs = [.at (.bx 100 0 0), .at (.v (.int .i64 n1)), .at (.bx 101 0 0), .at (.v (.bool X1)), .at (.bx 102 0 0), .at (.bx 103 0 0), .at (.v (.bool X2)), .at (.bx 104 0 0), .at (.bx 105 0 0), .at (.v (.bool X3)), .at (.bx 106 0 0), .at (.v (.bool X4)), .at (.bx 107 0 0), .at (.v (.int .i64 n5)), .at (.bx 108 0 0), .at (.v (.bool X5)), .at (.bx 109 0 0), .at (.v (.int .i64 n6)), .at (.bx 110 0 0), .at (.v (.bool X6)), .at (.v (.bool false))] ∧ es = [.box 0 a.ats, .box 0 b.ats, .box 0 c.ats, .box 0 d.ats, .box 0 e.ats, .box 0 f.ats, .box 0 g.ats, .box 0 h.ats, .box 0 i.ats, .box 0 j.ats, .box 0 l.ats] ∧ True) ?_ ?_
  · simp -implicitDefEqProofs only [go_sem, List.take_succ_cons, List.take_zero, List.drop_succ_cons, List.drop_zero, List.toList_toArray]
    refine ⟨fun x => ?_, fun x => ?_⟩
    · have tt := tI x
      refine callX [] (impl_IsTrek i fI) (by simp -implicitDefEqProofs only [go_sem]) ?_
      simp -implicitDefEqProofs only [go_sem]
      refine ⟨fun _ => ?_, fun k => absurd tt.1 k⟩
      exact ⟨fun _ => ⟨(), tt.2.2⟩, fun k => absurd tt.2.1 k⟩
    · exact ⟨(), trivial⟩
  rintro _ _ ⟨_, rfl, rfl, _⟩
  refine TR.join 19 [3, 4, 5, 6, 7, 10, 11, 12, 14, 15, 16, 17, 18, 19, 20, 21, 22, 23, 24, 25, 209] (fun vs es => ∃ (_ : Unit), vs = [.at (.bx 100 0 0), .at (.v (.int .i64 n1)), .at (.bx 101 0 0), .at (.v (.bool X1)), .at (.bx 102 0 0), .at (.bx 103 0 0), .at (.v (.bool X2)), .at (.bx 104 0 0), .at (.bx 105 0 0), .at (.v (.bool X3)), .at (.bx 106 0 0), .at (.v (.bool X4)), .at (.bx 107 0 0), .at (.v (.int .i64 n5)), .at (.bx 108 0 0), .at (.v (.bool X5)), .at (.bx 109 0 0), .at (.v (.int .i64 n6)), .at (.bx 110 0 0), .at (.v (.bool X6)), .at (.v (.bool false))] ∧ es = [.box 0 a.ats, .box 0 b.ats, .box 0 c.ats, .box 0 d.ats, .box 0 e.ats, .box 0 f.ats, .box 0 g.ats, .box 0 h.ats, .box 0 i.ats, .box 0 j.ats, .box 0 l.ats] ∧ True) ?_ ?_
  · simp -implicitDefEqProofs only [go_sem, List.take_succ_cons, List.take_zero, List.drop_succ_cons, List.drop_zero, List.toList_toArray]
    refine ⟨fun x => ?_, fun x => ?_⟩
    · have tt := tL x
      refine callX [] (impl_IsTrek l fL) (by simp -implicitDefEqProofs only [go_sem]) ?_
      simp -implicitDefEqProofs only [go_sem]
      refine ⟨fun _ => ?_, fun k => absurd tt.1 k⟩
      exact ⟨(), tt.2⟩
    · exact ⟨(), trivial⟩
  rintro _ _ ⟨_, rfl, rfl, _⟩
  refine TR.rest ?_
  simp -implicitDefEqProofs only [go_sem, List.take_succ_cons, List.take_zero, List.drop_succ_cons, List.drop_zero, List.toList_toArray]
  refine T.ifR mixed ?_
  refine TR.join 20 [3, 4, 5, 6, 7, 10, 11, 12, 14, 15, 16, 17, 18, 19, 20, 21, 22, 23, 24, 25, 229] (fun vs es => ∃ (_ : Unit), vs = [.at (.bx 100 0 0), .at (.v (.int .i64 n1)), .at (.bx 101 0 0), .at (.v (.bool X1)), .at (.bx 102 0 0), .at (.bx 103 0 0), .at (.v (.bool X2)), .at (.bx 104 0 0), .at (.bx 105 0 0), .at (.v (.bool X3)), .at (.bx 106 0 0), .at (.v (.bool X4)), .at (.bx 107 0 0), .at (.v (.int .i64 n5)), .at (.bx 108 0 0), .at (.v (.bool X5)), .at (.bx 109 0 0), .at (.v (.int .i64 n6)), .at (.bx 110 0 0), .at (.v (.bool X6)), .at (.v (.bool false))] ∧ es = [.box 0 a.ats, .box 0 b.ats, .box 0 c.ats, .box 0 d.ats, .box 0 e.ats, .box 0 f.ats, .box 0 g.ats, .box 0 h.ats, .box 0 i.ats, .box 0 j.ats, .box 0 l.ats] ∧ True) ?_ ?_
  · simp -implicitDefEqProofs only [go_sem, List.take_succ_cons, List.take_zero, List.drop_succ_cons, List.drop_zero, List.toList_toArray]
    refine ⟨fun x2 => ⟨fun x4 => ?_, fun _ => ⟨(), trivial⟩⟩, fun x2 => ?_⟩
    · refine callX [] (impl_CanReturnNow d fD) (by simp -implicitDefEqProofs only [go_sem]) ?_
      simp -implicitDefEqProofs only [go_sem]
      refine ⟨fun p => ⟨fun _ => ?_, fun k => absurd (x2.symm.trans k) (by decide)⟩, fun p => ?_⟩
      · refine callX [] (impl_CanReturnNow g fG) (by simp -implicitDefEqProofs only [go_sem]) ?_
        simp -implicitDefEqProofs only [go_sem]
        exact ⟨fun k => ⟨(), Bool.eq_false_iff.2 fun x4 => k (tG x4).1.1⟩, fun _ => ⟨(), trivial⟩⟩
      · refine callX [] (impl_CanReturnNow g fG) (by simp -implicitDefEqProofs only [go_sem]) ?_
        simp -implicitDefEqProofs only [go_sem]
        exact ⟨fun k => ⟨(), Bool.eq_false_iff.2 fun x4 => k (tG x4).1.1⟩, fun _ => ⟨(), trivial⟩⟩
    · refine callX [] (impl_CanReturnNow d fD) (by simp -implicitDefEqProofs only [go_sem]) ?_
      simp -implicitDefEqProofs only [go_sem]
      refine ⟨fun p => absurd (tD x2).1.1 p, fun p => ?_⟩
      refine callX [] (impl_CanReturnNow g fG) (by simp -implicitDefEqProofs only [go_sem]) ?_
      simp -implicitDefEqProofs only [go_sem]
      exact ⟨fun k => ⟨(), Bool.eq_false_iff.2 fun x4 => k (tG x4).1.1⟩, fun _ => ⟨(), trivial⟩⟩
  rintro _ _ ⟨_, rfl, rfl, _⟩
  refine TR.rest ?_
  simp -implicitDefEqProofs only [go_sem, List.take_succ_cons, List.take_zero, List.drop_succ_cons, List.drop_zero, List.toList_toArray]
  refine T.seqR mixed ?_
  refine TR.join 6 [3, 4, 5, 6, 7, 10, 11, 12, 14, 15, 16, 17, 18, 19, 20, 21, 22, 23, 24, 25, 235] (fun vs es => ∃ (_ : Unit), vs = [.at (.bx 100 0 0), .at (.v (.int .i64 n1)), .at (.bx 101 0 0), .at (.v (.bool X1)), .at (.bx 102 0 0), .at (.bx 103 0 0), .at (.v (.bool X2)), .at (.bx 104 0 0), .at (.bx 105 0 0), .at (.v (.bool X3)), .at (.bx 106 0 0), .at (.v (.bool X4)), .at (.bx 107 0 0), .at (.v (.int .i64 n5)), .at (.bx 108 0 0), .at (.v (.bool X5)), .at (.bx 109 0 0), .at (.v (.int .i64 n6)), .at (.bx 110 0 0), .at (.v (.bool X6)), .at (.v (.bool true))] ∧ es = [.box 0 a.ats, .box 0 b.ats, .box 0 c.ats, .box 0 d.ats, .box 0 e.ats, .box 0 f.ats, .box 0 g.ats, .box 0 h.ats, .box 0 i.ats, .box 0 j.ats, .box 0 l.ats] ∧ True) ?_ ?_
  · simp -implicitDefEqProofs only [go_sem, List.take_succ_cons, List.take_zero, List.drop_succ_cons, List.drop_zero, List.toList_toArray]
    refine ⟨fun x => ?_, fun x => ⟨(), trivial⟩⟩
    refine callX [] (impl_EqualTreks a b hA.fit) (by simp -implicitDefEqProofs only [go_sem]) ?_
    simp -implicitDefEqProofs only [go_sem]
    first | exact ⟨(), (nB x).symm⟩ | exact ⟨(), decide_eq_true (nB x).symm⟩
  rintro _ _ ⟨_, rfl, rfl, _⟩
  refine TR.join 8 [3, 4, 5, 6, 7, 10, 11, 12, 14, 15, 16, 17, 18, 19, 20, 21, 22, 23, 24, 25, 243] (fun vs es => ∃ (_ : Unit), vs = [.at (.bx 100 0 0), .at (.v (.int .i64 n1)), .at (.bx 101 0 0), .at (.v (.bool X1)), .at (.bx 102 0 0), .at (.bx 103 0 0), .at (.v (.bool X2)), .at (.bx 104 0 0), .at (.bx 105 0 0), .at (.v (.bool X3)), .at (.bx 106 0 0), .at (.v (.bool X4)), .at (.bx 107 0 0), .at (.v (.int .i64 n5)), .at (.bx 108 0 0), .at (.v (.bool X5)), .at (.bx 109 0 0), .at (.v (.int .i64 n6)), .at (.bx 110 0 0), .at (.v (.bool X6)), .at (.v (.bool true))] ∧ es = [.box 0 a.ats, .box 0 b.ats, .box 0 c.ats, .box 0 d.ats, .box 0 e.ats, .box 0 f.ats, .box 0 g.ats, .box 0 h.ats, .box 0 i.ats, .box 0 j.ats, .box 0 l.ats] ∧ True) ?_ ?_
  · simp -implicitDefEqProofs only [go_sem, List.take_succ_cons, List.take_zero, List.drop_succ_cons, List.drop_zero, List.toList_toArray]
    refine ⟨fun x => ?_, fun x => ⟨(), trivial⟩⟩
    refine callX [] (impl_EqualTreks c d hC.fit) (by simp -implicitDefEqProofs only [go_sem]) ?_
    simp -implicitDefEqProofs only [go_sem]
    first | exact ⟨(), (nD x).symm⟩ | exact ⟨(), decide_eq_true (nD x).symm⟩
  rintro _ _ ⟨_, rfl, rfl, _⟩
  refine TR.join 8 [3, 4, 5, 6, 7, 10, 11, 12, 14, 15, 16, 17, 18, 19, 20, 21, 22, 23, 24, 25, 251] (fun vs es => ∃ (_ : Unit), vs = [.at (.bx 100 0 0), .at (.v (.int .i64 n1)), .at (.bx 101 0 0), .at (.v (.bool X1)), .at (.bx 102 0 0), .at (.bx 103 0 0), .at (.v (.bool X2)), .at (.bx 104 0 0), .at (.bx 105 0 0), .at (.v (.bool X3)), .at (.bx 106 0 0), .at (.v (.bool X4)), .at (.bx 107 0 0), .at (.v (.int .i64 n5)), .at (.bx 108 0 0), .at (.v (.bool X5)), .at (.bx 109 0 0), .at (.v (.int .i64 n6)), .at (.bx 110 0 0), .at (.v (.bool X6)), .at (.v (.bool true))] ∧ es = [.box 0 a.ats, .box 0 b.ats, .box 0 c.ats, .box 0 d.ats, .box 0 e.ats, .box 0 f.ats, .box 0 g.ats, .box 0 h.ats, .box 0 i.ats, .box 0 j.ats, .box 0 l.ats] ∧ True) ?_ ?_
  · simp -implicitDefEqProofs only [go_sem, List.take_succ_cons, List.take_zero, List.drop_succ_cons, List.drop_zero, List.toList_toArray]
    refine ⟨fun x => ?_, fun x => ⟨(), trivial⟩⟩
    refine callX [] (impl_EqualTreks e f hE.fit) (by simp -implicitDefEqProofs only [go_sem]) ?_
    simp -implicitDefEqProofs only [go_sem]
    first | exact ⟨(), (nF x).symm⟩ | exact ⟨(), decide_eq_true (nF x).symm⟩
  rintro _ _ ⟨_, rfl, rfl, _⟩
  refine TR.join 8 [3, 4, 5, 6, 7, 10, 11, 12, 14, 15, 16, 17, 18, 19, 20, 21, 22, 23, 24, 25, 259] (fun vs es => ∃ (_ : Unit), vs = [.at (.bx 100 0 0), .at (.v (.int .i64 n1)), .at (.bx 101 0 0), .at (.v (.bool X1)), .at (.bx 102 0 0), .at (.bx 103 0 0), .at (.v (.bool X2)), .at (.bx 104 0 0), .at (.bx 105 0 0), .at (.v (.bool X3)), .at (.bx 106 0 0), .at (.v (.bool X4)), .at (.bx 107 0 0), .at (.v (.int .i64 n5)), .at (.bx 108 0 0), .at (.v (.bool X5)), .at (.bx 109 0 0), .at (.v (.int .i64 n6)), .at (.bx 110 0 0), .at (.v (.bool X6)), .at (.v (.bool true))] ∧ es = [.box 0 a.ats, .box 0 b.ats, .box 0 c.ats, .box 0 d.ats, .box 0 e.ats, .box 0 f.ats, .box 0 g.ats, .box 0 h.ats, .box 0 i.ats, .box 0 j.ats, .box 0 l.ats] ∧ True) ?_ ?_
  · simp -implicitDefEqProofs only [go_sem, List.take_succ_cons, List.take_zero, List.drop_succ_cons, List.drop_zero, List.toList_toArray]
    refine ⟨fun x => ?_, fun x => ⟨(), trivial⟩⟩
    refine callX [] (impl_EqualTreks e g hE.fit) (by simp -implicitDefEqProofs only [go_sem]) ?_
    simp -implicitDefEqProofs only [go_sem]
    first | exact ⟨(), (nG x).symm⟩ | exact ⟨(), decide_eq_true (nG x).symm⟩
  rintro _ _ ⟨_, rfl, rfl, _⟩
  refine TR.join 8 [3, 4, 5, 6, 7, 10, 11, 12, 14, 15, 16, 17, 18, 19, 20, 21, 22, 23, 24, 25, 267] (fun vs es => ∃ (_ : Unit), vs = [.at (.bx 100 0 0), .at (.v (.int .i64 n1)), .at (.bx 101 0 0), .at (.v (.bool X1)), .at (.bx 102 0 0), .at (.bx 103 0 0), .at (.v (.bool X2)), .at (.bx 104 0 0), .at (.bx 105 0 0), .at (.v (.bool X3)), .at (.bx 106 0 0), .at (.v (.bool X4)), .at (.bx 107 0 0), .at (.v (.int .i64 n5)), .at (.bx 108 0 0), .at (.v (.bool X5)), .at (.bx 109 0 0), .at (.v (.int .i64 n6)), .at (.bx 110 0 0), .at (.v (.bool X6)), .at (.v (.bool true))] ∧ es = [.box 0 a.ats, .box 0 b.ats, .box 0 c.ats, .box 0 d.ats, .box 0 e.ats, .box 0 f.ats, .box 0 g.ats, .box 0 h.ats, .box 0 i.ats, .box 0 j.ats, .box 0 l.ats] ∧ True) ?_ ?_
  · simp -implicitDefEqProofs only [go_sem, List.take_succ_cons, List.take_zero, List.drop_succ_cons, List.drop_zero, List.toList_toArray]
    refine ⟨fun x => ?_, fun x => ⟨(), trivial⟩⟩
    refine callX [] (impl_EqualTreks h i hH.fit) (by simp -implicitDefEqProofs only [go_sem]) ?_
    simp -implicitDefEqProofs only [go_sem]
    first | exact ⟨(), (nI x).symm⟩ | exact ⟨(), decide_eq_true (nI x).symm⟩
  rintro _ _ ⟨_, rfl, rfl, _⟩
  refine TR.rest ?_
  simp -implicitDefEqProofs only [go_sem, List.take_succ_cons, List.take_zero, List.drop_succ_cons, List.drop_zero, List.toList_toArray]
  intro x
  refine callX [] (impl_EqualTreks j l hJ.fit) (by simp -implicitDefEqProofs only [go_sem]) ?_
  simp -implicitDefEqProofs only [go_sem]
  exact (nL x).symm
end Go.Abs
