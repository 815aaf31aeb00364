/- The steps of an expedition: one party, one list of depots, one day. -/
import Derived.Test.YthobmgkagcampaaGreatDoorAStpD
import Derived.Test.YthobmgkagcampaaGreatDoorALay
namespace Go.Abs
open Go.RowKit Go.Proofs
set_option linter.all false
set_option maxRecDepth 100000
set_option maxHeartbeats 4000000
structure DTrek.Sane (t : DTrek) : Prop where
 fit : t.Fit
 at_ : I64 t.party.at_
 food : I64 t.party.food
theorem DTrek.Sane.party {t : DTrek} (h : t.Sane) : t.party.Fit := ⟨h.fit.crew, h.fit.past, h.at_, h.food⟩
theorem eat_fit {p : DParty} (h : I64 p.food) : I64 (eatZ p).food := by
 unfold eatZ
 split
 ·rename_i hp
  have h1 := hp.2
  have h2 := needZ_bnd p.crew
  unfold I64 at h ⊢
  simp only []
  omega
 ·exact h
theorem day_fit {p : DParty} {to : Int} {s : Bool} (hc : p.crew.length <= 1048576) (hf : I64 p.food) (hto : I64 to) : (dayZ p to s).Fit :=
 ⟨by rw [dayZ_crew]; exact hc, Nat.le_trans (addDay_len _ _) (by decide), hto, eat_fit hf⟩
theorem goStepZ_fit {x : DLand} {base : Int} {r : DRule} {l : List DDepot} {p : DParty} {to : Int} {s : Bool} (h : p.Fit) (hto : I64 to) : (goStepZ x base r l p to s).Fit := by
 by_cases hp : goStepP x base r l p to s
 ·rw [goStepZ, if_pos hp]; exact day_fit h.crew h.food (by split; exact h.at_; exact hto)
 ·rw [goStepZ, if_neg hp]; exact h
theorem waitStepZ_fit {x : DLand} {base : Int} {r : DRule} {l : List DDepot} {p : DParty} {s : Bool} (h : p.Fit) : (waitStepZ x base r l p s).Fit := by
 by_cases hp : waitStepP x base r l p s
 ·rw [waitStepZ, if_pos hp]; exact day_fit h.crew h.food h.at_
 ·rw [waitStepZ, if_neg hp]; exact h
theorem waitStepZ_crew {x : DLand} {base : Int} {r : DRule} {l : List DDepot} {p : DParty} {s : Bool} : (waitStepZ x base r l p s).crew = p.crew := by
 by_cases h : waitStepP x base r l p s
 ·rw [waitStepZ, if_pos h]; exact dayZ_crew _ _ _
 ·rw [waitStepZ, if_neg h]
theorem days_open {x : DLand} {a b : Int} (h : ¬ daysZ x a b < 0) : x.Open a /\ x.Open b := by
 unfold daysZ at h
 split at h
 ·assumption
 ·omega
theorem wayF_head {x : DLand} {d : List Int} {k : Nat} {a e : Int} : (wayF x d k a).getD 0 e = a := by cases k <;> rfl
theorem homeCell_open {x : DLand} {base : Int} {r : DRule} {l : List DDepot} {p : DParty} (h : backP x base r l p) : x.Open (homeCell x base p) := by
 have hw := h.1.2
 unfold homeCell
 unfold wayZ at hw ⊢
 by_cases hd : daysZ x p.at_ base < 0
 ·rw [if_pos hd] at hw; exact absurd rfl hw
 rw [if_neg hd]
 obtain ⟨ha, hb⟩ := days_open hd
 cases hk : (dist (stepsZ x [base]) p.at_).toNat with
 | zero => exact ha
 | succ k =>
  rw [wayF, List.getD_cons_succ, wayF_head]
  exact next_open hb ha (by omega)
theorem open_I64 {x : DLand} {n : Int} (h : x.Open n) : I64 n := by
 have := cell_bnd h.1
 unfold I64; omega
theorem retZ_fit {x : DLand} {base : Int} {r : DRule} {l : List DDepot} {p : DParty} {s : Bool} (h : p.Fit) : (retZ x base r l p s).Fit := by
 by_cases hp : retP x base r l p s
 ·rw [retZ, if_pos hp]
  have h1 := hp.1.food
  have h2 := pickN_bnd p (foodAt p.at_ l)
  exact day_fit h.crew (by unfold I64; simp only [pickZ]; omega) (by split; exact h.at_; exact open_I64 (homeCell_open hp.1))
 ·rw [retZ, if_neg hp]; exact h
def dayP (t : DTrek) (p : DParty) (l : List DDepot) (Q : Prop) : Prop := Q /\ trekP t /\ trekP (dayT t p l)
noncomputable instance (t : DTrek) (p : DParty) (l : List DDepot) (Q : Prop) : Decidable (dayP t p l Q) := Classical.propDecidable _
noncomputable def dayR (t : DTrek) (p : DParty) (l : List DDepot) (Q : Prop) : DTrek := if dayP t p l Q then dayT t p l else t
theorem dayOk_iff {t : DTrek} {p : DParty} {l : List DDepot} {Q : Prop} [Decidable Q] : dayOk t p l (decide Q) ↔ dayP t p l Q :=
 ⟨fun h => ⟨of_decide_eq_true h.1.1, h.2⟩, fun h => ⟨⟨decide_eq_true h.1, writeP_of h.2.1 h.2.2⟩, h.2⟩⟩
def putT (t : DTrek) (p : DParty) (l : List DDepot) : DTrek := { t with party := p, depots := l }
attribute [go_sem] putT
def putP (t : DTrek) (p : DParty) (l : List DDepot) (Q : Prop) : Prop := Q /\ trekP t /\ trekP (putT t p l)
noncomputable instance (t : DTrek) (p : DParty) (l : List DDepot) (Q : Prop) : Decidable (putP t p l Q) := Classical.propDecidable _
noncomputable def putR (t : DTrek) (p : DParty) (l : List DDepot) (Q : Prop) : DTrek := if putP t p l Q then putT t p l else t
theorem putT_fit {t : DTrek} {p : DParty} {l : List DDepot} (h : t.Fit) (hp : p.crew.length <= 1048576 /\ p.past.length <= 1048576) (hl : l.length <= 1048576) : (putT t p l).Fit := ⟨h.cells, hl, hp.1, hp.2, h.journal, h.pages⟩
def giveT (t : DTrek) (n : Int) : DTrek := { t with party := { t.party with food := IntKind.i64.wrap (t.party.food + n) }, given := IntKind.i64.wrap (t.given + n) }
attribute [go_sem] giveT
def giveP (t : DTrek) (n : Int) : Prop := (1 <= n /\ n <= roomZ t.party) /\ t.party.at_ = t.base /\ trekP t /\ trekP (giveT t n)
noncomputable instance (t : DTrek) (n : Int) : Decidable (giveP t n) := Classical.propDecidable _
noncomputable def giveZ (t : DTrek) (n : Int) : DTrek := if giveP t n then giveT t n else t
theorem giveT_fit {t : DTrek} {n : Int} (h : t.Fit) : (giveT t n).Fit := ⟨h.cells, h.depots, h.crew, h.past, h.journal, h.pages⟩
theorem impl_AtBase (t : DTrek) : SC Tryz.prog 205 [.ag t.ats] [] (.at (.v (.bool (decide (t.party.at_ = t.base))))) [] := by
 refine SC.of_V mixed Tryz.func205 (by kernel_rfl) rfl Tryz.results205 _ Tryz.ntmps205 (by simp) ?_
 simp -implicitDefEqProofs only [go_sem]
theorem spec_AtBase (t : DTrek) : SC Tryz.prog 159 [.ag t.ats] [] (.at (.v (.bool (decide (t.party.at_ = t.base))))) [] := by
 refine SC.of_V mixed Tryz.func159 (by kernel_rfl) rfl Tryz.results159 _ Tryz.ntmps159 (by simp) ?_
 simp -implicitDefEqProofs only [go_sem]
theorem impl_StepGive (t : DTrek) (n : Int) (ht : t.Fit) : SC Tryz.prog 101 [.ag t.ats, .at (.v (.int .i64 n))] [] (.tp [.ag (giveZ t n).frs, .at (.v (.bool (decide (giveP t n))))]) [] := by
 by_cases h : giveP t n
 ·rw [giveZ, if_pos h, show decide (giveP t n) = true from decide_eq_true h]
  refine SC.of_W mixed Tryz.func101 (by kernel_rfl) rfl Tryz.results101 _ Tryz.ntmps101 (by simp) ?_
  simp -implicitDefEqProofs only [go_sem]
  refine callX [] (impl_Trek_copied t ht) (by simp -implicitDefEqProofs only [go_sem]) ?_
  simp -implicitDefEqProofs only [go_sem]
  refine ⟨some [1064, 1128, 1129, 1130, 1131, 1132], by decide +kernel, ?_⟩
  simp -implicitDefEqProofs only [go_sem]
  refine callXQ [] (impl_RoomFor t.party ht.crew) (by simp -implicitDefEqProofs only [go_sem]) ?_
  simp -implicitDefEqProofs only [go_sem]
  refine callXQ [] (impl_InRange n 1 (roomZ t.party)) (by simp -implicitDefEqProofs only [go_sem]) ?_
  simp -implicitDefEqProofs only [go_sem]
  refine ⟨fun _ => ?_, fun k => absurd h.1 k⟩
  refine callXQ [] (impl_AtBase t) (by simp -implicitDefEqProofs only [go_sem]) ?_
  simp -implicitDefEqProofs only [go_sem]
  rw [decide_eq_true h.2.1]
  refine callXHQ [1128, 1129, 1130, 1131, 1132] [] (by decide) (impl_becomes_yes t (giveT t n) ht (giveT_fit ht) h.2.2.1 h.2.2.2) (by decide) (by simp -implicitDefEqProofs only [go_sem]) ?_
  simp -implicitDefEqProofs only [go_sem, invOf]
 ·rw [giveZ, if_neg h, show decide (giveP t n) = false from decide_eq_false h]
  refine SC.of_W mixed Tryz.func101 (by kernel_rfl) rfl Tryz.results101 _ Tryz.ntmps101 (by simp) ?_
  simp -implicitDefEqProofs only [go_sem]
  refine callX [] (impl_Trek_copied t ht) (by simp -implicitDefEqProofs only [go_sem]) ?_
  simp -implicitDefEqProofs only [go_sem]
  refine ⟨some [1064, 1128, 1129, 1130, 1131, 1132], by decide +kernel, ?_⟩
  simp -implicitDefEqProofs only [go_sem]
  refine callXQ [] (impl_RoomFor t.party ht.crew) (by simp -implicitDefEqProofs only [go_sem]) ?_
  simp -implicitDefEqProofs only [go_sem]
  refine callXQ [] (impl_InRange n 1 (roomZ t.party)) (by simp -implicitDefEqProofs only [go_sem]) ?_
  simp -implicitDefEqProofs only [go_sem]
  refine ⟨fun h1 => ?_, fun h1 => ?_⟩
  ·refine callXQ [] (impl_AtBase t) (by simp -implicitDefEqProofs only [go_sem]) ?_
   simp -implicitDefEqProofs only [go_sem]
   refine callXNQ [1128, 1129, 1130, 1131, 1132] [] (by decide) (impl_becomes_no t (giveT t n) (decide (t.party.at_ = t.base)) ht (giveT_fit ht) (fun k => h ⟨h1, of_decide_eq_true k.1, k.2⟩)) (by decide) (by simp -implicitDefEqProofs only [go_sem]) (by simp -implicitDefEqProofs only [go_sem]) ?_
   simp -implicitDefEqProofs only [go_sem, invOf]
  ·refine callXNQ [1128, 1129, 1130, 1131, 1132] [] (by decide) (impl_becomes_no t (giveT t n) false ht (giveT_fit ht) (fun k => by cases k.1)) (by decide) (by simp -implicitDefEqProofs only [go_sem]) (by simp -implicitDefEqProofs only [go_sem]) ?_
   simp -implicitDefEqProofs only [go_sem, invOf]
end Go.Abs
