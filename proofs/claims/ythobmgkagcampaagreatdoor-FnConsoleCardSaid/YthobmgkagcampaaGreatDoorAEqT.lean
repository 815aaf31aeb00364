/- Expeditions are compared. -/
import Derived.Test.YthobmgkagcampaaGreatDoorACur
import Derived.Test.YthobmgkagcampaaGreatDoorAConM
import Derived.Test.YthobmgkagcampaaGreatDoorASafe
namespace Go.Abs
open Go.RowKit Go.Proofs
set_option linter.all false
set_option maxRecDepth 100000
set_option maxHeartbeats 4000000
def nilT : List A := [.v (.int .i64 0), .v (.int .i64 0), .nil, .v (.int .i64 0), .v (.int .i64 0), .v (.int .i64 0), .nil, .v (.int .i64 0), .v (.int .i64 0), .nil, .nil, .nil, .v (.int .i64 0), .v (.int .i64 0), .v (.int .i64 0)]
def imT : List A := [.v (.int .i64 0), .v (.int .i64 0), .im 1 [], .v (.int .i64 0), .v (.int .i64 0), .v (.int .i64 0), .im 2 [], .v (.int .i64 0), .v (.int .i64 0), .im 4 [], .im 1 [], .im 4 [], .v (.int .i64 0), .v (.int .i64 0), .v (.int .i64 0)]
attribute [go_sem] imT
theorem last_at {C : List ByteArray} {x : ByteArray} {k : Nat} (hk : k + 1 = C.length) (h : C[k]? = some x) : C.getLast? = some x := by
 rw [List.getLast?_eq_getElem?, show C.length - 1 = k by omega]; exact h
theorem impl_RunConsole (text : ByteArray) (hl : text.size <= 1048576) : SC Tryz.prog 13 [.at (.v (.string text))] [] (.tp [.at (.fr 1 ((conO text).map strRow)), .at (.v (.bool (conB text)))]) [] := by
 have hc := cut_count 10 text
 have hne : cutF 10 text.data.toList [] ≠ [] := cut_ne
 have hmem : ∀ s ∈ linesV text, s.size <= text.size := fun s hs => linesV_mem hs
 refine SC.of_TW Tryz.func13 (by kernel_rfl) rfl Tryz.results13 _ Tryz.ntmps13 (by simp) ?_
 refine T.seq (W.T mixed ?_)
 simp -implicitDefEqProofs only [go_sem]
 refine T.seq (W.T mixed ?_)
 simp -implicitDefEqProofs only [go_sem]
 refine callX [] (std_Split10 text hl) (by simp -implicitDefEqProofs only [go_sem]) ?_
 simp -implicitDefEqProofs only [go_sem]
 have hL : linesV text = dropE (cutF 10 text.data.toList []) := rfl
 generalize cutF 10 text.data.toList [] = C at hc hne hL ⊢
 have hpos : 1 <= C.length := by
  cases C with
  | nil => exact absurd rfl hne
  | cons _ _ => simp
 refine T.seq (W.T mixed ?_)
 simp -implicitDefEqProofs only [go_sem]
 rw [wrap64 (x := (C.length : Int) - 1) (by omega) (by omega)]
 refine ⟨⟨by omega, by omega⟩, fun x hx => ?_⟩
 have hlast := last_at (k := ((C.length : Int) - 1).toNat) (by omega) hx
 have hlen := dropE_len (l := C)
 refine ⟨fun e => ?_, fun e => ?_⟩
 ·have hd : linesV text = C.dropLast := by
   rw [hL, dropE, hlast]
   have : ¬ nonE x = true := by rw [nonE, e]; decide
   exact if_neg this
  have hrows : ∀ k : Nat, k = C.length - 1 -> List.take k (List.drop (Int.toNat 0) (List.map strRow C)) = (linesV text).map strRow := fun k hk => by
   rw [show Int.toNat 0 = 0 from rfl, List.drop_zero, <- List.map_take, hd, List.dropLast_eq_take, hk]
  refine ⟨⟨by omega, by omega⟩, ?_⟩
  rw [hrows _ (by omega)]
  refine T.seq (W.T mixed ?_)
  simp -implicitDefEqProofs only [go_sem]
  refine ⟨fun h60 => ?_, fun h60 => ?_⟩
  ·have e1 : conO text = [] := if_pos (by omega)
   have e2 : conB text = false := decide_eq_false (fun k => k (by omega))
   rw [e1, e2]
   exact ⟨⟨rfl, rfl⟩, rfl⟩
  have e1 : conO text = conRun noT (linesV text) := if_neg (by omega)
  have e2 : conB text = true := decide_eq_true (by omega)
  rw [e1, e2]
  generalize linesV text = L at hmem h60 ⊢
  refine W.T mixed ?_
  simp -implicitDefEqProofs only [go_sem]
  refine T.loopW mixed [5, 6, 30, 31, 32] (fun mm vs es => ∃ (i : Nat) (t : DTrek) (cells : List A) (out : List ByteArray), vs = [.at (.bx 100 0 0), .at (.ow 101 0 1 out.length), .at (.im 1 (L.map strRow)), .at (.v (.int .i64 L.length)), .at (.v (.int .i64 (i : Nat)))] /\ es = [.box 0 cells, .arr 0 1 (out.map strRow)] /\ mm + i = L.length /\ out.length = i /\ Told t /\ (cells = t.ats \/ (t = noT /\ cells = nilT)) /\ conRun noT L = out ++ conRun t (L.drop i)) L.length ?_ ?_
  ·simp -implicitDefEqProofs only [go_sem]
   exact ⟨0, noT, nilT, [], ⟨rfl, rfl⟩, ⟨rfl, rfl⟩, by omega, rfl, told_no, .inr ⟨rfl, rfl⟩, by simp⟩
  rintro q _ _ ⟨i, t, cells, out, rfl, rfl, hq, ho, ht, hcell, hrun⟩
  simp -implicitDefEqProofs only [go_sem]
  refine ⟨fun hlt => ⟨by omega, fun s hs => ?_⟩, fun hlt => ?_⟩
  ·have hsz := hmem s (List.mem_of_getElem? hs)
   rw [getE hs, conRun] at hrun
   rcases hcell with rfl | ⟨rfl, rfl⟩
   ·simp -implicitDefEqProofs only [go_sem]
    refine callX [] ((impl_ConsoleLine t s ht (by omega)).frozen) (by simp -implicitDefEqProofs only [go_sem]) ?_
    simp -implicitDefEqProofs only [go_sem]
    exact ⟨by unfold Room; omega, q - 1, by omega, i + 1, (conZ t s).1, (conZ t s).1.ats, out ++ [(conZ t s).2], ⟨by simp, wrap64 (by omega) (by omega)⟩, ⟨rfl, by simp [strRow]⟩, by omega, by simp; omega, told_con s ht, .inl rfl, by rw [hrun]; simp⟩
   ·unfold nilT
    simp -implicitDefEqProofs only [go_sem]
    have cn : SC Tryz.prog 8 [.ag imT, .at (.v (.string s))] [] (.tp [.ag (conZ noT s).1.frs, .at (.v (.string ((conZ noT s).2)))]) [] := impl_ConsoleLine noT s told_no (by omega)
    refine callX [] (cn.frozen) (by simp -implicitDefEqProofs only [go_sem]) ?_
    simp -implicitDefEqProofs only [go_sem]
    exact ⟨by unfold Room; omega, q - 1, by omega, i + 1, (conZ noT s).1, (conZ noT s).1.ats, out ++ [(conZ noT s).2], ⟨by simp, wrap64 (by omega) (by omega)⟩, ⟨rfl, by simp [strRow]⟩, by omega, by simp; omega, told_con s ht, .inl rfl, by rw [hrun]; simp⟩
  ·rw [List.drop_eq_nil_of_le (by omega), conRun, List.append_nil] at hrun
   rw [hrun]
   exact ⟨rfl, rfl⟩
 ·have hd : linesV text = C := by
   rw [hL, dropE, hlast]
   have : nonE x = true := by rw [nonE, e]; rfl
   exact if_pos this
  rw [<- hd]
  refine T.seq (W.T mixed ?_)
  simp -implicitDefEqProofs only [go_sem]
  refine ⟨fun h60 => ?_, fun h60 => ?_⟩
  ·have e1 : conO text = [] := if_pos (by omega)
   have e2 : conB text = false := decide_eq_false (fun k => k (by omega))
   rw [e1, e2]
   exact ⟨⟨rfl, rfl⟩, rfl⟩
  have e1 : conO text = conRun noT (linesV text) := if_neg (by omega)
  have e2 : conB text = true := decide_eq_true (by omega)
  rw [e1, e2]
  generalize linesV text = L at hmem h60 ⊢
  refine W.T mixed ?_
  simp -implicitDefEqProofs only [go_sem]
  refine T.loopW mixed [5, 6, 30, 31, 32] (fun mm vs es => ∃ (i : Nat) (t : DTrek) (cells : List A) (out : List ByteArray), vs = [.at (.bx 100 0 0), .at (.ow 101 0 1 out.length), .at (.im 1 (L.map strRow)), .at (.v (.int .i64 L.length)), .at (.v (.int .i64 (i : Nat)))] /\ es = [.box 0 cells, .arr 0 1 (out.map strRow)] /\ mm + i = L.length /\ out.length = i /\ Told t /\ (cells = t.ats \/ (t = noT /\ cells = nilT)) /\ conRun noT L = out ++ conRun t (L.drop i)) L.length ?_ ?_
  ·simp -implicitDefEqProofs only [go_sem]
   exact ⟨0, noT, nilT, [], ⟨rfl, rfl⟩, ⟨rfl, rfl⟩, by omega, rfl, told_no, .inr ⟨rfl, rfl⟩, by simp⟩
  rintro q _ _ ⟨i, t, cells, out, rfl, rfl, hq, ho, ht, hcell, hrun⟩
  simp -implicitDefEqProofs only [go_sem]
  refine ⟨fun hlt => ⟨by omega, fun s hs => ?_⟩, fun hlt => ?_⟩
  ·have hsz := hmem s (List.mem_of_getElem? hs)
   rw [getE hs, conRun] at hrun
   rcases hcell with rfl | ⟨rfl, rfl⟩
   ·simp -implicitDefEqProofs only [go_sem]
    refine callX [] ((impl_ConsoleLine t s ht (by omega)).frozen) (by simp -implicitDefEqProofs only [go_sem]) ?_
    simp -implicitDefEqProofs only [go_sem]
    exact ⟨by unfold Room; omega, q - 1, by omega, i + 1, (conZ t s).1, (conZ t s).1.ats, out ++ [(conZ t s).2], ⟨by simp, wrap64 (by omega) (by omega)⟩, ⟨rfl, by simp [strRow]⟩, by omega, by simp; omega, told_con s ht, .inl rfl, by rw [hrun]; simp⟩
   ·unfold nilT
    simp -implicitDefEqProofs only [go_sem]
    have cn : SC Tryz.prog 8 [.ag imT, .at (.v (.string s))] [] (.tp [.ag (conZ noT s).1.frs, .at (.v (.string ((conZ noT s).2)))]) [] := impl_ConsoleLine noT s told_no (by omega)
    refine callX [] (cn.frozen) (by simp -implicitDefEqProofs only [go_sem]) ?_
    simp -implicitDefEqProofs only [go_sem]
    exact ⟨by unfold Room; omega, q - 1, by omega, i + 1, (conZ noT s).1, (conZ noT s).1.ats, out ++ [(conZ noT s).2], ⟨by simp, wrap64 (by omega) (by omega)⟩, ⟨rfl, by simp [strRow]⟩, by omega, by simp; omega, told_con s ht, .inl rfl, by rw [hrun]; simp⟩
  ·rw [List.drop_eq_nil_of_le (by omega), conRun, List.append_nil] at hrun
   rw [hrun]
   exact ⟨rfl, rfl⟩
end Go.Abs
namespace Go.Abs
open Go.RowKit Go.Proofs
set_option linter.all false
set_option maxRecDepth 100000
set_option maxHeartbeats 4000000
theorem ne_agg {P : Program} {T : TypeId} {fs : Array Field} {xs ys : List A} {b : Bool} {K : Value -> Prop} (ht : P.underlying T = some (.struct fs)) (h : eqCells P fs.toList xs ys = some b) (h1 : P.eqGuardType P.depth T = false) (h2 : P.stoodInHeld T = false) :
  onR (binS P .neq T (.ag xs) (.ag ys)) K = K (.bool (!b)) := by
 simp only [binS, ht, h, onR, h1, h2, and_self, true_and]
theorem ne_Depot {a0 b0 a1 b1 : Int} {K : Value -> Prop} : onR (binS Tryz.prog .neq 80 (.ag [.v (.int .i64 a0), .v (.int .i64 a1)]) (.ag [.v (.int .i64 b0), .v (.int .i64 b1)])) K = K (.bool (!decide (a0 = b0 /\ a1 = b1))) :=
 ne_agg Tryz.underlying80 (by simp [eqCells, Tryz.underlying3]; rfl) (by kernel_rfl) (by kernel_rfl)
attribute [go_sem] ne_Depot
theorem ne_Page {a0 b0 a1 b1 a2 b2 a3 b3 : Int} {K : Value -> Prop} : onR (binS Tryz.prog .neq 82 (.ag [.v (.int .i64 a0), .v (.int .i64 a1), .v (.int .i64 a2), .v (.int .i64 a3)]) (.ag [.v (.int .i64 b0), .v (.int .i64 b1), .v (.int .i64 b2), .v (.int .i64 b3)])) K = K (.bool (!decide (a0 = b0 /\ a1 = b1 /\ a2 = b2 /\ a3 = b3))) :=
 ne_agg Tryz.underlying82 (by simp [eqCells, Tryz.underlying3]; rfl) (by kernel_rfl) (by kernel_rfl)
attribute [go_sem] ne_Page
theorem ne_Rule {a0 b0 a1 b1 : Int} {K : Value -> Prop} : onR (binS Tryz.prog .neq 28 (.ag [.v (.int .i64 a0), .v (.int .i64 a1)]) (.ag [.v (.int .i64 b0), .v (.int .i64 b1)])) K = K (.bool (!decide (a0 = b0 /\ a1 = b1))) :=
 ne_agg Tryz.underlying28 (by simp [eqCells, Tryz.underlying3]; rfl) (by kernel_rfl) (by kernel_rfl)
attribute [go_sem] ne_Rule
theorem ne_Member {a0 b0 a1 b1 a2 b2 : Int} {a3 b3 : Bool} {K : Value -> Prop} : onR (binS Tryz.prog .neq 96 (.ag [.v (.int .i64 a0), .v (.int .i64 a1), .v (.int .i64 a2), .v (.bool a3)]) (.ag [.v (.int .i64 b0), .v (.int .i64 b1), .v (.int .i64 b2), .v (.bool b3)])) K = K (.bool (!decide (a0 = b0 /\ a1 = b1 /\ a2 = b2 /\ a3 = b3))) :=
 ne_agg Tryz.underlying96 (by simp [eqCells, Tryz.underlying3, Tryz.underlying4]; rfl) (by kernel_rfl) (by kernel_rfl)
attribute [go_sem] ne_Member
theorem impl_EqualInts (a b : List Int) (ha : a.length <= 1099511627776) : SC Tryz.prog 33 [.at (.im 1 (a.map intRow)), .at (.im 1 (b.map intRow))] [] (.at (.v (.bool (decide (a = b))))) [] := by
 refine SC.of_V mixed Tryz.func33 (by kernel_rfl) rfl Tryz.results33 _ Tryz.ntmps33 (by simp) ?_
 simp -implicitDefEqProofs only [go_sem]
 refine ⟨fun h => ?_, fun h => ?_⟩
 ·simp; rintro rfl; exact h rfl
 have hl : a.length = b.length := by omega
 refine T.loopW mixed [0, 1, 12, 13] (fun mm vs es => ∃ (i : Nat), vs = [.at (.im 1 (a.map intRow)), .at (.im 1 (b.map intRow)), .at (.v (.int .i64 a.length)), .at (.v (.int .i64 i))] /\ es = [] /\ mm + i = a.length /\ a.take i = b.take i) a.length ?_ ?_
 ·simp -implicitDefEqProofs only [go_sem]; exact ⟨0, rfl, by omega, by simp⟩
 rintro n _ _ ⟨i, rfl, rfl, hn, ht⟩
 simp -implicitDefEqProofs only [go_sem]
 refine ⟨fun h => ?_, fun h => ?_⟩
 ·refine ⟨some [], by decide +kernel, ?_⟩
  simp -implicitDefEqProofs only [go_sem]
  refine ⟨by omega, fun p hp => ⟨by omega, fun q hq => ⟨fun hpq => ?_, fun hpq => ?_⟩⟩⟩
  ·have := ne_step hp hq hpq
   simp [this]
  ·rw [wrap64 (by omega) (by omega)]
   exact ⟨n - 1, by omega, i + 1, rfl, by omega, eq_step ht hp hq hpq⟩
 ·have := eq_end hl ht h
  simp [this]
theorem impl_EqualParties (a b : DParty) (ha : a.crew.length <= 1048576) (hp : a.past.length <= 1048576) : SC Tryz.prog 34 [.ag a.ats, .ag b.ats] [] (.at (.v (.bool (decide (a = b))))) [] := by
 refine SC.of_V mixed Tryz.func34 (by kernel_rfl) rfl Tryz.results34 _ Tryz.ntmps34 (by simp) ?_
 simp -implicitDefEqProofs only [go_sem]
 refine ⟨fun h1 => ⟨fun h2 => ⟨fun h3 => ⟨fun h4 => dec_f fun e => h4 (by rw [e]), fun h4 => ?_⟩, fun h3 => dec_f fun e => h3 (by rw [e])⟩, fun h2 => dec_f fun e => h2 (by rw [e])⟩, fun h1 => dec_f fun e => h1 (by rw [e])⟩
 have l3 : a.crew.length = b.crew.length := by omega
 have l4 : a.past.length = b.past.length := by omega
 refine T.loopW mixed [2, 3, 39, 40] (fun mm vs es => ∃ (i : Nat), vs = [.at (.bx 100 0 0), .at (.bx 101 0 0), .at (.v (.int .i64 a.crew.length)), .at (.v (.int .i64 i))] /\ es = [.box 0 a.ats, .box 0 b.ats] /\ mm + i = a.crew.length /\ a.crew.take i = b.crew.take i) a.crew.length ?_ ?_
 ·simp -implicitDefEqProofs only [go_sem]; exact ⟨0, rfl, by omega, by simp⟩
 rintro n _ _ ⟨i, rfl, rfl, hn, ht⟩
 simp -implicitDefEqProofs only [go_sem]
 refine ⟨fun h => ?_, fun h => ?_⟩
 ·refine ⟨some [], by decide +kernel, ?_⟩
  simp -implicitDefEqProofs only [go_sem]
  refine ⟨by omega, fun p hp => ⟨by omega, fun q hq => ⟨fun hpq => ?_, fun hpq => ?_⟩⟩⟩
  ·exact dec_f fun e => ne_step hp hq (fun e2 => hpq (by rw [e2]; exact ⟨rfl, rfl, rfl, rfl⟩)) (by rw [e])
  ·rw [wrap64 (by omega) (by omega)]
   exact ⟨n - 1, by omega, i + 1, rfl, by omega, eq_step ht hp hq (by cases p; cases q; simp only at hpq; obtain ⟨rfl, rfl, rfl, rfl⟩ := hpq; rfl)⟩
 ·have hc := eq_end l3 ht h
  refine T.loopW mixed [2, 3, 57, 58] (fun mm vs es => ∃ (i : Nat), vs = [.at (.bx 100 0 0), .at (.bx 101 0 0), .at (.v (.int .i64 a.past.length)), .at (.v (.int .i64 i))] /\ es = [.box 0 a.ats, .box 0 b.ats] /\ mm + i = a.past.length /\ a.past.take i = b.past.take i) a.past.length ?_ ?_
  ·simp -implicitDefEqProofs only [go_sem]; exact ⟨0, rfl, by omega, by simp⟩
  rintro q _ _ ⟨k, rfl, rfl, hq, ht2⟩
  simp -implicitDefEqProofs only [go_sem]
  refine ⟨fun h => ?_, fun h => ?_⟩
  ·refine ⟨some [], by decide +kernel, ?_⟩
   simp -implicitDefEqProofs only [go_sem]
   refine ⟨by omega, fun p hp => ⟨by omega, fun v hv => ⟨fun hpq => ?_, fun hpq => ?_⟩⟩⟩
   ·exact dec_f fun e => ne_step hp hv (fun e2 => by rw [e2] at hpq; simp at hpq) (by rw [e])
   ·rw [wrap64 (by omega) (by omega)]
    exact ⟨q - 1, by omega, k + 1, rfl, by omega, eq_step ht2 hp hv (by simpa using hpq)⟩
  ·have hd := eq_end l4 ht2 h
   refine dec_t ?_
   cases a; cases b
   simp only at h1 h2 hc hd
   subst h1; subst h2; subst hc; subst hd; rfl
theorem impl_EqualTreks (a b : DTrek) (ha : a.Fit) : SC Tryz.prog 9 [.ag a.ats, .ag b.ats] [] (.at (.v (.bool (decide (a = b))))) [] := by
 have hj := ha.journal
 have hdp := ha.depots
 refine SC.of_V mixed Tryz.func9 (by kernel_rfl) rfl Tryz.results9 _ Tryz.ntmps9 (by simp) ?_
 simp -implicitDefEqProofs only [go_sem]
 refine ⟨fun h1 => ⟨fun h2 => ?_, fun h2 => dec_f fun e => h2 (by rw [e])⟩, fun h1 => dec_f fun e => h1 (by rw [e])⟩
 refine callX [] (impl_EqualInts a.land.cells b.land.cells (Nat.le_trans ha.cells (by decide))) (by simp -implicitDefEqProofs only [go_sem]) ?_
 simp -implicitDefEqProofs only [go_sem]
 refine ⟨fun h3 => ⟨fun h4 => ⟨fun h5 => ?_, fun h5 => dec_f fun e => h5 (by rw [e]; exact ⟨rfl, rfl⟩)⟩, fun h4 => dec_f fun e => h4 (by rw [e])⟩, fun h3 => dec_f fun e => h3 (by rw [e])⟩
 refine callX [] (impl_EqualParties a.party b.party ha.crew ha.past) (by simp -implicitDefEqProofs only [go_sem]) ?_
 simp -implicitDefEqProofs only [go_sem]
 refine ⟨fun h6 => dec_f fun e => h6 (by rw [e]), fun h6 => ⟨fun h7 => ⟨fun h8 => ⟨fun h9 => ⟨fun h10 => ⟨fun h11 => dec_f fun e => h11 (by rw [e]), fun h11 => ?_⟩, fun h10 => dec_f fun e => h10 (by rw [e])⟩, fun h9 => dec_f fun e => h9 (by rw [e])⟩, fun h8 => dec_f fun e => h8 (by rw [e])⟩, fun h7 => dec_f fun e => h7 (by rw [e])⟩⟩
 have l3 : a.depots.length = b.depots.length := by omega
 have l4 : a.journal.length = b.journal.length := by omega
 refine T.loopW mixed [2, 3, 94, 95] (fun mm vs es => ∃ (i : Nat), vs = [.at (.bx 100 0 0), .at (.bx 101 0 0), .at (.v (.int .i64 a.depots.length)), .at (.v (.int .i64 i))] /\ es = [.box 0 a.ats, .box 0 b.ats] /\ mm + i = a.depots.length /\ a.depots.take i = b.depots.take i) a.depots.length ?_ ?_
 ·simp -implicitDefEqProofs only [go_sem]; exact ⟨0, rfl, by omega, by simp⟩
 rintro n _ _ ⟨i, rfl, rfl, hn, ht⟩
 simp -implicitDefEqProofs only [go_sem]
 refine ⟨fun h => ?_, fun h => ?_⟩
 ·refine ⟨some [], by decide +kernel, ?_⟩
  simp -implicitDefEqProofs only [go_sem]
  refine ⟨by omega, fun p hp => ⟨by omega, fun q hq => ⟨fun hpq => ?_, fun hpq => ?_⟩⟩⟩
  ·exact dec_f fun e => ne_step hp hq (fun e2 => hpq (by rw [e2]; exact ⟨rfl, rfl⟩)) (by rw [e])
  ·rw [wrap64 (by omega) (by omega)]
   exact ⟨n - 1, by omega, i + 1, rfl, by omega, eq_step ht hp hq (by cases p; cases q; simp only at hpq; obtain ⟨rfl, rfl⟩ := hpq; rfl)⟩
 ·have hc := eq_end l3 ht h
  refine T.loopW mixed [2, 3, 112, 113] (fun mm vs es => ∃ (i : Nat), vs = [.at (.bx 100 0 0), .at (.bx 101 0 0), .at (.v (.int .i64 a.journal.length)), .at (.v (.int .i64 i))] /\ es = [.box 0 a.ats, .box 0 b.ats] /\ mm + i = a.journal.length /\ a.journal.take i = b.journal.take i) a.journal.length ?_ ?_
  ·simp -implicitDefEqProofs only [go_sem]; exact ⟨0, rfl, by omega, by simp⟩
  rintro q _ _ ⟨k, rfl, rfl, hq, ht2⟩
  simp -implicitDefEqProofs only [go_sem]
  refine ⟨fun h => ?_, fun h => ?_⟩
  ·refine ⟨some [], by decide +kernel, ?_⟩
   simp -implicitDefEqProofs only [go_sem]
   refine ⟨by omega, fun p hp => ⟨by omega, fun v hv => ⟨fun hpq => ?_, fun hpq => ?_⟩⟩⟩
   ·exact dec_f fun e => ne_step hp hv (fun e2 => hpq (by rw [e2]; exact ⟨rfl, rfl, rfl, rfl⟩)) (by rw [e])
   ·rw [wrap64 (by omega) (by omega)]
    exact ⟨q - 1, by omega, k + 1, rfl, by omega, eq_step ht2 hp hv (by cases p; cases v; simp only at hpq; obtain ⟨rfl, rfl, rfl, rfl⟩ := hpq; rfl)⟩
  ·have hd := eq_end l4 ht2 h
   refine dec_t ?_
   obtain ⟨⟨w, hh, cs⟩, ba, ⟨mo, wi⟩, dp, pt, jo, dy, gi, ea⟩ := a
   obtain ⟨⟨w', hh', cs'⟩, ba', ⟨mo', wi'⟩, dp', pt', jo', dy', gi', ea'⟩ := b
   simp only at h1 h2 h3 h4 h5 h6 h7 h8 h9 hc hd
   obtain ⟨h5, h5'⟩ := h5
   subst h1; subst h2; subst h3; subst h4; subst h5; subst h5'; subst h6; subst h7; subst h8; subst h9; subst hc; subst hd
   rfl
end Go.Abs
