/- What a call that was handed memory gives may be taken as not written any more. -/
import Derived.Test.YthobmgkagcampaaGreatDoorACur
import Derived.Test.YthobmgkagcampaaGreatDoorAWrite
namespace Go.Abs
open Go.RowKit Go.Proofs
set_option linter.all false
set_option maxRecDepth 100000
set_option maxHeartbeats 4000000
theorem intC_ok {s : DCur} (h : s.Ok) (l : List Int) : (intC s l).Ok := belowS_ok h _
def cellsF : Nat -> DCur -> List Int -> List Int × DCur
 | 0, s, l => (l, s)
 | n + 1, s, l => cellsF n (intC s [0, 0, 0, 0, 1, 2]) (l ++ [intV s [0, 0, 0, 0, 1, 2]])
theorem cellsF_ok : ∀ (n : Nat) (s : DCur) (l : List Int), s.Ok -> (∀ c ∈ l, 0 <= c /\ c <= 2) -> (cellsF n s l).2.Ok /\ (∀ c ∈ (cellsF n s l).1, 0 <= c /\ c <= 2) /\ (cellsF n s l).1.length = l.length + n := by
 intro n
 induction n with
 | zero => intro s l h hl; exact ⟨h, hl, rfl⟩
 | succ n ih =>
  intro s l h hl
  have hv : 0 <= intV s [0, 0, 0, 0, 1, 2] /\ intV s [0, 0, 0, 0, 1, 2] <= 2 := by
   have := intV_mem s (l := [0, 0, 0, 0, 1, 2]) (by simp)
   simp only [List.mem_cons, List.not_mem_nil, or_false] at this
   omega
  have := ih (intC s [0, 0, 0, 0, 1, 2]) (l ++ [intV s [0, 0, 0, 0, 1, 2]]) (intC_ok h _) (by
   intro c hc
   rcases List.mem_append.1 hc with hc | hc
   ·exact hl c hc
   ·rw [List.mem_singleton] at hc; subst hc; exact hv)
  rw [cellsF]
  refine ⟨this.1, this.2.1, ?_⟩
  rw [this.2.2]; simp; omega
def landW (s : DCur) : Int := 2 + belowV s 5
def landH (s : DCur) : Int := 2 + belowV (belowS s 5) 4
def landF (s : DCur) : DLand × DCur :=
 (⟨landW s, landH s, (cellsF (landW s * landH s).toNat (belowS (belowS s 5) 4) []).1.set 0 0⟩, (cellsF (landW s * landH s).toNat (belowS (belowS s 5) 4) []).2)
theorem land_wh (s : DCur) : (2 <= landW s /\ landW s <= 6) /\ (2 <= landH s /\ landH s <= 5) := by
 have h1 := belowV_bnd s 5
 have h2 := belowV_bnd (belowS s 5) 4
 have h3 := h1.2.1 (by omega)
 have h4 := h2.2.1 (by omega)
 unfold landW landH; omega
structure Drawn (x : DLand) : Prop where
 w : 2 <= x.w /\ x.w <= 6
 h : 2 <= x.h /\ x.h <= 5
 len : (x.cells.length : Int) = x.w * x.h
 cell : ∀ c ∈ x.cells, 0 <= c /\ c <= 2
 zero : x.cells[0]? = some 0
theorem Drawn.cnt {x : DLand} (h : Drawn x) : 4 <= x.cells.length /\ x.cells.length <= 30 := by
 have h1 := h.w; have h2 := h.h; have h3 := h.len
 have a := Int.mul_le_mul h1.2 h2.2 (by omega) (by omega)
 have b := Int.mul_le_mul h1.1 h2.1 (by omega) (by omega)
 omega
theorem Drawn.ok {x : DLand} (h : Drawn x) : x.Ok := by
 have h1 := h.w; have h2 := h.h
 exact ⟨⟨by omega, by omega⟩, ⟨by omega, by omega⟩, h.len, fun j c hj => h.cell c (mem_get hj)⟩
theorem landF_ok {s : DCur} (h : s.Ok) : Drawn (landF s).1 /\ (landF s).2.Ok := by
 have hw := land_wh s
 have hm := Int.mul_le_mul hw.1.1 hw.2.1 (by omega) (by omega)
 have := cellsF_ok (landW s * landH s).toNat (belowS (belowS s 5) 4) [] (belowS_ok (belowS_ok h 5) 4) (by intro c hc; cases hc)
 refine ⟨⟨hw.1, hw.2, ?_, fun c hc => ?_, ?_⟩, this.1⟩
 ·simp only [landF, List.length_set, this.2.2, List.length_nil, Nat.zero_add]; omega
 ·simp only [landF] at hc
  rcases List.mem_or_eq_of_mem_set hc with hc | rfl
  ·exact this.2.1 c hc
  ·omega
 ·simp only [landF]
  rw [List.getElem?_set_self (by rw [this.2.2]; simp; omega)]
def landM (w h : Int) : List Int -> List Ent
 | [] => [.box 0 [.v (.int .i64 0), .v (.int .i64 0), .nil], .box 0 [.v (.int .i64 w), .v (.int .i64 h), .nil]]
 | c :: l => [.box 0 [.v (.int .i64 0), .v (.int .i64 0), .nil], .box 0 [.v (.int .i64 w), .v (.int .i64 h), .ow 102 0 1 (l.length + 1)], .arr 0 1 (intRow c :: l.map intRow)]
theorem spec_l4Draw (s : DCur) (h : s.Ok) : SC Tryz.prog 156 [.at (.bx 0 0 0)] [.box 0 s.ats] (.ag (landF s).1.frs) [.box 0 (landF s).2.ats] := by
 refine SC.of_M mixed Tryz.func156 (by kernel_rfl) rfl Tryz.results156 _ Tryz.ntmps156 (by simp) (by simp) ?_
 simp -implicitDefEqProofs only [go_sem, invOf]
 refine callXNB [0] [] (spec_l1Below s 5 h) (by decide) (by simp -implicitDefEqProofs only [go_sem]) (by simp -implicitDefEqProofs only [go_sem]) ?_
 simp -implicitDefEqProofs only [go_sem, invOf]
 refine callXNB [0] [] (spec_l1Below (belowS s 5) 4 (belowS_ok h 5)) (by decide) (by simp -implicitDefEqProofs only [go_sem]) (by simp -implicitDefEqProofs only [go_sem]) ?_
 simp -implicitDefEqProofs only [go_sem, invOf]
 have hw := land_wh s
 have hw2 := hw
 unfold landW landH at hw2
 rw [wrapH (show 2 + belowV s 5 = landW s from rfl) (by omega) (by omega), wrapH (show 2 + belowV (belowS s 5) 4 = landH s from rfl) (by omega) (by omega)]
 have hlow := Int.mul_le_mul hw.1.1 hw.2.1 (by omega) (by omega)
 have hhigh := Int.mul_le_mul hw.1.2 hw.2.2 (by omega) (by omega)
 generalize hA : cellsF (landW s * landH s).toNat (belowS (belowS s 5) 4) [] = A
 have hF : landF s = (⟨landW s, landH s, A.1.set 0 0⟩, A.2) := by rw [landF, hA]
 rw [hF]
 clear hF hw2
 generalize landW s = w at *
 generalize landH s = hh at *
 generalize hN : (w * hh).toNat = N at *
 refine T.loopN mixed (show 1 <= 100 by decide) [0, 2, 3, 4] (fun mm vs ex es => ∃ (y : DCur) (l : List Int) (i : Nat), vs = [.at (.bx 0 0 0), .at (.bx 100 0 0), .at (.bx 101 0 0), .at (.v (.int .i64 (i : Nat)))] /\ ex = [.box 0 y.ats] /\ es = landM w hh l /\ mm + i = N /\ i = l.length /\ y.Ok /\ cellsF mm y l = A) N ?_ ?_
 ·simp -implicitDefEqProofs only [go_sem, invOf]
  exact ⟨_, [], 0, rfl, rfl, rfl, rfl, rfl, belowS_ok (belowS_ok h 5) 4, hA⟩
 rintro q _ _ _ ⟨y, l, i, rfl, rfl, rfl, hn, hi, hy, hA2⟩ -
 subst hi
 cases l with
 | nil =>
  simp only [landM, List.length_nil]
  simp -implicitDefEqProofs only [go_sem, invOf]
  rw [wrap64 (x := w * hh) (by omega) (by omega)]
  refine ⟨fun hi => ?_, fun hi => by simp only [List.length_nil] at hn; omega⟩
  refine ⟨some [999999, 0], by decide +kernel, ?_⟩
  simp -implicitDefEqProofs only [go_sem]
  refine callXNQ [0] [1384] (by decide) (spec_l1Int y [0, 0, 0, 0, 1, 2] hy (by simp) (by simp)) (by decide) (by simp -implicitDefEqProofs only [go_sem]) (by simp -implicitDefEqProofs only [go_sem]) ?_
  simp -implicitDefEqProofs only [go_sem, invOf]
  simp only [List.length_nil, Nat.add_zero] at hn
  obtain ⟨k, rfl⟩ : ∃ k, q = k + 1 := ⟨q - 1, by omega⟩
  exact ⟨room_s (n := 1) (by omega) (by decide), k, by omega, _, [intV y [0, 0, 0, 0, 1, 2]], 1, by rw [wrap64 (by omega) (by omega)]; rfl, rfl, rfl, by omega, rfl, intC_ok hy _, hA2⟩
 | cons c l =>
  simp only [landM]
  simp -implicitDefEqProofs only [go_sem, invOf]
  rw [wrap64 (x := w * hh) (by omega) (by omega)]
  refine ⟨fun hi => ?_, fun hi => ?_⟩
  ·refine ⟨some [999999, 0, 102], by decide +kernel, ?_⟩
   simp -implicitDefEqProofs only [go_sem]
   refine callXNQ [0] [1384] (by decide) (spec_l1Int y [0, 0, 0, 0, 1, 2] hy (by simp) (by simp)) (by decide) (by simp -implicitDefEqProofs only [go_sem]) (by simp -implicitDefEqProofs only [go_sem]) ?_
   simp -implicitDefEqProofs only [go_sem, invOf]
   simp only [List.length_cons] at hn
   obtain ⟨k, rfl⟩ : ∃ k, q = k + 1 := ⟨q - 1, by omega⟩
   exact ⟨room_s (by omega) (by decide), k, by omega, _, c :: (l ++ [intV y [0, 0, 0, 0, 1, 2]]), l.length + 2, by rw [wrap64 (by omega) (by omega)]; omega, rfl, by simp [intRow], by omega, by simp, intC_ok hy _, hA2⟩
  ·simp only [List.length_cons] at hn
   obtain rfl : q = 0 := by omega
   rw [cellsF] at hA2
   subst hA2
   exact ⟨by omega, by simp, by simp, rfl, by simp [intRow]⟩
end Go.Abs
namespace Go.Abs
open Go.RowKit Go.Proofs
set_option linter.all false
set_option maxRecDepth 100000
set_option maxHeartbeats 4000000
theorem ruleS_ok {s : DCur} (h : s.Ok) : (ruleS s).Ok := belowS_ok (belowS_ok h _) _
end Go.Abs
namespace Go.Abs
open Go.RowKit Go.Proofs
set_option linter.all false
set_option maxRecDepth 100000
set_option maxHeartbeats 4000000
noncomputable def start33 (s : DCur) : DTrek × DCur :=
 (newTrekZ (landF s).1 0 (ruleV (landF s).2) (crewF 4 (ruleS (landF s).2) 1 []).1, (crewF 4 (ruleS (landF s).2) 1 []).2)
theorem crewF_ok : ∀ (k : Nat) (s : DCur) (i : Int) (l : List DMember), s.Ok -> (crewF k s i l).2.Ok /\ (crewF k s i l).1.length <= l.length + k := by
 intro k
 induction k with
 | zero => intro s i l h; exact ⟨h, Nat.le_refl _⟩
 | succ k ih =>
  intro s i l h
  rw [crewF]
  split
  ·have := ih (belowS (belowS (belowS s 3) 20) 2) (i + 1) (l ++ [⟨i, 10 + belowV (belowS s 3) 20, 1 + belowV (belowS (belowS s 3) 20) 2, false⟩]) (belowS_ok (belowS_ok (belowS_ok h _) _) _)
   refine ⟨this.1, Nat.le_trans this.2 ?_⟩
   simp; omega
  ·exact ⟨belowS_ok h 3, by simp⟩
theorem newTrekZ_party {x : DLand} {base : Int} {r : DRule} {crew : List DMember} : ((newTrekZ x base r crew).party.at_ = base \/ (newTrekZ x base r crew).party.at_ = 0) /\ (newTrekZ x base r crew).party.food = 0 /\ (newTrekZ x base r crew).journal = [] /\ (newTrekZ x base r crew).depots = [] /\ (newTrekZ x base r crew).party.past = [] /\ (newTrekZ x base r crew).day = 0 /\ (newTrekZ x base r crew).given = 0 /\ (newTrekZ x base r crew).eaten = 0 := by
 unfold newTrekZ
 split
 ·exact ⟨.inl rfl, rfl, rfl, rfl, rfl, rfl, rfl, rfl⟩
 ·exact ⟨.inr rfl, rfl, rfl, rfl, rfl, rfl, rfl, rfl⟩
structure Small (t : DTrek) : Prop where
 cells : t.land.cells.length <= 30
 depots : t.depots.length <= 1000
 crew : t.party.crew.length <= 10
 past : t.party.past.length <= 1000
 journal : t.journal.length <= 1000
 pages : ∀ p ∈ t.journal, p.wf
 at_ : I64 t.party.at_
 food : I64 t.party.food
theorem Small.fit {t : DTrek} (h : Small t) : t.Fit := ⟨Nat.le_trans h.cells (by decide), Nat.le_trans h.depots (by decide), Nat.le_trans h.crew (by decide), Nat.le_trans h.past (by decide), Nat.le_trans h.journal (by decide), h.pages⟩
theorem start33_ok {s : DCur} (h : s.Ok) : Small (start33 s).1 /\ (start33 s).2.Ok := by
 have h1 := landF_ok h
 have h2 := h1.1.cnt
 have h3 := crewF_ok 4 (ruleS (landF s).2) 1 [] (ruleS_ok h1.2)
 have hp := newTrekZ_party (x := (landF s).1) (base := 0) (r := ruleV (landF s).2) (crew := (crewF 4 (ruleS (landF s).2) 1 []).1)
 refine ⟨⟨newTrekZ_cells h2.2, by rw [start33, hp.2.2.2.1]; simp, newTrekZ_crew (by have := h3.2; simp at this; omega), by rw [start33, hp.2.2.2.2.1]; simp, by rw [start33, hp.2.2.1]; simp, by (rw [start33, hp.2.2.1]; intro p hp; cases hp), ?_, by rw [start33, hp.2.1]; unfold I64; simp⟩, h3.1⟩
 show I64 (newTrekZ (landF s).1 0 (ruleV (landF s).2) (crewF 4 (ruleS (landF s).2) 1 []).1).party.at_
 rcases hp.1 with e | e <;> rw [e] <;> unfold I64 <;> simp
theorem spec_l33Start (s : DCur) (h : s.Ok) : SC Tryz.prog 71 [.at (.bx 0 0 0)] [.box 0 s.ats] (.ag (start33 s).1.frs) [.box 0 (start33 s).2.ats] := by
 have h1 := landF_ok h
 have h2 := h1.1.cnt
 have h3 := crewF_ok 4 (ruleS (landF s).2) 1 [] (ruleS_ok h1.2)
 refine SC.of_M mixed Tryz.func71 (by kernel_rfl) rfl Tryz.results71 _ Tryz.ntmps71 (by simp) (by simp) ?_
 simp -implicitDefEqProofs only [go_sem, invOf]
 refine callXNB [0] [] (spec_l4Draw s h) (by decide) (by simp -implicitDefEqProofs only [go_sem]) (by simp -implicitDefEqProofs only [go_sem]) ?_
 simp -implicitDefEqProofs only [go_sem, invOf]
 refine callXNB [0] [] (spec_l6Rule (landF s).2 h1.2) (by decide) (by simp -implicitDefEqProofs only [go_sem]) (by simp -implicitDefEqProofs only [go_sem]) ?_
 simp -implicitDefEqProofs only [go_sem, invOf]
 refine callXNB [0] [] (spec_l33Crew (ruleS (landF s).2) (ruleS_ok h1.2)) (by decide) (by simp -implicitDefEqProofs only [go_sem]) (by simp -implicitDefEqProofs only [go_sem]) ?_
 simp -implicitDefEqProofs only [go_sem, invOf]
 refine callX [1112, 1176] (spec_NewTrek (landF s).1 0 (ruleV (landF s).2) (crewF 4 (ruleS (landF s).2) 1 []).1 (by omega) (by have := h3.2; simp at this; omega)) (by simp -implicitDefEqProofs only [go_sem]) ?_
 simp -implicitDefEqProofs only [go_sem]
 rw [show newTrekZ (landF s).1 0 (ruleV (landF s).2) (crewF 4 (ruleS (landF s).2) 1 []).1 = (start33 s).1 from rfl, show (crewF 4 (ruleS (landF s).2) 1 []).2 = (start33 s).2 from rfl]
 simp -implicitDefEqProofs only [go_sem, invOf]
section
variable {s : DCur}
end
end Go.Abs
namespace Go.Abs
open Go.RowKit Go.Proofs
set_option linter.all false
theorem SC.frozenX {P : Program} {f : FuncId} {args : List AV} {res : AV} {ext ext' : List Ent} (h : SC P f args ext res ext') (hx : ext.length <= 900) (hpl : ∀ e ∈ ext', e.plain = true) : SC P f args ext (zV res) ext' := by
 refine ⟨h.1, fun w F lam us hF hZ hM hl hv => (h.2 w F lam us hF hZ hM hl hv).mono ?_⟩
 rintro e w' ⟨v, F', lam', rfl, p1, p2, p3, p4, p5, p6, p7⟩
 have hfr : ∀ (j : Nat) e, (freshes res)[j]? = some e -> ofM ext.length 1000 ext' (freshes res) (1000 + j) = e := by
  intro j e hj
  rw [ofM_fresh (by omega), List.getD_eq_getElem?_getD, hj]; rfl
 have hent : ∀ (j : Nat) e, (freshes res)[j]? = some e -> ∀ b o, lam' (1000 + j) = some (b, o) -> w.heap.size <= b /\ b < w'.heap.size := by
  intro j e hj b o hb
  rcases freshes_arr res e (List.mem_of_getElem? hj) with ⟨sz, rows, rfl⟩ | ⟨cs, rfl, _⟩
  ·have := p6.ent (1000 + j)
   rw [hfr j _ hj] at this
   rcases this.2 with ⟨h, _⟩ | ⟨b', o', cur, ty, h3, h4, h5, h6, h7⟩
   ·rw [hb] at h; cases h
   ·rw [hb] at h3; simp only [Option.some.injEq, Prod.mk.injEq] at h3; obtain ⟨rfl, rfl⟩ := h3
    exact ⟨h6.2 (by show ext.length <= _; omega), (Array.getElem?_eq_some_iff.1 h4).1⟩
  ·have := p6.ent (1000 + j)
   rw [hfr j _ hj] at this
   obtain ⟨b', cur, ty, h3, h4, h5, h6, h7⟩ := this
   rw [hb] at h3; simp only [Option.some.injEq, Prod.mk.injEq] at h3; obtain ⟨rfl, rfl⟩ := h3
   exact ⟨h6.2 (by show ext.length <= _; omega), (Array.getElem?_eq_some_iff.1 h4).1⟩
 let F2 : Nat -> Prop := fun b => F' b \/ ∃ j e o, (freshes res)[j]? = some e /\ lam' (1000 + j) = some (b, o)
 have he : ∀ (j : Nat) e, (freshes res)[j]? = some e -> ofM ext.length 1000 ext' (freshes res) (1000 + j) = e /\ freA lam' F2 (1000 + j) :=
  fun j e hj => ⟨hfr j e hj, fun b o hb => .inr ⟨j, e, o, hj, hb⟩⟩
 have hlive : ∀ (j : Nat) e, (freshes res)[j]? = some e -> (ofM ext.length 1000 ext' (freshes res) (1000 + j)).live := by
  intro j e hj
  rw [hfr j e hj]
  rcases freshes_arr res e (List.mem_of_getElem? hj) with ⟨sz, rows, rfl⟩ | ⟨cs, rfl, _⟩ <;> trivial
 have hold : ∀ k b o, k < ext.length -> (ofM ext.length 1000 ext' (freshes res) k).live -> lam' k = some (b, o) -> ¬ F' b -> ¬ F2 b := by
  rintro k b o hk hkl hlk hnF (h | ⟨j, e, o', hj, ho⟩)
  ·exact hnF h
  ·have := p6.inj k (1000 + j) b o o' hkl (hlive j e hj) hlk ho
   omega
 refine ⟨v, F2, lam', rfl, fun b hb => .inl (p1 b hb), ?_, ?_, p4, p5, ?_, ?_⟩
 ·rintro b hb (h | ⟨j, e, o, hj, ho⟩)
  ·exact p2 b hb h
  ·have := (hent j e hj b o ho).1; omega
 ·rintro b (h | ⟨j, e, o, hj, ho⟩)
  ·exact p3 b h
  ·exact (hent j e hj b o ho).2
 ·rw [freshes_zV]
  have hg : ∀ k, ¬ k < ext.length -> ofM ext.length 1000 ext' [] k = Ent.gone := by
   intro k hk
   simp only [ofM, if_neg hk]
   split <;> simp
  have hs : ∀ k, k < ext.length -> ofM ext.length 1000 ext' [] k = ofM ext.length 1000 ext' (freshes res) k := by
   intro k hk
   rw [ofM_ext hk, ofM_ext hk]
  refine ⟨fun k => ?_, fun k k' b o o' h1 h2 h3 h4 => ?_⟩
  ·by_cases hk : k < ext.length
   ·have he0 := p6.ent k
    rw [<- hs k hk] at he0
    have hh : ∀ b o, (ofM ext.length 1000 ext' [] k).live -> lam' k = some (b, o) -> ¬ F' b -> ¬ F2 b := fun b o hl2 => hold k b o hk (by rw [<- hs k hk]; exact hl2)
    have hmem : ofM ext.length 1000 ext' [] k = .gone \/ ofM ext.length 1000 ext' [] k ∈ ext' := by
     rw [ofM_ext hk]
     by_cases hk2 : k < ext'.length
     ·right; rw [List.getD_eq_getElem?_getD, List.getElem?_eq_getElem hk2]; exact List.getElem_mem hk2
     ·left; rw [List.getD_eq_getElem?_getD, List.getElem?_eq_none (by omega)]; rfl
    have hpk : ofM ext.length 1000 ext' [] k = .gone \/ (ofM ext.length 1000 ext' [] k).plain = true := hmem.imp id (hpl _)
    generalize ofM ext.length 1000 ext' [] k = en at he0 hh hpk
    cases en with
    | gone => trivial
    | arr ver sz rows =>
     obtain ⟨hw, h0⟩ := he0
     refine ⟨hw, ?_⟩
     rcases h0 with h0 | ⟨b, o, cur, ty, h3, h4, h5, h6, h7⟩
     ·exact .inl h0
     ·exact .inr ⟨b, o, cur, ty, h3, h4, hh b o trivial h3 h5, h6, h7⟩
    | ice ver sz rows => rcases hpk with h | h <;> simp [Ent.plain] at h
    | box ver cells =>
     obtain ⟨b, cur, ty, h3, h4, h5, h6, h7⟩ := he0
     refine ⟨b, cur, ty, h3, h4, hh b 0 trivial h3 h5, h6, h7.1, fun j A0 u hA hu => ?_⟩
     have hp := h7.2 j A0 u hA hu
     have hpc : cells.all A.plain = true := by rcases hpk with h | h; cases h; exact h
     exact ⟨RA_plain (fun b hb => .inl hb) (List.all_eq_true.1 hpc A0 (List.mem_of_getElem? hA)) hp.1, hp.2⟩
   ·rw [hg k hk]; trivial
  ·have lt : ∀ k, (ofM ext.length 1000 ext' [] k).live -> k < ext.length := fun k hl2 => Decidable.byContradiction fun hk => by rw [hg k hk] at hl2; exact hl2
   have k1 := lt k h1
   have k2 := lt k' h2
   rw [hs k k1] at h1
   rw [hs k' k2] at h2
   exact p6.inj k k' b o o' h1 h2 h3 h4
 ·rw [instV_zV]
  cases res with
  | «at» a => exact frozV1 (x := .at a) (fun b hb => .inl hb) p6.ent p7 he
  | ag cs => exact frozV1 (x := .ag cs) (fun b hb => .inl hb) p6.ent p7 he
  | tp xs =>
   obtain ⟨us, h1, h2, h3⟩ := p7
   obtain ⟨h4, h5⟩ := frozT (m2 := ofM ext.length 1000 ext' (freshes (zV (.tp xs)))) (fun b hb => Or.inl hb) p6.ent h2 h3 he
   exact ⟨us, h1, h4, h5⟩
theorem farA_im {s : Nat} {r : List (List Value)} : farA (.im s r) = true := rfl
attribute [go_sem] farA_im
end Go.Abs
