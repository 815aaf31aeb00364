/- The way home for days that are known. -/
import Derived.Test.YtlhlgcghfidglaaGreatAReturn
namespace Go.Abs
open Go.RowKit Go.Proofs
set_option linter.unusedVariables false
set_option linter.unusedSimpArgs false
set_option maxRecDepth 100000
set_option maxHeartbeats 4000000

theorem wrapR {x y : Int} (h : x = y) (h1 : -9223372036854775808 ≤ x) (h2 : x ≤ 9223372036854775807) : IntKind.i64.wrap x = y := by rw [wrap64 h1 (by omega), h]
noncomputable def allZ (x : DLand) (base : Int) (r : DRule) : List DDepot → DParty → List Bool → DParty × List DDepot × Nat
  | l, p, [] => (p, l, 0)
  | l, p, s :: rest =>
    if retP x base r l p s then
      ((allZ x base r (retL x base r l p s) (retZ x base r l p s) rest).1, (allZ x base r (retL x base r l p s) (retZ x base r l p s) rest).2.1, (allZ x base r (retL x base r l p s) (retZ x base r l p s) rest).2.2 + 1)
    else (p, l, 0)
theorem allZ_nil {x : DLand} {base : Int} {r : DRule} {l : List DDepot} {p : DParty} : allZ x base r l p [] = (p, l, 0) := rfl
theorem allZ_yes {x : DLand} {base : Int} {r : DRule} {l : List DDepot} {p : DParty} {s : Bool} {rest : List Bool} (h : retP x base r l p s) : allZ x base r l p (s :: rest) = ((allZ x base r (retL x base r l p s) (retZ x base r l p s) rest).1, (allZ x base r (retL x base r l p s) (retZ x base r l p s) rest).2.1, (allZ x base r (retL x base r l p s) (retZ x base r l p s) rest).2.2 + 1) := by rw [allZ, if_pos h]
theorem allZ_no {x : DLand} {base : Int} {r : DRule} {l : List DDepot} {p : DParty} {s : Bool} {rest : List Bool} (h : ¬ retP x base r l p s) : allZ x base r l p (s :: rest) = (p, l, 0) := by rw [allZ, if_neg h]
theorem allZ_bnd (x : DLand) (base : Int) (r : DRule) : ∀ (w : List Bool) (l : List DDepot) (p : DParty), (allZ x base r l p w).1.crew.length ≤ p.crew.length ∧ (allZ x base r l p w).1.past.length ≤ max p.past.length 10 ∧ (allZ x base r l p w).2.1.length ≤ l.length ∧ (allZ x base r l p w).2.2 ≤ w.length := by
  intro w
  induction w with
  | nil => intro l p; rw [allZ_nil]; refine ⟨Nat.le_refl _, Nat.le_max_left _ _, Nat.le_refl _, Nat.le_refl _⟩
  | cons s w ih =>
    intro l p
    by_cases h : retP x base r l p s
    · rw [allZ_yes h]
      have h1 := ih (retL x base r l p s) (retZ x base r l p s)
      have h2 := retL_len x base r l p s
      have h3 := retZ_c (x := x) (base := base) (r := r) (l := l) (s := s) (Nat.le_refl p.crew.length)
      have h4 := retZ_p (x := x) (base := base) (r := r) (l := l) (s := s) (Nat.le_max_left p.past.length 10) (Nat.le_max_right p.past.length 10)
      simp only [List.length_cons]
      refine ⟨by omega, by omega, by omega, by omega⟩
    · rw [allZ_no h]
      exact ⟨Nat.le_refl _, Nat.le_max_left _ _, Nat.le_refl _, Nat.zero_le _⟩
theorem allZ_c {x : DLand} {base : Int} {r : DRule} {l : List DDepot} {p : DParty} {w : List Bool} {N : Nat} (hN : p.crew.length ≤ N) : (allZ x base r l p w).1.crew.length ≤ N := Nat.le_trans (allZ_bnd x base r w l p).1 hN
theorem allZ_p {x : DLand} {base : Int} {r : DRule} {l : List DDepot} {p : DParty} {w : List Bool} {N : Nat} (hN : p.past.length ≤ N) (h10 : 10 ≤ N) : (allZ x base r l p w).1.past.length ≤ N := Nat.le_trans (allZ_bnd x base r w l p).2.1 (by omega)
theorem allZ_l {x : DLand} {base : Int} {r : DRule} {l : List DDepot} {p : DParty} {w : List Bool} {N : Nat} (hN : l.length ≤ N) : (allZ x base r l p w).2.1.length ≤ N := Nat.le_trans (allZ_bnd x base r w l p).2.2.1 hN
/-- So far. -/
def AllTo (A : DParty × List DDepot × Nat) (x : DLand) (base : Int) (r : DRule) (l : List DDepot) (p : DParty) (rest : List Bool) (i : Nat) : Prop :=
  A.1 = (allZ x base r l p rest).1 ∧ A.2.1 = (allZ x base r l p rest).2.1 ∧ A.2.2 = i + (allZ x base r l p rest).2.2
theorem all_yes {A : DParty × List DDepot × Nat} {x : DLand} {base : Int} {r : DRule} {l : List DDepot} {p : DParty} {s : Bool} {rest : List Bool} {i : Nat} (hA : AllTo A x base r l p (s :: rest) i) (h : retP x base r l p s) : AllTo A x base r (retL x base r l p s) (retZ x base r l p s) rest (i + 1) := by
  unfold AllTo at hA ⊢
  rw [allZ_yes h] at hA
  obtain ⟨a, b, c⟩ := hA
  refine ⟨a, b, ?_⟩
  rw [c]; simp only []; omega
theorem all_no {A : DParty × List DDepot × Nat} {x : DLand} {base : Int} {r : DRule} {l : List DDepot} {p : DParty} {s : Bool} {rest : List Bool} {i : Nat} (hA : AllTo A x base r l p (s :: rest) i) (h : ¬ retP x base r l p s) : A = (p, l, i) := by
  unfold AllTo at hA
  rw [allZ_no h] at hA
  obtain ⟨a, b, c⟩ := A
  simpa using hA
theorem all_end {A : DParty × List DDepot × Nat} {x : DLand} {base : Int} {r : DRule} {l : List DDepot} {p : DParty} {i : Nat} (hA : AllTo A x base r l p [] i) : A = (p, l, i) := by
  unfold AllTo at hA
  rw [allZ_nil] at hA
  obtain ⟨a, b, c⟩ := A
  simpa using hA
theorem spec_ReturnAll (x : DLand) (base : Int) (r : DRule) (l : List DDepot) (p : DParty) (w : List Bool) (hx : x.cells.length ≤ 1048576) (hl : l.length ≤ 1048576) (hc : p.crew.length ≤ 1048576) (hp : p.past.length ≤ 1048576) (hw : w.length ≤ 1048576) :
    SC Tryz.prog 37 [.ag x.ats, .at (.v (.int .i64 base)), .ag r.ats, .at (.im 2 (l.map DDepot.row)), .ag p.ats, .at (.im 1 (w.map boolRow))] [] (.tp [.ag (allZ x base r l p w).1.frs, .at (.fr 2 ((allZ x base r l p w).2.1.map DDepot.row)), .at (.v (.int .i64 ((allZ x base r l p w).2.2 : Nat)))]) [] := by
  refine SC.of_W mixed Tryz.func37 (by kernel_rfl) rfl Tryz.results37 _ Tryz.ntmps37 (by simp) ?_
  simp -implicitDefEqProofs only [go_sem]
  refine callX [] (spec_l9Copy p hc hp) (by simp -implicitDefEqProofs only [go_sem]) ?_
  simp -implicitDefEqProofs only [go_sem]
  refine ⟨room_s hl (by decide), ?_⟩
  have hA0 : AllTo (allZ x base r l p w) x base r l p w 0 := ⟨rfl, rfl, (Nat.zero_add _).symm⟩
  generalize allZ x base r l p w = A at hA0 ⊢
  refine T.loopW mixed [1, 5, 6, 8, 10, 12, 15, 16] (fun mm vs es => ∃ (i : Nat) (y : DParty) (d : List DDepot), vs = [.at (.v (.int .i64 base)), .at (.im 1 (w.map boolRow)), .at (.bx 100 0 0), .at (.bx 101 0 0), .at (.bx 102 0 0), .at (.bx 105 0 0), .at (.ow 106 0 2 d.length), .at (.v (.int .i64 (i : Nat)))] ∧ es = [.box 0 x.ats, .box 0 r.ats, .box 0 (y.own 103 104), .arr 0 4 (y.crew.map DMember.row), .arr 0 1 (y.past.map boolRow), .box 0 [.v (.int .i64 0), .v (.int .i64 0), .nil, .nil], .arr 0 2 (d.map DDepot.row)] ∧ mm + i = w.length ∧ AllTo A x base r d y (w.drop i) i ∧ d.length ≤ 1048576 ∧ y.crew.length ≤ 1048576 ∧ y.past.length ≤ 1048576) w.length ?_ ?_
  · simp -implicitDefEqProofs only [go_sem]
    exact ⟨0, p, l, ⟨rfl, rfl⟩, ⟨rfl, rfl, rfl, rfl⟩, rfl, hA0, hl, hc, hp⟩
  rintro q _ _ ⟨i, y, d, rfl, rfl, hn, hA, hd, hyc, hyp⟩
  simp -implicitDefEqProofs only [go_sem]
  refine ⟨fun hlt => ?_, fun hlt => ?_⟩
  · refine ⟨true, by decide +kernel, ?_⟩
    simp -implicitDefEqProofs only [go_sem]
    refine ⟨by omega, fun s hs => ?_⟩
    rw [drop_get hs] at hA
    refine callXQ [106, 103, 104] (spec_ReturnStep x base r d y s hx hd hyc hyp) (by simp -implicitDefEqProofs only [go_sem]) ?_
    simp -implicitDefEqProofs only [go_sem]
    refine ⟨fun hr => ?_, fun hr => ?_⟩
    · rw [all_no hA hr]; exact ⟨⟨⟨rfl, rfl, rfl, rfl⟩, rfl, rfl⟩, rfl, rfl, rfl⟩
    · refine ⟨q - 1, by omega, i + 1, retZ x base r d y s, retL x base r d y s, ⟨rfl, wrapR (by omega) (by omega) (by omega)⟩, ⟨rfl, rfl, rfl, rfl⟩, by omega, all_yes hA hr, Nat.le_trans (retL_len x base r d y s) hd, retZ_c hyc, retZ_p hyp (by decide)⟩
  · rw [List.drop_eq_nil_of_le (by omega)] at hA
    rw [all_end hA]; exact ⟨⟨⟨rfl, rfl, rfl, rfl⟩, rfl, by show (w.length : Int) = (i : Int); omega⟩, rfl, rfl, rfl⟩
theorem impl_ReturnAll (x : DLand) (base : Int) (r : DRule) (l : List DDepot) (p : DParty) (w : List Bool) (hx : x.cells.length ≤ 1048576) (hl : l.length ≤ 1048576) (hc : p.crew.length ≤ 1048576) (hp : p.past.length ≤ 1048576) (hw : w.length ≤ 1048576) :
    SC Tryz.prog 39 [.ag x.ats, .at (.v (.int .i64 base)), .ag r.ats, .at (.im 2 (l.map DDepot.row)), .ag p.ats, .at (.im 1 (w.map boolRow))] [] (.tp [.ag (allZ x base r l p w).1.frs, .at (.fr 2 ((allZ x base r l p w).2.1.map DDepot.row)), .at (.v (.int .i64 ((allZ x base r l p w).2.2 : Nat)))]) [] := by
  refine SC.of_W mixed Tryz.func39 (by kernel_rfl) rfl Tryz.results39 _ Tryz.ntmps39 (by simp) ?_
  simp -implicitDefEqProofs only [go_sem]
  refine callX [] (impl_copied p hc hp) (by simp -implicitDefEqProofs only [go_sem]) ?_
  simp -implicitDefEqProofs only [go_sem]
  refine callX [] (impl_copyDepots l hl) (by simp -implicitDefEqProofs only [go_sem]) ?_
  simp -implicitDefEqProofs only [go_sem]
  have hA0 : AllTo (allZ x base r l p w) x base r l p w 0 := ⟨rfl, rfl, (Nat.zero_add _).symm⟩
  generalize allZ x base r l p w = A at hA0 ⊢
  refine T.loopW mixed [1, 5, 6, 8, 12, 15, 16, 26, 27, 28] (fun mm vs es => ∃ (i : Nat) (y : DParty) (d : List DDepot), vs = [.at (.v (.int .i64 base)), .at (.im 1 (w.map boolRow)), .at (.bx 100 0 0), .at (.bx 101 0 0), .at (.bx 102 0 0), .at (.bx 103 0 0), .at (.ow 106 0 2 d.length), .at (.im 1 (w.map boolRow)), .at (.v (.int .i64 (w.length : Nat))), .at (.v (.int .i64 (i : Nat)))] ∧ es = [.box 0 x.ats, .box 0 r.ats, .box 0 [.v (.int .i64 0), .v (.int .i64 0), .nil, .nil], .box 0 (y.own 104 105), .arr 0 4 (y.crew.map DMember.row), .arr 0 1 (y.past.map boolRow), .arr 0 2 (d.map DDepot.row)] ∧ mm + i = w.length ∧ AllTo A x base r d y (w.drop i) i ∧ d.length ≤ 1048576 ∧ y.crew.length ≤ 1048576 ∧ y.past.length ≤ 1048576) w.length ?_ ?_
  · simp -implicitDefEqProofs only [go_sem]
    exact ⟨0, p, l, ⟨rfl, rfl⟩, ⟨rfl, rfl, rfl, rfl⟩, rfl, hA0, hl, hc, hp⟩
  rintro q _ _ ⟨i, y, d, rfl, rfl, hn, hA, hd, hyc, hyp⟩
  simp -implicitDefEqProofs only [go_sem]
  refine ⟨fun hlt => ?_, fun hlt => ?_⟩
  · refine ⟨by omega, fun s hs => ?_⟩
    rw [drop_get hs] at hA
    refine callX [106, 104, 105] (impl_ReturnStep x base r d y s hx hd hyc hyp) (by simp -implicitDefEqProofs only [go_sem]) ?_
    simp -implicitDefEqProofs only [go_sem]
    refine ⟨fun hr => ?_, fun hr => ?_⟩
    · rw [all_no hA hr]; exact ⟨⟨⟨rfl, rfl, rfl, rfl⟩, rfl, rfl⟩, rfl, rfl, rfl⟩
    · refine ⟨q - 1, by omega, i + 1, retZ x base r d y s, retL x base r d y s, ⟨rfl, wrapR (by omega) (by omega) (by omega)⟩, ⟨rfl, rfl, rfl, rfl⟩, by omega, all_yes hA hr, Nat.le_trans (retL_len x base r d y s) hd, retZ_c hyc, retZ_p hyp (by decide)⟩
  · rw [List.drop_eq_nil_of_le (by omega)] at hA
    rw [all_end hA]; exact ⟨⟨⟨rfl, rfl, rfl, rfl⟩, rfl, by show (w.length : Int) = (i : Int); omega⟩, rfl, rfl, rfl⟩
end Go.Abs
