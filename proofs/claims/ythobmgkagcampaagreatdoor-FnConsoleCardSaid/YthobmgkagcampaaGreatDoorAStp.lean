/- Steps of an expedition: what is common to all. -/
import Derived.Test.YthobmgkagcampaaGreatDoorAWrite
namespace Go.Abs
open Go.RowKit Go.Proofs
set_option linter.all false
set_option maxRecDepth 100000
set_option maxHeartbeats 4000000
theorem prevP_app {l : List DPage} {x : DPage} {i : Nat} (h : i <= l.length) : prevP (l ++ [x]) i = prevP l i := by
 unfold prevP
 split
 ·rfl
 ·rw [List.getD_eq_getElem?_getD, List.getD_eq_getElem?_getD, List.getElem?_append_left (by omega)]
def pagesOf (t : DTrek) : List DPage := if 100 <= t.journal.length then [] else t.journal
theorem pagesOf_len (t : DTrek) : (pagesOf t).length <= 99 := by
 unfold pagesOf; split
 ·simp
 ·omega
theorem pagesOf_wf {t : DTrek} (h : ∀ p ∈ t.journal, p.wf) : ∀ p ∈ pagesOf t, p.wf := by
 unfold pagesOf; split
 ·intro p hp; cases hp
 ·exact h
noncomputable def dayT (t : DTrek) (p : DParty) (l : List DDepot) : DTrek :=
 { t with depots := l, party := p, journal := writeL (pagesOf t) (IntKind.i64.wrap (t.day + 1)) p.at_ p.food, day := IntKind.i64.wrap (t.day + 1), eaten := IntKind.i64.wrap (t.eaten + needZ t.party.crew) }
theorem I64_wrap (x : Int) : I64 (IntKind.i64.wrap x) := by
 unfold I64 IntKind.wrap
 simp [IntKind.bits, IntKind.signed]
 omega
structure DParty.Fit (p : DParty) : Prop where
 crew : p.crew.length <= 1048576
 past : p.past.length <= 1048576
 at_ : I64 p.at_
 food : I64 p.food
theorem dayT_fit {t : DTrek} {p : DParty} {l : List DDepot} (h : t.Fit) (hp : p.Fit) (hl : l.length <= 1048576) : (dayT t p l).Fit :=
 ⟨h.cells, hl, hp.crew, hp.past, Nat.le_trans writeL_len (by have := pagesOf_len t; omega), writeL_wf (pagesOf_wf h.pages) (I64_wrap _) hp.at_ hp.food⟩
theorem cell_bnd {x : DLand} {n : Int} (h : x.Cell n) : 0 <= n /\ n <= 63 := by
 obtain ⟨⟨⟨h1, h2⟩, ⟨h3, h4⟩, h5, _⟩, h6, h7⟩ := h
 have := Int.mul_le_mul h2 h4 (by omega) (by omega)
 omega
theorem back_at {t : DTrek} (h : t.Back) : 0 <= t.party.at_ /\ t.party.at_ <= 63 := cell_bnd h.1.1.2.2.1.1
theorem writeP_of {t : DTrek} {p : DParty} {l : List DDepot} (h : trekP t) (h' : trekP (dayT t p l)) : writeP (pagesOf t) (IntKind.i64.wrap (t.day + 1)) p.at_ p.food := by
 have hd := h.2.2.2.2.1
 have ed : IntKind.i64.wrap (t.day + 1) = t.day + 1 := wrap64 (by omega) (by omega)
 have hd' : 0 <= IntKind.i64.wrap (t.day + 1) /\ IntKind.i64.wrap (t.day + 1) <= 5000 := h'.2.2.2.2.1
 have hat : 0 <= p.at_ /\ p.at_ <= 63 := back_at (t := dayT t p l) h'.1
 have hfd : 0 <= p.food /\ p.food <= 10000 := backP.food h'.1
 rw [ed] at hd' ⊢
 have hj : Journal (pagesOf t) /\ (prevP (pagesOf t) (pagesOf t).length).day <= t.day := by
  unfold pagesOf
  split
  ·exact ⟨⟨fun j m hm => by simp at hm, by simp⟩, by simp [prevP_0]; omega⟩
  ·refine ⟨h.2.2.1, ?_⟩
   rcases h.2.2.2.1 with h0 | h0
   ·rw [h0, prevP_0]; simp only []; omega
   ·exact h0
 refine ⟨fun i q hi => ?_, by have := pagesOf_len t; simp; omega⟩
 by_cases hlt : i < (pagesOf t).length
 ·rw [List.getElem?_append_left hlt] at hi
  have := hj.1.1 i q hi
  unfold okP at this ⊢
  rw [prevP_app (by omega)]; exact this
 ·have hlt2 := (List.getElem?_eq_some_iff.1 hi).1
  have hie : i = (pagesOf t).length := by simp at hlt2; omega
  subst hie
  rw [List.getElem?_append_right (Nat.le_refl _), Nat.sub_self] at hi
  simp only [List.getElem?_cons_zero, Option.some.injEq] at hi
  subst hi
  unfold okP
  rw [prevP_app (Nat.le_refl _)]
  exact ⟨⟨by simp only [mkPage]; omega, by simp only [mkPage]; omega⟩, hat, hfd, rfl⟩
theorem impl_Trek_copied (t : DTrek) (h : t.Fit) : SC Tryz.prog 29 [.ag t.ats] [] (.ag t.frs) [] := by
 refine SC.of_W mixed Tryz.func29 (by kernel_rfl) rfl Tryz.results29 _ Tryz.ntmps29 (by simp) ?_
 simp -implicitDefEqProofs only [go_sem]
 have hj := h.journal
 refine ⟨some [], by decide +kernel, ?_⟩
 simp -implicitDefEqProofs only [go_sem]
 refine callXQ [] (impl_Land_copied t.land h.cells) (by simp -implicitDefEqProofs only [go_sem]) ?_
 simp -implicitDefEqProofs only [go_sem]
 refine callXQ [] (impl_copyDepots t.depots h.depots) (by simp -implicitDefEqProofs only [go_sem]) ?_
 simp -implicitDefEqProofs only [go_sem]
 refine callXQ [] (impl_copied t.party h.crew h.past) (by simp -implicitDefEqProofs only [go_sem]) ?_
 simp -implicitDefEqProofs only [go_sem]
 exact room_s (by omega) (by decide)
def DTrek.ows (p : DTrek) : List A := [.v (.int .i64 p.land.w), .v (.int .i64 p.land.h), .ow 0 0 1 p.land.cells.length, .v (.int .i64 p.base), .v (.int .i64 p.rule.most), .v (.int .i64 p.rule.window), .ow 1 0 2 p.depots.length, .v (.int .i64 p.party.at_), .v (.int .i64 p.party.food), .ow 2 0 4 p.party.crew.length, .ow 3 0 1 p.party.past.length, .ow 4 0 4 p.journal.length, .v (.int .i64 p.day), .v (.int .i64 p.given), .v (.int .i64 p.eaten)]
def DTrek.arrs (p : DTrek) : List Ent := [.arr 0 1 (p.land.cells.map intRow), .arr 0 2 (p.depots.map DDepot.row), .arr 0 4 (p.party.crew.map DMember.row), .arr 0 1 (p.party.past.map boolRow), .arr 0 4 (p.journal.map DPage.row)]
attribute [go_sem] DTrek.ows
attribute [go_sem, simp] DTrek.arrs
theorem impl_becomes_yes (t n : DTrek) (ht : t.Fit) (hn : n.Fit) (h1 : trekP t) (h2 : trekP n) : SC Tryz.prog 203 [.ag t.ats, .ag n.ows, .at (.v (.bool true))] n.arrs (.tp [.ag n.ows, .at (.v (.bool true))]) n.arrs := by
 refine SC.of_H mixed Tryz.func203 (by kernel_rfl) rfl Tryz.results203 _ Tryz.ntmps203 (by simp) (by simp) ?_
 simp -implicitDefEqProofs only [go_sem, invOf]
 refine callX [] (impl_IsTrek t ht) (by simp -implicitDefEqProofs only [go_sem]) ?_
 simp -implicitDefEqProofs only [go_sem]
 refine ⟨fun _ => ?_, fun h => absurd h1 h⟩
 refine callX [0, 1, 2, 3, 4] (impl_IsTrek n hn) (by simp -implicitDefEqProofs only [go_sem]) ?_
 simp -implicitDefEqProofs only [go_sem]
 refine ⟨fun h => absurd h2 h, fun _ => ?_⟩
 simp -implicitDefEqProofs only [go_sem, invOf]
theorem impl_becomes_no (t n : DTrek) (ok : Bool) (ht : t.Fit) (hn : n.Fit) (h : ¬ (ok = true /\ trekP t /\ trekP n)) : SC Tryz.prog 203 [.ag t.ats, .ag n.ows, .at (.v (.bool ok))] n.arrs (.tp [.ag t.frs, .at (.v (.bool false))]) n.arrs := by
 refine SC.of_M mixed Tryz.func203 (by kernel_rfl) rfl Tryz.results203 _ Tryz.ntmps203 (by simp) (by simp) ?_
 simp -implicitDefEqProofs only [go_sem, invOf]
 refine ⟨fun h0 => ?_, fun h0 => ?_⟩
 ·refine callX [] (impl_IsTrek t ht) (by simp -implicitDefEqProofs only [go_sem]) ?_
  simp -implicitDefEqProofs only [go_sem]
  refine ⟨fun h1 => ?_, fun h1 => ?_⟩
  ·refine callX [0, 1, 2, 3, 4] (impl_IsTrek n hn) (by simp -implicitDefEqProofs only [go_sem]) ?_
   simp -implicitDefEqProofs only [go_sem]
   refine ⟨fun h2 => ?_, fun h2 => absurd ⟨h0, h1, h2⟩ h⟩
   refine callX [] (impl_Trek_copied t ht) (by simp -implicitDefEqProofs only [go_sem]) ?_
   simp -implicitDefEqProofs only [go_sem]
   simp -implicitDefEqProofs only [go_sem, invOf]
  ·refine callX [] (impl_Trek_copied t ht) (by simp -implicitDefEqProofs only [go_sem]) ?_
   simp -implicitDefEqProofs only [go_sem]
   simp -implicitDefEqProofs only [go_sem, invOf]
 ·refine callX [] (impl_Trek_copied t ht) (by simp -implicitDefEqProofs only [go_sem]) ?_
  simp -implicitDefEqProofs only [go_sem]
  simp -implicitDefEqProofs only [go_sem, invOf]
theorem spec_l34Done_yes (t n : DTrek) (ht : t.Fit) (hn : n.Fit) (h1 : trekP t) (h2 : trekP n) : SC Tryz.prog 160 [.ag t.ats, .ag n.ows, .at (.v (.bool true))] n.arrs (.tp [.ag n.ows, .at (.v (.bool true))]) n.arrs := by
 refine SC.of_H mixed Tryz.func160 (by kernel_rfl) rfl Tryz.results160 _ Tryz.ntmps160 (by simp) (by simp) ?_
 simp -implicitDefEqProofs only [go_sem, invOf]
 refine callX [] (spec_IsTrek t ht) (by simp -implicitDefEqProofs only [go_sem]) ?_
 simp -implicitDefEqProofs only [go_sem]
 refine ⟨fun _ => ?_, fun h => absurd h1 h⟩
 refine callX [0, 1, 2, 3, 4] (spec_IsTrek n hn) (by simp -implicitDefEqProofs only [go_sem]) ?_
 simp -implicitDefEqProofs only [go_sem]
 refine ⟨fun h => absurd h2 h, fun _ => ?_⟩
 simp -implicitDefEqProofs only [go_sem, invOf]
theorem spec_l34Done_no (t n : DTrek) (ok : Bool) (ht : t.Fit) (hn : n.Fit) (h : ¬ (ok = true /\ trekP t /\ trekP n)) : SC Tryz.prog 160 [.ag t.ats, .ag n.ows, .at (.v (.bool ok))] n.arrs (.tp [.ag t.frs, .at (.v (.bool false))]) n.arrs := by
 refine SC.of_M mixed Tryz.func160 (by kernel_rfl) rfl Tryz.results160 _ Tryz.ntmps160 (by simp) (by simp) ?_
 simp -implicitDefEqProofs only [go_sem, invOf]
 refine ⟨fun h0 => ?_, fun h0 => ?_⟩
 ·refine callX [] (spec_IsTrek t ht) (by simp -implicitDefEqProofs only [go_sem]) ?_
  simp -implicitDefEqProofs only [go_sem]
  refine ⟨fun h1 => ?_, fun h1 => ?_⟩
  ·refine callX [0, 1, 2, 3, 4] (spec_IsTrek n hn) (by simp -implicitDefEqProofs only [go_sem]) ?_
   simp -implicitDefEqProofs only [go_sem]
   refine ⟨fun h2 => ?_, fun h2 => absurd ⟨h0, h1, h2⟩ h⟩
   refine callX [] (spec_l33Copy t ht) (by simp -implicitDefEqProofs only [go_sem]) ?_
   simp -implicitDefEqProofs only [go_sem]
   simp -implicitDefEqProofs only [go_sem, invOf]
  ·refine callX [] (spec_l33Copy t ht) (by simp -implicitDefEqProofs only [go_sem]) ?_
   simp -implicitDefEqProofs only [go_sem]
   simp -implicitDefEqProofs only [go_sem, invOf]
 ·refine callX [] (spec_l33Copy t ht) (by simp -implicitDefEqProofs only [go_sem]) ?_
  simp -implicitDefEqProofs only [go_sem]
  simp -implicitDefEqProofs only [go_sem, invOf]
end Go.Abs
