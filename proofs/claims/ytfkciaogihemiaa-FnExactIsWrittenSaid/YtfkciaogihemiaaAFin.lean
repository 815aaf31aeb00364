/- Ends of functions, and lists that are filled place by place. -/
import Derived.Test.YtfkciaogihemiaaAEvApp
namespace Go.Abs
open Go.RowKit
set_option linter.unusedVariables false
set_option linter.unusedSimpArgs false

theorem set_fill {β : Type} {f : β → List Value} {l : List β} {i : Nat} {p : β} {z : List Value} (h : l[i]? = some p) : ((l.take i).map f ++ List.replicate (l.length - i) z).set i (f p) = (l.take (i + 1)).map f ++ List.replicate (l.length - (i + 1)) z := by
  obtain ⟨hi, rfl⟩ := List.getElem?_eq_some_iff.1 h
  have hlen : ((l.take i).map f).length = i := by simp; omega
  rw [List.set_append_right _ _ (by omega), hlen, Nat.sub_self]
  obtain ⟨k, hk⟩ : ∃ k, l.length - i = k + 1 := ⟨l.length - i - 1, by omega⟩
  rw [hk, List.replicate_succ, List.set_cons_zero, show l.length - (i + 1) = k by omega, List.take_succ_eq_append_getElem hi]
  simp only [List.map_append, List.map_cons, List.map_nil, List.append_assoc, List.singleton_append]

theorem fill_get {β : Type} {f : β → List Value} {l : List β} {i : Nat} {z : List Value} (hi : i < l.length) : ((l.take i).map f ++ List.replicate (l.length - i) z).getD i [] = z := by
  have hlen : ((l.take i).map f).length = i := by simp; omega
  rw [List.getD_eq_getElem?_getD, List.getElem?_append_right (by omega), hlen, Nat.sub_self, List.getElem?_replicate, if_pos (by omega)]; rfl

/-- The end of a function that gives an array of its own. -/
theorem fin_fresh {P : Program} {fn : Func} {σ : St} {t k ver sz n : Nat} {rows : List (List Value)} (hts : fn.results = #[.tmp t]) (h : σ.t t = .at (.ow k ver sz n)) (hm : σ.m k = .arr ver sz rows) (hn : n = rows.length) : finS P 0 fn (.at (.fr sz rows)) [] .ret σ := by
  refine ⟨σ, [.at (.ow k ver sz n)], [k], Weak.refl _ _, by rw [hts]; exact ⟨h, trivial⟩, by omega, by simp, by simp, ?_, rfl, ?_⟩
  · subst hn
    simp [oneOf, renV, ren, invOf, List.idxOf?_cons, hm, Ent.ver, subR, subV, subA, instV, inst1, instA]
  · simp [hm, renE, freshes, fresh1, freshA]

theorem drop_get {β : Type} {l : List β} {i : Nat} {x : β} (h : l[i]? = some x) : l.drop i = x :: l.drop (i + 1) := by
  obtain ⟨h1, rfl⟩ := List.getElem?_eq_some_iff.1 h
  rw [List.drop_eq_getElem_cons h1]

theorem subA_refl (a : A) : subA a a := by
  cases a with
  | im sz rows => cases rows <;> simp [subA]
  | _ => simp [subA]
theorem subA_self {a : A} : subA a a = True := eq_true (subA_refl a)
theorem subL_refl : ∀ l : List A, subL l l
  | [] => trivial
  | a :: l => ⟨subA_refl a, subL_refl l⟩
theorem subV_at {a b : A} : subV (.at a) (.at b) = subA a b := rfl
theorem subV_ag {as bs : List A} : subV (.ag as) (.ag bs) = subL as bs := rfl
theorem subL_self {l : List A} : subL l l = True := eq_true (subL_refl l)
theorem subT_cons {x y : AV} {xs ys : List AV} : subT (x :: xs) (y :: ys) = (subV x y ∧ subT xs ys) := rfl
theorem subT_nil : subT [] [] = True := rfl
end Go.Abs
