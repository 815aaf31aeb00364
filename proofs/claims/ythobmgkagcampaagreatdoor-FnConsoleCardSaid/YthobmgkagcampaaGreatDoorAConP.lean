/- Lines, words and numbers of a text. -/
import Derived.Test.YthobmgkagcampaaGreatDoorAText
import Derived.Lib.SplitLaws
import Derived.Lib.Atoi
namespace Go.Abs
open Go.RowKit Go.Proofs
set_option linter.all false
set_option maxRecDepth 100000
def cutF (c : UInt8) : List UInt8 -> List UInt8 -> List ByteArray
 | [], w => [bs w]
 | b :: l, w => if b = c then bs w :: cutF c l [] else cutF c l (w ++ [b])
theorem index_at {c : UInt8} {l : List UInt8} : ∀ {w : List UInt8}, c ∉ w -> Lib.index (w ++ c :: l) [c] = (w.length : Int) := by
 intro w
 induction w with
 | nil => intro _; rw [List.nil_append, Lib.index]; simp [List.isPrefixOf]
 | cons a w ih =>
  intro h
  have h1 : c ≠ a := fun e => h (by simp [e])
  have h2 := ih (fun e => h (by simp [e]))
  have hp : ([c] : List UInt8).isPrefixOf (a :: (w ++ c :: l)) = false := by simp [List.isPrefixOf, h1]
  rw [List.cons_append, Lib.index, hp, h2]
  simp
theorem count_at {c : UInt8} {l : List UInt8} {w : List UInt8} (h : c ∉ w) : Lib.count (w ++ c :: l) [c] = Lib.count l [c] + 1 := by
 rw [Lib.count_one, Lib.count_one, List.count_append, List.count_cons_self, List.count_eq_zero_of_not_mem h]; omega
theorem count_no {c : UInt8} {w : List UInt8} (h : c ∉ w) : Lib.count w [c] = 0 := by rw [Lib.count_one, List.count_eq_zero_of_not_mem h]
theorem splitK_cut {c : UInt8} : ∀ (l w : List UInt8), c ∉ w -> Lib.splitK [c] 0 (Lib.count (w ++ l) [c]) (w ++ l) = (cutF c l w).map (·.data.toList) := by
 intro l
 induction l with
 | nil => intro w h; rw [List.append_nil, count_no h]; rfl
 | cons b l ih =>
  intro w h
  rw [cutF]
  by_cases hb : b = c
  ·subst hb
   rw [if_pos rfl, count_at h, Lib.splitK, index_at h]
   have h1 : ¬ ((w.length : Int) == -1) = true := by rw [beq_iff_eq]; omega
   have h2 := ih [] (by simp)
   rw [List.nil_append] at h2
   rw [if_neg h1, List.map_cons, <- h2]
   simp
   rfl
  ·rw [if_neg hb, <- ih (w ++ [b]) (by simp [h, Ne.symm hb])]
   simp
theorem data_inj : ∀ {l k : List ByteArray}, l.map (·.data.toList) = k.map (·.data.toList) -> l = k := by
 intro l
 induction l with
 | nil => intro k h; cases k with
  | nil => rfl
  | cons _ _ => cases h
 | cons a l ih =>
  intro k h
  cases k with
  | nil => cases h
  | cons b k =>
   simp only [List.map_cons, List.cons.injEq] at h
   rw [ih h.2, show a = b from by rw [<- bs_data a, <- bs_data b, h.1]]
theorem split_cut (c : UInt8) (s : ByteArray) : Lib.splitB (bs [c]) 0 (Lib.countB s (bs [c])) s = cutF c s.data.toList [] := by
 apply data_inj
 rw [Lib.splitB_data]
 exact splitK_cut s.data.toList [] (by simp)
theorem cut_ne {c : UInt8} : ∀ {l w : List UInt8}, cutF c l w ≠ [] := by
 intro l
 induction l with
 | nil => intro w; simp [cutF]
 | cons b l ih =>
  intro w; rw [cutF]; split
  ·simp
  ·exact ih
theorem cut_len {c : UInt8} : ∀ {l w : List UInt8}, (cutF c l w).length = l.count c + 1 := by
 intro l
 induction l with
 | nil => intro w; rfl
 | cons b l ih =>
  intro w; rw [cutF]; split
  ·rename_i h; subst h; rw [List.length_cons, ih, List.count_cons_self]
  ·rename_i h; rw [ih, List.count_cons_of_ne (by simpa using h)]
theorem cut_size {c : UInt8} : ∀ {l w : List UInt8} {s : ByteArray}, s ∈ cutF c l w -> s.size <= w.length + l.length := by
 intro l
 induction l with
 | nil => intro w s h; simp only [cutF, List.mem_singleton] at h; subst h; rw [bs_size]; simp
 | cons b l ih =>
  intro w s h
  rw [cutF] at h
  split at h
  ·rcases List.mem_cons.1 h with rfl | h
   ·rw [bs_size]; omega
   ·have := ih h; simp at this ⊢; omega
  ·have := ih h; simp at this ⊢; omega
def nonE (s : ByteArray) : Bool := !(s.toList == (⟨#[]⟩ : ByteArray).toList)
def wordsV (s : ByteArray) : List ByteArray := (cutF 32 s.data.toList []).filter nonE
theorem toList_bs (l : List UInt8) : (bs l).toList = l := by rw [bs, ByteArray.toList_mk]
theorem nonE_bs (l : List UInt8) : nonE (bs l) = !(l == []) := by
 unfold nonE
 rw [toList_bs, ByteArray.toList_mk [] |> (fun (h : (⟨#[]⟩ : ByteArray).toList = []) => h)]
def dropE (l : List ByteArray) : List ByteArray := match l.getLast? with | some s => if nonE s then l else l.dropLast | none => l
def linesV (s : ByteArray) : List ByteArray := dropE (cutF 10 s.data.toList [])
theorem dropE_cons {s : ByteArray} {l : List ByteArray} (h : l ≠ []) : dropE (s :: l) = s :: dropE l := by
 cases l with
 | nil => exact absurd rfl h
 | cons a l =>
  unfold dropE
  rw [List.getLast?_cons_cons]
  split
  ·split
   ·rfl
   ·rfl
  ·rfl
theorem dropE_one_e : dropE [bs []] = [] := by
 unfold dropE
 simp only [List.getLast?_singleton, nonE_bs]
 rfl
theorem dropE_len {l : List ByteArray} : (dropE l).length <= l.length := by
 unfold dropE
 split
 ·split
  ·exact Nat.le_refl _
  ·simp
 ·exact Nat.le_refl _
theorem linesV_mem {s x : ByteArray} (h : x ∈ linesV s) : x.size <= s.size := by
 have h2 : x ∈ cutF 10 s.data.toList [] := by
  unfold linesV dropE at h
  split at h
  ·split at h
   ·exact h
   ·exact List.dropLast_subset _ h
  ·exact h
 have := cut_size h2
 rw [Array.length_toList] at this
 simpa using this
theorem lines_full : ∀ (l w : List UInt8), dropE (cutF 10 (l ++ [10]) w) = dropE (cutF 10 (l ++ [10]) w) /\ (dropE (cutF 10 (l ++ [10]) w)).length = (l ++ [10]).count 10 := by
 intro l
 induction l with
 | nil =>
  intro w
  refine ⟨rfl, ?_⟩
  rw [List.nil_append, cutF, if_pos rfl, cutF, dropE_cons (by simp), dropE_one_e]; rfl
 | cons b l ih =>
  intro w
  refine ⟨rfl, ?_⟩
  rw [List.cons_append, cutF]
  split
  ·rename_i h; subst h
   rw [dropE_cons cut_ne, List.length_cons, (ih []).2, List.count_cons_self]
  ·rename_i h
   rw [(ih (w ++ [b])).2, List.count_cons_of_ne (by simpa using h)]
noncomputable def parseZ (s : ByteArray) : Option Int :=
 match Lib.decNat s.data.toList with
 | some n => if s.size <= 13 /\ n <= 1000000000000 /\ fmtV n = s then some (n : Int) else none
 | none => none
theorem parseZ_bnd {s : ByteArray} {n : Int} (h : parseZ s = some n) : 0 <= n /\ n <= 1000000000000 := by
 unfold parseZ at h
 split at h
 ·split at h
  ·rename_i k; cases h; omega
  ·cases h
 ·cases h
theorem parseZ_none {s : ByteArray} (h : Lib.decNat s.data.toList = none) : parseZ s = none := by unfold parseZ; rw [h]
theorem parseZ_some {s : ByteArray} {n : Nat} (h : Lib.decNat s.data.toList = some n) : parseZ s = if s.size <= 13 /\ n <= 1000000000000 /\ fmtV n = s then some (n : Int) else none := by unfold parseZ; rw [h]
theorem parseZ_long {s : ByteArray} (h : ¬ s.size <= 13) : parseZ s = none := by
 unfold parseZ
 split
 ·rw [if_neg fun k => h k.1]
 ·rfl
theorem dec_head : ∀ (u : Nat), ∃ d l, Lib.decDigits u = d :: l /\ 48 <= d.toNat /\ d.toNat <= 57 := by
 intro u
 induction u using Nat.strongRecOn with
 | _ u ih =>
  have one : ∀ r : Nat, r < 10 -> 48 <= (UInt8.ofNat (48 + r)).toNat /\ (UInt8.ofNat (48 + r)).toNat <= 57 := by decide
  by_cases h : u < 10
  ·exact ⟨_, [], dec_one h, one u h⟩
  ·obtain ⟨d, l, h1, h2⟩ := ih (u / 10) (by omega)
   exact ⟨d, l ++ [UInt8.ofNat (48 + u % 10)], by rw [dec_ten h, h1]; rfl, h2⟩
theorem parseZ_atoi {s : ByteArray} (h13 : s.size <= 13) {n : Int} (h : Lib.atoi s.data.toList = some n) : parseZ s = if (0 <= n /\ n <= 1000000000000) /\ fmtV n = s then some n else none := by
 cases hs : s.data.toList with
 | nil => rw [hs] at h; cases h
 | cons b r =>
  rw [hs] at h
  unfold Lib.atoi at h
  dsimp only at h
  by_cases hb : b = 45 \/ b = 43
  ·have hdec : Lib.decNat s.data.toList = none := by
    rw [hs, Lib.decNat, if_neg (by simp), Lib.decFrom]
    rcases hb with rfl | rfl <;> rfl
   rw [parseZ_none hdec]
   rw [if_neg]
   rintro ⟨⟨h0, _⟩, hf⟩
   obtain ⟨d, l, h1, h2, h3⟩ := dec_head n.toNat
   have h4 : s.data.toList = Lib.itoa n := by rw [<- hf]; rfl
   unfold Lib.itoa at h4
   rw [if_neg (by omega), h1, hs] at h4
   have := (List.cons.inj h4).1
   subst this
   rcases hb with rfl | rfl
   ·exact absurd h2 (by decide)
   ·exact absurd h2 (by decide)
  ·rw [if_neg (by simpa using fun e => hb (.inl e)), if_neg (by simpa using fun e => hb (.inr e))] at h
   cases hd : Lib.decNat (b :: r) with
   | none => rw [hd] at h; cases h
   | some m =>
    rw [hd] at h
    have hn : (m : Int) = n := Option.some.inj h
    subst hn
    rw [parseZ_some (hs ▸ hd)]
    by_cases hc : m <= 1000000000000 /\ fmtV (m : Int) = s
    ·rw [if_pos ⟨h13, hc⟩, if_pos ⟨⟨by omega, by omega⟩, hc.2⟩]
    ·rw [if_neg fun k => hc k.2, if_neg fun k => hc ⟨by omega, k.2⟩]
theorem parseZ_atoi_none {s : ByteArray} (h : Lib.atoi s.data.toList = none) : parseZ s = none := by
 apply parseZ_none
 cases hs : s.data.toList with
 | nil => rfl
 | cons b r =>
  rw [hs] at h
  unfold Lib.atoi at h
  dsimp only at h
  by_cases hb : b = 45 \/ b = 43
  ·rw [Lib.decNat, if_neg (by simp), Lib.decFrom]
   rcases hb with rfl | rfl <;> rfl
  ·rw [if_neg (by simpa using fun e => hb (.inl e)), if_neg (by simpa using fun e => hb (.inr e))] at h
   cases hd : Lib.decNat (b :: r) with
   | none => rfl
   | some m => rw [hd] at h; cases h
end Go.Abs
