/- Food is given; the party goes on; it waits. -/
import Derived.Test.YthobmgkagcampaaGreatDoorAConT
import Derived.Test.YthobmgkagcampaaGreatDoorAStpX
namespace Go.Abs
open Go.RowKit Go.Proofs
set_option linter.all false
set_option maxRecDepth 100000
set_option maxHeartbeats 4000000
theorem getE {β : Type} {l : List β} {i : Nat} {x : β} (h : l[i]? = some x) : l.drop i = x :: l.drop (i + 1) := by
 obtain ⟨h1, h2⟩ := List.getElem?_eq_some_iff.1 h
 rw [List.drop_eq_getElem_cons h1, h2]
theorem std_Split (c : UInt8) (s : ByteArray) (hs : s.size <= 1048576) : SC Tryz.prog 38 [.at (.v (.string s)), .at (.v (.string (bs [c])))] [] (.at (.im 1 ((cutF c s.data.toList []).map strRow))) [] :=
 have hlen : (cutF c s.data.toList []).length = Lib.countB s (bs [c]) + 1 := by rw [<- split_cut]; exact Lib.splitB_all _ (by show 1 <= 1; decide) 0 _ s rfl
 have hle := Lib.countB_le (bs [c]) (by show 1 <= 1; decide) s.size s (Nat.le_refl _)
 SC.split (f := 38) ⟨_, Tryz.func38, by kernel_rfl, by kernel_rfl⟩ (gb := _) rfl (l := cutF c s.data.toList []) (by rw [hlen]; exact Nat.le_trans (Nat.succ_le_succ (Nat.le_trans hle hs)) (by decide)) fun m w hm => (Tryz.strings_Split s (bs [c]) m w (by omega) hm (by show 1 <= 1; decide)).mono (by
  rintro e w' ⟨rfl, rfl⟩
  rw [hlen, <- split_cut]
  exact ⟨rfl, _, rfl⟩)
theorem cut_count (c : UInt8) (s : ByteArray) : (cutF c s.data.toList []).length <= s.size + 1 := by
 rw [cut_len]
 have := List.count_le_length (a := c) (l := s.data.toList)
 rw [Array.length_toList] at this
 exact Nat.succ_le_succ this
theorem std_Split32 (s : ByteArray) (hs : s.size <= 1048576) : SC Tryz.prog 38 [.at (.v (.string s)), .at (.v (.string (⟨#[32]⟩ : ByteArray)))] [] (.at (.im 1 ((cutF 32 s.data.toList []).map strRow))) [] := std_Split 32 s hs
theorem std_Split10 (s : ByteArray) (hs : s.size <= 1048576) : SC Tryz.prog 38 [.at (.v (.string s)), .at (.v (.string (⟨#[10]⟩ : ByteArray)))] [] (.at (.im 1 ((cutF 10 s.data.toList []).map strRow))) [] := std_Split 10 s hs
theorem impl_wordsOf (s : ByteArray) (hs : s.size <= 1048576) : SC Tryz.prog 28 [.at (.v (.string s))] [] (.at (.fr 1 ((wordsV s).map strRow))) [] := by
 refine SC.of_W mixed Tryz.func28 (by kernel_rfl) rfl Tryz.results28 _ Tryz.ntmps28 (by simp) ?_
 simp -implicitDefEqProofs only [go_sem]
 have hc := cut_count 32 s
 refine callX [] (std_Split32 s hs) (by simp -implicitDefEqProofs only [go_sem]) ?_
 simp -implicitDefEqProofs only [go_sem]
 unfold wordsV
 generalize cutF 32 s.data.toList [] = C at hc ⊢
 refine T.loopW mixed [3, 8, 9, 10] (fun mm vs es => ∃ (i : Nat) (out : List ByteArray), vs = [.at (.ow 100 0 1 out.length), .at (.im 1 (C.map strRow)), .at (.v (.int .i64 C.length)), .at (.v (.int .i64 (i : Nat)))] /\ es = [.arr 0 1 (out.map strRow)] /\ mm + i = C.length /\ out.length <= i /\ C.filter nonE = out ++ (C.drop i).filter nonE) C.length ?_ ?_
 ·simp -implicitDefEqProofs only [go_sem]; exact ⟨0, [], ⟨rfl, rfl⟩, rfl, by omega, by simp, by simp⟩
 rintro q _ _ ⟨i, out, rfl, rfl, hq, ho, hf⟩
 simp -implicitDefEqProofs only [go_sem]
 refine ⟨fun h => ⟨by omega, fun w hw => ?_⟩, fun h => ?_⟩
 ·rw [getE hw, List.filter_cons] at hf
  refine ⟨fun e => ?_, fun e => ?_⟩
  ·have hn : nonE w = true := by rw [nonE, e]; rfl
   rw [if_pos hn] at hf
   exact ⟨by unfold Room; omega, q - 1, by omega, i + 1, out ++ [w], ⟨by simp, wrap64 (by omega) (by omega)⟩, by simp [strRow], by omega, by simp; omega, by rw [hf]; simp⟩
  ·have hn : ¬ nonE w = true := by rw [nonE, e]; decide
   rw [if_neg hn] at hf
   exact ⟨q - 1, by omega, i + 1, out, ⟨rfl, wrap64 (by omega) (by omega)⟩, rfl, by omega, by omega, hf⟩
 ·rw [List.drop_eq_nil_of_le (by omega), List.filter_nil, List.append_nil] at hf
  rw [hf]; exact ⟨rfl, rfl⟩
theorem byte_at {s : ByteArray} {i : Nat} (h : i < s.size) : s.data.toList[i]? = some (s[i]?.getD 0) := by
 have := byte_drop h
 have h2 : (s.data.toList.drop i)[0]? = some (s[i]?.getD 0) := by rw [this]; rfl
 rw [List.getElem?_drop] at h2
 simpa using h2
noncomputable def okW (s : ByteArray) : Bool := (parseZ s).isSome
noncomputable def valW (s : ByteArray) : Int := (parseZ s).getD 0
noncomputable def numsP (l : List ByteArray) : List Int := (l.takeWhile okW).map valW
noncomputable def okN (l : List ByteArray) : Bool := l.all okW
theorem okN_all {l : List ByteArray} (h : ∀ s ∈ l, okW s = true) : okN l = true /\ numsP l = l.map valW := by
 refine ⟨List.all_eq_true.2 h, ?_⟩
 unfold numsP
 have e : l.takeWhile okW = l := by
  have := List.takeWhile_append_of_pos (p := okW) (l₁ := l) (l₂ := []) h
  rw [List.append_nil, List.takeWhile_nil, List.append_nil] at this
  exact this
 rw [e]
theorem okN_len {l : List ByteArray} (h : okN l = true) : numsP l = l.map valW := (okN_all fun s hs => List.all_eq_true.1 h s hs).2
noncomputable def opVal (x : DLand) (k : UInt8) (s : ByteArray) : Int := if k = 83 then valW s else if k = 99 then parseC x s else valW s
noncomputable def opOk (x : DLand) (k : UInt8) (s : ByteArray) : Bool := if k = 83 then okW s && decide (valW s <= 1) else if k = 99 then decide (0 <= parseC x s) else okW s
noncomputable def opnF (x : DLand) : List UInt8 -> List ByteArray -> Option (List Int)
 | k :: ks, s :: l => if opOk x k s = true then (opnF x ks l).map (opVal x k s :: ·) else none
 | [], [] => some []
 | _, _ => none
theorem opnF_len {x : DLand} : ∀ {ks : List UInt8} {l : List ByteArray}, l.length ≠ ks.length -> opnF x ks l = none := by
 intro ks
 induction ks with
 | nil => intro l h; cases l with
  | nil => exact absurd rfl h
  | cons _ _ => rfl
 | cons k ks ih =>
  intro l h
  cases l with
  | nil => rfl
  | cons s l =>
   rw [opnF, ih (by simpa using h)]
   split <;> rfl
theorem impl_operands (x : DLand) (kinds : ByteArray) (l : List ByteArray) (hx : x.cells.length <= 1048576) (hl : l.length <= 1048577) : SC Tryz.prog 31 [.ag x.ats, .at (.v (.string kinds)), .at (.im 1 (l.map strRow))] [] (.tp [.at (.fr 1 (((opnF x kinds.data.toList l).getD []).map intRow)), .at (.v (.bool ((opnF x kinds.data.toList l).isSome)))]) [] := by
 refine SC.of_W mixed Tryz.func31 (by kernel_rfl) rfl Tryz.results31 _ Tryz.ntmps31 (by simp) ?_
 simp -implicitDefEqProofs only [go_sem]
 refine ⟨fun hne => ?_, fun heq => ?_⟩
 ·rw [opnF_len (by rw [Array.length_toList]; intro e; exact hne (congrArg (fun n : Nat => (n : Int)) e))]
  exact ⟨⟨rfl, rfl⟩, rfl⟩
 have hks : l.length = kinds.size := by omega
 refine T.loopW mixed [1, 3, 8, 19, 20, 21] (fun mm vs es => ∃ (i : Nat) (out : List Int), vs = [.at (.v (.string kinds)), .at (.bx 100 0 0), .at (.ow 101 0 1 out.length), .at (.im 1 (l.map strRow)), .at (.v (.int .i64 l.length)), .at (.v (.int .i64 (i : Nat)))] /\ es = [.box 0 x.ats, .arr 0 1 (out.map intRow)] /\ mm + i = l.length /\ out.length = i /\ opnF x kinds.data.toList l = (opnF x (kinds.data.toList.drop i) (l.drop i)).map (out ++ ·)) l.length ?_ ?_
 ·simp -implicitDefEqProofs only [go_sem]; exact ⟨0, [], ⟨rfl, rfl⟩, rfl, by omega, rfl, by simp⟩
 rintro q _ _ ⟨i, out, rfl, rfl, hq, ho, hf⟩
 simp -implicitDefEqProofs only [go_sem]
 refine ⟨fun h => ⟨by omega, fun s hs => ?_⟩, fun h => ?_⟩
 ·rw [byte_drop (by omega), getE hs, opnF] at hf
  refine callX [] (impl_ParseInt s) (by simp -implicitDefEqProofs only [go_sem]) ?_
  simp -implicitDefEqProofs only [go_sem]
  rw [show (parseZ s).isSome = okW s from rfl, show (parseZ s).getD 0 = valW s from rfl]
  generalize kinds[i]?.getD 0 = k at hf ⊢
  have yes : ∀ v, opOk x k s = true -> opVal x k s = v -> Room (out.length + 1) 8 /\ ∃ n', n' < q /\ ∃ (i_1 : Nat) (out_1 : List Int), (out.length + 1 = out_1.length /\ IntKind.i64.wrap ((i : Int) + 1) = (i_1 : Int)) /\
    List.map intRow out ++ [[Value.int IntKind.i64 v]] = List.map intRow out_1 /\ n' + i_1 = l.length /\ out_1.length = i_1 /\
    opnF x kinds.data.toList l = Option.map (fun x => out_1 ++ x) (opnF x (List.drop i_1 kinds.data.toList) (List.drop i_1 l)) := by
   intro v hk hv
   rw [if_pos hk, Option.map_map] at hf
   refine ⟨by unfold Room; omega, q - 1, by omega, i + 1, out ++ [v], ⟨by simp, wrap64 (by omega) (by omega)⟩, by simp [intRow], by omega, by simp; omega, ?_⟩
   rw [hf]
   congr 1
   funext y
   simp [hv]
  have no : opOk x k s = false -> opnF x kinds.data.toList l = none := fun hk => by
   rw [hk, if_neg (by decide)] at hf; exact hf
  refine ⟨⟨by omega, by omega⟩, fun h83 => ⟨fun ho1 => ⟨fun hv => ?_, fun hv => ?_⟩, fun ho1 => ?_⟩, fun h83 => ⟨fun h99 => ?_, fun h99 => ⟨fun ho1 => ?_, fun ho1 => ?_⟩⟩⟩
  ·have hk : k = 83 := UInt8.toNat_inj.1 (by have : (83 : UInt8).toNat = 83 := rfl; omega)
   rw [no (by rw [opOk, if_pos hk, ho1, decide_eq_false hv]; rfl)]
   exact ⟨⟨rfl, rfl⟩, rfl⟩
  ·have hk : k = 83 := UInt8.toNat_inj.1 (by have : (83 : UInt8).toNat = 83 := rfl; omega)
   exact yes _ (by rw [opOk, if_pos hk, ho1, decide_eq_true hv]; rfl) (by rw [opVal, if_pos hk])
  ·have hk : k = 83 := UInt8.toNat_inj.1 (by have : (83 : UInt8).toNat = 83 := rfl; omega)
   rw [no (by rw [opOk, if_pos hk, ho1]; rfl)]
   exact ⟨⟨rfl, rfl⟩, rfl⟩
  ·have hk : k = 99 := UInt8.toNat_inj.1 (by have : (99 : UInt8).toNat = 99 := rfl; omega)
   have hk1 : ¬ k = 83 := by rw [hk]; decide
   refine callX [] (impl_ParseCell x s hx) (by simp -implicitDefEqProofs only [go_sem]) ?_
   simp -implicitDefEqProofs only [go_sem]
   refine ⟨fun hc => ?_, fun hc => ?_⟩
   ·rw [no (by rw [opOk, if_neg hk1, if_pos hk]; exact decide_eq_false hc)]
    exact ⟨⟨rfl, rfl⟩, rfl⟩
   ·exact yes _ (by rw [opOk, if_neg hk1, if_pos hk]; exact decide_eq_true hc) (by rw [opVal, if_neg hk1, if_pos hk])
  ·have hk1 : ¬ k = 83 := by rintro rfl; exact h83 rfl
   have hk2 : ¬ k = 99 := by rintro rfl; exact h99 rfl
   rw [no (by rw [opOk, if_neg hk1, if_neg hk2]; exact ho1)]
   exact ⟨⟨rfl, rfl⟩, rfl⟩
  ·have hk1 : ¬ k = 83 := by rintro rfl; exact h83 rfl
   have hk2 : ¬ k = 99 := by rintro rfl; exact h99 rfl
   exact yes _ (by rw [opOk, if_neg hk1, if_neg hk2]; exact ho1) (by rw [opVal, if_neg hk1, if_neg hk2])
 ·rw [List.drop_eq_nil_of_le (by rw [Array.length_toList]; show kinds.size <= i; omega), List.drop_eq_nil_of_le (by omega), opnF] at hf
  rw [hf]
  simp
end Go.Abs
namespace Go.Abs
open Go.RowKit Go.Proofs
set_option linter.all false
set_option maxRecDepth 100000
set_option maxHeartbeats 4000000
theorem spec_StepGive (t : DTrek) (n : Int) (ht : t.Fit) : SC Tryz.prog 72 [.ag t.ats, .at (.v (.int .i64 n))] [] (.tp [.ag (giveZ t n).frs, .at (.v (.bool (decide (giveP t n))))]) [] := by
 by_cases h : giveP t n
 ·rw [giveZ, if_pos h, show decide (giveP t n) = true from decide_eq_true h]
  refine SC.of_W mixed Tryz.func72 (by kernel_rfl) rfl Tryz.results72 _ Tryz.ntmps72 (by simp) ?_
  simp -implicitDefEqProofs only [go_sem]
  refine callX [] (spec_l33Copy t ht) (by simp -implicitDefEqProofs only [go_sem]) ?_
  simp -implicitDefEqProofs only [go_sem]
  refine callX [] (spec_IsTrek t ht) (by simp -implicitDefEqProofs only [go_sem]) ?_
  simp -implicitDefEqProofs only [go_sem]
  refine ⟨fun _ => ?_, fun k => absurd h.2.2.1 k⟩
  refine callX [] (spec_RoomFor t.party ht.crew) (by simp -implicitDefEqProofs only [go_sem]) ?_
  simp -implicitDefEqProofs only [go_sem]
  refine callX [] (spec_l1In n 1 (roomZ t.party)) (by simp -implicitDefEqProofs only [go_sem]) ?_
  simp -implicitDefEqProofs only [go_sem]
  refine ⟨fun _ => ?_, fun k => absurd h.1 k⟩
  refine callX [] (spec_AtBase t) (by simp -implicitDefEqProofs only [go_sem]) ?_
  simp -implicitDefEqProofs only [go_sem]
  refine ⟨fun k => absurd h.2.1 k, fun _ => ?_⟩
  refine callXHB [1128, 1129, 1130, 1131, 1132] [] (spec_l34Done_yes t (giveT t n) ht (giveT_fit ht) h.2.2.1 h.2.2.2) (by decide) (by simp -implicitDefEqProofs only [go_sem]) ?_
  simp -implicitDefEqProofs only [go_sem, invOf]
 ·rw [giveZ, if_neg h, show decide (giveP t n) = false from decide_eq_false h]
  refine SC.of_W mixed Tryz.func72 (by kernel_rfl) rfl Tryz.results72 _ Tryz.ntmps72 (by simp) ?_
  simp -implicitDefEqProofs only [go_sem]
  refine callX [] (spec_l33Copy t ht) (by simp -implicitDefEqProofs only [go_sem]) ?_
  simp -implicitDefEqProofs only [go_sem]
  refine callX [] (spec_IsTrek t ht) (by simp -implicitDefEqProofs only [go_sem]) ?_
  simp -implicitDefEqProofs only [go_sem]
  intro h1
  refine callX [] (spec_RoomFor t.party ht.crew) (by simp -implicitDefEqProofs only [go_sem]) ?_
  simp -implicitDefEqProofs only [go_sem]
  refine callX [] (spec_l1In n 1 (roomZ t.party)) (by simp -implicitDefEqProofs only [go_sem]) ?_
  simp -implicitDefEqProofs only [go_sem]
  intro h2
  refine callX [] (spec_AtBase t) (by simp -implicitDefEqProofs only [go_sem]) ?_
  simp -implicitDefEqProofs only [go_sem]
  intro h3
  refine callXNB [1128, 1129, 1130, 1131, 1132] [] (spec_l34Done_no t (giveT t n) true ht (giveT_fit ht) (fun k => h ⟨h2, h3, k.2⟩)) (by decide) (by simp -implicitDefEqProofs only [go_sem]) (by simp -implicitDefEqProofs only [go_sem]) ?_
  simp -implicitDefEqProofs only [go_sem, invOf]
end Go.Abs
