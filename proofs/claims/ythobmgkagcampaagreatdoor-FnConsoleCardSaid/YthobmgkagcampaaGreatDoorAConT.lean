/- Ways, pasts, parties and lands as text. -/
import Derived.Test.YthobmgkagcampaaGreatDoorAConP
import Derived.Test.YthobmgkagcampaaGreatDoorAViews
import Derived.Test.YthobmgkagcampaaGreatDoorAMove
namespace Go.Abs
open Go.RowKit Go.Proofs
set_option linter.all false
set_option maxRecDepth 100000
set_option maxHeartbeats 4000000
def joinC (c : UInt8) (l : List ByteArray) : ByteArray := bs (Lib.join (l.map (·.data.toList)) [c])
theorem joinC_le {c : UInt8} {B : Nat} {l : List ByteArray} (h : ∀ s ∈ l, s.size <= B) : (joinC c l).size <= (B + 1) * l.length := by
 have key : ∀ l : List (List UInt8), (∀ x ∈ l, x.length <= B) -> (Lib.join l [c]).length <= (B + 1) * l.length := by
  intro l h
  cases l with
  | nil => simp [Lib.join_nil]
  | cons a l =>
   rw [Lib.join_cons, List.length_append, List.length_cons]
   have h1 := h a (by simp)
   have h2 : ∀ (l : List (List UInt8)), (∀ x ∈ l, x.length <= B) -> (Lib.joinTail [c] l).length <= (B + 1) * l.length := by
    intro l
    induction l with
    | nil => intro _; simp [Lib.joinTail]
    | cons x l ih =>
     intro h
     have := ih fun y hy => h y (by simp [hy])
     have hx := h x (by simp)
     simp only [Lib.joinTail, List.map_cons, List.flatten_cons, List.length_append, List.length_cons, List.length_nil] at this ⊢
     rw [Nat.mul_succ]; omega
   have := h2 l fun x hx => h x (by simp [hx])
   rw [Nat.mul_succ]; omega
 have := key (l.map (·.data.toList)) (by
  intro x hx
  obtain ⟨s, hs, rfl⟩ := List.mem_map.1 hx
  exact h s hs)
 rw [List.length_map] at this
 exact this
theorem joinC_two {c : UInt8} (a : ByteArray) (b : ByteArray) (l : List ByteArray) : joinC c (a :: b :: l) = a ++ bs [c] ++ joinC c (b :: l) := by
 unfold joinC
 simp only [List.map_cons, Lib.join_cons, Lib.joinTail, List.flatten_cons]
 rw [<- bs_data a, bs_app, bs_app]
 simp [bs_toList]
theorem joinC_one {c : UInt8} (a : ByteArray) : joinC c [a] = a := by
 unfold joinC
 rw [List.map_cons, List.map_nil, Lib.join_one]; rfl
theorem tl_eq {a b : ByteArray} : (a.toList == b.toList) = decide (a = b) := by rw [<- beq_toListBytes, ba_beq]
theorem tl_t {a b : ByteArray} (h : (a.toList == b.toList) = true) : a = b := by rw [tl_eq] at h; exact of_decide_eq_true h
theorem tl_f {a b : ByteArray} (h : (a.toList == b.toList) = false) : a ≠ b := by rw [tl_eq] at h; exact of_decide_eq_false h
noncomputable def pcF (x : DLand) (s : ByteArray) : Nat -> Nat -> Int
 | 0, _ => -1
 | q + 1, n => if x.Cell n /\ cellV x n = s then n else pcF x s q (n + 1)
noncomputable def parseC (x : DLand) (s : ByteArray) : Int := pcF x s x.cells.length 0
theorem pcF_yes {x : DLand} {s : ByteArray} {q n : Nat} (h1 : x.Cell n) (h2 : cellV x n = s) : pcF x s (q + 1) n = n := if_pos ⟨h1, h2⟩
theorem pcF_no {x : DLand} {s : ByteArray} {q n : Nat} (h : ¬ (x.Cell n /\ cellV x n = s)) : pcF x s (q + 1) n = pcF x s q (n + 1) := if_neg h
theorem pcF_bnd {x : DLand} {s : ByteArray} : ∀ q n : Nat, -1 <= pcF x s q n /\ (0 <= pcF x s q n -> x.Cell (pcF x s q n)) := by
 intro q
 induction q with
 | zero => intro n; exact ⟨Int.le_refl _, fun h => absurd h (by simp [pcF])⟩
 | succ q ih =>
  intro n
  rw [pcF]
  split
  ·rename_i h; exact ⟨by omega, fun _ => h.1⟩
  ·exact ih (n + 1)
theorem parseC_bnd (x : DLand) (s : ByteArray) : -1 <= parseC x s /\ (0 <= parseC x s -> x.Cell (parseC x s)) := pcF_bnd _ _
theorem parseC_i64 (x : DLand) (s : ByteArray) : I64 (parseC x s) := by
 have h := parseC_bnd x s
 unfold I64
 by_cases h0 : 0 <= parseC x s
 ·have h1 := h.2 h0
  have h2 := h1.1.len
  have h3 := h1.2.2
  omega
 ·omega
theorem impl_ParseCell (x : DLand) (s : ByteArray) (hx : x.cells.length <= 1048576) : SC Tryz.prog 99 [.ag x.ats, .at (.v (.string s))] [] (.at (.v (.int .i64 (parseC x s)))) [] := by
 refine SC.of_V mixed Tryz.func99 (by kernel_rfl) rfl Tryz.results99 _ Tryz.ntmps99 (by simp) ?_
 simp -implicitDefEqProofs only [go_sem]
 refine T.loopW mixed [1, 2, 8, 9] (fun mm vs es => ∃ (i : Nat), vs = [.at (.v (.string s)), .at (.bx 100 0 0), .at (.v (.int .i64 x.cells.length)), .at (.v (.int .i64 (i : Nat)))] /\ es = [.box 0 x.ats] /\ mm + i = x.cells.length /\ parseC x s = pcF x s mm i) x.cells.length ?_ ?_
 ·simp -implicitDefEqProofs only [go_sem]; exact ⟨0, rfl, by omega, rfl⟩
 rintro q _ _ ⟨i, rfl, rfl, hq, hp⟩
 simp -implicitDefEqProofs only [go_sem]
 refine ⟨fun hlt => ?_, fun hlt => ?_⟩
 ·obtain ⟨q, rfl⟩ : ∃ k, q = k + 1 := ⟨q - 1, by omega⟩
  refine callX [] (impl_IsCell x i hx) (by simp -implicitDefEqProofs only [go_sem]) ?_
  simp -implicitDefEqProofs only [go_sem]
  refine ⟨fun hc => ?_, fun hc => ?_⟩
  ·refine callX [] (impl_CellText x i hx) (by simp -implicitDefEqProofs only [go_sem]) ?_
   simp -implicitDefEqProofs only [go_sem]
   refine ⟨fun e => ?_, fun e => ?_⟩
   ·rw [hp, pcF_yes hc (tl_t e)]
   ·exact ⟨q, by omega, i + 1, by rw [wrap64 (by omega) (by omega)]; omega, by omega, by rw [hp, pcF_no fun k => tl_f e k.2]⟩
  ·exact ⟨q, by omega, i + 1, by rw [wrap64 (by omega) (by omega)]; omega, by omega, by rw [hp, pcF_no fun k => hc k.1]⟩
 ·obtain rfl : q = 0 := by omega
  rw [hp]; rfl
theorem std_Atoi (s : ByteArray) (n : Int) (hl : s.size <= 18) (h : Lib.atoi s.data.toList = some n) : SC Tryz.prog 202 [.at (.v (.string s))] [] (.tp [.at (.v (.int .i64 n)), .at (.v .nilIface)]) [] :=
 SC.atoi (f := 202) ⟨_, Tryz.func202, by kernel_rfl, by kernel_rfl⟩ fun w => (Tryz.strconv_Atoi s n hl h w).mono (by
  rintro e w' ⟨rfl, t, rfl⟩
  exact ⟨rfl, rfl, rfl, rfl, by rw [Lib.bytesWorld_size]; omega, fun k hk => Lib.bytesWorld_at_old _ _ _ _ hk⟩)
theorem std_AtoiErr (s : ByteArray) (hl : s.size <= 18) (h : Lib.atoi s.data.toList = none) : SC Tryz.prog 202 [.at (.v (.string s))] [] (.tp [.at (.v (.int .i64 0)), .at .er]) [] :=
 SC.atoi_err (f := 202) ⟨_, Tryz.func202, by kernel_rfl, by kernel_rfl⟩ (gb := _) rfl fun ev w hv hev => (Tryz.strconv_Atoi_err s hl h ev w hv hev).mono (by
  rintro e w' ⟨N, rfl, _, _, hb⟩
  exact ⟨_, _, rfl, hb⟩)
theorem back_er {m : Mem} {l : List Nat} {n : Nat} : backA m l n .er = .er := rfl
theorem bin_er {K : Value -> Prop} : onR (binS Tryz.prog .neq 202 (.at .er) (.at (.v .nilIface))) K = K (.bool true) := by
 simp only [binS, Tryz.underlying202, onR, true_and]
theorem bin_nilnil {Y : AV} {K : Value -> Prop} : onR (binL Tryz.prog .neq 202 (.const .nilIface) (.at (.v .nilIface)) Y) K = K (.bool false) := by
 simp only [binL, Tryz.underlying202, onR, true_and]
attribute [go_sem] back_er bin_er bin_nilnil
theorem impl_ParseInt (s : ByteArray) : SC Tryz.prog 98 [.at (.v (.string s))] [] (.tp [.at (.v (.int .i64 ((parseZ s).getD 0))), .at (.v (.bool ((parseZ s).isSome)))]) [] := by
 refine SC.of_W mixed Tryz.func98 (by kernel_rfl) rfl Tryz.results98 _ Tryz.ntmps98 (by simp) ?_
 simp -implicitDefEqProofs only [go_sem]
 refine ⟨fun h13 => ?_, fun h13 => ?_⟩
 ·rw [parseZ_long (by omega)]; exact ⟨rfl, rfl⟩
 ·cases ha : Lib.atoi s.data.toList with
  | none =>
   rw [parseZ_atoi_none ha]
   refine callX [] (std_AtoiErr s (by omega) ha) (by simp -implicitDefEqProofs only [go_sem]) ?_
   simp -implicitDefEqProofs only [go_sem]
   exact ⟨rfl, rfl⟩
  | some n =>
   have hz := parseZ_atoi (s := s) (by omega) ha
   refine callX [] (std_Atoi s n (by omega) ha) (by simp -implicitDefEqProofs only [go_sem]) ?_
   simp -implicitDefEqProofs only [go_sem]
   refine callX [] (impl_InRange n 0 1000000000000) (by simp -implicitDefEqProofs only [go_sem]) ?_
   simp -implicitDefEqProofs only [go_sem]
   refine ⟨fun hr => ?_, fun hr => ?_⟩
   ·refine callX [] (impl_FormatInt n (by unfold I64; omega)) (by simp -implicitDefEqProofs only [go_sem]) ?_
    simp -implicitDefEqProofs only [go_sem]
    refine ⟨fun e => ?_, fun e => ?_⟩
    ·rw [hz, if_neg fun k => tl_f e k.2]; exact ⟨rfl, rfl⟩
    ·rw [hz, if_pos ⟨hr, tl_t e⟩]; exact ⟨rfl, rfl⟩
   ·rw [hz, if_neg fun k => hr k.1]; exact ⟨rfl, rfl⟩
theorem byte_drop {s : ByteArray} {i : Nat} (h : i < s.size) : s.data.toList.drop i = (s[i]?.getD 0) :: s.data.toList.drop (i + 1) := by
 have h2 : i < s.data.toList.length := by rw [Array.length_toList]; exact h
 rw [List.drop_eq_getElem_cons h2]
 congr 1
 rw [getElem?_pos s i h]
 show _ = s.data[i]'h
 rw [Array.getElem_toList]
noncomputable def wayT (x : DLand) (way : List Int) : ByteArray := if way = [] then bs [45] else if ∀ c ∈ way, x.Cell c then joinC 45 (way.map (cellV x)) else bs []
theorem wayT_no {x : DLand} {way : List Int} {c : Int} {i : Nat} (h : way[i]? = some c) (hc : ¬ x.Cell c) : wayT x way = bs [] := by
 have hm := List.mem_of_getElem? h
 rw [wayT, if_neg (List.ne_nil_of_mem hm), if_neg fun k => hc (k c hm)]
theorem wayT_yes {x : DLand} {way : List Int} (h0 : way ≠ []) (h : ∀ c ∈ way.take way.length, x.Cell c) : wayT x way = joinC 45 (way.map (cellV x)) := by
 rw [wayT, if_neg h0, if_pos (by rwa [List.take_length] at h)]
theorem cells_S {x : DLand} {way : List Int} {i : Nat} {c : Int} (h : ∀ c ∈ way.take i, x.Cell c) (hi : way[i]? = some c) (hc : x.Cell c) : ∀ c ∈ way.take (i + 1), x.Cell c := by
 intro d hd
 rw [List.take_add_one, hi, Option.toList_some, List.mem_append, List.mem_singleton] at hd
 rcases hd with hd | rfl
 ·exact h d hd
 ·exact hc
theorem std_JoinC (l : List ByteArray) (hl : l.length <= 1048576) (hB : ∀ s ∈ l, s.size <= 100) (h : l ≠ []) : SC Tryz.prog 188 [.at (.im 1 (l.map strRow)), .at (.v (.string (⟨#[45]⟩ : ByteArray)))] [] (.at (.v (.string (joinC 45 l)))) [] :=
 have hj := joinC_le (c := 45) hB
 SC.join (f := 188) ⟨_, Tryz.func188, by kernel_rfl, by kernel_rfl⟩ (l := l) (sep := bs [45]) (v := .string (joinC 45 l)) rfl (fun a c w hn => absurd hn h) (fun b o c w h1 h2 h3 => Tryz.strings_Join b o c l (bs [45]) w h1 h2 (by omega) h3 (by show (joinC 45 l).size <= _; omega))
theorem impl_WayText (x : DLand) (way : List Int) (hx : x.cells.length <= 1048576) (hl : way.length <= 1048576) : SC Tryz.prog 91 [.ag x.ats, .at (.im 1 (way.map intRow))] [] (.at (.v (.string (wayT x way)))) [] := by
 refine SC.of_V mixed Tryz.func91 (by kernel_rfl) rfl Tryz.results91 _ Tryz.ntmps91 (by simp) ?_
 simp -implicitDefEqProofs only [go_sem]
 refine ⟨fun h0 => ?_, fun h0 => ?_⟩
 ·rw [wayT, if_pos (List.eq_nil_of_length_eq_zero (by omega))]; rfl
 have hne : way ≠ [] := by rintro rfl; exact h0 rfl
 refine T.loopW mixed [2, 5, 12, 13, 14] (fun mm vs es => ∃ (i : Nat), vs = [.at (.bx 100 0 0), .at (.ow 101 0 1 i), .at (.im 1 (way.map intRow)), .at (.v (.int .i64 way.length)), .at (.v (.int .i64 (i : Nat)))] /\ es = [.box 0 x.ats, .arr 0 1 (strs (cellV x) way i)] /\ mm + i = way.length /\ ∀ c ∈ way.take i, x.Cell c) way.length ?_ ?_
 ·simp -implicitDefEqProofs only [go_sem]; exact ⟨0, ⟨rfl, rfl⟩, rfl, by omega, by simp⟩
 rintro q _ _ ⟨i, rfl, rfl, hq, hcs⟩
 simp -implicitDefEqProofs only [go_sem]
 refine ⟨fun h => ⟨by omega, fun n hn => ?_⟩, fun h => ?_⟩
 ·refine callX [] (impl_IsCell x n hx) (by simp -implicitDefEqProofs only [go_sem]) ?_
  simp -implicitDefEqProofs only [go_sem]
  refine ⟨fun hc => ?_, fun hc => ?_⟩
  ·rw [wayT_no hn hc]; rfl
  ·refine callX [] (impl_CellText x n hx) (by simp -implicitDefEqProofs only [go_sem]) ?_
   simp -implicitDefEqProofs only [go_sem]
   rw [strs_len (by omega)]
   exact ⟨by unfold Room; omega, q - 1, by omega, i + 1, ⟨rfl, wrap64 (by omega) (by omega)⟩, (strs_S hn).symm, by omega, cells_S hcs hn hc⟩
 ·rw [strs_end h]
  have hi : i = way.length := by omega
  subst hi
  refine callXF [101] (std_JoinC (way.map (cellV x)) (by simp; omega) (map_le (fun n _ => Nat.le_trans (cell_len x n) (by decide))) (by simpa using hne)) (by simp -implicitDefEqProofs only [go_sem]) ?_
  simp -implicitDefEqProofs only [go_sem]
  rw [wayT_yes hne hcs]
def pastB (b : Bool) : UInt8 := if b then 115 else 46
def pastT (past : List Bool) : ByteArray := if past = [] then bs [45] else bs (past.map pastB)
theorem past_S {past : List Bool} {i : Nat} {b : Bool} (h : past[i]? = some b) : bs ((past.take (i + 1)).map pastB) = bs ((past.take i).map pastB) ++ bs [pastB b] := by
 rw [List.take_add_one, h, Option.toList_some, List.map_append, bs_app]; rfl
theorem pastT_end {past : List Bool} {i : Nat} (h0 : past ≠ []) (h : ¬ (i : Int) < past.length) : bs ((past.take i).map pastB) = pastT past := by
 rw [pastT, if_neg h0, List.take_of_length_le (by omega)]
theorem impl_PastText (past : List Bool) (hl : past.length <= 1048576) : SC Tryz.prog 194 [.at (.im 1 (past.map boolRow))] [] (.at (.v (.string (pastT past)))) [] := by
 refine SC.of_V mixed Tryz.func194 (by kernel_rfl) rfl Tryz.results194 _ Tryz.ntmps194 (by simp) ?_
 simp -implicitDefEqProofs only [go_sem]
 refine ⟨fun h0 => ?_, fun h0 => ?_⟩
 ·rw [pastT, if_pos (List.eq_nil_of_length_eq_zero (by omega))]; rfl
 have hne : past ≠ [] := by rintro rfl; exact h0 rfl
 refine T.loopW mixed [3, 9, 10, 11] (fun mm vs es => ∃ (i : Nat), vs = [.at (.v (.string (bs ((past.take i).map pastB)))), .at (.im 1 (past.map boolRow)), .at (.v (.int .i64 past.length)), .at (.v (.int .i64 (i : Nat)))] /\ es = [] /\ mm + i = past.length) past.length ?_ ?_
 ·simp -implicitDefEqProofs only [go_sem]; exact ⟨0, ⟨rfl, rfl⟩, by omega⟩
 rintro q _ _ ⟨i, rfl, rfl, hq⟩
 simp -implicitDefEqProofs only [go_sem]
 refine ⟨fun h => ⟨by omega, fun b hb => ?_⟩, fun h => ?_⟩
 ·have hS := past_S hb
  have hsz : (bs ((past.take i).map pastB)).size <= i := by rw [bs_size, List.length_map, List.length_take]; omega
  refine ⟨fun hb2 => ⟨by show _ + 1 <= _; omega, q - 1, by omega, i + 1, ⟨by rw [hS, hb2]; rfl, wrap64 (by omega) (by omega)⟩, by omega⟩, fun hb2 => ⟨by show _ + 1 <= _; omega, q - 1, by omega, i + 1, ⟨by rw [hS, hb2]; rfl, wrap64 (by omega) (by omega)⟩, by omega⟩⟩
 ·rw [pastT_end hne h]
def signB (n : Int) : UInt8 := if n = 0 then 46 else if n = 1 then 105 else 35
def landTo (x : DLand) : Nat -> List UInt8
 | 0 => []
 | n + 1 => landTo x n ++ (if 0 < n /\ (n : Int) % x.w = 0 then [47] else []) ++ [signB (x.at n)]
noncomputable def landT (x : DLand) : ByteArray := if x.Ok then bs (landTo x x.cells.length) else bs []
theorem landTo_len {x : DLand} : ∀ n : Nat, (landTo x n).length <= 2 * n := by
 intro n
 induction n with
 | zero => exact Nat.le_refl _
 | succ n ih => simp only [landTo, List.length_append, List.length_cons, List.length_nil]; split <;> simp <;> omega
theorem sign_cut {k : Int} (h0 : 0 <= k) (h2 : k <= 2) : (⟨#[46, 105, 35]⟩ : ByteArray).extract k.toNat (k + 1).toNat = bs [signB k] := by
 have : k = 0 \/ k = 1 \/ k = 2 := by omega
 rcases this with rfl | rfl | rfl <;> rfl
theorem impl_LandText (x : DLand) (hx : x.cells.length <= 1048576) : SC Tryz.prog 10 [.ag x.ats] [] (.at (.v (.string (landT x)))) [] := by
 refine SC.of_V mixed Tryz.func10 (by kernel_rfl) rfl Tryz.results10 _ Tryz.ntmps10 (by simp) ?_
 simp -implicitDefEqProofs only [go_sem]
 refine callX [] (impl_IsLand x hx) (by simp -implicitDefEqProofs only [go_sem]) ?_
 simp -implicitDefEqProofs only [go_sem]
 refine ⟨fun hok => by rw [landT, if_neg hok]; rfl, fun hok => ?_⟩
 rw [landT, if_pos hok]
 obtain ⟨w1, w2⟩ := hok.1
 refine T.loopW mixed [1, 3, 10, 11, 12] (fun mm vs es => ∃ (i : Nat), vs = [.at (.bx 100 0 0), .at (.v (.string (bs (landTo x i)))), .at (.im 1 (x.cells.map intRow)), .at (.v (.int .i64 x.cells.length)), .at (.v (.int .i64 (i : Nat)))] /\ es = [.box 0 x.ats] /\ mm + i = x.cells.length) x.cells.length ?_ ?_
 ·simp -implicitDefEqProofs only [go_sem]; exact ⟨0, ⟨rfl, rfl⟩, by omega⟩
 rintro q _ _ ⟨i, rfl, rfl, hq⟩
 simp -implicitDefEqProofs only [go_sem]
 refine ⟨fun h => ⟨by omega, fun c hc => ?_⟩, fun h => ?_⟩
 ·have hr := hok.2.2.2 i c hc
  have hat := at_get (x := x) (n := i) (c := c) (by simpa using hc)
  have hlen := landTo_len (x := x) i
  have htm : (i : Int).tmod x.w = (i : Int) % x.w := Int.tmod_eq_emod_of_nonneg (by omega)
  have hr1 : 0 <= c := hr.1
  have hr2 : c <= 2 := hr.2
  rw [wrap64 (x := c + 1) (by omega) (by omega), sign_cut hr1 hr2, htm]
  refine ⟨fun h0 => ⟨by omega, fun hm => ?_, fun hm => ?_⟩, fun h0 => ?_⟩
  ·exact ⟨by rw [bs_size]; show _ + 1 <= _; omega, ⟨hr1, by omega, by show _ <= (3 : Int); omega⟩, by rw [bs_size, bs_size]; show _ + 1 + 1 <= _; omega, q - 1, by omega, i + 1, ⟨by rw [landTo, if_pos ⟨by omega, hm⟩, hat, <- bs_app, <- bs_app]; rfl, wrap64 (by omega) (by omega)⟩, by omega⟩
  ·exact ⟨⟨hr1, by omega, by show _ <= (3 : Int); omega⟩, by rw [bs_size, bs_size]; show _ + 1 <= _; omega, q - 1, by omega, i + 1, ⟨by rw [landTo, if_neg fun k => hm k.2, hat, List.append_nil, <- bs_app], wrap64 (by omega) (by omega)⟩, by omega⟩
  ·exact ⟨⟨hr1, by omega, by show _ <= (3 : Int); omega⟩, by rw [bs_size, bs_size]; show _ + 1 <= _; omega, q - 1, by omega, i + 1, ⟨by rw [landTo, if_neg fun k => h0 (by omega), hat, List.append_nil, <- bs_app], wrap64 (by omega) (by omega)⟩, by omega⟩
 ·rw [show i = x.cells.length by omega]
noncomputable def partyT (x : DLand) (p : DParty) : ByteArray :=
 if PartyP x p then cellV x p.at_ ++ bs [32] ++ fmtV p.food ++ bs [32] ++ fmtV p.crew.length ++ bs [32] ++ fmtV (needZ p.crew) ++ bs [32] ++ fmtV (capZ p.crew) ++ bs [32] ++ pastT p.past else bs []
theorem pastT_size (past : List Bool) : (pastT past).size <= past.length + 1 := by
 unfold pastT
 split
 ·rename_i h; subst h; decide
 ·rw [bs_size, List.length_map]; omega
theorem std_JoinS (l : List ByteArray) (hl : l.length <= 1048576) (hB : ∀ s ∈ l, s.size <= 100) (h : l ≠ []) : SC Tryz.prog 188 [.at (.im 1 (l.map strRow)), .at (.v (.string (⟨#[32]⟩ : ByteArray)))] [] (.at (.v (.string (joinC 32 l)))) [] :=
 have hj := joinC_le (c := 32) hB
 SC.join (f := 188) ⟨_, Tryz.func188, by kernel_rfl, by kernel_rfl⟩ (l := l) (sep := bs [32]) (v := .string (joinC 32 l)) rfl (fun a c w hn => absurd hn h) (fun b o c w h1 h2 h3 => Tryz.strings_Join b o c l (bs [32]) w h1 h2 (by omega) h3 (by show (joinC 32 l).size <= _; omega))
theorem impl_joined (l : List Int) (h0 : l ≠ []) (hl : l.length <= 1048576) (hw : ∀ n ∈ l, I64 n) : SC Tryz.prog 191 [.at (.im 1 (l.map intRow))] [] (.at (.v (.string (joinC 32 (l.map fmtV))))) [] := by
 refine SC.of_V mixed Tryz.func191 (by kernel_rfl) rfl Tryz.results191 _ Tryz.ntmps191 (by simp) ?_
 simp -implicitDefEqProofs only [go_sem]
 refine T.loopW mixed [3, 7, 8, 9] (fun mm vs es => ∃ (i : Nat), vs = [.at (.ow 100 0 1 i), .at (.im 1 (l.map intRow)), .at (.v (.int .i64 l.length)), .at (.v (.int .i64 (i : Nat)))] /\ es = [.arr 0 1 (strs fmtV l i)] /\ mm + i = l.length) l.length ?_ ?_
 ·simp -implicitDefEqProofs only [go_sem]; exact ⟨0, ⟨rfl, rfl⟩, rfl, by omega⟩
 rintro q _ _ ⟨i, rfl, rfl, hq⟩
 simp -implicitDefEqProofs only [go_sem]
 refine ⟨fun h => ⟨by omega, fun n hn => ?_⟩, fun h => ?_⟩
 ·refine callX [] (impl_FormatInt n (hw n (List.mem_of_getElem? hn))) (by simp -implicitDefEqProofs only [go_sem]) ?_
  simp -implicitDefEqProofs only [go_sem]
  exact strs_step (g := fmtV) hl hq hn
 ·rw [strs_end h]
  refine callXF [100] (std_JoinS (l.map fmtV) (by simp; omega) (map_le (fun n hn => Nat.le_trans (fmt_len (hw n hn)) (by decide))) (by simpa using h0)) (by simp -implicitDefEqProofs only [go_sem]) ?_
  simp -implicitDefEqProofs only [go_sem]
theorem impl_PartyText (x : DLand) (p : DParty) (hx : x.cells.length <= 1048576) (hc : p.crew.length <= 1048576) (hp : p.past.length <= 1048576) : SC Tryz.prog 93 [.ag x.ats, .ag p.ats] [] (.at (.v (.string (partyT x p)))) [] := by
 refine SC.of_V mixed Tryz.func93 (by kernel_rfl) rfl Tryz.results93 _ Tryz.ntmps93 (by simp) ?_
 simp -implicitDefEqProofs only [go_sem]
 refine callX [] (impl_IsParty x p hx hc) (by simp -implicitDefEqProofs only [go_sem]) ?_
 simp -implicitDefEqProofs only [go_sem]
 refine ⟨fun h => by rw [partyT, if_neg h]; rfl, fun h => ?_⟩
 rw [partyT, if_pos h]
 have hn := needZ_bnd p.crew
 have hk := capZ_bnd p.crew
 have hf := h.2.2.1
 have hcl := cell_len x p.at_
 have hps := pastT_size p.past
 have w1 : I64 p.food := by unfold I64; omega
 have w2 : I64 (p.crew.length : Int) := by unfold I64; omega
 have w3 : I64 (needZ p.crew) := by unfold I64; omega
 have w4 : I64 (capZ p.crew) := by unfold I64; omega
 refine ⟨some [], by decide +kernel, ?_⟩
 simp -implicitDefEqProofs only [go_sem]
 refine callXQ [] (impl_CellText x p.at_ hx) (by simp -implicitDefEqProofs only [go_sem]) ?_
 simp -implicitDefEqProofs only [go_sem]
 refine ⟨by show _ + 1 <= _; omega, ?_⟩
 refine callXQ [] (impl_NeedOf p.crew hc) (by simp -implicitDefEqProofs only [go_sem]) ?_
 simp -implicitDefEqProofs only [go_sem]
 refine callXQ [] (impl_CapOf p.crew hc) (by simp -implicitDefEqProofs only [go_sem]) ?_
 simp -implicitDefEqProofs only [go_sem]
 have hjs := joinC_le (c := 32) (B := 20) (l := [fmtV p.food, fmtV p.crew.length, fmtV (needZ p.crew), fmtV (capZ p.crew)]) (by
  intro s hs
  simp only [List.mem_cons, List.not_mem_nil, or_false] at hs
  rcases hs with rfl | rfl | rfl | rfl <;> apply fmt_len <;> assumption)
 simp only [List.length_cons, List.length_nil] at hjs
 have hw4 : ∀ n ∈ [p.food, (p.crew.length : Int), needZ p.crew, capZ p.crew], I64 n := by
  intro n hn
  simp only [List.mem_cons, List.not_mem_nil, or_false] at hn
  rcases hn with rfl | rfl | rfl | rfl <;> assumption
 refine callXQ [1400] (impl_joined [p.food, p.crew.length, needZ p.crew, capZ p.crew] (by simp) (by simp) hw4) (by simp -implicitDefEqProofs only [go_sem]) ?_
 simp -implicitDefEqProofs only [go_sem]
 try simp only [List.map_cons, List.map_nil]
 have e4 : joinC 32 [fmtV p.food, fmtV p.crew.length, fmtV (needZ p.crew), fmtV (capZ p.crew)] = fmtV p.food ++ bs [32] ++ (fmtV p.crew.length ++ bs [32] ++ (fmtV (needZ p.crew) ++ bs [32] ++ fmtV (capZ p.crew))) := by rw [joinC_two, joinC_two, joinC_two, joinC_one]
 refine ⟨by show _ + 1 + _ <= _; omega, by show _ + 1 + _ + 1 <= _; omega, ?_⟩
 refine callXQ [] (impl_PastText p.past hp) (by simp -implicitDefEqProofs only [go_sem]) ?_
 simp -implicitDefEqProofs only [go_sem]
 refine ⟨by show _ + 1 + _ + 1 + _ <= _; omega, ?_⟩
 rw [e4]
 simp only [ByteArray.append_assoc]
 rfl
end Go.Abs
