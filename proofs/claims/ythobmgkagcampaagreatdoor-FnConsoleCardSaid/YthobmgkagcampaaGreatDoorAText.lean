/- Numbers, cells and lists as text. -/
import Derived.Test.YthobmgkagcampaaGreatDoorAShelf
import Derived.Test.YthobmgkagcampaaGreatDoorARule
import Derived.Test.YthobmgkagcampaaGreatDoorACurT
namespace Go.Abs
open Go.RowKit Go.Proofs
set_option linter.all false
set_option maxRecDepth 100000
set_option maxHeartbeats 4000000
theorem conv_is {P : Program} {t1 t2 : TypeId} {k k1 : IntKind} {a : Int} {K : Value -> Prop} (h1 : P.underlying t1 = some (.int k1)) (h2 : P.underlying t2 = some .string) : onO (convS P t1 t2 (.at (.v (.int k a)))) K = K (.string (Utf8.encode a)) := by
 simp only [convS, h1, h2, onO]
theorem cv_int_u8 {n : Int} {k : IntKind} {K : Value -> Prop} : onO (convS Tryz.prog 3 5 (.at (.v (.int k n)))) K = K (.int .u8 (IntKind.wrap .u8 n)) := conv_ii Tryz.underlying3 Tryz.underlying5
theorem cv_int_rune {n : Int} {k : IntKind} {K : Value -> Prop} : onO (convS Tryz.prog 3 21 (.at (.v (.int k n)))) K = K (.int .i32 (IntKind.wrap .i32 n)) := conv_ii Tryz.underlying3 Tryz.underlying21
theorem cv_rune_str {n : Int} {k : IntKind} {K : Value -> Prop} : onO (convS Tryz.prog 21 9 (.at (.v (.int k n)))) K = K (.string (Utf8.encode n)) := conv_is Tryz.underlying21 Tryz.underlying9
theorem cs_string {nx : Nat} {q : Qm} {t : Nat -> AV} {m : Mem} {s : ByteArray} {lo hi : Option Operand} {K : AV -> Mem -> Prop} : onM (sliceS Tryz.prog nx q 9 ⟨t, m⟩ (.at (.v (.string s))) lo hi none) K = onO (todo (boundS ⟨t, m⟩ lo 0)) fun l => onO (todo (boundS ⟨t, m⟩ hi s.size)) fun h => (0 <= l /\ l <= h /\ h <= (s.size : Int)) /\ K (.at (.v (.string (s.extract l.toNat h.toNat)))) m := cut_str_k Tryz.underlying9
theorem ln_string {s : ByteArray} {K : Value -> Prop} : onO (lenS Tryz.prog 9 (.at (.v (.string s)))) K = K (.int .i64 s.size) := by
 simp only [lenS, Tryz.underlying9, onO]
theorem ix_string {s : ByteArray} {k : IntKind} {i : Int} {K : AV -> Prop} : onR (indexS Tryz.prog 9 (.at (.v (.string s))) (.at (.v (.int k i)))) K = ((0 <= i /\ i < (s.size : Int)) /\ K (.at (.v (.int .u8 ((s[i.toNat]?.getD 0).toNat : Int))))) := by
 simp only [indexS, Tryz.underlying9, onR]
attribute [go_sem] cv_int_u8 cv_int_rune cv_rune_str cs_string ln_string ix_string
def bs (l : List UInt8) : ByteArray := ⟨l.toArray⟩
theorem bs_size (l : List UInt8) : (bs l).size = l.length := rfl
theorem bs_app (l k : List UInt8) : bs l ++ bs k = bs (l ++ k) := by
 apply ByteArray.ext; apply Array.ext'
 simp [bs, ByteArray.data_append]
theorem bs_data (s : ByteArray) : bs s.data.toList = s := rfl
theorem bs_toList (l : List UInt8) : (bs l).data.toList = l := rfl
def fmtV (n : Int) : ByteArray := bs (Lib.itoa n)
theorem dec_ten {u : Nat} (h : ¬ u < 10) : Lib.decDigits u = Lib.decDigits (u / 10) ++ [UInt8.ofNat (48 + u % 10)] := by rw [Lib.decDigits, dif_neg h]
theorem dec_one {u : Nat} (h : u < 10) : Lib.decDigits u = [UInt8.ofNat (48 + u)] := by rw [Lib.decDigits, dif_pos h]
theorem dec_len : ∀ (k u : Nat), u < 10 ^ (k + 1) -> (Lib.decDigits u).length <= k + 1 := by
 intro k
 induction k with
 | zero => intro u h; rw [dec_one (by omega)]; simp
 | succ k ih =>
  intro u h
  by_cases h2 : u < 10
  ·rw [dec_one h2]; simp
  ·rw [dec_ten h2, List.length_append]
   have := ih (u / 10) (by rw [Nat.div_lt_iff_lt_mul (by decide)]; rw [Nat.pow_succ] at h; exact h)
   simp; omega
theorem itoa_len {n : Int} (h : I64 n) : (Lib.itoa n).length <= 20 := by
 unfold I64 at h
 unfold Lib.itoa
 split
 ·have := dec_len 18 n.natAbs (by omega)
  simp; omega
 ·have := dec_len 18 n.toNat (by omega)
  omega
theorem fmt_len {n : Int} (h : I64 n) : (fmtV n).size <= 20 := itoa_len h
theorem impl_FormatInt (n : Int) (h : I64 n) : SC Tryz.prog 87 [.at (.v (.int .i64 n))] [] (.at (.v (.string (fmtV n)))) [] := by
 refine SC.of_V mixed Tryz.func87 (by kernel_rfl) rfl Tryz.results87 _ Tryz.ntmps87 (by simp) ?_
 simp -implicitDefEqProofs only [go_sem]
 refine callX [] (SC.itoa (f := 180) ⟨_, Tryz.func180, by kernel_rfl, by kernel_rfl⟩ (tab := _) Tryz.laysM171.m17 (n := n) fun w hw => Tryz.strconv_Itoa n (by unfold I64 at h; omega) (by unfold I64 at h; omega) w hw) (by simp -implicitDefEqProofs only [go_sem]) ?_
 simp -implicitDefEqProofs only [go_sem]
 rfl
noncomputable def cellV (x : DLand) (n : Int) : ByteArray := if x.Cell n then bs (UInt8.ofNat (97 + (n % x.w).toNat) :: Lib.itoa (n / x.w)) else bs []
noncomputable def nameV (x : DLand) (n : Int) : ByteArray := if x.Cell n then cellV x n else bs [63]
theorem small_len {n : Int} (h0 : 0 <= n) (h : n < 8) : (Lib.itoa n).length <= 20 := itoa_len (by unfold I64; omega)
theorem cell_len (x : DLand) (n : Int) : (cellV x n).size <= 21 := by
 unfold cellV
 split
 ·rename_i h
  obtain ⟨_, _, h3, h4, _⟩ := h.div
  have := small_len h3 (by have := h.1.2.1.2; omega)
  rw [bs_size]; simp; omega
 ·simp [bs_size]
theorem name_len (x : DLand) (n : Int) : (nameV x n).size <= 21 := by
 unfold nameV
 split
 ·exact cell_len x n
 ·simp [bs_size]
theorem cell_ne {x : DLand} {n : Int} (h : x.Cell n) : ((cellV x n).toList == (⟨#[]⟩ : ByteArray).toList) = false := by
 rw [cellV, if_pos h, bs, ByteArray.toList_mk, ByteArray.toList_mk [] |> (fun (h : (⟨#[]⟩ : ByteArray).toList = []) => h)]
 rfl
theorem letter_enc {k : Int} (h0 : 0 <= k) (h8 : k < 8) : Utf8.encode (IntKind.i32.wrap (IntKind.i64.wrap (97 + k))) = bs [UInt8.ofNat (97 + k.toNat)] := by
 have : k = 0 \/ k = 1 \/ k = 2 \/ k = 3 \/ k = 4 \/ k = 5 \/ k = 6 \/ k = 7 := by omega
 rcases this with rfl | rfl | rfl | rfl | rfl | rfl | rfl | rfl <;> rfl
theorem impl_CellText (x : DLand) (n : Int) (hl : x.cells.length <= 1048576) : SC Tryz.prog 187 [.ag x.ats, .at (.v (.int .i64 n))] [] (.at (.v (.string (cellV x n)))) [] := by
 refine SC.of_V mixed Tryz.func187 (by kernel_rfl) rfl Tryz.results187 _ Tryz.ntmps187 (by simp) ?_
 simp -implicitDefEqProofs only [go_sem]
 refine callX [] (impl_IsCell x n hl) (by simp -implicitDefEqProofs only [go_sem]) ?_
 simp -implicitDefEqProofs only [go_sem]
 refine ⟨fun h => by rw [cellV, if_neg h]; rfl, fun h => ?_⟩
 obtain ⟨a1, a2, a3, a4, a5, a6, a7⟩ := h.div
 obtain ⟨⟨w1, w2⟩, ⟨w3, w4⟩, _⟩ := h.1
 refine ⟨some [], by decide +kernel, ?_⟩
 simp -implicitDefEqProofs only [go_sem]
 simp only [a5, a6]
 have e8 : n / x.w < 8 := by omega
 have l8 : n % x.w < 8 := by omega
 have hq := small_len a3 e8
 refine ⟨by omega, by omega, ?_⟩
 rw [letter_enc a1 l8]
 rw [wrap64 (x := n / x.w) (by omega) (by omega)]
 refine callXQ [] (impl_FormatInt (n / x.w) (by unfold I64; omega)) (by simp -implicitDefEqProofs only [go_sem]) ?_
 simp -implicitDefEqProofs only [go_sem]
 exact ⟨by rw [bs_size, fmtV, bs_size]; simp; omega, by rw [cellV, if_pos h, fmtV, bs_app]; rfl⟩
theorem name_ends (x : DLand) (n : Int) : (((cellV x n).toList == (⟨#[]⟩ : ByteArray).toList) = false -> cellV x n = nameV x n) /\ (((cellV x n).toList == (⟨#[]⟩ : ByteArray).toList) = true -> (⟨#[63]⟩ : ByteArray) = nameV x n) := by
 by_cases h : x.Cell n
 ·have := cell_ne h
  exact ⟨fun _ => by rw [nameV, if_pos h], fun h2 => by rw [this] at h2; cases h2⟩
 ·rw [nameV, if_neg h]
  refine ⟨fun h2 => ?_, fun _ => rfl⟩
  rw [cellV, if_neg h] at h2
  have : ((bs []).toList == (⟨#[]⟩ : ByteArray).toList) = true := by decide +kernel
  rw [this] at h2; cases h2
theorem impl_nameOf (x : DLand) (n : Int) (hl : x.cells.length <= 1048576) : SC Tryz.prog 173 [.ag x.ats, .at (.v (.int .i64 n))] [] (.at (.v (.string (nameV x n)))) [] := by
 refine SC.of_V mixed Tryz.func173 (by kernel_rfl) rfl Tryz.results173 _ Tryz.ntmps173 (by simp) ?_
 simp -implicitDefEqProofs only [go_sem]
 refine callX [] (impl_CellText x n hl) (by simp -implicitDefEqProofs only [go_sem]) ?_
 simp -implicitDefEqProofs only [go_sem]
 exact name_ends x n
def joinB (l : List ByteArray) : ByteArray := bs (Lib.join (l.map (·.data.toList)) [32])
def joinV (l : List ByteArray) : ByteArray := if l = [] then bs [45] else joinB l
theorem join_le {B : Nat} {l : List (List UInt8)} (h : ∀ x ∈ l, x.length <= B) : (Lib.join l [32]).length <= (B + 1) * l.length := by
 cases l with
 | nil => simp [Lib.join_nil]
 | cons a l =>
  rw [Lib.join_cons, List.length_append, List.length_cons]
  have h1 := h a (by simp)
  have h2 : ∀ (l : List (List UInt8)), (∀ x ∈ l, x.length <= B) -> (Lib.joinTail [32] l).length <= (B + 1) * l.length := by
   intro l
   induction l with
   | nil => intro _; simp [Lib.joinTail]
   | cons x l ih =>
    intro h
    have := ih fun y hy => h y (by simp [hy])
    have hx := h x (by simp)
    simp only [Lib.joinTail, List.map_cons, List.flatten_cons, List.length_append, List.length_cons, List.length_nil] at this ⊢
    rw [Nat.mul_succ]; omega
  have := h2 l fun x hx => h x (by simp [hx])
  rw [Nat.mul_succ]; omega
theorem joinB_le {B : Nat} {l : List ByteArray} (h : ∀ s ∈ l, s.size <= B) : (joinB l).size <= (B + 1) * l.length := by
 have := join_le (B := B) (l := l.map (·.data.toList)) (by
  intro x hx
  obtain ⟨s, hs, rfl⟩ := List.mem_map.1 hx
  exact h s hs)
 rw [List.length_map] at this
 exact this
theorem std_Join (l : List ByteArray) (hl : l.length <= 1048576) (hj : (joinB l).size <= 140737488355328) (h : l ≠ []) : SC Tryz.prog 188 [.at (.im 1 (l.map strRow)), .at (.v (.string (⟨#[32]⟩ : ByteArray)))] [] (.at (.v (.string (joinB l)))) [] :=
 SC.join (f := 188) ⟨_, Tryz.func188, by kernel_rfl, by kernel_rfl⟩ (l := l) (sep := bs [32]) (v := .string (joinB l)) rfl (fun a c w hn => absurd hn h) (fun b o c w h1 h2 h3 => Tryz.strings_Join b o c l (bs [32]) w h1 h2 (by omega) h3 hj)
theorem impl_orDash (l : List ByteArray) (hl : l.length <= 1048576) (hB : ∀ s ∈ l, s.size <= 100) : SC Tryz.prog 174 [.at (.im 1 (l.map strRow))] [] (.at (.v (.string (joinV l)))) [] := by
 have hj := joinB_le hB
 refine SC.of_V mixed Tryz.func174 (by kernel_rfl) rfl Tryz.results174 _ Tryz.ntmps174 (by simp) ?_
 simp -implicitDefEqProofs only [go_sem]
 refine ⟨fun h => ?_, fun h => ?_⟩
 ·rw [joinV, if_pos (List.eq_nil_of_length_eq_zero (by omega))]; rfl
 refine callX [] (std_Join l hl (by omega) (fun e => h (by rw [e]; rfl))) (by simp -implicitDefEqProofs only [go_sem]) ?_
 simp -implicitDefEqProofs only [go_sem]
 rw [joinV, if_neg (by rintro rfl; exact h rfl)]
end Go.Abs
