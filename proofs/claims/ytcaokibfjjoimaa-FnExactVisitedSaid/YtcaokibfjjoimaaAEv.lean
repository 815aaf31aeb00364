/- Words for computing: what the steps come to, told so that a simplifier can follow. -/
import Derived.Test.YtcaokibfjjoimaaAFun
namespace Go.Abs
open Go.RowKit
set_option linter.unusedVariables false
set_option linter.unusedSimpArgs false

def onR {β : Type} (r : Option (β × Prop)) (K : β → Prop) : Prop :=
  match r with
  | some (b, c) => c ∧ K b
  | none => False
def onO {β : Type} (r : Option β) (K : β → Prop) : Prop :=
  match r with
  | some b => K b
  | none => False
def onM (r : Option (AV × Mem × Prop)) (K : AV → Mem → Prop) : Prop :=
  match r with
  | some (x, m', c) => c ∧ K x m'
  | none => False

section
variable {P : Program} {nx nt : Nat} {quiet : Bool} {ops : Array Oper} {K : St → Prop} {t : Nat → AV} {m : Mem} {L : List Oper} {σ : St}

theorem onR_some {β : Type} {b : β} {c : Prop} {K : β → Prop} : onR (some (b, c)) K = (c ∧ K b) := rfl
theorem onO_some {β : Type} {b : β} {K : β → Prop} : onO (some b) K = K b := rfl
theorem onM_some {x : AV} {m' : Mem} {c : Prop} {K : AV → Mem → Prop} : onM (some (x, m', c)) K = (c ∧ K x m') := rfl

theorem runC_nil : runC P nx nt quiet ops [] K σ = K σ := rfl
theorem runC_cons {o : Oper} : runC P nx nt quiet ops (o :: L) K σ = stepC P nx nt quiet ops o (runC P nx nt quiet ops L K) σ := rfl

theorem stepC_plain {d : Option Nat} {op : Op} {ty : TypeId} {pos : String} {af : Array Edge} : stepC P nx nt quiet ops ⟨d, op, ty, pos, af, none⟩ K σ = (dstOk nt d = true ∧ actC P nx quiet ⟨d, op, ty, pos, af, none⟩ K σ) := rfl
theorem dstOk_some {d : Nat} : dstOk nt (some d) = decide (d < nt) := rfl
theorem dstOk_none : dstOk nt none = true := rfl
theorem ev_tmp {n : Nat} : (⟨t, m⟩ : St).ev (.tmp n) = t n := rfl
theorem ev_const {v : Value} : σ.ev (.const v) = constAV v := rfl
theorem const_int {k : IntKind} {n : Int} : constAV (.int k n) = .at (.v (.int k n)) := rfl
theorem const_bool {b : Bool} : constAV (.bool b) = .at (.v (.bool b)) := rfl
theorem const_string {s : ByteArray} : constAV (.string s) = .at (.v (.string s)) := rfl
theorem const_nil : constAV (.slice none 0 0) = .at .nil := rfl
theorem const_nilIface : constAV .nilIface = .at (.v .nilIface) := rfl

theorem putD_at {d i : Nat} {x : AV} : putD t (some d) x i = if i = d then x else t i := rfl
theorem putD_none {x : AV} : putD t none x = t := rfl
theorem upd_at {β : Type} {f : Nat → β} {d i : Nat} {x : β} : upd f d x i = if i = d then x else f i := rfl
theorem ofT_cons {k i : Nat} {x : AV} {l : List (Nat × AV)} : ofT ((k, x) :: l) i = if i = k then x else ofT l i := rfl
theorem ofT_nil {i : Nat} : ofT [] i = .at .dead := rfl

theorem actC_move {d : Option Nat} {x : Operand} {ty : TypeId} {pos : String} {af : Array Edge} {g : Option (Nat × Bool)} : actC P nx quiet ⟨d, .move x, ty, pos, af, g⟩ K ⟨t, m⟩ =
    (K ⟨putD t d ((⟨t, m⟩ : St).ev x), m⟩) := by
  simp [actC, opC, opS]
theorem actC_assign {d : Option Nat} {x : Operand} {ty : TypeId} {pos : String} {af : Array Edge} {g : Option (Nat × Bool)} : actC P nx quiet ⟨d, .assign x, ty, pos, af, g⟩ K ⟨t, m⟩ =
    (K ⟨putD t d ((⟨t, m⟩ : St).ev x), m⟩) := by
  simp [actC, opC, opS]
theorem actC_bin {d : Option Nat} {o1 : BinOp} {t1 t2 : TypeId} {x y : Operand} {ty : TypeId} {pos : String} {af : Array Edge} {g : Option (Nat × Bool)} : actC P nx quiet ⟨d, .binOp o1 t1 x y t2, ty, pos, af, g⟩ K ⟨t, m⟩ =
    (onR (binS P o1 t1 ((⟨t, m⟩ : St).ev x) ((⟨t, m⟩ : St).ev y)) fun v => K ⟨putD t d (.at (.v v)), m⟩) := by
  simp only [actC, opC, opS, onR]; cases binS P o1 t1 ((⟨t, m⟩ : St).ev x) ((⟨t, m⟩ : St).ev y) <;> rfl
theorem actC_un {d : Option Nat} {o1 : UnOp} {t1 : TypeId} {x : Operand} {ty : TypeId} {pos : String} {af : Array Edge} {g : Option (Nat × Bool)} : actC P nx quiet ⟨d, .unOp o1 t1 x, ty, pos, af, g⟩ K ⟨t, m⟩ =
    (onO (unS o1 ((⟨t, m⟩ : St).ev x)) fun v => K ⟨putD t d (.at (.v v)), m⟩) := by
  simp only [actC, opC, opS, onO]; cases unS o1 ((⟨t, m⟩ : St).ev x) <;> simp
theorem actC_conv {d : Option Nat} {t1 t2 : TypeId} {x : Operand} {ty : TypeId} {pos : String} {af : Array Edge} {g : Option (Nat × Bool)} : actC P nx quiet ⟨d, .convert t1 t2 x, ty, pos, af, g⟩ K ⟨t, m⟩ =
    (onO (convS P t1 t2 ((⟨t, m⟩ : St).ev x)) fun v => K ⟨putD t d (.at (.v v)), m⟩) := by
  simp only [actC, opC, opS, onO]; cases convS P t1 t2 ((⟨t, m⟩ : St).ev x) <;> simp
theorem actC_load {d : Option Nat} {t1 : TypeId} {x : Operand} {ty : TypeId} {pos : String} {af : Array Edge} {g : Option (Nat × Bool)} : actC P nx quiet ⟨d, .load t1 x, ty, pos, af, g⟩ K ⟨t, m⟩ =
    (onR (loadS P t1 m ((⟨t, m⟩ : St).ev x)) fun v => K ⟨putD t d v, m⟩) := by
  simp only [actC, opC, opS, onR]; cases loadS P t1 m ((⟨t, m⟩ : St).ev x) <;> rfl
theorem actC_store {d : Option Nat} {t1 : TypeId} {x y : Operand} {ty : TypeId} {pos : String} {af : Array Edge} {g : Option (Nat × Bool)} : actC P nx quiet ⟨d, .store t1 x y, ty, pos, af, g⟩ K ⟨t, m⟩ =
    (onR (storeS P t1 m ((⟨t, m⟩ : St).ev x) ((⟨t, m⟩ : St).ev y)) fun m1 => K ⟨putD t d (.at .dead), m1⟩) := by
  simp only [actC, opC, opS, onR]; cases storeS P t1 m ((⟨t, m⟩ : St).ev x) ((⟨t, m⟩ : St).ev y) <;> rfl
theorem actC_fieldAddr {d : Option Nat} {t1 : TypeId} {x : Operand} {f : Nat} {ty : TypeId} {pos : String} {af : Array Edge} {g : Option (Nat × Bool)} : actC P nx quiet ⟨d, .fieldAddr t1 x f, ty, pos, af, g⟩ K ⟨t, m⟩ =
    (onO (fieldAddrS P t1 f ((⟨t, m⟩ : St).ev x)) fun v => K ⟨putD t d v, m⟩) := by
  simp only [actC, opC, opS, onO]; cases fieldAddrS P t1 f ((⟨t, m⟩ : St).ev x) <;> simp
theorem actC_field {d : Option Nat} {t1 : TypeId} {x : Operand} {f : Nat} {ty : TypeId} {pos : String} {af : Array Edge} {g : Option (Nat × Bool)} : actC P nx quiet ⟨d, .field t1 x f, ty, pos, af, g⟩ K ⟨t, m⟩ =
    (onR (fieldS P t1 f ((⟨t, m⟩ : St).ev x)) fun v => K ⟨putD t d v, m⟩) := by
  simp only [actC, opC, opS, onR]; cases fieldS P t1 f ((⟨t, m⟩ : St).ev x) <;> rfl
theorem actC_indexAddr {d : Option Nat} {t1 : TypeId} {x y : Operand} {ty : TypeId} {pos : String} {af : Array Edge} {g : Option (Nat × Bool)} : actC P nx quiet ⟨d, .indexAddr t1 x y, ty, pos, af, g⟩ K ⟨t, m⟩ =
    (onR (indexAddrS P t1 ((⟨t, m⟩ : St).ev x) ((⟨t, m⟩ : St).ev y)) fun v => K ⟨putD t d v, m⟩) := by
  simp only [actC, opC, opS, onR]; cases indexAddrS P t1 ((⟨t, m⟩ : St).ev x) ((⟨t, m⟩ : St).ev y) <;> rfl
theorem actC_index {d : Option Nat} {t1 : TypeId} {x y : Operand} {ty : TypeId} {pos : String} {af : Array Edge} {g : Option (Nat × Bool)} : actC P nx quiet ⟨d, .index t1 x y, ty, pos, af, g⟩ K ⟨t, m⟩ =
    (onR (indexS P t1 ((⟨t, m⟩ : St).ev x) ((⟨t, m⟩ : St).ev y)) fun v => K ⟨putD t d v, m⟩) := by
  simp only [actC, opC, opS, onR]; cases indexS P t1 ((⟨t, m⟩ : St).ev x) ((⟨t, m⟩ : St).ev y) <;> rfl
theorem actC_slice {d : Option Nat} {t1 : TypeId} {x : Operand} {lo hi mx : Option Operand} {ty : TypeId} {pos : String} {af : Array Edge} {g : Option (Nat × Bool)} : actC P nx quiet ⟨d, .slice t1 x lo hi mx, ty, pos, af, g⟩ K ⟨t, m⟩ =
    (onM (sliceS P nx quiet t1 ⟨t, m⟩ ((⟨t, m⟩ : St).ev x) lo hi mx) fun v m1 => K ⟨putD t d v, m1⟩) := by
  simp only [actC, opC, opS, onM]; split <;> simp_all
theorem actC_box {d : Option Nat} {t1 : TypeId} {x : Operand} {ty : TypeId} {pos : String} {af : Array Edge} {g : Option (Nat × Bool)} : actC P nx quiet ⟨d, .box t1 x, ty, pos, af, g⟩ K ⟨t, m⟩ =
    (onM (opS P nx quiet ⟨d, .box t1 x, ty, pos, af, g⟩ ⟨t, m⟩) fun v m1 => K ⟨putD t d v, m1⟩) := by
  simp only [actC, opC, onM]; split <;> simp_all
theorem actC_alloc {d : Option Nat} {t1 : TypeId} {ty : TypeId} {pos : String} {af : Array Edge} {g : Option (Nat × Bool)} : actC P nx quiet ⟨d, .alloc t1, ty, pos, af, g⟩ K ⟨t, m⟩ =
    (onM (opS P nx quiet ⟨d, .alloc t1, ty, pos, af, g⟩ ⟨t, m⟩) fun v m1 => K ⟨putD t d v, m1⟩) := by
  simp only [actC, opC, onM]; split <;> simp_all
theorem actC_build {d : Option Nat} {t1 : TypeId} {parts : Array (Nat × Operand)} {ty : TypeId} {pos : String} {af : Array Edge} {g : Option (Nat × Bool)} : actC P nx quiet ⟨d, .build t1 parts, ty, pos, af, g⟩ K ⟨t, m⟩ =
    (onM (opS P nx quiet ⟨d, .build t1 parts, ty, pos, af, g⟩ ⟨t, m⟩) fun v m1 => K ⟨putD t d v, m1⟩) := by
  simp only [actC, opC, onM]; split <;> simp_all
theorem actC_buildSlice {d : Option Nat} {t1 : TypeId} {len : Nat} {parts : Array (Nat × Operand)} {ty : TypeId} {pos : String} {af : Array Edge} {g : Option (Nat × Bool)} : actC P nx quiet ⟨d, .buildSlice t1 len parts, ty, pos, af, g⟩ K ⟨t, m⟩ =
    (onM (opS P nx quiet ⟨d, .buildSlice t1 len parts, ty, pos, af, g⟩ ⟨t, m⟩) fun v m1 => K ⟨putD t d v, m1⟩) := by
  simp only [actC, opC, onM]; split <;> simp_all
theorem actC_makeSlice {d : Option Nat} {t1 : TypeId} {x y : Operand} {ty : TypeId} {pos : String} {af : Array Edge} {g : Option (Nat × Bool)} : actC P nx quiet ⟨d, .makeSlice t1 x y, ty, pos, af, g⟩ K ⟨t, m⟩ =
    (onM (opS P nx quiet ⟨d, .makeSlice t1 x y, ty, pos, af, g⟩ ⟨t, m⟩) fun v m1 => K ⟨putD t d v, m1⟩) := by
  simp only [actC, opC, onM]; split <;> simp_all
theorem actC_extract {d : Option Nat} {x : Operand} {i : Nat} {ty : TypeId} {pos : String} {af : Array Edge} {g : Option (Nat × Bool)} : actC P nx quiet ⟨d, .extract x i, ty, pos, af, g⟩ K ⟨t, m⟩ =
    (onM (opS P nx quiet ⟨d, .extract x i, ty, pos, af, g⟩ ⟨t, m⟩) fun v m1 => K ⟨putD t d v, m1⟩) := by
  simp only [actC, opC, onM]; split <;> simp_all
theorem actC_nilCheck {d : Option Nat} {x : Operand} {ty : TypeId} {pos : String} {af : Array Edge} {g : Option (Nat × Bool)} : actC P nx quiet ⟨d, .nilCheck x, ty, pos, af, g⟩ K ⟨t, m⟩ =
    (onM (opS P nx quiet ⟨d, .nilCheck x, ty, pos, af, g⟩ ⟨t, m⟩) fun v m1 => K ⟨putD t d v, m1⟩) := by
  simp only [actC, opC, onM]; split <;> simp_all
theorem actC_builtin {d : Option Nat} {b : Builtin} {args : Array Operand} {ts : Array TypeId} {ty : TypeId} {pos : String} {af : Array Edge} {g : Option (Nat × Bool)} : actC P nx quiet ⟨d, .call { callee := .builtin b, args := args, argTypes := ts }, ty, pos, af, g⟩ K ⟨t, m⟩ =
    (onM (builtinS P (siteOf d) nx b args.toList ts.toList ⟨t, m⟩) fun v m1 => K ⟨putD t d v, m1⟩) := by
  simp only [actC, opC, opS, onM]; split <;> simp_all
theorem actC_call {d : Option Nat} {f : FuncId} {args : Array Operand} {ts : Array TypeId} {ty : TypeId} {pos : String} {af : Array Edge} {g : Option (Nat × Bool)} : actC P nx false ⟨d, .call { callee := .value (.func f), args := args, argTypes := ts }, ty, pos, af, g⟩ K ⟨t, m⟩ =
    callC P nx f (args.toList.map (⟨t, m⟩ : St).ev) d K ⟨t, m⟩ := by
  simp [actC]
theorem actC_callQ {d : Option Nat} {f : FuncId} {args : Array Operand} {ts : Array TypeId} {ty : TypeId} {pos : String} {af : Array Edge} {g : Option (Nat × Bool)} : actC P nx true ⟨d, .call { callee := .value (.func f), args := args, argTypes := ts }, ty, pos, af, g⟩ K ⟨t, m⟩ =
    callQ P nx f (args.toList.map (⟨t, m⟩ : St).ev) d K ⟨t, m⟩ := by
  simp [actC]

end
section
variable {P : Program} {K : Value → Prop} {ty : TypeId} {k : IntKind} {a b : Int} {p q : Bool} {x y : ByteArray}
theorem bin_add : onR (binS P .add ty (.at (.v (.int k a))) (.at (.v (.int k b)))) K = K (.int k (k.wrap (a + b))) := by
  simp only [binS, intBin, onR, if_true, true_and]
theorem bin_sub : onR (binS P .sub ty (.at (.v (.int k a))) (.at (.v (.int k b)))) K = K (.int k (k.wrap (a - b))) := by
  simp only [binS, intBin, onR, if_true, true_and]
theorem bin_mul : onR (binS P .mul ty (.at (.v (.int k a))) (.at (.v (.int k b)))) K = K (.int k (k.wrap (a * b))) := by
  simp only [binS, intBin, onR, if_true, true_and]
theorem bin_eql : onR (binS P .eql ty (.at (.v (.int k a))) (.at (.v (.int k b)))) K = K (.bool (decide (a = b))) := by
  simp only [binS, intBin, onR, if_true, true_and]; congr 2
theorem bin_neq : onR (binS P .neq ty (.at (.v (.int k a))) (.at (.v (.int k b)))) K = K (.bool (!decide (a = b))) := by
  simp only [binS, intBin, onR, if_true, true_and]; congr 2
theorem bin_lss : onR (binS P .lss ty (.at (.v (.int k a))) (.at (.v (.int k b)))) K = K (.bool (decide (a < b))) := by
  simp only [binS, intBin, onR, if_true, true_and]
theorem bin_leq : onR (binS P .leq ty (.at (.v (.int k a))) (.at (.v (.int k b)))) K = K (.bool (decide (a ≤ b))) := by
  simp only [binS, intBin, onR, if_true, true_and]
theorem bin_gtr : onR (binS P .gtr ty (.at (.v (.int k a))) (.at (.v (.int k b)))) K = K (.bool (decide (b < a))) := by
  simp only [binS, intBin, onR, if_true, true_and]
theorem bin_geq : onR (binS P .geq ty (.at (.v (.int k a))) (.at (.v (.int k b)))) K = K (.bool (decide (b ≤ a))) := by
  simp only [binS, intBin, onR, if_true, true_and]
theorem bin_quo : onR (binS P .quo ty (.at (.v (.int k a))) (.at (.v (.int k b)))) K = (b ≠ 0 ∧ K (.int k (k.wrap (a.tdiv b)))) := by
  simp only [binS, intBin, onR, if_true]
theorem bin_rem : onR (binS P .rem ty (.at (.v (.int k a))) (.at (.v (.int k b)))) K = (b ≠ 0 ∧ K (.int k (a.tmod b))) := by
  simp only [binS, intBin, onR, if_true]
theorem bin_sadd : onR (binS P .add ty (.at (.v (.string x))) (.at (.v (.string y)))) K = (x.size + y.size ≤ 9223372036854775807 ∧ K (.string (x ++ y))) := by
  simp only [binS, strBin, onR]
theorem bin_seql : onR (binS P .eql ty (.at (.v (.string x))) (.at (.v (.string y)))) K = K (.bool (x.toList == y.toList)) := by
  simp only [binS, strBin, onR, true_and]
theorem bin_sneq : onR (binS P .neq ty (.at (.v (.string x))) (.at (.v (.string y)))) K = K (.bool (!(x.toList == y.toList))) := by
  simp only [binS, strBin, onR, true_and]
theorem bin_beql (h : P.underlying ty = some .bool) : onR (binS P .eql ty (.at (.v (.bool p))) (.at (.v (.bool q)))) K = K (.bool (p == q)) := by
  simp only [binS, h, onR, true_and]
theorem bin_bneq (h : P.underlying ty = some .bool) : onR (binS P .neq ty (.at (.v (.bool p))) (.at (.v (.bool q)))) K = K (.bool (!(p == q))) := by
  simp only [binS, h, onR, true_and]
theorem un_not : onO (unS .not (.at (.v (.bool p)))) K = K (.bool (!p)) := rfl
theorem un_neg : onO (unS .neg (.at (.v (.int k a)))) K = K (.int k (k.wrap (0 - a))) := rfl
end

section
variable {P : Program} {K : AV → Prop} {K2 : AV → Mem → Prop} {t1 e : TypeId} {k : IntKind} {i : Int} {rows : List (List Value)} {sz ver n κ off s : Nat} {m : Mem} {fs : Array Field} {cs : List Value} {as : List A}

theorem and_get {c : Prop} {K : List Value → Prop} {j : Nat} (h : c → j < rows.length) : (c ∧ K (rows.getD j [])) = (c ∧ ∀ r, rows[j]? = some r → K r) := by
  apply propext
  constructor
  · rintro ⟨h1, h2⟩
    refine ⟨h1, fun r hr => ?_⟩
    rw [List.getD_eq_getElem?_getD, hr] at h2
    exact h2
  · rintro ⟨h1, h2⟩
    refine ⟨h1, ?_⟩
    rw [List.getD_eq_getElem?_getD, List.getElem?_eq_getElem (h h1)]
    exact h2 _ (List.getElem?_eq_getElem (h h1))

theorem idx_im (h : P.underlying t1 = some (.slice e)) (hs : szT P e = some sz) : onR (indexAddrS P t1 (.at (.im sz rows)) (.at (.v (.int k i)))) K =
    ((0 ≤ i ∧ i < (rows.length : Int)) ∧ ∀ r, rows[i.toNat]? = some r → K (.at (.pi r))) := by
  simp only [indexAddrS, h, hs, if_true, onR]
  exact and_get (K := fun r => K (.at (.pi r))) (fun h => by omega)
theorem idx_ow (h : P.underlying t1 = some (.slice e)) (hs : szT P e = some sz) : onR (indexAddrS P t1 (.at (.ow κ ver sz n)) (.at (.v (.int k i)))) K =
    ((0 ≤ i ∧ i < (n : Int)) ∧ K (.at (.pa κ ver sz i.toNat 0))) := by
  simp only [indexAddrS, h, hs, if_true, onR]

theorem load_pi1 (h : aggT P t1 = some false) : onR (loadS P t1 m (.at (.pi cs))) K = (0 < cs.length ∧ K (.at (.v (cs.getD 0 undef)))) := by
  simp only [loadS, h, onR]
theorem load_piN (h : aggT P t1 = some true) (hs : szT P t1 = some s) : onR (loadS P t1 m (.at (.pi cs))) K = (s ≤ cs.length ∧ K (.ag ((cs.take s).map .v))) := by
  simp only [loadS, h, hs, onR]
theorem load_pa1 (h : aggT P t1 = some false) (hm : m κ = .arr ver sz rows) : onR (loadS P t1 m (.at (.pa κ ver sz n off))) K = ((n < rows.length ∧ off < sz) ∧ ∀ r, rows[n]? = some r → K (.at (.v (r.getD off undef)))) := by
  simp only [loadS, h, hm, and_self, if_true, onR]
  exact and_get (K := fun r => K (.at (.v (r.getD off undef)))) (fun h => h.1)
theorem load_paN (h : aggT P t1 = some true) (hs : szT P t1 = some s) (hm : m κ = .arr ver sz rows) : onR (loadS P t1 m (.at (.pa κ ver sz n off))) K = ((n < rows.length ∧ off + s ≤ sz) ∧ ∀ r, rows[n]? = some r → K (.ag (((r.drop off).take s).map .v))) := by
  simp only [loadS, h, hs, hm, and_self, if_true, onR]
  exact and_get (K := fun r => K (.ag (((r.drop off).take s).map .v))) (fun h => h.1)
theorem load_ia1 (h : aggT P t1 = some false) (hm : m κ = .ice ver sz rows) : onR (loadS P t1 m (.at (.pa κ ver sz n off))) K = ((n < rows.length ∧ off < sz) ∧ ∀ r, rows[n]? = some r → K (.at (.v (r.getD off undef)))) := by
  simp only [loadS, h, hm, and_self, if_true, onR]
  exact and_get (K := fun r => K (.at (.v (r.getD off undef)))) (fun h => h.1)
theorem load_iaN (h : aggT P t1 = some true) (hs : szT P t1 = some s) (hm : m κ = .ice ver sz rows) : onR (loadS P t1 m (.at (.pa κ ver sz n off))) K = ((n < rows.length ∧ off + s ≤ sz) ∧ ∀ r, rows[n]? = some r → K (.ag (((r.drop off).take s).map .v))) := by
  simp only [loadS, h, hs, hm, and_self, if_true, onR]
  exact and_get (K := fun r => K (.ag (((r.drop off).take s).map .v))) (fun h => h.1)

theorem fa_pi {f : Nat} {fd : Field} {n : Nat} (h : P.underlying t1 = some (.struct fs)) (hf : fs[f]? = some fd) (hs : szT P fd.type = some (n + 1)) {K : AV → Prop} : onO (fieldAddrS P t1 f (.at (.pi cs))) K = K (.at (.pi (cs.drop fd.offset))) := by
  simp only [fieldAddrS, h, hf, hs, onO]
theorem fa_pa {f : Nat} {fd : Field} {n i : Nat} (h : P.underlying t1 = some (.struct fs)) (hf : fs[f]? = some fd) (hs : szT P fd.type = some (n + 1)) {K : AV → Prop} : onO (fieldAddrS P t1 f (.at (.pa κ ver sz i off))) K = K (.at (.pa κ ver sz i (off + fd.offset))) := by
  simp only [fieldAddrS, h, hf, hs, onO]
theorem fa_bx {f : Nat} {fd : Field} {n : Nat} (h : P.underlying t1 = some (.struct fs)) (hf : fs[f]? = some fd) (hs : szT P fd.type = some (n + 1)) {K : AV → Prop} : onO (fieldAddrS P t1 f (.at (.bx κ ver off))) K = K (.at (.bx κ ver (off + fd.offset))) := by
  simp only [fieldAddrS, h, hf, hs, onO]

theorem len_call {κ0 nx : Nat} {x : Operand} {ty : TypeId} {σ : St} : onM (builtinS P κ0 nx .len [x] [ty] σ) K2 = onO (lenS P ty (σ.ev x)) fun v => K2 (.at (.v v)) σ.m := by
  simp only [builtinS]
  cases lenS P ty (σ.ev x) <;> simp [onO, onM]
theorem len_im {K : Value → Prop} (h : P.underlying t1 = some (.slice e)) : onO (lenS P t1 (.at (.im sz rows))) K = K (.int .i64 rows.length) := by
  simp only [lenS, h, onO]
theorem len_ow {K : Value → Prop} (h : P.underlying t1 = some (.slice e)) : onO (lenS P t1 (.at (.ow κ ver sz n))) K = K (.int .i64 n) := by
  simp only [lenS, h, onO]
theorem len_nil {K : Value → Prop} (h : P.underlying t1 = some (.slice e)) : onO (lenS P t1 (.at .nil)) K = K (.int .i64 0) := by
  simp only [lenS, h, onO]
theorem len_str {K : Value → Prop} {x : ByteArray} (h : P.underlying t1 = some .string) : onO (lenS P t1 (.at (.v (.string x)))) K = K (.int .i64 x.size) := by
  simp only [lenS, h, onO]

theorem all_map {β γ : Type} {f : β → γ} {l : List β} {j : Nat} {K : γ → Prop} : (∀ r, (l.map f)[j]? = some r → K r) = (∀ x, l[j]? = some x → K (f x)) := by
  apply propext
  constructor
  · intro h x hx
    exact h _ (by rw [List.getElem?_map, hx]; rfl)
  · intro h r hr
    rw [List.getElem?_map] at hr
    cases hx : l[j]? with
    | none => simp [hx] at hr
    | some x => simp only [hx, Option.map_some, Option.some.injEq] at hr; subst hr; exact h x hx
theorem wrap64 {x : Int} (h1 : -9223372036854775808 ≤ x) (h2 : x ≤ 9223372036854775807) : IntKind.wrap .i64 x = x := by
  unfold IntKind.wrap
  simp [IntKind.bits, IntKind.signed] 
  omega
end

attribute [go_sem] runC_nil runC_cons stepC_plain dstOk_some dstOk_none actC_move actC_assign actC_bin actC_un actC_conv actC_load actC_store actC_fieldAddr actC_field actC_indexAddr actC_index actC_slice actC_build actC_buildSlice actC_makeSlice actC_extract actC_nilCheck actC_builtin actC_call actC_callQ
  ev_tmp ev_const const_int const_bool const_string const_nil const_nilIface putD_at putD_none upd_at ofT_cons ofT_nil onR_some onO_some onM_some thenS blockS startS slotsOf
  bin_add bin_sub bin_mul bin_quo bin_rem bin_eql bin_neq bin_lss bin_leq bin_gtr bin_geq bin_sadd bin_seql bin_sneq un_not un_neg len_call all_map
  reduceIte true_and and_true decide_eq_true_eq List.length_map List.getD_cons_zero List.getD_cons_succ List.drop_succ_cons List.drop_zero List.length_cons List.length_nil forall_const Nat.zero_lt_succ Option.bind_some

/-- The end of a function that gives one plain value and has nothing of its own to give. -/
theorem fin_plain {P : Program} {fn : Func} {x : Value} {σ : St} {t : Nat} (hts : fn.results = #[.tmp t]) (h : σ.t t = .at (.v x)) : finS P 0 fn (.at (.v x)) [] .ret σ :=
  ⟨σ, [.at (.v x)], [], Weak.refl _ _, by rw [hts]; exact ⟨h, trivial⟩, by omega, by simp, by simp, by simp [oneOf, renV, ren, subR, subV, subA, instV, inst1, instA], rfl, rfl⟩
/-- .. of one that gives a struct of plain values out of its result's box. -/
theorem fin_cell {P : Program} {fn : Func} {as : List A} {σ : St} {t k ver : Nat} {ty : TypeId} (hts : fn.results = #[.cell t ty]) (h : σ.t t = .at (.bx k ver 0)) (hm : σ.m k = .box ver as) (ha : aggT P ty = some true) (hs : szT P ty = some as.length)
    (hp : as.all A.plain = true) : finS P 0 fn (.ag as) [] .ret σ := by
  have e1 : ∀ a ∈ as, ren (invOf 0 1000 []) σ.m a = a := fun a h => by
    have := List.all_eq_true.1 hp a h
    cases a <;> simp_all [ren, A.plain]
  have e2 : ∀ (l : List A) (n : Nat), l.all A.plain = true → instL n l = (l, n) := by
    intro l
    induction l with
    | nil => intro n _; rfl
    | cons a l ih =>
      intro n hl
      simp only [List.all_cons, Bool.and_eq_true] at hl
      have : instA n a = (a, n) := by cases a <;> simp_all [instA, A.plain]
      simp only [instL, this, ih n hl.2]
  have e3 : as.flatMap freshA = [] := by
    rw [List.flatMap_eq_nil_iff]
    intro a h
    have := List.all_eq_true.1 hp a h
    cases a <;> simp_all [freshA, A.plain]
  have e4 : ∀ l : List A, subL l l := by
    intro l
    induction l with
    | nil => trivial
    | cons a l ih =>
      refine ⟨?_, ih⟩
      cases a with
      | im sz rows => cases rows <;> simp [subA]
      | _ => simp [subA]
  refine ⟨σ, [.ag as], [], Weak.refl _ _, ?_, by omega, by simp, by simp, ?_, rfl, ?_⟩
  · rw [hts]
    refine ⟨⟨k, ver, 0, 0 + as.length ≤ as.length, h, ?_, ?_⟩, trivial⟩
    · rw [h]
      simp only [loadS, hm, if_true, ha, hs, List.drop_zero, List.take_length]
    · exact Nat.le_of_eq (Nat.zero_add _)
  · simp only [oneOf, renV, instV, inst1, e2 as _ hp, subR, subV]
    rw [List.map_congr_left e1, List.map_id']
    exact e4 as
  · simp only [List.map_nil, freshes, fresh1, e3]

/-- Only what lives is kept. -/
theorem T.keepOnly {P : Program} {nx nt : Nat} {c : Code} {Q : Post} {σ : St} (live ks : List Nat) (base : Nat) (hnx : nx ≤ base) (hnd : ks.Nodup) (hown : ∀ k ∈ ks, nx ≤ k) (h : T P nx nt c Q (Abs.canon nx base live ks σ)) : T P nx nt c Q σ :=
  T.weak (Weak.canon live ks σ hnx hnd hown) h

/-- The frame with the slots that live, where the call has no memory of its own. -/
def keep (live : List Nat) (t : Nat → AV) : Nat → AV := ofT (live.map fun k => (k, t k))

/-- A loop: at its head only what lives is kept, the call's own arrays under the names from 100 on. -/
theorem T.loopC {P : Program} {nx nt : Nat} {c : Code} {Q : Post} {σ : St} (live ks : List Nat) (I : Nat → St → Prop) (n : Nat) (hnx : nx ≤ 100) (hnd : ks.Nodup) (hown : ∀ k ∈ ks, nx ≤ k) (h0 : I n (Abs.canon nx 100 live ks σ))
    (round : ∀ n σ, I n σ → T P nx nt c (thenS (fun σ' => ∃ n' ks, n' < n ∧ ks.Nodup ∧ (∀ k ∈ ks, nx ≤ k) ∧ I n' (Abs.canon nx 100 live ks σ')) Q) σ) : T P nx nt (.loop c) Q σ :=
  T.loop (I := fun n σ => ∃ σ', Weak nx σ σ' ∧ I n σ') n ⟨_, Weak.canon live ks σ hnx hnd hown, h0⟩ fun n σ ⟨σ', hw, hI⟩ => T.weak hw (T.mono (round n σ' hI) fun e σ2 hq => by
    cases e with
    | normal =>
      obtain ⟨n', ks', hlt, h1, h2, h3⟩ := hq
      exact ⟨n', hlt, _, Weak.canon live ks' σ2 hnx h1 h2, h3⟩
    | _ => exact hq)

/-- .. where the call has no array of its own at the loop's head. -/
theorem T.loop0 {P : Program} {nt : Nat} {c : Code} {Q : Post} {σ : St} (live : List Nat) (I : Nat → St → Prop) (n : Nat) (h0 : I n (Abs.canon 0 100 live [] σ))
    (round : ∀ n σ, I n σ → T P 0 nt c (thenS (fun σ' => ∃ n', n' < n ∧ I n' (Abs.canon 0 100 live [] σ')) Q) σ) : T P 0 nt (.loop c) Q σ :=
  T.loopC live [] I n (by omega) (by simp) (by simp) h0 fun n σ hI => T.mono (round n σ hI) fun e σ2 hq => by
    cases e with
    | normal => obtain ⟨n', hlt, h3⟩ := hq; exact ⟨n', [], hlt, by simp, by simp, h3⟩
    | _ => exact hq
end Go.Abs
