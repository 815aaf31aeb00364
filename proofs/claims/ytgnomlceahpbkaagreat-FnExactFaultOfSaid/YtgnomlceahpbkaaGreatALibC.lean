/- Words for computing: what the steps come to, told so that a simplifier can follow. -/
import Derived.Test.YtgnomlceahpbkaaGreatALibB
namespace Go.Abs
open Go.RowKit
set_option linter.unusedVariables false
set_option linter.unusedSimpArgs false

def onR {β : Type} (r : Option (β × Prop)) (K : β → Prop) : Prop :=
  match r with
  | some (b, c) => c ∧ K b
  | none => False
def onO {β : Type} (r : Option β) (K : β → Prop) : Prop :=
  match r with
  | some b => K b
  | none => False
def onM (r : Option (AV × Mem × Prop)) (K : AV → Mem → Prop) : Prop :=
  match r with
  | some (x, m', c) => c ∧ K x m'
  | none => False

section
variable {P : Program} {nx nt : Nat} {quiet : Qm} {ops : Array Oper} {K : St → Prop} {t : Nat → AV} {m : Mem} {L : List Oper} {σ : St}

theorem onR_some {β : Type} {b : β} {c : Prop} {K : β → Prop} : onR (some (b, c)) K = (c ∧ K b) := rfl
theorem onO_some {β : Type} {b : β} {K : β → Prop} : onO (some b) K = K b := rfl
theorem onM_some {x : AV} {m' : Mem} {c : Prop} {K : AV → Mem → Prop} : onM (some (x, m', c)) K = (c ∧ K x m') := rfl

theorem runC_nil : runC P nx nt quiet ops [] K σ = K σ := rfl
theorem runC_cons {o : Oper} : runC P nx nt quiet ops (o :: L) K σ = stepC P nx nt quiet ops o (runC P nx nt quiet ops L K) σ := rfl

theorem stepC_plain {d : Option Nat} {op : Op} {ty : TypeId} {pos : String} {af : Array Edge} : stepC P nx nt quiet ops ⟨d, op, ty, pos, af, none⟩ K σ = (dstOk nt d = true ∧ actC P nx quiet ⟨d, op, ty, pos, af, none⟩ K σ) := rfl
theorem dstOk_some {d : Nat} : dstOk nt (some d) = decide (d < nt) := rfl
theorem dstOk_none : dstOk nt none = true := rfl
theorem ev_tmp {n : Nat} : (⟨t, m⟩ : St).ev (.tmp n) = t n := rfl
theorem ev_const {v : Value} : σ.ev (.const v) = constAV v := rfl
theorem const_int {k : IntKind} {n : Int} : constAV (.int k n) = .at (.v (.int k n)) := rfl
theorem const_bool {b : Bool} : constAV (.bool b) = .at (.v (.bool b)) := rfl
theorem const_string {s : ByteArray} : constAV (.string s) = .at (.v (.string s)) := rfl
theorem const_nil : constAV (.slice none 0 0) = .at .nil := rfl
theorem const_nilIface : constAV .nilIface = .at (.v .nilIface) := rfl

theorem putD_at {d i : Nat} {x : AV} : putD t (some d) x i = if i = d then x else t i := rfl
theorem putD_none {x : AV} : putD t none x = t := rfl
theorem upd_at {β : Type} {f : Nat → β} {d i : Nat} {x : β} : upd f d x i = if i = d then x else f i := rfl
theorem ofT_cons {k i : Nat} {x : AV} {l : List (Nat × AV)} : ofT ((k, x) :: l) i = if i = k then x else ofT l i := rfl
theorem ofT_nil {i : Nat} : ofT [] i = .at .dead := rfl

theorem actC_move {d : Option Nat} {x : Operand} {ty : TypeId} {pos : String} {af : Array Edge} {g : Option (Nat × Bool)} : actC P nx quiet ⟨d, .move x, ty, pos, af, g⟩ K ⟨t, m⟩ =
    (K ⟨putD t d ((⟨t, m⟩ : St).ev x), m⟩) := by
  simp [actC, opC, opS, okQ]
theorem actC_assign {d : Option Nat} {x : Operand} {ty : TypeId} {pos : String} {af : Array Edge} {g : Option (Nat × Bool)} : actC P nx quiet ⟨d, .assign x, ty, pos, af, g⟩ K ⟨t, m⟩ =
    (K ⟨putD t d ((⟨t, m⟩ : St).ev x), m⟩) := by
  simp [actC, opC, opS, okQ]
theorem actC_bin {d : Option Nat} {o1 : BinOp} {t1 t2 : TypeId} {x y : Operand} {ty : TypeId} {pos : String} {af : Array Edge} {g : Option (Nat × Bool)} : actC P nx quiet ⟨d, .binOp o1 t1 x y t2, ty, pos, af, g⟩ K ⟨t, m⟩ =
    (onR (binS P o1 t1 ((⟨t, m⟩ : St).ev x) ((⟨t, m⟩ : St).ev y)) fun v => K ⟨putD t d (.at (.v v)), m⟩) := by
  simp only [actC, opC, opS, okQ, true_and, onR]; cases binS P o1 t1 ((⟨t, m⟩ : St).ev x) ((⟨t, m⟩ : St).ev y) <;> rfl
theorem actC_un {d : Option Nat} {o1 : UnOp} {t1 : TypeId} {x : Operand} {ty : TypeId} {pos : String} {af : Array Edge} {g : Option (Nat × Bool)} : actC P nx quiet ⟨d, .unOp o1 t1 x, ty, pos, af, g⟩ K ⟨t, m⟩ =
    (onO (unS o1 ((⟨t, m⟩ : St).ev x)) fun v => K ⟨putD t d (.at (.v v)), m⟩) := by
  simp only [actC, opC, opS, okQ, true_and, onO]; cases unS o1 ((⟨t, m⟩ : St).ev x) <;> simp
theorem actC_conv {d : Option Nat} {t1 t2 : TypeId} {x : Operand} {ty : TypeId} {pos : String} {af : Array Edge} {g : Option (Nat × Bool)} : actC P nx quiet ⟨d, .convert t1 t2 x, ty, pos, af, g⟩ K ⟨t, m⟩ =
    (onO (convS P t1 t2 ((⟨t, m⟩ : St).ev x)) fun v => K ⟨putD t d (.at (.v v)), m⟩) := by
  simp only [actC, opC, opS, okQ, true_and, onO]; cases convS P t1 t2 ((⟨t, m⟩ : St).ev x) <;> simp
theorem actC_load {d : Option Nat} {t1 : TypeId} {x : Operand} {ty : TypeId} {pos : String} {af : Array Edge} {g : Option (Nat × Bool)} : actC P nx quiet ⟨d, .load t1 x, ty, pos, af, g⟩ K ⟨t, m⟩ =
    (freeB quiet ((⟨t, m⟩ : St).ev x) ∧ onR (loadS P t1 m ((⟨t, m⟩ : St).ev x)) fun v => K ⟨putD t d v, m⟩) := by
  simp only [actC, opC, opS, okQ, onR]; cases loadS P t1 m ((⟨t, m⟩ : St).ev x) <;> rfl
theorem actC_store {d : Option Nat} {t1 : TypeId} {x y : Operand} {ty : TypeId} {pos : String} {af : Array Edge} {g : Option (Nat × Bool)} : actC P nx quiet ⟨d, .store t1 x y, ty, pos, af, g⟩ K ⟨t, m⟩ =
    (heldB quiet ((⟨t, m⟩ : St).ev x) ∧ onR (storeS P t1 m ((⟨t, m⟩ : St).ev x) ((⟨t, m⟩ : St).ev y)) fun m1 => K ⟨putD t d (.at .dead), m1⟩) := by
  simp only [actC, opC, opS, okQ, onR]; cases storeS P t1 m ((⟨t, m⟩ : St).ev x) ((⟨t, m⟩ : St).ev y) <;> rfl
theorem actC_fieldAddr {d : Option Nat} {t1 : TypeId} {x : Operand} {f : Nat} {ty : TypeId} {pos : String} {af : Array Edge} {g : Option (Nat × Bool)} : actC P nx quiet ⟨d, .fieldAddr t1 x f, ty, pos, af, g⟩ K ⟨t, m⟩ =
    (onO (fieldAddrS P t1 f ((⟨t, m⟩ : St).ev x)) fun v => K ⟨putD t d v, m⟩) := by
  simp only [actC, opC, opS, okQ, true_and, onO]; cases fieldAddrS P t1 f ((⟨t, m⟩ : St).ev x) <;> simp
theorem actC_field {d : Option Nat} {t1 : TypeId} {x : Operand} {f : Nat} {ty : TypeId} {pos : String} {af : Array Edge} {g : Option (Nat × Bool)} : actC P nx quiet ⟨d, .field t1 x f, ty, pos, af, g⟩ K ⟨t, m⟩ =
    (onR (fieldS P t1 f ((⟨t, m⟩ : St).ev x)) fun v => K ⟨putD t d v, m⟩) := by
  simp only [actC, opC, opS, okQ, true_and, onR]; cases fieldS P t1 f ((⟨t, m⟩ : St).ev x) <;> rfl
theorem actC_indexAddr {d : Option Nat} {t1 : TypeId} {x y : Operand} {ty : TypeId} {pos : String} {af : Array Edge} {g : Option (Nat × Bool)} : actC P nx quiet ⟨d, .indexAddr t1 x y, ty, pos, af, g⟩ K ⟨t, m⟩ =
    (onR (indexAddrS P t1 ((⟨t, m⟩ : St).ev x) ((⟨t, m⟩ : St).ev y)) fun v => K ⟨putD t d v, m⟩) := by
  simp only [actC, opC, opS, okQ, true_and, onR]; cases indexAddrS P t1 ((⟨t, m⟩ : St).ev x) ((⟨t, m⟩ : St).ev y) <;> rfl
theorem actC_index {d : Option Nat} {t1 : TypeId} {x y : Operand} {ty : TypeId} {pos : String} {af : Array Edge} {g : Option (Nat × Bool)} : actC P nx quiet ⟨d, .index t1 x y, ty, pos, af, g⟩ K ⟨t, m⟩ =
    (onR (indexS P t1 ((⟨t, m⟩ : St).ev x) ((⟨t, m⟩ : St).ev y)) fun v => K ⟨putD t d v, m⟩) := by
  simp only [actC, opC, opS, okQ, true_and, onR]; cases indexS P t1 ((⟨t, m⟩ : St).ev x) ((⟨t, m⟩ : St).ev y) <;> rfl
theorem actC_slice {d : Option Nat} {t1 : TypeId} {x : Operand} {lo hi mx : Option Operand} {ty : TypeId} {pos : String} {af : Array Edge} {g : Option (Nat × Bool)} : actC P nx quiet ⟨d, .slice t1 x lo hi mx, ty, pos, af, g⟩ K ⟨t, m⟩ =
    (onM (sliceS P nx quiet t1 ⟨t, m⟩ ((⟨t, m⟩ : St).ev x) lo hi mx) fun v m1 => K ⟨putD t d v, m1⟩) := by
  simp only [actC, opC, opS, okQ, true_and, onM]; split <;> simp_all
theorem actC_box {d : Option Nat} {t1 : TypeId} {x : Operand} {ty : TypeId} {pos : String} {af : Array Edge} {g : Option (Nat × Bool)} : actC P nx quiet ⟨d, .box t1 x, ty, pos, af, g⟩ K ⟨t, m⟩ =
    (onM (opS P nx quiet ⟨d, .box t1 x, ty, pos, af, g⟩ ⟨t, m⟩) fun v m1 => K ⟨putD t d v, m1⟩) := by
  simp only [actC, opC, okQ, true_and, onM]; split <;> simp_all
theorem actC_alloc {d : Option Nat} {t1 : TypeId} {ty : TypeId} {pos : String} {af : Array Edge} {g : Option (Nat × Bool)} : actC P nx quiet ⟨d, .alloc t1, ty, pos, af, g⟩ K ⟨t, m⟩ =
    (onM (opS P nx quiet ⟨d, .alloc t1, ty, pos, af, g⟩ ⟨t, m⟩) fun v m1 => K ⟨putD t d v, m1⟩) := by
  simp only [actC, opC, okQ, true_and, onM]; split <;> simp_all
theorem actC_build {d : Option Nat} {t1 : TypeId} {parts : Array (Nat × Operand)} {ty : TypeId} {pos : String} {af : Array Edge} {g : Option (Nat × Bool)} : actC P nx quiet ⟨d, .build t1 parts, ty, pos, af, g⟩ K ⟨t, m⟩ =
    (onM (opS P nx quiet ⟨d, .build t1 parts, ty, pos, af, g⟩ ⟨t, m⟩) fun v m1 => K ⟨putD t d v, m1⟩) := by
  simp only [actC, opC, okQ, true_and, onM]; split <;> simp_all
theorem actC_buildSlice {d : Option Nat} {t1 : TypeId} {len : Nat} {parts : Array (Nat × Operand)} {ty : TypeId} {pos : String} {af : Array Edge} {g : Option (Nat × Bool)} : actC P nx quiet ⟨d, .buildSlice t1 len parts, ty, pos, af, g⟩ K ⟨t, m⟩ =
    (onM (opS P nx quiet ⟨d, .buildSlice t1 len parts, ty, pos, af, g⟩ ⟨t, m⟩) fun v m1 => K ⟨putD t d v, m1⟩) := by
  simp only [actC, opC, okQ, true_and, onM]; split <;> simp_all
theorem actC_makeSlice {d : Option Nat} {t1 : TypeId} {x y : Operand} {ty : TypeId} {pos : String} {af : Array Edge} {g : Option (Nat × Bool)} : actC P nx quiet ⟨d, .makeSlice t1 x y, ty, pos, af, g⟩ K ⟨t, m⟩ =
    (onM (opS P nx quiet ⟨d, .makeSlice t1 x y, ty, pos, af, g⟩ ⟨t, m⟩) fun v m1 => K ⟨putD t d v, m1⟩) := by
  simp only [actC, opC, okQ, true_and, onM]; split <;> simp_all
theorem actC_extract {d : Option Nat} {x : Operand} {i : Nat} {ty : TypeId} {pos : String} {af : Array Edge} {g : Option (Nat × Bool)} : actC P nx quiet ⟨d, .extract x i, ty, pos, af, g⟩ K ⟨t, m⟩ =
    (onM (opS P nx quiet ⟨d, .extract x i, ty, pos, af, g⟩ ⟨t, m⟩) fun v m1 => K ⟨putD t d v, m1⟩) := by
  simp only [actC, opC, okQ, true_and, onM]; split <;> simp_all
theorem actC_nilCheck {d : Option Nat} {x : Operand} {ty : TypeId} {pos : String} {af : Array Edge} {g : Option (Nat × Bool)} : actC P nx quiet ⟨d, .nilCheck x, ty, pos, af, g⟩ K ⟨t, m⟩ =
    (onM (opS P nx quiet ⟨d, .nilCheck x, ty, pos, af, g⟩ ⟨t, m⟩) fun v m1 => K ⟨putD t d v, m1⟩) := by
  simp only [actC, opC, okQ, true_and, onM]; split <;> simp_all
theorem actC_builtin {d : Option Nat} {b : Builtin} {args : Array Operand} {ts : Array TypeId} {ty : TypeId} {pos : String} {af : Array Edge} {g : Option (Nat × Bool)} : actC P nx quiet ⟨d, .call { callee := .builtin b, args := args, argTypes := ts }, ty, pos, af, g⟩ K ⟨t, m⟩ =
    (quietB quiet b args.toList ⟨t, m⟩ = true ∧ onM (builtinS P (siteOf d) nx b args.toList ts.toList ⟨t, m⟩) fun v m1 => K ⟨putD t d v, m1⟩) := by
  simp only [actC, opC, opS, okQ, true_and, onM]
  by_cases hq : quietB quiet b args.toList ⟨t, m⟩ = true
  · simp only [hq, if_true, true_and]; split <;> simp_all
  · simp only [hq, Bool.false_eq_true, if_false, false_and]
theorem actC_call {d : Option Nat} {f : FuncId} {args : Array Operand} {ts : Array TypeId} {ty : TypeId} {pos : String} {af : Array Edge} {g : Option (Nat × Bool)} : actC P nx none ⟨d, .call { callee := .value (.func f), args := args, argTypes := ts }, ty, pos, af, g⟩ K ⟨t, m⟩ =
    callC P nx f (args.toList.map (⟨t, m⟩ : St).ev) d K ⟨t, m⟩ := by
  simp [actC]
theorem actC_callQ {ban : List Nat} {d : Option Nat} {f : FuncId} {args : Array Operand} {ts : Array TypeId} {ty : TypeId} {pos : String} {af : Array Edge} {g : Option (Nat × Bool)} : actC P nx (some ban) ⟨d, .call { callee := .value (.func f), args := args, argTypes := ts }, ty, pos, af, g⟩ K ⟨t, m⟩ =
    callQ P nx ban f (args.toList.map (⟨t, m⟩ : St).ev) d K ⟨t, m⟩ := by
  simp [actC]

end
section
variable {P : Program} {K : Value → Prop} {ty : TypeId} {k : IntKind} {a b : Int} {p q : Bool} {x y : ByteArray}
theorem bin_add : onR (binS P .add ty (.at (.v (.int k a))) (.at (.v (.int k b)))) K = K (.int k (k.wrap (a + b))) := by
  simp only [binS, intBin, onR, if_true, true_and]
theorem bin_sub : onR (binS P .sub ty (.at (.v (.int k a))) (.at (.v (.int k b)))) K = K (.int k (k.wrap (a - b))) := by
  simp only [binS, intBin, onR, if_true, true_and]
theorem bin_mul : onR (binS P .mul ty (.at (.v (.int k a))) (.at (.v (.int k b)))) K = K (.int k (k.wrap (a * b))) := by
  simp only [binS, intBin, onR, if_true, true_and]
theorem bin_eql : onR (binS P .eql ty (.at (.v (.int k a))) (.at (.v (.int k b)))) K = K (.bool (decide (a = b))) := by
  simp only [binS, intBin, onR, if_true, true_and]; congr 2
theorem bin_neq : onR (binS P .neq ty (.at (.v (.int k a))) (.at (.v (.int k b)))) K = K (.bool (!decide (a = b))) := by
  simp only [binS, intBin, onR, if_true, true_and]; congr 2
theorem bin_lss : onR (binS P .lss ty (.at (.v (.int k a))) (.at (.v (.int k b)))) K = K (.bool (decide (a < b))) := by
  simp only [binS, intBin, onR, if_true, true_and]
theorem bin_leq : onR (binS P .leq ty (.at (.v (.int k a))) (.at (.v (.int k b)))) K = K (.bool (decide (a ≤ b))) := by
  simp only [binS, intBin, onR, if_true, true_and]
theorem bin_gtr : onR (binS P .gtr ty (.at (.v (.int k a))) (.at (.v (.int k b)))) K = K (.bool (decide (b < a))) := by
  simp only [binS, intBin, onR, if_true, true_and]
theorem bin_geq : onR (binS P .geq ty (.at (.v (.int k a))) (.at (.v (.int k b)))) K = K (.bool (decide (b ≤ a))) := by
  simp only [binS, intBin, onR, if_true, true_and]
theorem bin_quo : onR (binS P .quo ty (.at (.v (.int k a))) (.at (.v (.int k b)))) K = (b ≠ 0 ∧ K (.int k (k.wrap (a.tdiv b)))) := by
  simp only [binS, intBin, onR, if_true]
theorem bin_rem : onR (binS P .rem ty (.at (.v (.int k a))) (.at (.v (.int k b)))) K = (b ≠ 0 ∧ K (.int k (a.tmod b))) := by
  simp only [binS, intBin, onR, if_true]
theorem bin_sadd : onR (binS P .add ty (.at (.v (.string x))) (.at (.v (.string y)))) K = (x.size + y.size ≤ 9223372036854775807 ∧ K (.string (x ++ y))) := by
  simp only [binS, strBin, onR]
theorem bin_seql : onR (binS P .eql ty (.at (.v (.string x))) (.at (.v (.string y)))) K = K (.bool (x.toList == y.toList)) := by
  simp only [binS, strBin, onR, true_and]
theorem bin_sneq : onR (binS P .neq ty (.at (.v (.string x))) (.at (.v (.string y)))) K = K (.bool (!(x.toList == y.toList))) := by
  simp only [binS, strBin, onR, true_and]
theorem bin_beql (h : P.underlying ty = some .bool) : onR (binS P .eql ty (.at (.v (.bool p))) (.at (.v (.bool q)))) K = K (.bool (p == q)) := by
  simp only [binS, h, onR, true_and]
theorem bin_bneq (h : P.underlying ty = some .bool) : onR (binS P .neq ty (.at (.v (.bool p))) (.at (.v (.bool q)))) K = K (.bool (!(p == q))) := by
  simp only [binS, h, onR, true_and]
theorem un_not : onO (unS .not (.at (.v (.bool p)))) K = K (.bool (!p)) := rfl
theorem un_neg : onO (unS .neg (.at (.v (.int k a)))) K = K (.int k (k.wrap (0 - a))) := rfl
end

section
variable {P : Program} {K : AV → Prop} {K2 : AV → Mem → Prop} {t1 e : TypeId} {k : IntKind} {i : Int} {rows : List (List Value)} {sz ver n κ off s : Nat} {m : Mem} {fs : Array Field} {cs : List Value} {as : List A}

theorem and_get {c : Prop} {K : List Value → Prop} {j : Nat} (h : c → j < rows.length) : (c ∧ K (rows.getD j [])) = (c ∧ ∀ r, rows[j]? = some r → K r) := by
  apply propext
  constructor
  · rintro ⟨h1, h2⟩
    refine ⟨h1, fun r hr => ?_⟩
    rw [List.getD_eq_getElem?_getD, hr] at h2
    exact h2
  · rintro ⟨h1, h2⟩
    refine ⟨h1, ?_⟩
    rw [List.getD_eq_getElem?_getD, List.getElem?_eq_getElem (h h1)]
    exact h2 _ (List.getElem?_eq_getElem (h h1))

theorem idx_im (h : P.underlying t1 = some (.slice e)) (hs : szT P e = some sz) : onR (indexAddrS P t1 (.at (.im sz rows)) (.at (.v (.int k i)))) K =
    ((0 ≤ i ∧ i < (rows.length : Int)) ∧ ∀ r, rows[i.toNat]? = some r → K (.at (.pi r))) := by
  simp only [indexAddrS, h, hs, if_true, onR]
  exact and_get (K := fun r => K (.at (.pi r))) (fun h => by omega)
theorem idx_ow (h : P.underlying t1 = some (.slice e)) (hs : szT P e = some sz) : onR (indexAddrS P t1 (.at (.ow κ ver sz n)) (.at (.v (.int k i)))) K =
    ((0 ≤ i ∧ i < (n : Int)) ∧ K (.at (.pa κ ver sz i.toNat 0))) := by
  simp only [indexAddrS, h, hs, if_true, onR]

theorem load_pi1 (h : aggT P t1 = some false) : onR (loadS P t1 m (.at (.pi cs))) K = (0 < cs.length ∧ K (.at (.v (cs.getD 0 undef)))) := by
  simp only [loadS, h, onR]
theorem load_piN (h : aggT P t1 = some true) (hs : szT P t1 = some s) : onR (loadS P t1 m (.at (.pi cs))) K = (s ≤ cs.length ∧ K (.ag ((cs.take s).map .v))) := by
  simp only [loadS, h, hs, onR]
theorem load_pa1 (h : aggT P t1 = some false) (hm : m κ = .arr ver sz rows) : onR (loadS P t1 m (.at (.pa κ ver sz n off))) K = ((n < rows.length ∧ off < sz) ∧ ∀ r, rows[n]? = some r → K (.at (.v (r.getD off undef)))) := by
  simp only [loadS, h, hm, and_self, if_true, onR]
  exact and_get (K := fun r => K (.at (.v (r.getD off undef)))) (fun h => h.1)
theorem load_paN (h : aggT P t1 = some true) (hs : szT P t1 = some s) (hm : m κ = .arr ver sz rows) : onR (loadS P t1 m (.at (.pa κ ver sz n off))) K = ((n < rows.length ∧ off + s ≤ sz) ∧ ∀ r, rows[n]? = some r → K (.ag (((r.drop off).take s).map .v))) := by
  simp only [loadS, h, hs, hm, and_self, if_true, onR]
  exact and_get (K := fun r => K (.ag (((r.drop off).take s).map .v))) (fun h => h.1)
theorem load_ia1 (h : aggT P t1 = some false) (hm : m κ = .ice ver sz rows) : onR (loadS P t1 m (.at (.pa κ ver sz n off))) K = ((n < rows.length ∧ off < sz) ∧ ∀ r, rows[n]? = some r → K (.at (.v (r.getD off undef)))) := by
  simp only [loadS, h, hm, and_self, if_true, onR]
  exact and_get (K := fun r => K (.at (.v (r.getD off undef)))) (fun h => h.1)
theorem load_iaN (h : aggT P t1 = some true) (hs : szT P t1 = some s) (hm : m κ = .ice ver sz rows) : onR (loadS P t1 m (.at (.pa κ ver sz n off))) K = ((n < rows.length ∧ off + s ≤ sz) ∧ ∀ r, rows[n]? = some r → K (.ag (((r.drop off).take s).map .v))) := by
  simp only [loadS, h, hs, hm, and_self, if_true, onR]
  exact and_get (K := fun r => K (.ag (((r.drop off).take s).map .v))) (fun h => h.1)

theorem fa_pi {f : Nat} {fd : Field} {n : Nat} (h : P.underlying t1 = some (.struct fs)) (hf : fs[f]? = some fd) (hs : szT P fd.type = some (n + 1)) {K : AV → Prop} : onO (fieldAddrS P t1 f (.at (.pi cs))) K = K (.at (.pi (cs.drop fd.offset))) := by
  simp only [fieldAddrS, h, hf, hs, onO]
theorem fa_pa {f : Nat} {fd : Field} {n i : Nat} (h : P.underlying t1 = some (.struct fs)) (hf : fs[f]? = some fd) (hs : szT P fd.type = some (n + 1)) {K : AV → Prop} : onO (fieldAddrS P t1 f (.at (.pa κ ver sz i off))) K = K (.at (.pa κ ver sz i (off + fd.offset))) := by
  simp only [fieldAddrS, h, hf, hs, onO]
theorem fa_bx {f : Nat} {fd : Field} {n : Nat} (h : P.underlying t1 = some (.struct fs)) (hf : fs[f]? = some fd) (hs : szT P fd.type = some (n + 1)) {K : AV → Prop} : onO (fieldAddrS P t1 f (.at (.bx κ ver off))) K = K (.at (.bx κ ver (off + fd.offset))) := by
  simp only [fieldAddrS, h, hf, hs, onO]

theorem len_call {κ0 nx : Nat} {x : Operand} {ty : TypeId} {σ : St} : onM (builtinS P κ0 nx .len [x] [ty] σ) K2 = onO (lenS P ty (σ.ev x)) fun v => K2 (.at (.v v)) σ.m := by
  simp only [builtinS]
  cases lenS P ty (σ.ev x) <;> simp [onO, onM]
theorem len_im {K : Value → Prop} (h : P.underlying t1 = some (.slice e)) : onO (lenS P t1 (.at (.im sz rows))) K = K (.int .i64 rows.length) := by
  simp only [lenS, h, onO]
theorem len_ow {K : Value → Prop} (h : P.underlying t1 = some (.slice e)) : onO (lenS P t1 (.at (.ow κ ver sz n))) K = K (.int .i64 n) := by
  simp only [lenS, h, onO]
theorem len_nil {K : Value → Prop} (h : P.underlying t1 = some (.slice e)) : onO (lenS P t1 (.at .nil)) K = K (.int .i64 0) := by
  simp only [lenS, h, onO]
theorem len_str {K : Value → Prop} {x : ByteArray} (h : P.underlying t1 = some .string) : onO (lenS P t1 (.at (.v (.string x)))) K = K (.int .i64 x.size) := by
  simp only [lenS, h, onO]

theorem all_map {β γ : Type} {f : β → γ} {l : List β} {j : Nat} {K : γ → Prop} : (∀ r, (l.map f)[j]? = some r → K r) = (∀ x, l[j]? = some x → K (f x)) := by
  apply propext
  constructor
  · intro h x hx
    exact h _ (by rw [List.getElem?_map, hx]; rfl)
  · intro h r hr
    rw [List.getElem?_map] at hr
    cases hx : l[j]? with
    | none => simp [hx] at hr
    | some x => simp only [hx, Option.map_some, Option.some.injEq] at hr; subst hr; exact h x hx
theorem wrap64 {x : Int} (h1 : -9223372036854775808 ≤ x) (h2 : x ≤ 9223372036854775807) : IntKind.wrap .i64 x = x := by
  unfold IntKind.wrap
  simp [IntKind.bits, IntKind.signed] 
  omega
end

attribute [go_sem] runC_nil runC_cons stepC_plain dstOk_some dstOk_none actC_move actC_assign actC_bin actC_un actC_conv actC_load actC_store actC_fieldAddr actC_field actC_indexAddr actC_index actC_slice actC_build actC_buildSlice actC_makeSlice actC_extract actC_nilCheck actC_builtin actC_call actC_callQ
  ev_tmp ev_const const_int const_bool const_string const_nil const_nilIface putD_at putD_none upd_at ofT_cons ofT_nil onR_some onO_some onM_some thenS blockS startS slotsOf
  bin_add bin_sub bin_mul bin_quo bin_rem bin_eql bin_neq bin_lss bin_leq bin_gtr bin_geq bin_sadd bin_seql bin_sneq un_not un_neg len_call all_map
  reduceIte true_and and_true decide_eq_true_eq List.length_map List.getD_cons_zero List.getD_cons_succ List.drop_succ_cons List.drop_zero List.length_cons List.length_nil forall_const Nat.zero_lt_succ Option.bind_some

/-- The end of a function that gives one plain value and has nothing of its own to give. -/
theorem fin_plain {P : Program} {fn : Func} {x : Value} {σ : St} {t : Nat} (hts : fn.results = #[.tmp t]) (h : σ.t t = .at (.v x)) : finS P 0 fn (.at (.v x)) [] .ret σ :=
  ⟨σ, [.at (.v x)], [], Weak.refl _ _, by rw [hts]; exact ⟨h, trivial⟩, by omega, by simp, by simp, by simp [oneOf, renV, ren, subR, subV, subA, instV, inst1, instA], rfl, rfl⟩
/-- .. of one that gives a struct of plain values out of its result's box. -/
theorem fin_cell {P : Program} {fn : Func} {as : List A} {σ : St} {t k ver : Nat} {ty : TypeId} (hts : fn.results = #[.cell t ty]) (h : σ.t t = .at (.bx k ver 0)) (hm : σ.m k = .box ver as) (ha : aggT P ty = some true) (hs : szT P ty = some as.length)
    (hp : as.all A.plain = true) : finS P 0 fn (.ag as) [] .ret σ := by
  have e1 : ∀ a ∈ as, ren (invOf 0 1000 []) σ.m a = a := fun a h => by
    have := List.all_eq_true.1 hp a h
    cases a <;> simp_all [ren, A.plain]
  have e2 : ∀ (l : List A) (n : Nat), l.all A.plain = true → instL n l = (l, n) := by
    intro l
    induction l with
    | nil => intro n _; rfl
    | cons a l ih =>
      intro n hl
      simp only [List.all_cons, Bool.and_eq_true] at hl
      have : instA n a = (a, n) := by cases a <;> simp_all [instA, A.plain]
      simp only [instL, this, ih n hl.2]
  have e3 : as.flatMap freshA = [] := by
    rw [List.flatMap_eq_nil_iff]
    intro a h
    have := List.all_eq_true.1 hp a h
    cases a <;> simp_all [freshA, A.plain]
  have e4 : ∀ l : List A, subL l l := by
    intro l
    induction l with
    | nil => trivial
    | cons a l ih =>
      refine ⟨?_, ih⟩
      cases a with
      | im sz rows => cases rows <;> simp [subA]
      | _ => simp [subA]
  refine ⟨σ, [.ag as], [], Weak.refl _ _, ?_, by omega, by simp, by simp, ?_, rfl, ?_⟩
  · rw [hts]
    refine ⟨⟨k, ver, 0, 0 + as.length ≤ as.length, h, ?_, ?_⟩, trivial⟩
    · rw [h]
      simp only [loadS, hm, if_true, ha, hs, List.drop_zero, List.take_length]
    · exact Nat.le_of_eq (Nat.zero_add _)
  · simp only [oneOf, renV, instV, inst1, e2 as _ hp, subR, subV]
    rw [List.map_congr_left e1, List.map_id']
    exact e4 as
  · simp only [List.map_nil, freshes, fresh1, e3]

/-- Only what lives is kept. -/
theorem T.keepOnly {P : Program} {nx nt : Nat} {c : Code} {Q : Post} {σ : St} (live ks : List Nat) (base : Nat) (hnx : nx ≤ base) (hnd : ks.Nodup) (hown : ∀ k ∈ ks, nx ≤ k) (h : T P nx nt c Q (Abs.canon nx base live ks σ)) : T P nx nt c Q σ :=
  T.weak (Weak.canon live ks σ hnx hnd hown) h

/-- The frame with the slots that live, where the call has no memory of its own. -/
def keep (live : List Nat) (t : Nat → AV) : Nat → AV := ofT (live.map fun k => (k, t k))

/-- A loop: at its head only what lives is kept, the call's own arrays under the names from 100 on. -/
theorem T.loopC {P : Program} {nx nt : Nat} {c : Code} {Q : Post} {σ : St} (live ks : List Nat) (I : Nat → St → Prop) (n : Nat) (hnx : nx ≤ 100) (hnd : ks.Nodup) (hown : ∀ k ∈ ks, nx ≤ k) (h0 : I n (Abs.canon nx 100 live ks σ))
    (round : ∀ n σ, I n σ → T P nx nt c (thenS (fun σ' => ∃ n' ks, n' < n ∧ ks.Nodup ∧ (∀ k ∈ ks, nx ≤ k) ∧ I n' (Abs.canon nx 100 live ks σ')) Q) σ) : T P nx nt (.loop c) Q σ :=
  T.loop (I := fun n σ => ∃ σ', Weak nx σ σ' ∧ I n σ') n ⟨_, Weak.canon live ks σ hnx hnd hown, h0⟩ fun n σ ⟨σ', hw, hI⟩ => T.weak hw (T.mono (round n σ' hI) fun e σ2 hq => by
    cases e with
    | normal =>
      obtain ⟨n', ks', hlt, h1, h2, h3⟩ := hq
      exact ⟨n', hlt, _, Weak.canon live ks' σ2 hnx h1 h2, h3⟩
    | _ => exact hq)

/-- .. where the call has no array of its own at the loop's head. -/
theorem T.loop0 {P : Program} {nt : Nat} {c : Code} {Q : Post} {σ : St} (live : List Nat) (I : Nat → St → Prop) (n : Nat) (h0 : I n (Abs.canon 0 100 live [] σ))
    (round : ∀ n σ, I n σ → T P 0 nt c (thenS (fun σ' => ∃ n', n' < n ∧ I n' (Abs.canon 0 100 live [] σ')) Q) σ) : T P 0 nt (.loop c) Q σ :=
  T.loopC live [] I n (by omega) (by simp) (by simp) h0 fun n σ hI => T.mono (round n σ hI) fun e σ2 hq => by
    cases e with
    | normal => obtain ⟨n', hlt, h3⟩ := hq; exact ⟨n', [], hlt, by simp, by simp, h3⟩
    | _ => exact hq
end Go.Abs

/- Words for computing: calls. -/
namespace Go.Abs
open Go.RowKit
set_option linter.unusedVariables false
set_option linter.unusedSimpArgs false

/-- Nothing is held under the sixteen names of a site. -/
def Gone (m : Mem) (B : Nat) : Prop := ∀ j, j < 16 → m (B + j) = .gone

theorem Gone_upd {m : Mem} {k B : Nat} {e : Ent} (h : (decide (k < B) || decide (B + 16 ≤ k)) = true) : Gone (upd m k e) B = Gone m B := by
  simp only [Bool.or_eq_true, decide_eq_true_eq] at h
  apply propext
  constructor
  · intro hg j hj
    have := hg j hj
    rwa [upd_ne _ _ (by omega)] at this
  · intro hg j hj
    rw [upd_ne _ _ (by omega)]
    exact hg j hj
theorem Gone_ofM {nx base B : Nat} {ext es : List Ent} (h : (decide (nx ≤ B) && decide (base + es.length ≤ B)) = true) : Gone (ofM nx base ext es) B = True := by
  simp only [Bool.and_eq_true, decide_eq_true_eq] at h
  apply propext
  refine ⟨fun _ => trivial, fun _ j hj => ?_⟩
  unfold ofM
  rw [if_neg (by omega), if_pos (by omega), List.getD_eq_getElem?_getD, List.getElem?_eq_none (by omega)]
  rfl

/-- What a call leaves under new names. -/
def updL (m : Mem) (B : Nat) : List Ent → Mem
  | [] => m
  | e :: es => updL (upd m B e) (B + 1) es
def iceL (m : Mem) : List Nat → Mem
  | [] => m
  | k :: ks => iceL (upd m k (iceOf (m k))) ks

theorem updL_at {fs : List Ent} : ∀ {m : Mem} {B k : Nat}, updL m B fs k = if B ≤ k ∧ k < B + fs.length then fs.getD (k - B) .gone else m k := by
  induction fs with
  | nil => intro m B k; simp only [updL]; rw [if_neg (by simp only [List.length_nil]; omega)]
  | cons e es ih =>
    intro m B k
    simp only [updL, ih, List.length_cons]
    by_cases h : k = B
    · subst h
      rw [if_neg (by omega), if_pos (by omega), upd_same]
      simp
    · rw [upd_ne _ _ h]
      by_cases h2 : B + 1 ≤ k ∧ k < B + 1 + es.length
      · rw [if_pos h2, if_pos (by omega)]
        obtain ⟨j, hj⟩ : ∃ j, k - B = j + 1 := ⟨k - B - 1, by omega⟩
        rw [hj, show k - (B + 1) = j by omega]
        simp
      · rw [if_neg h2, if_neg (by omega)]

theorem iceL_at {bor : List Nat} : ∀ {m : Mem} {k : Nat}, iceL m bor k = if k ∈ bor then iceOf (m k) else m k := by
  induction bor with
  | nil => intro m k; simp [iceL]
  | cons b bor ih =>
    intro m k
    simp only [iceL, ih, List.mem_cons]
    by_cases h : k = b
    · subst h
      rw [upd_same]
      simp only [true_or, if_true]
      split
      · cases m k <;> rfl
      · rfl
    · rw [upd_ne _ _ h]
      simp [h]

theorem backM_lend {m : Mem} {B : Nat} {fs : List Ent} : backM m [] [] false B [] fs = updL m B fs := by
  funext k
  rw [updL_at]
  simp [backM]

section
variable {P : Program} {nx : Nat} {f : FuncId} {avs args : List AV} {d : Option Nat} {K : St → Prop} {t : Nat → AV} {m : Mem} {res : AV}

/-- A call that is lent arrays, and gives back nothing that lies in them. -/
theorem callI (bor : List Nat) (h : SC P f args [] res []) (hsub : subT (avs.map (passV [] bor m)) args) (hg : Gone m (siteOf d)) (hnx : nx ≤ siteOf d) (hf : (freshes res).length ≤ 16)
    (hb : ∀ k ∈ bor, ∃ ver sz rows, m k = .arr ver sz rows) (him : bor = [] ∨ res.noIm = true) (hK : K ⟨putD t d (backV m [] (siteOf d) (instV 1000 res)), updL m (siteOf d) (freshes res)⟩) : callC P nx f avs d K ⟨t, m⟩ := by
  refine ⟨_, ⟨[], bor, false, args, res, [], ⟨by simp, by simp, by simp, fun k hk => ⟨hb k hk, by simp, by simp⟩, hg, hnx⟩, ⟨rfl, by simp, hf, ?_⟩, hsub, h, rfl⟩, ?_⟩
  · rcases him with h | h
    · exact .inr (.inl h)
    · exact .inr (.inr ⟨h, by simp⟩)
  · have : backM m [] bor false (siteOf d) [] (freshes res) = updL m (siteOf d) (freshes res) := by
      rw [← backM_lend]
      funext k
      simp [backM]
    rw [this]; exact hK

/-- .. in a drawn region that must stay quiet. -/
theorem callIQ {ban : List Nat} (bor : List Nat) (h : SC P f args [] res []) (hsub : subT (avs.map (passV [] bor m)) args) (hg : Gone m (siteOf d)) (hnx : nx ≤ siteOf d) (hf : (freshes res).length ≤ 16)
    (hb : ∀ k ∈ bor, ∃ ver sz rows, m k = .arr ver sz rows) (him : bor = [] ∨ res.noIm = true) (hK : K ⟨putD t d (backV m [] (siteOf d) (instV 1000 res)), updL m (siteOf d) (freshes res)⟩) : callQ P nx ban f avs d K ⟨t, m⟩ := by
  refine ⟨_, ⟨[], bor, false, args, res, [], (fun k hk => by cases hk), ⟨by simp, by simp, by simp, fun k hk => ⟨hb k hk, by simp, by simp⟩, hg, hnx⟩, ⟨rfl, by simp, hf, ?_⟩, hsub, h, rfl⟩, ?_⟩
  · rcases him with h | h
    · exact .inr (.inl h)
    · exact .inr (.inr ⟨h, by simp⟩)
  · have : backM m [] bor false (siteOf d) [] (freshes res) = updL m (siteOf d) (freshes res) := by
      rw [← backM_lend]
      funext k
      simp [backM]
    rw [this]; exact hK

/-- A call that is lent arrays, which nobody writes any more. -/
theorem callF (bor : List Nat) (h : SC P f args [] res []) (hsub : subT (avs.map (passV [] bor m)) args) (hg : Gone m (siteOf d)) (hnx : nx ≤ siteOf d) (hf : (freshes res).length ≤ 16)
    (hb : ∀ k ∈ bor, (∃ ver sz rows, m k = .arr ver sz rows) ∧ nx ≤ k) (hK : K ⟨putD t d (backV m [] (siteOf d) (instV 1000 res)), updL (iceL m bor) (siteOf d) (freshes res)⟩) : callC P nx f avs d K ⟨t, m⟩ := by
  have hbs : ∀ k ∈ bor, k < siteOf d ∨ siteOf d + 16 ≤ k := by
    intro k hk
    obtain ⟨⟨v, s, r, hm⟩, _⟩ := hb k hk
    refine Decidable.byContradiction fun hn => ?_
    have := hg (k - siteOf d) (by omega)
    rw [show siteOf d + (k - siteOf d) = k by omega, hm] at this
    cases this
  refine ⟨_, ⟨[], bor, true, args, res, [], ⟨by simp, by simp, by simp, fun k hk => ⟨(hb k hk).1, by simp, fun _ => (hb k hk).2⟩, hg, hnx⟩, ⟨rfl, by simp, hf, .inl rfl⟩, hsub, h, rfl⟩, ?_⟩
  have : backM m [] bor true (siteOf d) [] (freshes res) = updL (iceL m bor) (siteOf d) (freshes res) := by
    funext k
    rw [updL_at, iceL_at]
    simp only [backM, List.idxOf?_nil, true_and]
    by_cases hk : k ∈ bor
    · rw [if_pos hk, if_neg (by have := hbs k hk; omega), if_pos hk]
    · rw [if_neg hk, if_neg hk]
  rw [this]; exact hK

end
end Go.Abs

/- Words for computing: memory of the call's own. -/
namespace Go.Abs
open Go.RowKit
set_option linter.unusedVariables false
set_option linter.unusedSimpArgs false

section
variable {P : Program} {nx : Nat} {q : Qm} {K : AV → Mem → Prop} {KM : Mem → Prop} {t : Nat → AV} {m : Mem} {d : Option Nat} {ty t1 e : TypeId} {pos : String} {af : Array Edge} {g : Option (Nat × Bool)} {x y : Operand}

theorem gone_cases {κ : Nat} {p r : Prop} (h : m κ ≠ .gone → p = False) (h2 : m κ = .gone → p = r) : p = (m κ = .gone ∧ r) := by
  by_cases hm : m κ = .gone
  · rw [h2 hm]; simp [hm]
  · rw [h hm]; simp [hm]

theorem make_i {sz by_ : Nat} {z : List Value} (ht : P.underlying t1 = some (.slice e)) (hs : szT P e = some (sz + 1)) (hz : zeroVals P e = some z) (hb : (P.info? e).map (·.bytes) = some by_) (hz1 : z.length = sz + 1) (hz2 : z.all (·.oneCell') = true)
    {k k' : IntKind} {n n' : Int} (hx : (⟨t, m⟩ : St).ev x = .at (.v (.int k n))) (hy : (⟨t, m⟩ : St).ev y = .at (.v (.int k' n'))) :
    onM (opS P nx q ⟨d, .makeSlice t1 x y, ty, pos, af, g⟩ ⟨t, m⟩) K = (m (siteOf d) = .gone ∧ (nx ≤ siteOf d ∧ n = n' ∧ 0 ≤ n ∧ n ≤ 4611686018427387904 ∧ by_ * n ≤ 281474976710656) ∧ K (.at (.ow (siteOf d) 0 (sz + 1) n.toNat)) (upd m (siteOf d) (.arr 0 (sz + 1) (List.replicate n.toNat z)))) := by
  refine gone_cases (r := _ ∧ _) (fun h => ?_) (fun h => ?_)
  · simp only [opS, ht, hx, hy, hs, hz, hb]
    cases hm : m (siteOf d) <;> simp_all [onM]
  · simp only [opS, ht, hx, hy, hs, hz, hb, h, hz1, hz2, and_self, if_true, onM]

theorem alloc_i {as : List A} (hz : zeroAtoms P t1 = some as) (hs : as.all A.solid = true) :
    onM (opS P nx q ⟨d, .alloc t1, ty, pos, af, g⟩ ⟨t, m⟩) K = (m (siteOf d) = .gone ∧ nx ≤ siteOf d ∧ K (.at (.bx (siteOf d) 0 0)) (upd m (siteOf d) (.box 0 as))) := by
  refine gone_cases (r := _ ∧ _) (fun h => ?_) (fun h => ?_)
  · simp only [opS, hz]
    cases hm : m (siteOf d) <;> simp_all [onM]
  · simp only [opS, hz, h, hs, if_true, onM]

theorem box_i {as : List A} (hx : atomsOf ((⟨t, m⟩ : St).ev x) = some as) :
    onM (opS P nx q ⟨d, .box t1 x, ty, pos, af, g⟩ ⟨t, m⟩) K = (m (siteOf d) = .gone ∧ nx ≤ siteOf d ∧ K (.at (.bx (siteOf d) 0 0)) (upd m (siteOf d) (.box 0 as))) := by
  refine gone_cases (r := _ ∧ _) (fun h => ?_) (fun h => ?_)
  · simp only [opS, hx]
    cases hm : m (siteOf d) <;> simp_all [onM]
  · simp only [opS, hx, h, onM]

theorem build_i {parts : Array (Nat × Operand)} {fs : Array Field} {as cs : List A} (ht : P.underlying t1 = some (.struct fs)) (hz : zeroAtoms P t1 = some as) (hs : as.all A.solid = true ∧ fs.toList.all (fun (fd : Field) => (szT P fd.type).isSome) = true)
    (hf : fillS fs.toList P ⟨t, m⟩ parts.toList as = some cs) : onM (opS P nx q ⟨d, .build t1 parts, ty, pos, af, g⟩ ⟨t, m⟩) K = K (.ag cs) m := by
  simp only [opS, ht, hz, hs, hf, and_self, if_true, onM, true_and]

theorem buildSlice_i {len sz : Nat} {parts : Array (Nat × Operand)} {z : List Value} {rows : List (List Value)} (ht : P.underlying t1 = some (.slice e)) (hs : szT P e = some (sz + 1)) (hz : zeroVals P e = some z)
    (hz1 : z.length = sz + 1) (hz2 : z.all (·.oneCell') = true) (hl : len * (sz + 1) ≤ 16777216) (hf : fillRows ⟨t, m⟩ (sz + 1) parts.toList (List.replicate len z) = some rows) :
    onM (opS P nx q ⟨d, .buildSlice t1 len parts, ty, pos, af, g⟩ ⟨t, m⟩) K = (m (siteOf d) = .gone ∧ nx ≤ siteOf d ∧ K (.at (.ow (siteOf d) 0 (sz + 1) len)) (upd m (siteOf d) (.arr 0 (sz + 1) rows))) := by
  refine gone_cases (r := _ ∧ _) (fun h => ?_) (fun h => ?_)
  · simp only [opS, ht, hs, hz]
    cases hm : m (siteOf d) <;> simp_all [onM]
  · simp only [opS, ht, hs, hz, h, hz1, hz2, hl, and_self, if_true, hf, onM]

theorem extract_i {i : Nat} {xs : List AV} {v : AV} (hx : (⟨t, m⟩ : St).ev x = .tp xs) (hv : xs[i]? = some v) : onM (opS P nx q ⟨d, .extract x i, ty, pos, af, g⟩ ⟨t, m⟩) K = K v m := by
  simp only [opS, hx, hv, onM, true_and]

/-- Stores. -/
theorem store_pa {κ ver sz i off s : Nat} {rows : List (List Value)} {X : AV} {us : List Value} (hm : m κ = .arr ver sz rows) (hX : (atomsOf X).bind valsOf = some us) (hs : szT P t1 = some s) (hl : us.length = s) :
    onR (storeS P t1 m (.at (.pa κ ver sz i off)) X) KM = ((i < rows.length ∧ off + s ≤ sz) ∧ KM (upd m κ (.arr ver sz (rows.set i (splice (rows.getD i []) off us))))) := by
  simp only [storeS, hm, hX, hs, hl, and_self, if_true, onR]
theorem store_bx {κ ver off s : Nat} {cells as : List A} {X : AV} (hm : m κ = .box ver cells) (hX : atomsOf X = some as) (hs : szT P t1 = some s) (hl : as.length = s) :
    onR (storeS P t1 m (.at (.bx κ ver off)) X) KM = (off + s ≤ cells.length ∧ KM (upd m κ (.box ver (splice cells off as)))) := by
  simp only [storeS, hm, hX, hs, hl, and_self, if_true, onR]
theorem load_bx1 {κ ver off : Nat} {cells : List A} {a : A} {K : AV → Prop} (h : aggT P t1 = some false) (hm : m κ = .box ver cells) (ha : cells[off]? = some a) : onR (loadS P t1 m (.at (.bx κ ver off))) K = K (.at a) := by
  simp only [loadS, hm, if_true, h, ha, onR, true_and]
theorem load_bxN {κ ver off s : Nat} {cells : List A} {K : AV → Prop} (h : aggT P t1 = some true) (hs : szT P t1 = some s) (hm : m κ = .box ver cells) : onR (loadS P t1 m (.at (.bx κ ver off))) K = (off + s ≤ cells.length ∧ K (.ag ((cells.drop off).take s))) := by
  simp only [loadS, hm, if_true, h, hs, onR]
theorem field_1 {fs : Array Field} {f : Nat} {fd : Field} {cs : List A} {a : A} {K : AV → Prop} (ht : P.underlying t1 = some (.struct fs)) (hf : fs[f]? = some fd) (h : aggT P fd.type = some false) (ha : cs[fd.offset]? = some a) : onR (fieldS P t1 f (.ag cs)) K = K (.at a) := by
  simp only [fieldS, ht, hf, h, ha, onR, true_and]
theorem field_N {fs : Array Field} {f n : Nat} {fd : Field} {cs : List A} {K : AV → Prop} (ht : P.underlying t1 = some (.struct fs)) (hf : fs[f]? = some fd) (h : aggT P fd.type = some true) (hs : szT P fd.type = some n) : onR (fieldS P t1 f (.ag cs)) K = (fd.offset + n ≤ cs.length ∧ K (.ag ((cs.drop fd.offset).take n))) := by
  simp only [fieldS, ht, hf, h, hs, onR]


theorem actC_boxK {K : St → Prop} : actC P nx q ⟨d, .box t1 x, ty, pos, af, g⟩ K ⟨t, m⟩ = onO (atomsOf ((⟨t, m⟩ : St).ev x)) fun cells => m (siteOf d) = .gone ∧ nx ≤ siteOf d ∧ K ⟨putD t d (.at (.bx (siteOf d) 0 0)), upd m (siteOf d) (.box 0 cells)⟩ := by
  rw [actC_box]
  cases h : atomsOf ((⟨t, m⟩ : St).ev x) with
  | none =>
    simp only [opS, h, onO]
    cases hm : m (siteOf d) <;> simp [onM]
  | some cells => rw [box_i h]; rfl
theorem actC_allocK {K : St → Prop} : actC P nx q ⟨d, .alloc t1, ty, pos, af, g⟩ K ⟨t, m⟩ = onO (zeroAtoms P t1) fun cells => cells.all A.solid = true ∧ m (siteOf d) = .gone ∧ nx ≤ siteOf d ∧ K ⟨putD t d (.at (.bx (siteOf d) 0 0)), upd m (siteOf d) (.box 0 cells)⟩ := by
  rw [actC_alloc]
  cases h : zeroAtoms P t1 with
  | none =>
    simp only [opS, h, onO]
    cases hm : m (siteOf d) <;> simp [onM]
  | some cells =>
    by_cases hs : cells.all A.solid = true
    · rw [alloc_i h hs]; simp only [onO, hs, true_and]
    · simp only [opS, h, onO]
      have hs' : cells.all A.solid = false := by simpa using hs
      cases hm : m (siteOf d) <;> simp only [onM, hs', Bool.false_eq_true, if_false, false_and]

theorem siteOf_some {k : Nat} : siteOf (some k) = 1000 + 16 * k := rfl
theorem siteOf_none : siteOf none = 1000 := rfl
theorem ofM_zero {b k : Nat} : ofM 0 b [] [] k = .gone := by simp [ofM]
theorem ofM_one {b : Nat} {e : Ent} : ofM 0 b [] [e] = upd (ofM 0 b [] []) b e := by
  funext k
  rw [upd_at, ofM_zero]
  unfold ofM
  rw [if_neg (by omega)]
  by_cases h : k = b
  · subst h; simp
  · rw [if_neg h]
    split
    · obtain ⟨j, hj⟩ : ∃ j, k - b = j + 1 := ⟨k - b - 1, by omega⟩
      rw [hj]; rfl
    · rfl
theorem atoms_ag {cells : List A} : atomsOf (.ag cells) = some cells := rfl
theorem atoms_v {v : Value} : atomsOf (.at (.v v)) = some [.v v] := rfl
theorem atoms_im {sz : Nat} {rows : List (List Value)} : atomsOf (.at (.im sz rows)) = some [.im sz rows] := rfl
theorem atoms_nil : atomsOf (.at .nil) = some [.nil] := rfl
theorem atoms_ow {k v sz n : Nat} : atomsOf (.at (.ow k v sz n)) = some [.ow k v sz n] := rfl
theorem solid_v {v : Value} : A.solid (.v v) = true := rfl
theorem solid_nil : A.solid .nil = true := rfl

theorem vals_nil : valsOf [] = some [] := rfl
theorem vals_cons {v : Value} {cells : List A} : valsOf (.v v :: cells) = (valsOf cells).map (v :: ·) := rfl

/-- Loads and stores of a box, told so that they go by the memory's own words. -/
def boxAt (e : Ent) (ver : Nat) (K : List A → Prop) : Prop :=
  match e with
  | .box ver' cells => ver = ver' ∧ K cells
  | _ => False
theorem boxAt_box {ver ver' : Nat} {cells : List A} {K : List A → Prop} : boxAt (.box ver' cells) ver K = (ver = ver' ∧ K cells) := rfl
theorem load_bxK1 {κ ver off : Nat} {K : AV → Prop} (h : aggT P t1 = some false) : onR (loadS P t1 m (.at (.bx κ ver off))) K = boxAt (m κ) ver fun cells => onO cells[off]? fun a => K (.at a) := by
  cases hm : m κ with
  | box ver' cells =>
    by_cases hv : ver = ver'
    · subst hv
      cases ha : cells[off]? <;> simp [loadS, hm, onR, boxAt, onO, h, ha]
    · simp [loadS, hm, onR, boxAt, hv]
  | _ => simp [loadS, hm, onR, boxAt]
theorem load_bxKN {κ ver off s : Nat} {K : AV → Prop} (h : aggT P t1 = some true) (hs : szT P t1 = some s) : onR (loadS P t1 m (.at (.bx κ ver off))) K = boxAt (m κ) ver fun cells => off + s ≤ cells.length ∧ K (.ag ((cells.drop off).take s)) := by
  cases hm : m κ with
  | box ver' cells =>
    by_cases hv : ver = ver'
    · subst hv
      simp [loadS, hm, onR, boxAt, h, hs]
    · simp [loadS, hm, onR, boxAt, hv]
  | _ => simp [loadS, hm, onR, boxAt]
theorem store_bxK {κ ver off s : Nat} {X : AV} (hs : szT P t1 = some s) : onR (storeS P t1 m (.at (.bx κ ver off)) X) KM = boxAt (m κ) ver fun cells => onO (atomsOf X) fun new => new.length = s ∧ off + s ≤ cells.length ∧ KM (upd m κ (.box ver (splice cells off new))) := by
  cases hm : m κ with
  | box ver' cells =>
    cases hX : atomsOf X with
    | none => simp [storeS, hm, hX, onR, onO, boxAt]
    | some new =>
      by_cases hv : ver = ver'
      · subst hv
        by_cases hl : new.length = s
        · simp [storeS, hm, hX, onR, onO, boxAt, hs, hl]
        · simp [storeS, hm, hX, onR, onO, boxAt, hs, hl]
      · simp [storeS, hm, hX, onR, onO, boxAt, hs, hv]
  | _ => simp [storeS, hm, onR, boxAt]

/-- An array of our own, by the memory's own words. -/
def arrAt (e : Ent) (ver sz : Nat) (K : List (List Value) → Prop) : Prop :=
  match e with
  | .arr ver' sz' rows => (ver = ver' ∧ sz = sz') ∧ K rows
  | _ => False
theorem arrAt_arr {ver ver' sz sz' : Nat} {rows : List (List Value)} {K : List (List Value) → Prop} : arrAt (.arr ver' sz' rows) ver sz K = ((ver = ver' ∧ sz = sz') ∧ K rows) := rfl
theorem store_paK {κ ver sz i off s : Nat} {X : AV} (hs : szT P t1 = some s) : onR (storeS P t1 m (.at (.pa κ ver sz i off)) X) KM =
    arrAt (m κ) ver sz fun rows => onO ((atomsOf X).bind valsOf) fun us => us.length = s ∧ (i < rows.length ∧ off + s ≤ sz) ∧ KM (upd m κ (.arr ver sz (rows.set i (splice (rows.getD i []) off us)))) := by
  cases hm : m κ with
  | arr ver' sz' rows =>
    cases hX : (atomsOf X).bind valsOf with
    | none => simp [storeS, hm, hX, onR, onO, arrAt]
    | some us =>
      by_cases hv : ver = ver' ∧ sz = sz'
      · obtain ⟨rfl, rfl⟩ := hv
        by_cases hl : us.length = s
        · simp [storeS, hm, hX, onR, onO, arrAt, hs, hl]
        · simp [storeS, hm, hX, onR, onO, arrAt, hs, hl]
      · simp only [storeS, hm, hX, onR, onO, arrAt, hs, hv, false_and]
        rw [if_neg (fun h => hv ⟨h.1, h.2.1⟩)]
  | _ => simp [storeS, hm, onR, arrAt]
theorem load_paK1 {κ ver sz i off : Nat} {K : AV → Prop} (h : aggT P t1 = some false) (hm : ∃ rows, m κ = .arr ver sz rows) : onR (loadS P t1 m (.at (.pa κ ver sz i off))) K = arrAt (m κ) ver sz fun rows => (i < rows.length ∧ off < sz) ∧ ∀ r, rows[i]? = some r → K (.at (.v (r.getD off undef))) := by
  obtain ⟨rows, hm⟩ := hm
  rw [load_pa1 h hm, hm]
  simp [arrAt]
end
attribute [go_sem] vals_nil vals_cons Option.map_some List.getElem?_cons_zero List.getElem?_cons_succ List.take_succ_cons List.take_zero List.cons_append List.nil_append splice List.map_cons List.map_nil arrAt_arr actC_boxK actC_allocK siteOf_some siteOf_none ofM_zero ofM_one atoms_ag atoms_v atoms_im atoms_nil atoms_ow solid_v solid_nil boxAt_box List.all_cons List.all_nil Bool.and_self
end Go.Abs

/- Words for computing: append, cuts, max and min. -/
namespace Go.Abs
open Go.RowKit
set_option linter.unusedVariables false
set_option linter.unusedSimpArgs false

section
variable {P : Program} {κ nx : Nat} {q : Qm} {K : AV → Mem → Prop} {t : Nat → AV} {m : Mem} {t1 t2 e : TypeId} {x y : Operand} {sz by_ : Nat} {news : List (List Value)}

/-- The room that an append may take. -/
def Room (n by_ : Nat) : Prop := n * by_ ≤ 140737488355328 ∧ n ≤ 4611686018427387904

theorem news_ow {k v n : Nat} (hm : m k = .arr v (sz + 1) news) : newsOf P t1 t1 sz m (.at (.ow k v (sz + 1) n)) = some news := by
  simp [newsOf, srcRows, hm]
theorem news_oi {k v n : Nat} (hm : m k = .ice v (sz + 1) news) : newsOf P t1 t1 sz m (.at (.ow k v (sz + 1) n)) = some news := by
  simp [newsOf, srcRows, hm]
theorem news_im : newsOf P t1 t1 sz m (.at (.im (sz + 1) news)) = some news := by
  simp [newsOf, srcRows]
theorem news_nil : newsOf P t1 t1 sz m (.at .nil) = some [] := by
  simp [newsOf]

theorem app_nil (ht : P.underlying t1 = some (.slice e)) (hs : szT P e = some (sz + 1)) (hb : (P.info? e).map (·.bytes) = some by_) (hz : (zeroVals P e).map List.length = some (sz + 1))
    (hx : (⟨t, m⟩ : St).ev x = .at .nil) (hn : newsOf P t1 t2 sz m ((⟨t, m⟩ : St).ev y) = some news) :
    onM (builtinS P κ nx .append [x, y] [t1, t2] ⟨t, m⟩) K = (m κ = .gone ∧ (nx ≤ κ ∧ Room news.length by_) ∧ K (.at (.ow κ 0 (sz + 1) news.length)) (upd m κ (.arr 0 (sz + 1) news))) := by
  refine gone_cases (r := _ ∧ _) (fun h => ?_) (fun h => ?_)
  · simp only [builtinS, appendS_eq ht hs hb hn, pushS, hx]
    cases hm : m κ <;> simp_all [onM]
  · simp only [builtinS, appendS_eq ht hs hb hn, pushS, hx, h, hz, if_true, onM, Room]

theorem app_ow {k ver n : Nat} {rows : List (List Value)} (ht : P.underlying t1 = some (.slice e)) (hs : szT P e = some (sz + 1)) (hb : (P.info? e).map (·.bytes) = some by_) (hz : (zeroVals P e).map List.length = some (sz + 1))
    (hx : (⟨t, m⟩ : St).ev x = .at (.ow k ver (sz + 1) n)) (hm : m k = .arr ver (sz + 1) rows) (hk : nx ≤ k) (hn : newsOf P t1 t2 sz m ((⟨t, m⟩ : St).ev y) = some news) :
    onM (builtinS P κ nx .append [x, y] [t1, t2] ⟨t, m⟩) K = (Room (rows.length + news.length) by_ ∧ K (.at (.ow k (ver + 1) (sz + 1) (rows.length + news.length))) (upd m k (.arr (ver + 1) (sz + 1) (rows ++ news)))) := by
  simp only [builtinS, appendS_eq ht hs hb hn, pushS, hx, hm, hz, hk, and_self, if_true, onM, Room]

theorem max_i {ts : List TypeId} {k : IntKind} {a b : Int} (hx : (⟨t, m⟩ : St).ev x = .at (.v (.int k a))) (hy : (⟨t, m⟩ : St).ev y = .at (.v (.int k b))) : onM (builtinS P κ nx .max [x, y] ts ⟨t, m⟩) K = K (.at (.v (.int k (max a b)))) m := by
  simp only [builtinS, hx, hy, max2S, onM, true_and]
  congr 4
  split <;> omega
theorem min_i {ts : List TypeId} {k : IntKind} {a b : Int} (hx : (⟨t, m⟩ : St).ev x = .at (.v (.int k a))) (hy : (⟨t, m⟩ : St).ev y = .at (.v (.int k b))) : onM (builtinS P κ nx .min [x, y] ts ⟨t, m⟩) K = K (.at (.v (.int k (min a b)))) m := by
  simp only [builtinS, hx, hy, min2S, onM, true_and]
  congr 4
  split <;> omega

theorem cut_im {lo hi : Option Operand} {rows : List (List Value)} {l h : Int} (ht : P.underlying t1 = some (.slice e)) (hs : szT P e = some sz) (hl : boundS ⟨t, m⟩ lo 0 = some l) (hh : boundS ⟨t, m⟩ hi rows.length = some h) :
    onM (sliceS P nx q t1 ⟨t, m⟩ (.at (.im sz rows)) lo hi none) K = ((0 ≤ l ∧ l ≤ h ∧ h ≤ (rows.length : Int)) ∧ K (.at (.im sz ((rows.drop l.toNat).take (h.toNat - l.toNat)))) m) := by
  simp only [sliceS, ht, hs, if_true, hl, hh, onM]
theorem cut_str {lo hi : Option Operand} {s : ByteArray} {l h : Int} (ht : P.underlying t1 = some .string) (hl : boundS ⟨t, m⟩ lo 0 = some l) (hh : boundS ⟨t, m⟩ hi s.size = some h) :
    onM (sliceS P nx q t1 ⟨t, m⟩ (.at (.v (.string s))) lo hi none) K = ((0 ≤ l ∧ l ≤ h ∧ h ≤ (s.size : Int)) ∧ K (.at (.v (.string (s.extract l.toNat h.toNat)))) m) := by
  simp only [sliceS, ht, hl, hh, onM]
theorem cut_ow {lo hi : Option Operand} {k ver n : Nat} {rows : List (List Value)} {l h : Int} (ht : P.underlying t1 = some (.slice e)) (hs : szT P e = some sz) (hk : nx ≤ k) (hm : m k = .arr ver sz rows) (hl : boundS ⟨t, m⟩ lo 0 = some l) (hh : boundS ⟨t, m⟩ hi n = some h) :
    onM (sliceS P nx none t1 ⟨t, m⟩ (.at (.ow k ver sz n)) lo hi none) K = ((0 ≤ l ∧ l ≤ h ∧ h ≤ (n : Int)) ∧ K (.at (.ow k (ver + 1) sz (h.toNat - l.toNat))) (upd m k (.arr (ver + 1) sz ((rows.drop l.toNat).take (h.toNat - l.toNat))))) := by
  simp only [sliceS, Option.isSome_none, ht, hs, hk, hl, hh, hm, and_self, if_true, onM]
end
end Go.Abs

/- Ends of functions, and lists that are filled place by place. -/
namespace Go.Abs
open Go.RowKit
set_option linter.unusedVariables false
set_option linter.unusedSimpArgs false

theorem set_fill {β : Type} {f : β → List Value} {l : List β} {i : Nat} {p : β} {z : List Value} (h : l[i]? = some p) : ((l.take i).map f ++ List.replicate (l.length - i) z).set i (f p) = (l.take (i + 1)).map f ++ List.replicate (l.length - (i + 1)) z := by
  obtain ⟨hi, rfl⟩ := List.getElem?_eq_some_iff.1 h
  have hlen : ((l.take i).map f).length = i := by simp; omega
  rw [List.set_append_right _ _ (by omega), hlen, Nat.sub_self]
  obtain ⟨k, hk⟩ : ∃ k, l.length - i = k + 1 := ⟨l.length - i - 1, by omega⟩
  rw [hk, List.replicate_succ, List.set_cons_zero, show l.length - (i + 1) = k by omega, List.take_succ_eq_append_getElem hi]
  simp only [List.map_append, List.map_cons, List.map_nil, List.append_assoc, List.singleton_append]

theorem fill_get {β : Type} {f : β → List Value} {l : List β} {i : Nat} {z : List Value} (hi : i < l.length) : ((l.take i).map f ++ List.replicate (l.length - i) z).getD i [] = z := by
  have hlen : ((l.take i).map f).length = i := by simp; omega
  rw [List.getD_eq_getElem?_getD, List.getElem?_append_right (by omega), hlen, Nat.sub_self, List.getElem?_replicate, if_pos (by omega)]; rfl

/-- The end of a function that gives an array of its own. -/
theorem fin_fresh {P : Program} {fn : Func} {σ : St} {t k ver sz n : Nat} {rows : List (List Value)} (hts : fn.results = #[.tmp t]) (h : σ.t t = .at (.ow k ver sz n)) (hm : σ.m k = .arr ver sz rows) (hn : n = rows.length) : finS P 0 fn (.at (.fr sz rows)) [] .ret σ := by
  refine ⟨σ, [.at (.ow k ver sz n)], [k], Weak.refl _ _, by rw [hts]; exact ⟨h, trivial⟩, by omega, by simp, by simp, ?_, rfl, ?_⟩
  · subst hn
    simp [oneOf, renV, ren, invOf, List.idxOf?_cons, hm, Ent.ver, subR, subV, subA, instV, inst1, instA]
  · simp [hm, renE, freshes, fresh1, freshA]

theorem drop_get {β : Type} {l : List β} {i : Nat} {x : β} (h : l[i]? = some x) : l.drop i = x :: l.drop (i + 1) := by
  obtain ⟨h1, rfl⟩ := List.getElem?_eq_some_iff.1 h
  rw [List.drop_eq_getElem_cons h1]

theorem subA_refl (a : A) : subA a a := by
  cases a with
  | im sz rows => cases rows <;> simp [subA]
  | _ => simp [subA]
theorem subA_self {a : A} : subA a a = True := eq_true (subA_refl a)
theorem subL_refl : ∀ l : List A, subL l l
  | [] => trivial
  | a :: l => ⟨subA_refl a, subL_refl l⟩
theorem subV_at {a b : A} : subV (.at a) (.at b) = subA a b := rfl
theorem subV_ag {as bs : List A} : subV (.ag as) (.ag bs) = subL as bs := rfl
theorem subL_self {l : List A} : subL l l = True := eq_true (subL_refl l)
theorem subT_cons {x y : AV} {xs ys : List AV} : subT (x :: xs) (y :: ys) = (subV x y ∧ subT xs ys) := rfl
theorem subT_nil : subT [] [] = True := rfl
end Go.Abs

/- What a law is handed, read as data. -/
namespace Go.Abs
open Go.RowKit
set_option linter.unusedVariables false
set_option linter.unusedSimpArgs false

theorem Below.ofChg {P : Program} {w w' : World} {F : Nat → Prop} {lam : Lam} {n : Nat} (h : Chg (gOf P w F lam 0 n) w') : Below w.heap.size w w' :=
  ⟨h.os, h.tape, h.output, h.size, fun k hk => h.block k hk (by rintro ⟨_, _, h, _⟩; omega)⟩

section
variable {H : Type} {enc : TypeId × Value → H} {P : Program} {w : World} {fuel : Nat} {t e : TypeId} {cs : List Value} {x : DataW H × List MemPlace} {F : Nat → Prop} {m : Mem} {lam : Lam}

theorem opn_int {k : IntKind} (ht : P.underlying t = some (.int k)) (h : DataW.trod enc P w 0 (fun _ => true) true fuel t cs = some x) : ∃ n, cs = [.int k n] ∧ (Lit.int k n).wf = true := by
  cases fuel with
  | zero => simp [DataW.trod] at h
  | succ f =>
    simp only [DataW.trod, ht] at h
    rcases cs with _ | ⟨v, _ | ⟨v', cs⟩⟩
    · simp at h
    · cases v <;> simp at h
      obtain ⟨⟨rfl, h1⟩, _⟩ := h
      exact ⟨_, rfl, h1⟩
    · simp at h
theorem opn_bool (ht : P.underlying t = some .bool) (h : DataW.trod enc P w 0 (fun _ => true) true fuel t cs = some x) : ∃ b, cs = [.bool b] := by
  cases fuel with
  | zero => simp [DataW.trod] at h
  | succ f =>
    simp only [DataW.trod, ht] at h
    rcases cs with _ | ⟨v, _ | ⟨v', cs⟩⟩
    · simp at h
    · cases v <;> simp at h
      exact ⟨_, rfl⟩
    · simp at h
theorem opn_string (ht : P.underlying t = some .string) (h : DataW.trod enc P w 0 (fun _ => true) true fuel t cs = some x) : ∃ s, cs = [.string s] ∧ s.size ≤ maxLen := by
  cases fuel with
  | zero => simp [DataW.trod] at h
  | succ f =>
    simp only [DataW.trod, ht] at h
    rcases cs with _ | ⟨v, _ | ⟨v', cs⟩⟩
    · simp at h
    · cases v <;> simp at h
      exact ⟨_, rfl, h.1⟩
    · simp at h

theorem mapM_some {β γ : Type} {f : β → Option γ} : ∀ {l : List β} {ys : List γ}, l.mapM f = some ys → ys.length = l.length ∧ ∀ (i : Nat) (b : β), l[i]? = some b → ∃ y, f b = some y ∧ ys[i]? = some y := by
  intro l
  induction l with
  | nil => intro ys h; simp at h; subst h; simp
  | cons b l ih =>
    intro ys h
    simp only [List.mapM_cons] at h
    cases hb : f b with
    | none => simp [hb] at h
    | some y =>
      cases hl : l.mapM f with
      | none => simp [hb, hl] at h
      | some zs =>
        simp [hb, hl] at h
        subst h
        obtain ⟨h1, h2⟩ := ih hl
        refine ⟨by simp [h1], fun i c hc => ?_⟩
        cases i with
        | zero => simp at hc; subst hc; exact ⟨y, hb, rfl⟩
        | succ i => obtain ⟨z, h3, h4⟩ := h2 i c (by simpa using hc); exact ⟨z, h3, by simpa using h4⟩

theorem cells_get {a : Addr} {n : Nat} {r : List Value} (h : w.cells? 0 a n = some r) : r.length = n ∧ ∀ i u, r[i]? = some u → w.cell? (a.add i) = some u := by
  simp only [World.cells?, Nat.zero_le, if_true] at h
  obtain ⟨h1, h2⟩ := mapM_some h
  rw [List.length_range] at h1
  refine ⟨h1, fun i u hu => ?_⟩
  have hi : i < n := by rw [← h1]; exact (List.getElem?_eq_some_iff.1 hu).1
  obtain ⟨y, h3, h4⟩ := h2 i i (by simp [hi])
  rw [hu] at h4; cases h4
  exact h3

theorem opn_struct {fs : Array Field} (ht : P.underlying t = some (.struct fs)) (h : DataW.trod enc P w 0 (fun _ => true) true fuel t cs = some x) :
    cs.length = P.cellsOf t ∧ ∃ f, ∀ fd ∈ fs.toList, ∃ y, DataW.trod enc P w 0 (fun _ => true) true f fd.type ((cs.drop fd.offset).take (P.cellsOf fd.type)) = some y := by
  cases fuel with
  | zero => simp [DataW.trod] at h
  | succ f =>
    simp only [DataW.trod, ht] at h
    split at h
    · rename_i hl
      refine ⟨hl, f, fun fd hfd => ?_⟩
      simp only [Option.map_eq_some_iff] at h
      obtain ⟨xs, h1, _⟩ := h
      obtain ⟨h2, h3⟩ := mapM_some h1
      obtain ⟨i, hi⟩ := List.getElem?_of_mem hfd
      obtain ⟨y, h4, _⟩ := h3 i fd hi
      exact ⟨y, h4⟩
    · simp at h

theorem RowsAt.of_rows {b sz : Nat} : ∀ {rows : List (List Value)} {o : Nat}, Wf sz rows → (∀ i r, rows[i]? = some r → RowsAt w b (o + i * sz) r) → RowsAt w b o rows.flatten := by
  intro rows
  induction rows with
  | nil => intro o _ _ j u hj; simp at hj
  | cons r rows ih =>
    intro o hw h j u hj
    have hr : r.length = sz := hw r (by simp)
    rw [List.flatten_cons, List.getElem?_append] at hj
    split at hj
    · have := h 0 r rfl j u hj
      simpa using this
    · have h2 := ih (o := o + sz) (fun r' hr' => hw r' (by simp [hr'])) (fun i r' hi => by
        have := h (i + 1) r' (by simpa using hi)
        rw [Nat.succ_mul] at this
        rw [show o + sz + i * sz = o + (i * sz + sz) by omega]; exact this) (j - r.length) u hj
      rw [show o + sz + (j - r.length) = o + j by omega] at h2
      exact h2

/-- A slice, read: its rows. -/
theorem opn_slice {sz : Nat} (ht : P.underlying t = some (.slice e)) (hs : P.cellsOf e = sz) (hpos : 0 < sz) (hF : ∀ b, b < w.heap.size → F b)
    (one : ∀ f r (y : DataW H × List MemPlace), DataW.trod enc P w 0 (fun _ => true) true f e r = some y → ∀ u ∈ r, u.oneCell' = true)
    (h : DataW.trod enc P w 0 (fun _ => true) true fuel t cs = some x) :
    ∃ v rows, cs = [v] ∧ v.oneCell' = true ∧ RA w F m lam (.im sz rows) v ∧ rows.length ≤ maxLen ∧ ∀ r ∈ rows, ∃ f y, DataW.trod enc P w 0 (fun _ => true) true f e r = some y := by
  cases fuel with
  | zero => simp [DataW.trod] at h
  | succ f =>
    simp only [DataW.trod, ht] at h
    rcases cs with _ | ⟨v, _ | ⟨v', cs⟩⟩
    · simp at h
    · cases v with
      | slice a len cap =>
        cases a with
        | none =>
          cases len with
          | zero => cases cap with
            | zero => exact ⟨_, [], rfl, rfl, ⟨(by intro r hr; cases hr), none, 0, rfl, Nat.le_refl _, Nat.zero_le _, .inl rfl⟩, Nat.zero_le _, by simp⟩
            | succ c => simp at h
          | succ l => simp at h
        | some a =>
          simp only [Nat.zero_le, true_and] at h
          split at h
          · rename_i hlc
            cases hel : (List.range len).mapM fun i => (w.cells? 0 (a.add (i * P.cellsOf e)) (P.cellsOf e)).bind (DataW.trod enc P w 0 (fun _ => true) true f e) with
            | none => rw [hel] at h; simp at h
            | some elems =>
              obtain ⟨h1, h2⟩ := mapM_some hel
              rw [List.length_range] at h1
              have h3 : ∀ i, i < len → ∃ r, w.cells? 0 (a.add (i * sz)) sz = some r ∧ ∃ y, DataW.trod enc P w 0 (fun _ => true) true f e r = some y := by
                intro i hi
                obtain ⟨y, h4, _⟩ := h2 i i (by simp [hi])
                rw [hs] at h4
                simp only [Option.bind_eq_some_iff] at h4
                obtain ⟨r, h5, h6⟩ := h4
                exact ⟨r, h5, y, h6⟩
              -- the rows
              let row : Nat → List Value := fun i => (w.cells? 0 (a.add (i * sz)) sz).getD []
              have hrow : ∀ i, i < len → w.cells? 0 (a.add (i * sz)) sz = some (row i) ∧ ∃ y, DataW.trod enc P w 0 (fun _ => true) true f e (row i) = some y := by
                intro i hi
                obtain ⟨r, h5, h6⟩ := h3 i hi
                have : row i = r := by simp [row, h5]
                rw [this]; exact ⟨h5, h6⟩
              refine ⟨_, (List.range len).map row, rfl, rfl, ?_, by simp; omega, ?_⟩
              · have hspot : 0 < len → a = ⟨a.block, a.off, none⟩ ∧ a.block < w.heap.size := by
                  intro h0
                  obtain ⟨h5, h6⟩ := cells_get (hrow 0 h0).1
                  have h7 := h6 0 ((row 0)[0]'(by omega)) (List.getElem?_eq_getElem (by omega))
                  simp only [Nat.zero_mul, Addr.add, if_true, World.cell?] at h7
                  split at h7
                  · rename_i hg
                    split at h7
                    · cases h7
                    · rename_i hsp
                      refine ⟨?_, (Array.getElem?_eq_some_iff.1 hg).1⟩
                      obtain ⟨ab, ao, asp⟩ := a
                      cases asp with
                      | none => rfl
                      | some _ => simp at hsp
                  · cases h7
                have hwf : Wf sz ((List.range len).map row) := by
                  intro r hr
                  simp only [List.mem_map, List.mem_range] at hr
                  obtain ⟨i, hi, rfl⟩ := hr
                  exact (cells_get (hrow i hi).1).1
                refine ⟨hwf, some a, cap, by simp, by simp; omega, hlc.2, ?_⟩
                by_cases h0 : len = 0
                · left; subst h0; rfl
                · right
                  obtain ⟨ha, hb⟩ := hspot (by omega)
                  refine ⟨a.block, a.off, by rw [← ha], hF _ hb, RowsAt.of_rows hwf fun i r hir j u hju => ?_⟩
                  have hi : i < len := by
                    have := (List.getElem?_eq_some_iff.1 hir).1; simpa using this
                  simp only [List.getElem?_map, List.getElem?_range hi, Option.map_some, Option.some.injEq] at hir
                  subst hir
                  have h5 := (cells_get (hrow i hi).1).2 j u hju
                  obtain ⟨y, hy⟩ := (hrow i hi).2
                  refine ⟨?_, one _ _ _ hy u (List.mem_of_getElem? hju)⟩
                  have hadd : (a.add (i * sz)).add j = ⟨a.block, a.off + i * sz + j, none⟩ := by
                    rw [ha]
                    generalize i * sz = q
                    simp only [Addr.add]
                    by_cases hq : q = 0 <;> by_cases hj : j = 0 <;> simp [hq, hj]
                  rw [hadd] at h5
                  exact h5
              · intro r hr
                simp only [List.mem_map, List.mem_range] at hr
                obtain ⟨i, hi, rfl⟩ := hr
                exact ⟨f, (hrow i hi).2⟩
          · simp at h
      | _ => simp at h
    · simp at h


theorem rows_data {β : Type} {f : β → List Value} {q : β → Prop} : ∀ {rows : List (List Value)}, (∀ r ∈ rows, ∃ p, r = f p ∧ q p) → ∃ l : List β, rows = l.map f ∧ ∀ p ∈ l, q p := by
  intro rows
  induction rows with
  | nil => intro _; exact ⟨[], rfl, by simp⟩
  | cons r rows ih =>
    intro h
    obtain ⟨p, rfl, hq⟩ := h r (by simp)
    obtain ⟨l, rfl, hl⟩ := ih fun r hr => h r (by simp [hr])
    exact ⟨p :: l, rfl, by simpa using ⟨hq, hl⟩⟩

/-- A slice of structs, read. -/
theorem opn_rows {β : Type} {f : β → List Value} {q : β → Prop} {sz : Nat} (ht : P.underlying t = some (.slice e)) (hs : P.cellsOf e = sz) (hpos : 0 < sz) (hF : ∀ b, b < w.heap.size → F b)
    (el : ∀ fu r (y : DataW H × List MemPlace), DataW.trod enc P w 0 (fun _ => true) true fu e r = some y → ∃ p, r = f p ∧ q p) (one : ∀ p, ∀ u ∈ f p, u.oneCell' = true)
    (h : DataW.trod enc P w 0 (fun _ => true) true fuel t cs = some x) :
    ∃ (v : Value) (l : List β), cs = [v] ∧ v.oneCell' = true ∧ RA w F m lam (.im sz (l.map f)) v ∧ l.length ≤ maxLen ∧ ∀ p ∈ l, q p := by
  obtain ⟨v, rows, h1, h2, h3, h4, h5⟩ := opn_slice (m := m) (lam := lam) ht hs hpos hF (fun fu r y hy u hu => by
    obtain ⟨p, rfl, _⟩ := el fu r y hy
    exact one p u hu) h
  obtain ⟨l, rfl, hl⟩ := rows_data (f := f) (q := q) fun r hr => by
    obtain ⟨fu, y, hy⟩ := h5 r hr
    exact el fu r y hy
  exact ⟨v, l, h1, h2, h3, by simpa using h4, hl⟩

end

/-- A law's call, out of its contract. -/
theorem law_calls {P : Program} {f : FuncId} {args : List AV} {us : List Value} {W : World} (h : SC P f args [] (.at (.v (.bool true))) []) (hl : args.length = us.length)
    (hv : ∀ (i : Nat) (x : AV) (u : Value), args[i]? = some x → us[i]? = some u → RV1 W (fun b => b < W.heap.size) (ofM 0 1000 [] []) (fun _ => none) x u) :
    Calls P f us.toArray W fun e W' => e = .returned (.bool true) ∧ Below W.heap.size W W' := by
  have hM : MemRel (gOf P W (fun b => b < W.heap.size) (fun _ => none) 0 0) W (fun b => b < W.heap.size) (ofM 0 1000 [] []) (fun _ => none) := by
    have hg : ∀ k, ofM 0 1000 [] [] k = Ent.gone := by intro k; simp [ofM]
    exact ⟨fun k => by rw [hg]; trivial, fun k k' b o o' h => by rw [hg] at h; exact h.elim⟩
  refine (h.2 W _ _ us (fun b hb => hb) hM hl hv).mono ?_
  rintro e w' ⟨v, F', lam', rfl, _, _, _, hc, _, _, hr⟩
  refine ⟨?_, Below.ofChg hc⟩
  have hr' : v = .bool true ∧ _ := hr
  rw [hr'.1]

end Go.Abs

/- Words for the walk: every operation told so that a simplifier can go on by itself. -/
namespace Go.Abs
open Go.RowKit
set_option linter.unusedVariables false
set_option linter.unusedSimpArgs false

section
variable {P : Program} {nx : Nat} {q : Qm} {K : AV → Mem → Prop} {t : Nat → AV} {m : Mem} {d : Option Nat} {ty t1 e : TypeId} {pos : String} {af : Array Edge} {g : Option (Nat × Bool)} {x y : Operand}

/-! ### Arrays that are made -/
def makeK (sz by_ nx site : Nat) (z : List Value) (m : Mem) (X Y : AV) (K : AV → Mem → Prop) : Prop :=
  match X, Y with
  | .at (.v (.int _ n)), .at (.v (.int _ n')) => m site = .gone ∧ (nx ≤ site ∧ n = n' ∧ 0 ≤ n ∧ n ≤ 4611686018427387904 ∧ by_ * n ≤ 281474976710656) ∧ K (.at (.ow site 0 sz n.toNat)) (upd m site (.arr 0 sz (List.replicate n.toNat z)))
  | _, _ => False
theorem makeK_int {sz by_ nx site : Nat} {z : List Value} {k k' : IntKind} {n n' : Int} : makeK sz by_ nx site z m (.at (.v (.int k n))) (.at (.v (.int k' n'))) K =
    (m site = .gone ∧ (nx ≤ site ∧ n = n' ∧ 0 ≤ n ∧ n ≤ 4611686018427387904 ∧ (by_ : Int) * n ≤ 281474976710656) ∧ K (.at (.ow site 0 sz n.toNat)) (upd m site (.arr 0 sz (List.replicate n.toNat z)))) := rfl
theorem make_k {sz by_ : Nat} {z : List Value} (ht : P.underlying t1 = some (.slice e)) (hs : szT P e = some (sz + 1)) (hz : zeroVals P e = some z) (hb : (P.info? e).map (·.bytes) = some by_) (hz1 : z.length = sz + 1) (hz2 : z.all (·.oneCell') = true)
    (h : makeK (sz + 1) by_ nx (siteOf d) z m ((⟨t, m⟩ : St).ev x) ((⟨t, m⟩ : St).ev y) K) : onM (opS P nx q ⟨d, .makeSlice t1 x y, ty, pos, af, g⟩ ⟨t, m⟩) K := by
  unfold makeK at h
  split at h
  · rename_i k n k' n' hx hy
    rw [make_i ht hs hz hb hz1 hz2 hx hy]; exact h
  · exact h.elim

def fillRK (σ : St) (sz : Nat) : List (Nat × Operand) → List (List Value) → (List (List Value) → Prop) → Prop
  | [], rows, K => K rows
  | (i, x) :: rest, rows, K => onO ((atomsOf (σ.ev x)).bind valsOf) fun us => us.length = sz ∧ i < rows.length ∧ fillRK σ sz rest (rows.set i us) K
theorem fillRK_some {σ : St} {sz : Nat} : ∀ {parts : List (Nat × Operand)} {rows : List (List Value)} {K : List (List Value) → Prop}, fillRK σ sz parts rows K → ∃ rows', fillRows σ sz parts rows = some rows' ∧ K rows' := by
  intro parts
  induction parts with
  | nil => intro rows K h; exact ⟨rows, rfl, h⟩
  | cons p parts ih =>
    obtain ⟨i, x⟩ := p
    intro rows K h
    simp only [fillRK] at h
    cases hu : (atomsOf (σ.ev x)).bind valsOf with
    | none => rw [hu] at h; exact h.elim
    | some us =>
      rw [hu] at h
      obtain ⟨h1, h2, h3⟩ := h
      obtain ⟨rows', h4, h5⟩ := ih h3
      exact ⟨rows', by simp only [fillRows, hu, h1, h2, and_self, if_true]; exact h4, h5⟩
theorem fillRK_nil {σ : St} {sz : Nat} {rows : List (List Value)} {K : List (List Value) → Prop} : fillRK σ sz [] rows K = K rows := rfl
theorem fillRK_cons {σ : St} {sz i : Nat} {x : Operand} {rest : List (Nat × Operand)} {rows : List (List Value)} {K : List (List Value) → Prop} : fillRK σ sz ((i, x) :: rest) rows K =
    onO ((atomsOf (σ.ev x)).bind valsOf) fun us => us.length = sz ∧ i < rows.length ∧ fillRK σ sz rest (rows.set i us) K := rfl
theorem buildSlice_k {len sz : Nat} {parts : Array (Nat × Operand)} {z : List Value} (ht : P.underlying t1 = some (.slice e)) (hs : szT P e = some (sz + 1)) (hz : zeroVals P e = some z) (hz1 : z.length = sz + 1) (hz2 : z.all (·.oneCell') = true)
    (h : len * (sz + 1) ≤ 16777216 ∧ fillRK ⟨t, m⟩ (sz + 1) parts.toList (List.replicate len z) fun rows => m (siteOf d) = .gone ∧ nx ≤ siteOf d ∧ K (.at (.ow (siteOf d) 0 (sz + 1) len)) (upd m (siteOf d) (.arr 0 (sz + 1) rows))) :
    onM (opS P nx q ⟨d, .buildSlice t1 len parts, ty, pos, af, g⟩ ⟨t, m⟩) K := by
  obtain ⟨rows', h1, h2⟩ := fillRK_some h.2
  rw [buildSlice_i ht hs hz hz1 hz2 h.1 h1]; exact h2

/-! ### Structs that are built -/
def fillSK (P : Program) (σ : St) (fs : List Field) : List (Nat × Operand) → List A → (List A → Prop) → Prop
  | [], cells, K => K cells
  | (i, x) :: rest, cells, K => onO fs[i]? fun fd => onO (atomsOf (σ.ev x)) fun as => szT P fd.type = some as.length ∧ fd.offset + as.length ≤ cells.length ∧ fillSK P σ fs rest (splice cells fd.offset as) K
theorem fillSK_some {σ : St} {fs : List Field} : ∀ {parts : List (Nat × Operand)} {cells : List A} {K : List A → Prop}, fillSK P σ fs parts cells K → ∃ cs, fillS fs P σ parts cells = some cs ∧ K cs := by
  intro parts
  induction parts with
  | nil => intro cells K h; exact ⟨cells, rfl, h⟩
  | cons p parts ih =>
    obtain ⟨i, x⟩ := p
    intro cells K h
    simp only [fillSK] at h
    cases hf : fs[i]? with
    | none => rw [hf] at h; exact h.elim
    | some fd =>
      rw [hf] at h
      simp only [onO] at h
      cases hu : atomsOf (σ.ev x) with
      | none => rw [hu] at h; exact h.elim
      | some as =>
        rw [hu] at h
        obtain ⟨h1, h2, h3⟩ := h
        obtain ⟨cs, h4, h5⟩ := ih h3
        exact ⟨cs, by simp only [fillS, hf, hu, h1, h2, and_self, if_true]; exact h4, h5⟩
theorem fillSK_nil {σ : St} {fs : List Field} {cells : List A} {K : List A → Prop} : fillSK P σ fs [] cells K = K cells := rfl
theorem fillSK_cons {σ : St} {fs : List Field} {i : Nat} {x : Operand} {rest : List (Nat × Operand)} {cells : List A} {K : List A → Prop} : fillSK P σ fs ((i, x) :: rest) cells K =
    onO fs[i]? fun fd => onO (atomsOf (σ.ev x)) fun as => szT P fd.type = some as.length ∧ fd.offset + as.length ≤ cells.length ∧ fillSK P σ fs rest (splice cells fd.offset as) K := rfl
theorem build_k {parts : Array (Nat × Operand)} {fs : Array Field} {as : List A} (ht : P.underlying t1 = some (.struct fs)) (hz : zeroAtoms P t1 = some as) (hs : as.all A.solid = true ∧ fs.toList.all (fun (fd : Field) => (szT P fd.type).isSome) = true)
    (h : fillSK P ⟨t, m⟩ fs.toList parts.toList as fun cs => K (.ag cs) m) : onM (opS P nx q ⟨d, .build t1 parts, ty, pos, af, g⟩ ⟨t, m⟩) K := by
  obtain ⟨cs, h1, h2⟩ := fillSK_some h
  rw [build_i ht hz hs h1]; exact h2

/-! ### Parts of tuples -/
def exK (X : AV) (i : Nat) (K : AV → Prop) : Prop :=
  match X with
  | .tp xs => onO xs[i]? K
  | _ => False
theorem exK_tp {xs : List AV} {i : Nat} {K : AV → Prop} : exK (.tp xs) i K = onO xs[i]? K := rfl
theorem extract_k {i : Nat} : onM (opS P nx q ⟨d, .extract x i, ty, pos, af, g⟩ ⟨t, m⟩) K = exK ((⟨t, m⟩ : St).ev x) i fun v => K v m := by
  simp only [opS]
  cases (⟨t, m⟩ : St).ev x with
  | tp xs => simp only [exK]; cases xs[i]? <;> simp [onO, onM]
  | _ => rfl

/-! ### Choices -/
def pickK (c a b : AV) (K : AV → Prop) : Prop :=
  match c with
  | .at (.v (.bool true)) => K a
  | .at (.v (.bool false)) => K b
  | _ => False
theorem pickK_true {a b : AV} {K : AV → Prop} : pickK (.at (.v (.bool true))) a b K = K a := rfl
theorem pickK_false {a b : AV} {K : AV → Prop} : pickK (.at (.v (.bool false))) a b K = K b := rfl
theorem actC_pick {K : St → Prop} {c a b : Operand} : actC P nx q ⟨d, .pick c a b, ty, pos, af, g⟩ K ⟨t, m⟩ = pickK ((⟨t, m⟩ : St).ev c) ((⟨t, m⟩ : St).ev a) ((⟨t, m⟩ : St).ev b) fun v => K ⟨putD t d v, m⟩ := by
  simp only [actC, opC, okQ, true_and, opS, pickK]
  cases (⟨t, m⟩ : St).ev c with
  | «at» a => cases a with
    | v x => cases x with
      | bool b => cases b <;> simp
      | _ => rfl
    | _ => rfl
  | _ => rfl

/-! ### Greater and less -/
def max2K (X Y : AV) (K : AV → Prop) : Prop := match X, Y with | .at (.v (.int k a)), .at (.v (.int _ b)) => K (.at (.v (.int k (max a b)))) | _, _ => False
def min2K (X Y : AV) (K : AV → Prop) : Prop := match X, Y with | .at (.v (.int k a)), .at (.v (.int _ b)) => K (.at (.v (.int k (min a b)))) | _, _ => False
theorem max2K_int {k k' : IntKind} {a b : Int} {K : AV → Prop} : max2K (.at (.v (.int k a))) (.at (.v (.int k' b))) K = K (.at (.v (.int k (max a b)))) := rfl
theorem min2K_int {k k' : IntKind} {a b : Int} {K : AV → Prop} : min2K (.at (.v (.int k a))) (.at (.v (.int k' b))) K = K (.at (.v (.int k (min a b)))) := rfl

/-! ### Append -/
def rowsAt (e : Ent) (ver sz : Nat) : Option (List (List Value)) :=
  match e with
  | .arr ver' sz' rows => if ver = ver' ∧ sz = sz' then some rows else none
  | .ice ver' sz' rows => if ver = ver' ∧ sz = sz' then some rows else none
  | _ => none
theorem rowsAt_arr {ver sz : Nat} {rows : List (List Value)} : rowsAt (.arr ver sz rows) ver sz = some rows := by simp [rowsAt]
theorem rowsAt_ice {ver sz : Nat} {rows : List (List Value)} : rowsAt (.ice ver sz rows) ver sz = some rows := by simp [rowsAt]
def newsK (str : Bool) (sz : Nat) (m : Mem) (S : AV) : Option (List (List Value)) :=
  match S with
  | .at (.v (.string s)) => if sz = 1 ∧ str = true then some (s.data.toList.map fun (b : UInt8) => [Value.int .u8 (b.toNat : Int)]) else none
  | .at .nil => if str = false then some [] else none
  | .at (.im sz' rows) => if sz' = sz ∧ str = false then some rows else none
  | .at (.ow k ver sz' n) => if sz' = sz ∧ str = false then rowsAt (m k) ver sz' else none
  | _ => none
theorem newsK_nil {sz : Nat} : newsK false sz m (.at .nil) = some [] := rfl
theorem newsK_im {sz : Nat} {rows : List (List Value)} : newsK false sz m (.at (.im sz rows)) = some rows := by simp [newsK]
theorem newsK_ow {k ver sz n : Nat} : newsK false sz m (.at (.ow k ver sz n)) = rowsAt (m k) ver sz := by simp [newsK]
theorem newsK_str {s : ByteArray} : newsK true 1 m (.at (.v (.string s))) = some (s.data.toList.map fun (b : UInt8) => [Value.int .u8 (b.toNat : Int)]) := rfl
def appK (κ nx sz by_ : Nat) (m : Mem) (D : AV) (news : Option (List (List Value))) (K : AV → Mem → Prop) : Prop :=
  match D with
  | .at .nil => onO news fun ns => m κ = .gone ∧ (nx ≤ κ ∧ Room ns.length by_) ∧ K (.at (.ow κ 0 sz ns.length)) (upd m κ (.arr 0 sz ns))
  | .at (.ow k ver sz' n) => onO news fun ns => arrAt (m k) ver sz' fun rows => (sz' = sz ∧ nx ≤ k) ∧ Room (rows.length + ns.length) by_ ∧ K (.at (.ow k (ver + 1) sz (rows.length + ns.length))) (upd m k (.arr (ver + 1) sz (rows ++ ns)))
  | _ => False
theorem appK_nil {κ nx sz by_ : Nat} {ns : List (List Value)} : appK κ nx sz by_ m (.at .nil) (some ns) K = (m κ = .gone ∧ (nx ≤ κ ∧ Room ns.length by_) ∧ K (.at (.ow κ 0 sz ns.length)) (upd m κ (.arr 0 sz ns))) := rfl
theorem appK_ow {κ nx sz by_ k ver sz' n : Nat} {ns : List (List Value)} : appK κ nx sz by_ m (.at (.ow k ver sz' n)) (some ns) K =
    arrAt (m k) ver sz' fun rows => (sz' = sz ∧ nx ≤ k) ∧ Room (rows.length + ns.length) by_ ∧ K (.at (.ow k (ver + 1) sz (rows.length + ns.length))) (upd m k (.arr (ver + 1) sz (rows ++ ns))) := rfl
theorem app_k {κ by_ sz : Nat} {t2 : TypeId} {str : Bool} (ht : P.underlying t1 = some (.slice e)) (hs : szT P e = some (sz + 1)) (hb : (P.info? e).map (·.bytes) = some by_) (hz : (zeroVals P e).map List.length = some (sz + 1))
    (h2 : (str = false ∧ t2 = t1) ∨ (str = true ∧ isStr P t2 = true))
    (h : appK κ nx (sz + 1) by_ m ((⟨t, m⟩ : St).ev x) (newsK str (sz + 1) m ((⟨t, m⟩ : St).ev y)) K) : onM (builtinS P κ nx .append [x, y] [t1, t2] ⟨t, m⟩) K := by
  have hn : ∀ ns, newsK str (sz + 1) m ((⟨t, m⟩ : St).ev y) = some ns → newsOf P t1 t2 sz m ((⟨t, m⟩ : St).ev y) = some ns := by
    intro ns hns
    generalize (⟨t, m⟩ : St).ev y = Y at hns
    unfold newsK at hns
    split at hns
    · split at hns
      · rename_i hc
        rcases h2 with ⟨h, _⟩ | ⟨_, h⟩
        · rw [hc.2] at h; cases h
        · simp only [newsOf]; rw [if_pos ⟨by omega, h⟩]; exact hns
      · cases hns
    · split at hns
      · rename_i hc
        rcases h2 with ⟨_, h⟩ | ⟨h, _⟩
        · subst h; simpa [newsOf] using hns
        · rw [hc] at h; cases h
      · cases hns
    · split at hns
      · rename_i hc
        rcases h2 with ⟨_, h⟩ | ⟨h, _⟩
        · subst h; simpa [newsOf, srcRows, hc.1] using hns
        · rw [hc.2] at h; cases h
      · cases hns
    · split at hns
      · rename_i k ver sz' n hc
        rcases h2 with ⟨_, h⟩ | ⟨h, _⟩
        · subst h
          unfold rowsAt at hns
          split at hns
          · rename_i hm
            split at hns
            · rename_i hv; obtain ⟨rfl, rfl⟩ := hv
              simpa [newsOf, srcRows, hm, hc.1] using hns
            · cases hns
          · rename_i hm
            split at hns
            · rename_i hv; obtain ⟨rfl, rfl⟩ := hv
              simpa [newsOf, srcRows, hm, hc.1] using hns
            · cases hns
          · cases hns
        · rw [hc.2] at h; cases h
      · cases hns
    · cases hns
  unfold appK at h
  split at h
  · rename_i hx
    cases hN : newsK str (sz + 1) m ((⟨t, m⟩ : St).ev y) with
    | none => rw [hN] at h; exact h.elim
    | some ns => rw [hN] at h; rw [app_nil ht hs hb hz hx (hn ns hN)]; exact h
  · rename_i k ver sz' n hx
    cases hN : newsK str (sz + 1) m ((⟨t, m⟩ : St).ev y) with
    | none => rw [hN] at h; exact h.elim
    | some ns =>
      rw [hN] at h
      simp only [onO] at h
      unfold arrAt at h
      split at h
      · rename_i hm
        obtain ⟨⟨rfl, rfl⟩, ⟨h3, h4⟩, h5⟩ := h
        subst h3
        rw [app_ow ht hs hb hz hx hm h4 (hn ns hN)]; exact h5
      · exact h.elim
  · exact h.elim

/-! ### Cuts -/
theorem boundS_none {σ : St} {b : Int} : boundS σ none b = some b := rfl
theorem boundS_some {σ : St} {o : Operand} {b : Int} : boundS σ (some o) b = intOfAV (σ.ev o) := rfl
theorem intOfAV_int {k : IntKind} {i : Int} : intOfAV (.at (.v (.int k i))) = some i := rfl
theorem cut_im_k {lo hi : Option Operand} {sz : Nat} {rows : List (List Value)} (ht : P.underlying t1 = some (.slice e)) (hs : szT P e = some sz) :
    onM (sliceS P nx q t1 ⟨t, m⟩ (.at (.im sz rows)) lo hi none) K = onO (boundS ⟨t, m⟩ lo 0) fun l => onO (boundS ⟨t, m⟩ hi rows.length) fun h => (0 ≤ l ∧ l ≤ h ∧ h ≤ (rows.length : Int)) ∧ K (.at (.im sz ((rows.drop l.toNat).take (h.toNat - l.toNat)))) m := by
  simp only [sliceS, ht, hs, if_true]
  cases boundS ⟨t, m⟩ lo 0 <;> cases boundS ⟨t, m⟩ hi rows.length <;> rfl
theorem cut_nil_k {lo hi : Option Operand} {sz : Nat} (ht : P.underlying t1 = some (.slice e)) (hs : szT P e = some sz) :
    onM (sliceS P nx q t1 ⟨t, m⟩ (.at .nil) lo hi none) K = onO (boundS ⟨t, m⟩ lo 0) fun l => onO (boundS ⟨t, m⟩ hi 0) fun h => (l = 0 ∧ h = 0) ∧ K (.at .nil) m := by
  simp only [sliceS, ht, hs]
  cases boundS ⟨t, m⟩ lo 0 <;> cases boundS ⟨t, m⟩ hi 0 <;> rfl
theorem cut_str_k {lo hi : Option Operand} {s : ByteArray} (ht : P.underlying t1 = some .string) :
    onM (sliceS P nx q t1 ⟨t, m⟩ (.at (.v (.string s))) lo hi none) K = onO (boundS ⟨t, m⟩ lo 0) fun l => onO (boundS ⟨t, m⟩ hi s.size) fun h => (0 ≤ l ∧ l ≤ h ∧ h ≤ (s.size : Int)) ∧ K (.at (.v (.string (s.extract l.toNat h.toNat)))) m := by
  simp only [sliceS, ht]
  cases boundS ⟨t, m⟩ lo 0 <;> cases boundS ⟨t, m⟩ hi s.size <;> rfl
theorem cut_owQ_k {ban : List Nat} {lo hi : Option Operand} {k ver sz n : Nat} (ht : P.underlying t1 = some (.slice e)) (hs : szT P e = some sz)
    (h : onO (boundS ⟨t, m⟩ lo 0) fun l => onO (boundS ⟨t, m⟩ hi n) fun h => (0 ≤ l ∧ l ≤ h ∧ h ≤ (n : Int)) ∧ K (.at (.vw k ver sz l.toNat (h.toNat - l.toNat))) m) :
    onM (sliceS P nx (some ban) t1 ⟨t, m⟩ (.at (.ow k ver sz n)) lo hi none) K := by
  cases hl : boundS ⟨t, m⟩ lo 0 with
  | none => rw [hl] at h; exact h.elim
  | some l =>
    cases hh : boundS ⟨t, m⟩ hi n with
    | none => rw [hl, hh] at h; exact h.elim
    | some h' =>
      rw [hl, hh] at h
      simp only [sliceS, ht, hs, hl, hh, Option.isSome_some, Bool.true_eq_false, false_and, and_false, if_false, true_and, if_true, onM]
      exact h
theorem cut_ow_k {lo hi : Option Operand} {k ver sz n : Nat} (ht : P.underlying t1 = some (.slice e)) (hs : szT P e = some sz)
    (h : nx ≤ k ∧ onO (boundS ⟨t, m⟩ lo 0) fun l => onO (boundS ⟨t, m⟩ hi n) fun h => arrAt (m k) ver sz fun rows => (0 ≤ l ∧ l ≤ h ∧ h ≤ (n : Int)) ∧ K (.at (.ow k (ver + 1) sz (h.toNat - l.toNat))) (upd m k (.arr (ver + 1) sz ((rows.drop l.toNat).take (h.toNat - l.toNat))))) :
    onM (sliceS P nx none t1 ⟨t, m⟩ (.at (.ow k ver sz n)) lo hi none) K := by
  obtain ⟨hk, h⟩ := h
  cases hl : boundS ⟨t, m⟩ lo 0 with
  | none => rw [hl] at h; exact h.elim
  | some l =>
    cases hh : boundS ⟨t, m⟩ hi n with
    | none => rw [hl, hh] at h; exact h.elim
    | some h' =>
      rw [hl, hh] at h
      simp only [onO] at h
      unfold arrAt at h
      split at h
      · rename_i hm
        obtain ⟨⟨rfl, rfl⟩, h⟩ := h
        rw [cut_ow ht hs hk hm hl hh]; exact h
      · exact h.elim

/-! ### Loads from arrays of our own -/
def rowAt (e : Ent) (ver sz i : Nat) (K : List Value → Prop) : Prop :=
  match e with
  | .arr ver' sz' rows => (ver = ver' ∧ sz = sz') ∧ i < rows.length ∧ ∀ r, rows[i]? = some r → K r
  | .ice ver' sz' rows => (ver = ver' ∧ sz = sz') ∧ i < rows.length ∧ ∀ r, rows[i]? = some r → K r
  | _ => False
theorem rowAt_arr {ver sz i : Nat} {rows : List (List Value)} {K : List Value → Prop} : rowAt (.arr ver sz rows) ver sz i K = (i < rows.length ∧ ∀ r, rows[i]? = some r → K r) := by simp [rowAt]
theorem rowAt_ice {ver sz i : Nat} {rows : List (List Value)} {K : List Value → Prop} : rowAt (.ice ver sz rows) ver sz i K = (i < rows.length ∧ ∀ r, rows[i]? = some r → K r) := by simp [rowAt]
theorem load_paA {κ ver sz i off : Nat} {K : AV → Prop} (h : aggT P t1 = some false) (hk : off < sz ∧ rowAt (m κ) ver sz i fun r => K (.at (.v (r.getD off undef)))) : onR (loadS P t1 m (.at (.pa κ ver sz i off))) K := by
  obtain ⟨ho, hk⟩ := hk
  unfold rowAt at hk
  split at hk
  · rename_i hm
    obtain ⟨⟨rfl, rfl⟩, h1, h2⟩ := hk
    rw [load_pa1 h hm]; exact ⟨⟨h1, ho⟩, h2⟩
  · rename_i hm
    obtain ⟨⟨rfl, rfl⟩, h1, h2⟩ := hk
    rw [load_ia1 h hm]; exact ⟨⟨h1, ho⟩, h2⟩
  · exact hk.elim
theorem load_paB {κ ver sz i off s : Nat} {K : AV → Prop} (h : aggT P t1 = some true) (hs : szT P t1 = some s) (hk : off + s ≤ sz ∧ rowAt (m κ) ver sz i fun r => K (.ag (((r.drop off).take s).map .v))) : onR (loadS P t1 m (.at (.pa κ ver sz i off))) K := by
  obtain ⟨ho, hk⟩ := hk
  unfold rowAt at hk
  split at hk
  · rename_i hm
    obtain ⟨⟨rfl, rfl⟩, h1, h2⟩ := hk
    rw [load_paN h hs hm]; exact ⟨⟨h1, ho⟩, h2⟩
  · rename_i hm
    obtain ⟨⟨rfl, rfl⟩, h1, h2⟩ := hk
    rw [load_iaN h hs hm]; exact ⟨⟨h1, ho⟩, h2⟩
  · exact hk.elim

/-! ### What is known of a slice's type, of a struct's -/
structure SI where
  e : TypeId
  sz : Nat
  by_ : Nat
  z : List Value
def siOf (P : Program) (t : TypeId) : Option SI :=
  match P.underlying t with
  | some (.slice e) =>
    match szT P e, zeroVals P e, (P.info? e).map (·.bytes) with
    | some (sz + 1), some z, some b => if z.length = sz + 1 ∧ z.all (·.oneCell') = true then some ⟨e, sz + 1, b, z⟩ else none
    | _, _, _ => none
  | _ => none
theorem siOf_some {I : SI} (h : siOf P t1 = some I) : ∃ sz, I.sz = sz + 1 ∧ P.underlying t1 = some (.slice I.e) ∧ szT P I.e = some (sz + 1) ∧ zeroVals P I.e = some I.z ∧ (P.info? I.e).map (·.bytes) = some I.by_ ∧ I.z.length = sz + 1 ∧ I.z.all (·.oneCell') = true := by
  unfold siOf at h
  split at h
  · rename_i e ht
    split at h
    · rename_i sz z b h1 h2 h3
      split at h
      · rename_i h4
        simp only [Option.some.injEq] at h; subst h
        exact ⟨sz, rfl, ht, h1, h2, h3, h4.1, h4.2⟩
      · cases h
    · cases h
  · cases h
structure TI where
  fs : List Field
  z : List A
def tiOf (P : Program) (t : TypeId) : Option TI :=
  match P.underlying t, zeroAtoms P t with
  | some (.struct fs), some z => if z.all A.solid = true ∧ fs.toList.all (fun (fd : Field) => (szT P fd.type).isSome) = true then some ⟨fs.toList, z⟩ else none
  | _, _ => none
theorem tiOf_some {I : TI} (h : tiOf P t1 = some I) : ∃ fs, P.underlying t1 = some (.struct fs) ∧ I.fs = fs.toList ∧ zeroAtoms P t1 = some I.z ∧ I.z.all A.solid = true ∧ fs.toList.all (fun (fd : Field) => (szT P fd.type).isSome) = true := by
  unfold tiOf at h
  split at h
  · rename_i fs z h1 h2
    split at h
    · rename_i h4
      simp only [Option.some.injEq] at h; subst h
      exact ⟨fs, h1, rfl, h2, h4.1, h4.2⟩
    · cases h
  · cases h

def strFlag (P : Program) (t1 t2 : TypeId) : Option Bool := if t2 = t1 then some false else if isStr P t2 = true then some true else none
def loadK (P : Program) (t1 : TypeId) (m : Mem) (X : AV) (K : AV → Prop) : Prop :=
  match X with
  | .at (.pa κ ver sz i off) =>
    match aggT P t1, szT P t1 with
    | some true, some s => off + s ≤ sz ∧ rowAt (m κ) ver sz i fun r => K (.ag (((r.drop off).take s).map .v))
    | some false, some s => off < sz ∧ rowAt (m κ) ver sz i fun r => K (.at (.v (r.getD off undef)))
    | _, _ => False
  | X => onR (loadS P t1 m X) K
def copyK (P : Program) (t1 : TypeId) (m : Mem) (X Y : AV) (K : AV → Mem → Prop) : Prop :=
  match X, Y with
  | .at (.vw k ver sz off n), .at (.vw k' ver' sz' off' n') => onO (siOf P t1) fun I => (k' = k ∧ ver' = ver ∧ sz' = sz ∧ I.sz = sz) ∧ arrAt (m k) ver sz fun rows => K (.at (.v (.int .i64 ((min n' n : Nat) : Int)))) (upd m k (.arr ver sz (splice rows off ((rows.drop off').take (min n' n)))))
  | _, _ => False
def sliceK (P : Program) (nx : Nat) (q : Qm) (t1 : TypeId) (σ : St) (X : AV) (lo hi mx : Option Operand) (K : AV → Mem → Prop) : Prop :=
  match X, mx, q with
  | .at (.ow k ver sz n), none, none => onO (siOf P t1) fun I => I.sz = sz ∧ nx ≤ k ∧ onO (boundS σ lo 0) fun l => onO (boundS σ hi n) fun h => arrAt (σ.m k) ver sz fun rows => (0 ≤ l ∧ l ≤ h ∧ h ≤ (n : Int)) ∧ K (.at (.ow k (ver + 1) sz (h.toNat - l.toNat))) (upd σ.m k (.arr (ver + 1) sz ((rows.drop l.toNat).take (h.toNat - l.toNat))))
  | .at (.ow k ver sz n), none, some _ => onO (siOf P t1) fun I => I.sz = sz ∧ onO (boundS σ lo 0) fun l => onO (boundS σ hi n) fun h => (0 ≤ l ∧ l ≤ h ∧ h ≤ (n : Int)) ∧ K (.at (.vw k ver sz l.toNat (h.toNat - l.toNat))) σ.m
  | X, mx, q => onM (sliceS P nx q t1 σ X lo hi mx) K

/-- In a drawn region only an array that has nothing yet may grow. -/
def noRowsE (e : Ent) : Prop :=
  match e with
  | .arr _ _ rows => rows = []
  | _ => False
def noRowsP (m : Mem) (X : AV) : Prop :=
  match X with
  | .at .nil => True
  | .at (.ow k _ _ _) => noRowsE (m k)
  | _ => False
def inBanP (ban : List Nat) (X : AV) : Prop :=
  match X with
  | .at (.ow k _ _ _) => k ∈ ban
  | _ => False
def quietP (q : Qm) (m : Mem) (X : AV) : Prop :=
  match q with
  | none => True
  | some [] => noRowsP m X
  | some (b :: l) => inBanP (b :: l) X ∨ noRowsP m X
theorem noRowsP_B {m : Mem} {X : AV} (h : noRowsP m X) : noRowsB m X = true := by
  unfold noRowsP at h
  split at h
  · rfl
  · rename_i k v s n
    unfold noRowsE at h
    split at h
    · rename_i hm; subst h; simp only [noRowsB, hm]
    · exact h.elim
  · exact h.elim
theorem inBanP_B {ban : List Nat} {X : AV} (h : inBanP ban X) : inBan ban X = true := by
  unfold inBanP at h
  split at h
  · simpa [inBan, keyW] using h
  · exact h.elim
theorem quietP_B {ban : List Nat} {m : Mem} {X : AV} (h : quietP (some ban) m X) : (noRowsB m X || inBan ban X) = true := by
  cases ban with
  | nil => rw [noRowsP_B h]; rfl
  | cons b l =>
    rcases h with h | h
    · rw [inBanP_B h, Bool.or_true]
    · rw [noRowsP_B h]; rfl
theorem quietP_loud {m : Mem} {X : AV} : quietP none m X = True := rfl
theorem quietP_nil {ban : List Nat} {m : Mem} : quietP (some ban) m (.at .nil) = True := by cases ban <;> simp [quietP, noRowsP]
theorem quietP_ow {m : Mem} {k v s n : Nat} : quietP (some []) m (.at (.ow k v s n)) = noRowsE (m k) := by simp [quietP, noRowsP]
theorem quietP_owB {b : Nat} {l : List Nat} {m : Mem} {k v s n : Nat} : quietP (some (b :: l)) m (.at (.ow k v s n)) = (k ∈ b :: l ∨ noRowsE (m k)) := rfl
theorem noRowsE_arr {v s : Nat} {rows : List (List Value)} : noRowsE (.arr v s rows) = (rows = []) := rfl

/-- One operation: what is left to show. -/
def callW (P : Program) (nx : Nat) (q : Qm) (o : Oper) (c : Call) (K : St → Prop) (σ : St) : Prop :=
  match c.callee, c.args.toList, c.argTypes.toList with
  | .builtin .append, [x, y], [t1, t2] => quietP q σ.m (σ.ev x) ∧ onO (siOf P t1) fun I => onO (strFlag P t1 t2) fun s => appK (siteOf o.dst) nx I.sz I.by_ σ.m (σ.ev x) (newsK s I.sz σ.m (σ.ev y)) fun v m => K ⟨putD σ.t o.dst v, m⟩
  | .builtin .copy, [x, y], [t1, t2] => copyK P t1 σ.m (σ.ev x) (σ.ev y) fun v m => K ⟨putD σ.t o.dst v, m⟩
  | .builtin .max, [x, y], _ => max2K (σ.ev x) (σ.ev y) fun v => K ⟨putD σ.t o.dst v, σ.m⟩
  | .builtin .min, [x, y], _ => min2K (σ.ev x) (σ.ev y) fun v => K ⟨putD σ.t o.dst v, σ.m⟩
  | _, _, _ => actC P nx q o K σ
def actW (P : Program) (nx : Nat) (q : Qm) (o : Oper) (K : St → Prop) (σ : St) : Prop :=
  match o.op with
  | .makeSlice t1 x y => onO (siOf P t1) fun I => makeK I.sz I.by_ nx (siteOf o.dst) I.z σ.m (σ.ev x) (σ.ev y) fun v m => K ⟨putD σ.t o.dst v, m⟩
  | .buildSlice t1 len parts => onO (siOf P t1) fun I => len * I.sz ≤ 16777216 ∧ fillRK σ I.sz parts.toList (List.replicate len I.z) fun rows => σ.m (siteOf o.dst) = .gone ∧ nx ≤ siteOf o.dst ∧ K ⟨putD σ.t o.dst (.at (.ow (siteOf o.dst) 0 I.sz len)), upd σ.m (siteOf o.dst) (.arr 0 I.sz rows)⟩
  | .build t1 parts => onO (tiOf P t1) fun I => fillSK P σ I.fs parts.toList I.z fun cs => K ⟨putD σ.t o.dst (.ag cs), σ.m⟩
  | .load t1 x => freeB q (σ.ev x) ∧ loadK P t1 σ.m (σ.ev x) fun v => K ⟨putD σ.t o.dst v, σ.m⟩
  | .slice t1 x lo hi mx => sliceK P nx q t1 σ (σ.ev x) lo hi mx fun v m => K ⟨putD σ.t o.dst v, m⟩
  | .call c => callW P nx q o c K σ
  | _ => actC P nx q o K σ

theorem actW_C {o : Oper} {K : St → Prop} {σ : St} (h : actW P nx q o K σ) : actC P nx q o K σ := by
  obtain ⟨t, m⟩ := σ
  obtain ⟨d, op, ty, pos, af, g⟩ := o
  cases op with
  | makeSlice t1 x y =>
    simp only [actW] at h
    cases hI : siOf P t1 with
    | none => rw [hI] at h; exact h.elim
    | some I =>
      rw [hI] at h
      obtain ⟨sz, e1, h1, h2, h3, h4, h5, h6⟩ := siOf_some hI
      rw [actC_makeSlice]
      refine make_k h1 h2 h3 h4 h5 h6 ?_
      rw [← e1]; exact h
  | buildSlice t1 len parts =>
    simp only [actW] at h
    cases hI : siOf P t1 with
    | none => rw [hI] at h; exact h.elim
    | some I =>
      rw [hI] at h
      obtain ⟨sz, e1, h1, h2, h3, h4, h5, h6⟩ := siOf_some hI
      rw [actC_buildSlice]
      refine buildSlice_k h1 h2 h3 h5 h6 ?_
      rw [← e1]; exact h
  | build t1 parts =>
    simp only [actW] at h
    cases hI : tiOf P t1 with
    | none => rw [hI] at h; exact h.elim
    | some I =>
      rw [hI] at h
      obtain ⟨fs, h1, h2, h3, h4, h5⟩ := tiOf_some hI
      rw [actC_build]
      refine build_k h1 h3 ⟨h4, h5⟩ ?_
      rw [← h2]; exact h
  | load t1 x =>
    simp only [actW] at h
    rw [actC_load]
    refine ⟨h.1, ?_⟩
    replace h := h.2
    unfold loadK at h
    split at h
    · rename_i κ ver sz i off hx
      rw [hx]
      split at h
      · rename_i s ha hs; exact load_paB ha hs h
      · rename_i s ha hs; exact load_paA ha h
      · exact h.elim
    · exact h
  | slice t1 x lo hi mx =>
    simp only [actW] at h
    rw [actC_slice]
    unfold sliceK at h
    split at h
    · rename_i k ver sz n hx
      cases hI : siOf P t1 with
      | none => rw [hI] at h; exact h.elim
      | some I =>
        rw [hI] at h
        obtain ⟨sz', e1, h1, h2, h3, h4, h5, h6⟩ := siOf_some hI
        obtain ⟨rfl, h⟩ := h
        rw [hx]
        exact cut_ow_k h1 (by rw [h2, e1]) h
    · rename_i k ver sz n hx
      cases hI : siOf P t1 with
      | none => rw [hI] at h; exact h.elim
      | some I =>
        rw [hI] at h
        obtain ⟨sz', e1, h1, h2, h3, h4, h5, h6⟩ := siOf_some hI
        obtain ⟨rfl, h⟩ := h
        rw [hx]
        exact cut_owQ_k h1 (by rw [h2, e1]) h
    · exact h
  | call c =>
    simp only [actW, callW] at h
    split at h
    · rename_i x y t1 t2 hc ha hts
      obtain ⟨callee, args, ats⟩ := c
      simp only at hc ha hts
      subst hc
      obtain ⟨args⟩ := args
      obtain ⟨ats⟩ := ats
      simp only at ha hts
      subst ha; subst hts
      obtain ⟨hqp, h⟩ := h
      cases hI : siOf P t1 with
      | none => rw [hI] at h; exact h.elim
      | some I =>
        rw [hI] at h
        obtain ⟨sz, e1, h1, h2, h3, h4, h5, h6⟩ := siOf_some hI
        cases hS : strFlag P t1 t2 with
        | none => rw [hS] at h; exact h.elim
        | some s =>
          rw [hS] at h
          rw [actC_builtin]
          refine ⟨by
            cases q with
            | none => rfl
            | some ban => exact quietP_B hqp, ?_⟩
          refine app_k h1 h2 h4 (by rw [h3]; simp [h5]) (str := s) ?_ ?_
          · unfold strFlag at hS
            split at hS
            · rename_i h7; simp only [Option.some.injEq] at hS; exact .inl ⟨hS.symm, h7⟩
            · split at hS
              · rename_i h7; simp only [Option.some.injEq] at hS; exact .inr ⟨hS.symm, h7⟩
              · cases hS
          · rw [← e1]; exact h
    · rename_i x y t1 t2 hc ha hts
      obtain ⟨callee, args, ats⟩ := c
      simp only at hc ha hts
      subst hc
      obtain ⟨args⟩ := args
      obtain ⟨ats⟩ := ats
      simp only at ha hts
      subst ha; subst hts
      rw [actC_builtin]
      refine ⟨quietB_copy, ?_⟩
      unfold copyK at h
      split at h
      · rename_i k ver sz off n k' ver' sz' off' n' hx hy
        cases hI : siOf P t1 with
        | none => rw [hI] at h; exact h.elim
        | some I =>
          rw [hI] at h
          obtain ⟨sz2, e1, h1, h2, h3, h4, h5, h6⟩ := siOf_some hI
          obtain ⟨⟨rfl, rfl, rfl, h7⟩, h⟩ := h
          unfold arrAt at h
          split at h
          · rename_i hm
            obtain ⟨⟨rfl, rfl⟩, h⟩ := h
            have hs : szT P I.e = some sz' := by rw [h2, ← e1, h7]
            simp only [builtinS, hx, hy, copyS, h1, hm, hs, and_self, if_true, onM, true_and]
            exact h
          · exact h.elim
      · exact h.elim
    · rename_i x y hc ha
      obtain ⟨callee, args, ats⟩ := c
      simp only at hc ha
      subst hc
      obtain ⟨args⟩ := args
      simp only at ha
      subst ha
      rw [actC_builtin]
      refine ⟨quietB_max, ?_⟩
      unfold max2K at h
      split at h
      · rename_i k a k' b hx hy
        simp only [builtinS, hx, hy, max2S, onM, true_and]
        rw [show (if b > a then b else a) = max a b by split <;> omega]
        exact h
      · exact h.elim
    · rename_i x y hc ha
      obtain ⟨callee, args, ats⟩ := c
      simp only at hc ha
      subst hc
      obtain ⟨args⟩ := args
      simp only at ha
      subst ha
      rw [actC_builtin]
      refine ⟨quietB_min, ?_⟩
      unfold min2K at h
      split at h
      · rename_i k a k' b hx hy
        simp only [builtinS, hx, hy, min2S, onM, true_and]
        rw [show (if b < a then b else a) = min a b by split <;> omega]
        exact h
      · exact h.elim
    · exact h
  | _ => exact h
end
end Go.Abs

/- What has gone before, counted by bits. -/
namespace Go.Abs
open Go.RowKit
set_option linter.unusedVariables false
set_option linter.unusedSimpArgs false

def maskE (ms : List Nat) (e : Edge) (acc : Nat) : Nat := if Region.binds .any e = true ∧ e.on < ms.length then acc ||| (1 <<< e.on ||| ms.getD e.on 0) else acc
def maskO (ms : List Nat) (o : Oper) : Nat := o.after.toList.foldr (maskE ms) 0
def masksF : List Oper → List Nat → List Nat
  | [], ms => ms
  | o :: L, ms => masksF L (ms ++ [maskO ms o])
def masks (ops : Array Oper) : List Nat := masksF ops.toList []

theorem reach_mono {ops : Array Oper} : ∀ {n j i : Nat}, reach ops n j i = true → reach ops (n + 1) j i = true := by
  intro n
  induction n with
  | zero => intro j i h; cases h
  | succ n ih =>
    intro j i h
    rw [reach] at h ⊢
    cases ho : ops[i]? with
    | none => rw [ho] at h; cases h
    | some o =>
      rw [ho] at h
      simp only [Bool.or_eq_true, Array.any_eq_true', Bool.and_eq_true] at h ⊢
      rcases h with h | ⟨e, he, hb, hr⟩
      · exact .inl h
      · exact .inr ⟨e, he, hb, ih hr⟩
theorem reach_le {ops : Array Oper} {n k j i : Nat} (h : reach ops n j i = true) (hk : n ≤ k) : reach ops k j i = true := by
  obtain ⟨d, rfl⟩ : ∃ d, k = n + d := ⟨k - n, by omega⟩
  clear hk
  induction d with
  | zero => exact h
  | succ d ih => exact reach_mono ih

def GoodM (ops : Array Oper) (ms : List Nat) : Prop := ∀ (i m : Nat), ms[i]? = some m → ∀ j, m.testBit j = true → reach ops (i + 1) j i = true

theorem maskO_bit {ms : List Nat} {es : List Edge} {j : Nat} (h : (es.foldr (maskE ms) 0).testBit j = true) :
    ∃ e ∈ es, Region.binds .any e = true ∧ e.on < ms.length ∧ (e.on = j ∨ (ms.getD e.on 0).testBit j = true) := by
  induction es with
  | nil => simp at h
  | cons e es ih =>
    simp only [List.foldr_cons, maskE] at h
    split at h
    · rename_i hc
      rw [Nat.testBit_or, Nat.testBit_or, Bool.or_eq_true, Bool.or_eq_true] at h
      rcases h with h | h | h
      · obtain ⟨e', h1, h2⟩ := ih h
        exact ⟨e', by simp [h1], h2⟩
      · refine ⟨e, by simp, hc.1, hc.2, .inl ?_⟩
        rw [Nat.one_shiftLeft, Nat.testBit_two_pow] at h
        simpa using h
      · exact ⟨e, by simp, hc.1, hc.2, .inr h⟩
    · obtain ⟨e', h1, h2⟩ := ih h
      exact ⟨e', by simp [h1], h2⟩

theorem masks_good {ops : Array Oper} : ∀ (L : List Oper) (ms : List Nat), ops.toList.drop ms.length = L → GoodM ops ms → GoodM ops (masksF L ms) := by
  intro L
  induction L with
  | nil => intro ms _ h; exact h
  | cons o L ih =>
    intro ms hL h
    have ho : ops[ms.length]? = some o := by
      have := congrArg (·[0]?) hL
      simpa using this
    refine ih _ (by rw [List.length_append]; simp only [List.length_cons, List.length_nil, Nat.zero_add]; rw [← List.drop_drop, hL]; rfl) ?_
    intro i m hi j hj
    by_cases hlt : i < ms.length
    · rw [List.getElem?_append_left hlt] at hi
      exact h i m hi j hj
    · have hie : i = ms.length := by
        have := (List.getElem?_eq_some_iff.1 hi).1
        simp at this; omega
      subst hie
      rw [List.getElem?_append_right (Nat.le_refl _), Nat.sub_self] at hi
      simp only [List.getElem?_cons_zero, Option.some.injEq] at hi
      subst hi
      obtain ⟨e, he, hb, hon, hor⟩ := maskO_bit hj
      rw [reach, ho]
      simp only [Bool.or_eq_true, Array.any_eq_true', Bool.and_eq_true, beq_iff_eq]
      rcases hor with rfl | hor
      · exact .inl ⟨e, by simpa using he, hb, rfl⟩
      · refine .inr ⟨e, by simpa using he, hb, ?_⟩
        have hg : ms[e.on]? = some (ms.getD e.on 0) := by rw [List.getD_eq_getElem?_getD, List.getElem?_eq_getElem hon]; rfl
        exact reach_le (h e.on _ hg j hor) (by omega)

def anyB (quiet : Qm) (ops : Array Oper) : Bool :=
  (List.range ops.size).all fun i =>
    match ops[i]? with
    | none => true
    | some oi => oi.after.all (fun e => !Region.binds .any e || decide (e.on < i)) && (List.range i).all fun j =>
        ((masks ops).getD i 0).testBit j || match ops[j]? with | none => true | some oj => pairOk quiet ops oj oi

theorem anyB_Ok {quiet : Qm} {ops : Array Oper} (h : anyB quiet ops = true) : anyOk quiet (ops.size + 1) ops = true := by
  have hgood : GoodM ops (masks ops) := masks_good ops.toList [] rfl (by intro i m hi; simp at hi)
  unfold anyB at h
  unfold anyOk
  rw [List.all_eq_true] at h ⊢
  intro i hi
  have h1 := h i hi
  cases ho : ops[i]? with
  | none => rfl
  | some oi =>
    rw [ho] at h1
    simp only [Bool.and_eq_true] at h1 ⊢
    refine ⟨h1.1, ?_⟩
    have h2 := h1.2
    rw [List.all_eq_true] at h2 ⊢
    intro j hj
    have h3 := h2 j hj
    rw [Bool.or_eq_true] at h3 ⊢
    rcases h3 with h3 | h3
    · left
      have hlt : i < (masks ops).length := by
        refine Decidable.byContradiction fun hn => ?_
        rw [List.getD_eq_getElem?_getD, List.getElem?_eq_none (by omega)] at h3
        simp at h3
      have hg : (masks ops)[i]? = some ((masks ops).getD i 0) := by rw [List.getD_eq_getElem?_getD, List.getElem?_eq_getElem hlt]; rfl
      have : i < ops.size := by simpa using hi
      exact reach_le (hgood i _ hg j h3) (by omega)
    · exact .inr h3
end Go.Abs

/- Calls of functions that are known otherwise than by a contract of this library's own kind. -/
namespace Go.Abs
open Go.RowKit
set_option linter.unusedVariables false
set_option linter.unusedSimpArgs false

/-- A call that leaves 'x' and turns memory from 'm' to 'm''. -/
def GenStp (P : Program) (nx : Nat) (m : Mem) (f : FuncId) (avs : List AV) (m' : Mem) (x : AV) : Prop :=
  Callable P f ∧ ∀ (g : G) (F : Nat → Prop) (lam : Lam) (σ : St) (a : Act) (w : World) (us : List Value), g.P = P → g.nx = nx → σ.m = m → Inv g F lam σ a w → us.length = avs.length →
    (∀ (i : Nat) (y : AV) (u : Value), avs[i]? = some y → us[i]? = some u → RV w F m lam y u) →
    Calls P f us.toArray w fun e w' => ∃ v F' lam', e = .returned v ∧ Nx g F lam m w F' lam' m' w' ∧ RV w' F' m' lam' x v

section
variable {g : G} {F : Nat → Prop} {lam : Lam} {σ : St} {a : Act} {w : World}
theorem gen_sound (hI : Inv g F lam σ a w) {o : Oper} {c : Call} {f : FuncId} {m' : Mem} {x : AV} (ho : o.op = .call c) (hc : c.callee = .value (.func f)) (hd : ∀ d, o.dst = some d → d < g.nt)
    (h : GenStp g.P g.nx σ.m f (c.args.toList.map σ.ev) m' x) {next : Act → World → Prop} {Q : Exit → Act → World → Prop} (hn : ∀ F' lam' a' w', Inv g F' lam' ⟨putD σ.t o.dst x, m'⟩ a' w' → next a' w') : o.wp g.P a w next Q := by
  obtain ⟨hcall, hsc⟩ := h
  unfold Oper.wp
  rw [run_callf ho hc hcall]
  simp only [Oper.upon]
  have hcs := hsc g F lam σ a w (c.args.toList.map a.eval) rfl rfl rfl hI (by simp) (fun i y u hy hu => by
    have hi : i < c.args.toList.length := by
      have := (List.getElem?_eq_some_iff.1 hu).1; simpa using this
    rw [List.getElem?_map, List.getElem?_eq_getElem hi] at hy hu
    simp only [Option.map_some, Option.some.injEq] at hy hu
    subst hy; subst hu
    exact hI.ev _)
  rw [show (c.args.map a.eval) = (c.args.toList.map a.eval).toArray from Array.ext' (by rw [Array.toList_map])]
  refine hcs.mono ?_
  rintro e w' ⟨v, F', lam', rfl, hnx, hrv⟩
  cases hdd : o.dst with
  | none =>
    simp only [hdd, putD] at hn
    exact hn _ _ _ _ (hI.next0 hnx)
  | some d =>
    simp only [hdd, putD] at hn
    exact hn _ _ _ _ (hI.next hnx (hd d hdd) hrv)
end

/-- A call in a region that has its order. -/
def callU (P : Program) (nx : Nat) (f : FuncId) (avs : List AV) (d : Option Nat) (K : St → Prop) (σ : St) : Prop :=
  callC P nx f avs d K σ ∨ ∃ m' x, GenStp P nx σ.m f avs m' x ∧ K ⟨putD σ.t d x, m'⟩
def actU (P : Program) (nx : Nat) (o : Oper) (K : St → Prop) (σ : St) : Prop :=
  match o.op with
  | .call c =>
    match c.callee with
    | .value (.func f) => callU P nx f (c.args.toList.map σ.ev) o.dst K σ
    | _ => actW P nx none o K σ
  | _ => actW P nx none o K σ

section
variable {P : Program} {nx : Nat} {σ : St}
theorem actU_C {o : Oper} {K : St → Prop} (h : actU P nx o K σ) : actC P nx none o K σ ∨ ∃ c f m' x, o.op = .call c ∧ c.callee = .value (.func f) ∧ GenStp P nx σ.m f (c.args.toList.map σ.ev) m' x ∧ K ⟨putD σ.t o.dst x, m'⟩ := by
  obtain ⟨d, op, ty, pos, af, g⟩ := o
  cases op with
  | call c =>
    simp only [actU] at h
    obtain ⟨callee, args, ats⟩ := c
    cases callee with
    | value v =>
      cases v with
      | func f =>
        rcases h with h | ⟨m', x, h1, h2⟩
        · left; simp only [actC]; exact h
        · right; exact ⟨_, f, m', x, rfl, rfl, h1, h2⟩
      | _ => exact .inl (actW_C h)
    | _ => exact .inl (actW_C h)
  | _ => exact .inl (actW_C h)
end
end Go.Abs

/- The walk as computing: code told as what is left to show. -/
namespace Go.Abs
open Go.RowKit
set_option linter.unusedVariables false
set_option linter.unusedSimpArgs false

/-- No memory of the call's own. -/
def M0 : Mem := fun _ => .gone
theorem M0_at {k : Nat} : M0 k = .gone := rfl
theorem ofM_M0 {b : Nat} : ofM 0 b [] [] = M0 := by funext k; simp [ofM, M0]
theorem updL_nil {m : Mem} {B : Nat} : updL m B [] = m := rfl
theorem updL_cons {m : Mem} {B : Nat} {e : Ent} {es : List Ent} : updL m B (e :: es) = updL (upd m B e) (B + 1) es := rfl
theorem ofM_updL {b : Nat} {es : List Ent} : ofM 0 b [] es = updL M0 b es := by
  funext k
  rw [updL_at, M0_at]
  simp only [ofM, Nat.not_lt_zero, if_false]
  by_cases h : b ≤ k
  · rw [if_pos h]
    by_cases h2 : k < b + es.length
    · rw [if_pos ⟨h, h2⟩]
    · rw [if_neg (by omega), List.getD_eq_getElem?_getD, List.getElem?_eq_none (by omega)]; rfl
  · rw [if_neg h, if_neg (by omega)]

/-- A branch: what each way must show. -/
def condK (x : AV) (K1 K2 : Prop) : Prop :=
  match x with
  | .at (.v (.bool b)) => (b = true → K1) ∧ (b = false → K2)
  | _ => False
theorem condK_bool {b : Bool} {K1 K2 : Prop} : condK (.at (.v (.bool b))) K1 K2 = ((b = true → K1) ∧ (b = false → K2)) := rfl
theorem condK_true {K1 K2 : Prop} : condK (.at (.v (.bool true))) K1 K2 = K1 := by simp [condK]
theorem condK_false {K1 K2 : Prop} : condK (.at (.v (.bool false))) K1 K2 = K2 := by simp [condK]

theorem guardK_t {b : Bool} {K1 K2 K3 : Prop} : guardK (.at (.v (.bool b))) true K1 K2 K3 = ((b = true → K1) ∧ (b = false → K2)) := rfl
theorem guardK_f {b : Bool} {K1 K2 K3 : Prop} : guardK (.at (.v (.bool b))) false K1 K2 K3 = ((b = false → K1) ∧ (b = true → K2)) := rfl
theorem guardK_tt {K1 K2 K3 : Prop} : guardK (.at (.v (.bool true))) true K1 K2 K3 = K1 := by simp [guardK]
theorem guardK_tf {K1 K2 K3 : Prop} : guardK (.at (.v (.bool true))) false K1 K2 K3 = K2 := by simp [guardK]
theorem guardK_ft {K1 K2 K3 : Prop} : guardK (.at (.v (.bool false))) true K1 K2 K3 = K2 := by simp [guardK]
theorem guardK_ff {K1 K2 K3 : Prop} : guardK (.at (.v (.bool false))) false K1 K2 K3 = K1 := by simp [guardK]
theorem guardK_no {want : Bool} {K1 K2 K3 : Prop} : guardK (.tp []) want K1 K2 K3 = K3 := rfl

section
variable {P : Program} {nx nt : Nat} {quiet : Qm} {ops : Array Oper} {K : St → Prop} {t : Nat → AV} {m : Mem} {L : List Oper} {σ : St}

/-- The steps of a region; a guard's slot is told by its outcome from there on. -/
def stepG (P : Program) (nx nt : Nat) (quiet : Qm) (ops : Array Oper) (o : Oper) (K : St → Prop) (σ : St) : Prop :=
  dstOk nt o.dst = true ∧
  match o.guard with
  | none => actW P nx quiet o K σ
  | some p =>
    match (ops[p.1]?).bind (·.dst) with
    | some d => guardK (σ.t d) p.2 (actW P nx quiet o K ⟨upd σ.t d (.at (.v (.bool p.2))), σ.m⟩) (K ⟨putD (upd σ.t d (.at (.v (.bool (!p.2))))) o.dst (.tp []), σ.m⟩) (K ⟨putD σ.t o.dst (.tp []), σ.m⟩)
    | none => False
def runG (P : Program) (nx nt : Nat) (quiet : Qm) (ops : Array Oper) : List Oper → (St → Prop) → St → Prop
  | [], K, σ => K σ
  | o :: L, K, σ => stepG P nx nt quiet ops o (runG P nx nt quiet ops L K) σ

theorem upd_self {β : Type} {f : Nat → β} {d : Nat} {x : β} (h : f d = x) : upd f d x = f := by
  funext i
  by_cases hi : i = d
  · subst hi; rw [upd_same, h]
  · rw [upd_ne _ _ hi]

theorem actC_mono {o : Oper} {K K' : St → Prop} (hk : ∀ σ, K σ → K' σ) (h : actC P nx quiet o K σ) : actC P nx quiet o K' σ := by
  have op : opC P nx quiet o K σ → opC P nx quiet o K' σ := by
    rintro ⟨hb, h⟩
    refine ⟨hb, ?_⟩
    split at h
    · exact ⟨h.1, hk _ h.2⟩
    · exact h.elim
  unfold actC at h ⊢
  split at h
  · rename_i cl ho
    split at h
    · rename_i f hf
      cases quiet with
      | some ban =>
        obtain ⟨σ', h1, h2⟩ := h
        exact ⟨σ', h1, hk _ h2⟩
      | none =>
        obtain ⟨σ', h1, h2⟩ := h
        exact ⟨σ', h1, hk _ h2⟩
    · exact op h
  · exact op h

theorem stepG_C {o : Oper} {K K' : St → Prop} (hk : ∀ σ, K σ → K' σ) (h : stepG P nx nt quiet ops o K σ) : stepC P nx nt quiet ops o K' σ := by
  obtain ⟨hd, h⟩ := h
  refine ⟨hd, ?_⟩
  cases hg : o.guard with
  | none => rw [hg] at h; exact actC_mono hk (actW_C h)
  | some p =>
    rw [hg] at h
    dsimp only at h ⊢
    cases hp : (ops[p.1]?).bind (·.dst) with
    | none => rw [hp] at h; exact h.elim
    | some d =>
      rw [hp] at h
      dsimp only at h ⊢
      unfold guardK at h ⊢
      split at h
      · rename_i b hb
        refine ⟨fun e => ?_, fun e => ?_⟩
        · have := h.1 e
          subst e
          rw [upd_self hb] at this
          exact actC_mono hk (actW_C this)
        · have := h.2 e
          rw [← e, upd_self hb] at this
          exact hk _ this
      · exact hk _ h
      · exact h.elim

theorem runG_C {K : St → Prop} : ∀ {L : List Oper} {σ : St}, runG P nx nt quiet ops L K σ → runC P nx nt quiet ops L K σ := by
  intro L
  induction L with
  | nil => intro σ h; exact h
  | cons o L ih => intro σ h; exact stepG_C (fun σ h => ih h) h

theorem runG_nil : runG P nx nt quiet ops [] K σ = K σ := rfl
theorem runG_cons {o : Oper} : runG P nx nt quiet ops (o :: L) K σ = stepG P nx nt quiet ops o (runG P nx nt quiet ops L K) σ := rfl
theorem stepG_plain {d : Option Nat} {op : Op} {ty : TypeId} {pos : String} {af : Array Edge} : stepG P nx nt quiet ops ⟨d, op, ty, pos, af, none⟩ K σ = (dstOk nt d = true ∧ actW P nx quiet ⟨d, op, ty, pos, af, none⟩ K σ) := rfl
theorem stepG_guard {d : Option Nat} {op : Op} {ty : TypeId} {pos : String} {af : Array Edge} {j : Nat} {want : Bool} : stepG P nx nt quiet ops ⟨d, op, ty, pos, af, some (j, want)⟩ K ⟨t, m⟩ =
    (dstOk nt d = true ∧ onO ((ops[j]?).bind (·.dst)) fun s => guardK (t s) want (actW P nx quiet ⟨d, op, ty, pos, af, some (j, want)⟩ K ⟨upd t s (.at (.v (.bool want))), m⟩) (K ⟨putD (upd t s (.at (.v (.bool (!want))))) d (.tp []), m⟩) (K ⟨putD t d (.tp []), m⟩)) := by
  simp only [stepG]
  cases (ops[j]?).bind (·.dst) <;> rfl

/-- .. of a region that has its order. -/
def stepU (P : Program) (nx nt : Nat) (ops : Array Oper) (o : Oper) (K : St → Prop) (σ : St) : Prop :=
  dstOk nt o.dst = true ∧
  match o.guard with
  | none => actU P nx o K σ
  | some p =>
    match (ops[p.1]?).bind (·.dst) with
    | some d => guardK (σ.t d) p.2 (actU P nx o K ⟨upd σ.t d (.at (.v (.bool p.2))), σ.m⟩) (K ⟨putD (upd σ.t d (.at (.v (.bool (!p.2))))) o.dst (.tp []), σ.m⟩) (K ⟨putD σ.t o.dst (.tp []), σ.m⟩)
    | none => False
def runU (P : Program) (nx nt : Nat) (ops : Array Oper) : List Oper → (St → Prop) → St → Prop
  | [], K, σ => K σ
  | o :: L, K, σ => stepU P nx nt ops o (runU P nx nt ops L K) σ
theorem runU_nil : runU P nx nt ops [] K σ = K σ := rfl
theorem runU_cons {o : Oper} : runU P nx nt ops (o :: L) K σ = stepU P nx nt ops o (runU P nx nt ops L K) σ := rfl
theorem stepU_plain {d : Option Nat} {op : Op} {ty : TypeId} {pos : String} {af : Array Edge} : stepU P nx nt ops ⟨d, op, ty, pos, af, none⟩ K σ = (dstOk nt d = true ∧ actU P nx ⟨d, op, ty, pos, af, none⟩ K σ) := rfl
theorem stepU_guard {d : Option Nat} {op : Op} {ty : TypeId} {pos : String} {af : Array Edge} {j : Nat} {want : Bool} : stepU P nx nt ops ⟨d, op, ty, pos, af, some (j, want)⟩ K ⟨t, m⟩ =
    (dstOk nt d = true ∧ onO ((ops[j]?).bind (·.dst)) fun s => guardK (t s) want (actU P nx ⟨d, op, ty, pos, af, some (j, want)⟩ K ⟨upd t s (.at (.v (.bool want))), m⟩) (K ⟨putD (upd t s (.at (.v (.bool (!want))))) d (.tp []), m⟩) (K ⟨putD t d (.tp []), m⟩)) := by
  simp only [stepU]
  cases (ops[j]?).bind (·.dst) <;> rfl

/-- What a step of an ordered region must show, at the machine. -/
theorem stepU_sound {g : G} {F : Nat → Prop} {lam : Lam} {a : Act} {w : World} {o : Oper} (hI : Inv g F lam σ a w) (h : stepU g.P g.nx g.nt ops o K σ) {Q : Exit → Act → World → Prop} {KA : Act → World → Prop}
    (hn : ∀ σ', K σ' → ∀ F' lam' a' w', Inv g F' lam' σ' a' w' → KA a' w') : if Region.wanted o (yielded ops a.tmps) then o.wp g.P a w KA Q ∨ (o.asks g.P a w ∧ LetsOut Q) else KA (a.put o.dst undef) w := by
  have hd : ∀ d, o.dst = some d → d < g.nt := fun d e => by have := h.1; rw [e] at this; simpa [dstOk] using this
  -- a step of the elder kind
  have elder : ∀ {K' : St → Prop}, stepC g.P g.nx g.nt none ops o K σ → if Region.wanted o (yielded ops a.tmps) then o.wp g.P a w KA Q ∨ (o.asks g.P a w ∧ LetsOut Q) else KA (a.put o.dst undef) w := by
    intro _ hc
    obtain ⟨σ', h1, h2⟩ := stepC_sound hc
    exact stp_sound hI rfl h1 fun F' lam' a' w' h => hn σ' h2 F' lam' a' w' h
  obtain ⟨hd0, h⟩ := h
  cases hg : o.guard with
  | none =>
    rw [hg] at h
    rcases actU_C h with h | ⟨c, f, m', x, h1, h2, h3, h4⟩
    · exact elder (K' := K) ⟨hd0, by rw [hg]; exact h⟩
    · rw [wanted_of_none (by simp [guardOf, hg])]
      simp only [if_true]
      exact .inl (gen_sound hI h1 h2 hd h3 fun F' lam' a' w' h => hn _ h4 F' lam' a' w' h)
  | some p =>
    rw [hg] at h
    dsimp only at h
    cases hp : (ops[p.1]?).bind (·.dst) with
    | none => rw [hp] at h; exact h.elim
    | some d =>
      rw [hp] at h
      dsimp only at h
      have hgo : guardOf ops o = some (some d, p.2) := by simp [guardOf, hg, hp]
      unfold guardK at h
      split at h
      · rename_i b hb
        by_cases hbp : b = p.2
        · have h5 := h.1 hbp
          subst hbp
          rw [upd_self hb] at h5
          rcases actU_C h5 with h6 | ⟨c, f, m', x, h1, h2, h3, h4⟩
          · exact elder (K' := K) ⟨hd0, by rw [hg]; dsimp only; rw [hp]; dsimp only; rw [hb]; exact ⟨fun _ => h6, fun e => by cases hp2 : p.2 <;> simp [hp2] at e⟩⟩
          · rw [wanted_of_some hI hgo hb]
            simp only [beq_self_eq_true, if_true]
            exact .inl (gen_sound hI h1 h2 hd h3 fun F' lam' a' w' h => hn _ h4 F' lam' a' w' h)
        · have e' : b = !p.2 := by cases b <;> cases hp2 : p.2 <;> simp_all
          have h5 := h.2 e'
          rw [← e', upd_self hb] at h5
          exact elder (K' := K) ⟨hd0, by rw [hg]; dsimp only; rw [hp]; dsimp only; rw [hb]; exact ⟨fun e => absurd e hbp, fun _ => h5⟩⟩
      · rename_i hb
        exact elder (K' := K) ⟨hd0, by rw [hg]; dsimp only; rw [hp]; dsimp only; rw [hb]; exact h⟩
      · exact h.elim

theorem runU_sound {g : G} {Q : Exit → Act → World → Prop} (hn : ∀ σ', K σ' → ∀ F' lam' a' w', Inv g F' lam' σ' a' w' → Q .normal a' w') :
    ∀ (L : List Oper) (k : Nat) (σ : St) (F : Nat → Prop) (lam : Lam) (a : Act) (w : World), ops.toList.drop k = L → runU g.P g.nx g.nt ops L K σ → Inv g F lam σ a w → wpOps g.P ops Q (List.range' k L.length) a w := by
  intro L
  induction L with
  | nil => intro k σ F lam a w _ h hI; exact hn σ h F lam a w hI
  | cons o L ih =>
    intro k σ F lam a w hL h hI
    have hk : ops.toList[k]? = some o := by
      have := congrArg (·[0]?) hL
      simpa using this
    rw [List.length_cons, List.range'_succ, wpOps_cons]
    unfold wpOp
    rw [show ops[k]? = some o by simpa using hk]
    exact stepU_sound hI h fun σ' hK F' lam' a' w' hI' => ih (k + 1) σ' F' lam' a' w' (by rw [← List.drop_drop, hL]; rfl) hK hI'

theorem T.regionU {Q : Post} {id : Nat} (h : runU P nx nt ops ops.toList (Q .normal) σ) : T P nx nt (.region id ops false) Q σ := fun g F lam a w h1 h2 h3 hI => by
  subst h1; subst h2; subst h3
  refine wp_region ?_
  have := runU_sound (K := Q .normal) (Q := fun e a' w' => ∃ σ' F' lam', Q e σ' ∧ Inv g F' lam' σ' a' w') (fun σ' hK F' lam' a' w' hI' => ⟨σ', F', lam', hK, hI'⟩) ops.toList 0 σ F lam a w rfl h hI
  rw [List.range_eq_range']; simpa using this

def drawnK (ops : Array Oper) (R : Qm → Prop) : Prop := ∃ q, anyB q ops = true ∧ R q

/-- What is left to show of code. -/
def W (P : Program) (nx nt : Nat) : Code → Post → St → Prop
  | .skip, Q, σ => Q .normal σ
  | .exit id, Q, σ => Q (.exit id) σ
  | .ret, Q, σ => Q .ret σ
  | .seq x y, Q, σ => W P nx nt x (thenS (W P nx nt y Q) Q) σ
  | .block id x, Q, σ => W P nx nt x (blockS id Q) σ
  | .cond c x y, Q, σ => condK (σ.ev c) (W P nx nt x Q σ) (W P nx nt y Q σ)
  | .region _ ops false, Q, σ => runU P nx nt ops ops.toList (Q .normal) σ
  | .region _ ops true, Q, σ => drawnK ops fun q => runG P nx nt q ops ops.toList (Q .normal) σ
  | c, Q, σ => T P nx nt c Q σ

variable {Q : Post} {x y : Code} {id : Nat}
theorem W_skip : W P nx nt .skip Q σ = Q .normal σ := by rw [W]
theorem W_exit : W P nx nt (.exit id) Q σ = Q (.exit id) σ := by rw [W]
theorem W_ret : W P nx nt .ret Q σ = Q .ret σ := by rw [W]
theorem W_seq : W P nx nt (.seq x y) Q σ = W P nx nt x (thenS (W P nx nt y Q) Q) σ := by rw [W]
theorem W_block : W P nx nt (.block id x) Q σ = W P nx nt x (blockS id Q) σ := by rw [W]
theorem W_cond {c : Operand} : W P nx nt (.cond c x y) Q σ = condK (σ.ev c) (W P nx nt x Q σ) (W P nx nt y Q σ) := by rw [W]
theorem W_region : W P nx nt (.region id ops false) Q σ = runU P nx nt ops ops.toList (Q .normal) σ := by rw [W]
theorem W_drawn : W P nx nt (.region id ops true) Q σ = drawnK ops fun q => runG P nx nt q ops ops.toList (Q .normal) σ := by rw [W]
theorem W_loop : W P nx nt (.loop x) Q σ = T P nx nt (.loop x) Q σ := by rw [W] <;> simp

theorem W.T (hm : P.follows .mixedOrders = true) : ∀ {c : Code} {Q : Post} {σ : St}, W P nx nt c Q σ → T P nx nt c Q σ := by
  intro c
  induction c with
  | skip => intro Q σ h; rw [W_skip] at h; exact T.skip h
  | exit id => intro Q σ h; rw [W_exit] at h; exact T.exit h
  | ret => intro Q σ h; rw [W_ret] at h; exact T.ret h
  | seq x y ihx ihy =>
    intro Q σ h
    rw [W_seq] at h
    refine T.seq (T.mono (ihx h) fun e σ hq => ?_)
    cases e with
    | normal => exact ihy hq
    | _ => exact hq
  | block id x ih => intro Q σ h; rw [W_block] at h; exact T.block (ih h)
  | cond c x y ihx ihy =>
    intro Q σ h
    rw [W_cond] at h
    unfold condK at h
    split at h
    · rename_i b hb
      exact T.cond hb (fun e => ihx (h.1 e)) (fun e => ihy (h.2 e))
    · exact h.elim
  | region id ops drawn =>
    intro Q σ h
    cases drawn with
    | false => rw [W_region] at h; exact T.regionU h
    | true =>
      rw [W_drawn] at h
      obtain ⟨q, h1, h2⟩ := h
      exact T.drawn q _ hm (anyB_Ok h1) (runG_C h2)
  | _ => intro Q σ h; simpa only [W] using h

theorem zip_map_self {β γ : Type} (l : List β) (f : β → γ) : l.zip (l.map f) = l.map fun t => (t, f t) := by
  induction l with
  | nil => rfl
  | cons a l ih => simp only [List.map_cons, List.zip_cons_cons, ih]

/-- A loop: at its head only what lives is kept, the call's own memory under the names from 100 on. -/
theorem T.loopV {c : Code} (live ks : List Nat) (I : Nat → List AV → List Ent → Prop) (n : Nat) (hnx : nx ≤ 100) (ext : List Ent) (hext : ext.length = nx)
    (hnd : ks.Nodup) (hown : ∀ k ∈ ks, nx ≤ k) (he : (List.range nx).map (fun k => renE (invOf nx 100 ks) σ.m (σ.m k)) = ext)
    (h0 : I n (live.map fun t => renV (invOf nx 100 ks) σ.m (σ.t t)) (ks.map fun k => renE (invOf nx 100 ks) σ.m (σ.m k)))
    (round : ∀ n vs es, I n vs es → T P nx nt c (thenS (fun σ' => ∃ n' ks', n' < n ∧ (ks'.Nodup ∧ (∀ k ∈ ks', nx ≤ k) ∧ (List.range nx).map (fun k => renE (invOf nx 100 ks') σ'.m (σ'.m k)) = ext) ∧
      I n' (live.map fun t => renV (invOf nx 100 ks') σ'.m (σ'.t t)) (ks'.map fun k => renE (invOf nx 100 ks') σ'.m (σ'.m k))) Q) ⟨ofT (live.zip vs), ofM nx 100 ext es⟩) : T P nx nt (.loop c) Q σ := by
  have hz : ∀ f : Nat → AV, live.zip (live.map f) = live.map fun t => (t, f t) := fun f => zip_map_self live f
  refine T.loopC live ks (fun n σ => ∃ vs es, I n vs es ∧ σ = ⟨ofT (live.zip vs), ofM nx 100 ext es⟩) n hnx hnd hown ⟨_, _, h0, ?_⟩ ?_
  · rw [hz]; unfold Abs.canon; rw [he]
  · rintro n σ ⟨vs, es, hI, rfl⟩
    refine T.mono (round n vs es hI) fun e σ' hq => ?_
    cases e with
    | normal =>
      obtain ⟨n', ks', h1, ⟨h2, h3, h4⟩, h5⟩ := hq
      refine ⟨n', ks', h1, h2, h3, _, _, h5, ?_⟩
      rw [hz]; unfold Abs.canon; rw [h4]
    | _ => exact hq
end

/-! ### What comes out of a call, not written any more. -/
def zA : A → A
  | .fr sz rows => .im sz rows
  | .fb _ => .dead
  | .ow .. => .dead
  | .bx .. => .dead
  | .pa .. => .dead
  | .vw .. => .dead
  | a => a
def zV1 : AV → AV
  | .at a => .at (zA a)
  | .ag cs => .ag (cs.map zA)
  | .tp xs => .tp xs
def zV : AV → AV
  | .tp xs => .tp (xs.map zV1)
  | x => zV1 x

section
variable {g : G} {w : World} {F F2 : Nat → Prop} {m m2 : Mem} {lam : Lam}

def freA (lam : Lam) (F2 : Nat → Prop) (n : Nat) : Prop := ∀ b o, lam n = some (b, o) → F2 b

theorem frozA {a : A} {n : Nat} {u : Value} (hF : ∀ b, F b → F2 b) (hM : ∀ k, EntRel g w F m lam k (m k)) (h : RA w F m lam (instA n a).1 u) (he : ∀ sz rows, a = .fr sz rows → m n = .arr 0 sz rows ∧ freA lam F2 n) : RA w F2 m2 lam (zA a) u := by
  cases a with
  | v x => exact h
  | nil => exact h
  | er => exact h
  | dead => trivial
  | ow k ver sz n => trivial
  | bx k ver off => trivial
  | fb cs => trivial
  | pa k ver sz i off => trivial
  | vw k ver sz off n => trivial
  | pi cs =>
    obtain ⟨b, o, h1, h2, h3⟩ := h
    exact ⟨b, o, h1, hF b h2, h3⟩
  | im sz rows =>
    obtain ⟨h1, a, cap, h2, h3, h4, h5⟩ := h
    refine ⟨h1, a, cap, h2, h3, h4, ?_⟩
    rcases h5 with h5 | ⟨b, o, h5, h6, h7⟩
    · exact .inl h5
    · exact .inr ⟨b, o, h5, hF b h6, h7⟩
  | fr sz rows =>
    obtain ⟨hm, hf⟩ := he sz rows rfl
    obtain ⟨_, _, h4⟩ := h
    obtain ⟨_, _, h5⟩ := h4 sz rows (.inl hm)
    have hE := hM n
    rw [hm] at hE
    obtain ⟨hw, hE⟩ := hE
    refine ⟨hw, ?_⟩
    rcases h5 with ⟨hl, rfl⟩ | ⟨b, o, cap, hl, rfl, h6, h7, _⟩
    · rcases hE with ⟨_, rfl⟩ | ⟨b, o, cur, ty, h3, _⟩
      · exact ⟨none, 0, rfl, Nat.le_refl _, Nat.zero_le _, .inl rfl⟩
      · rw [hl] at h3; cases h3
    · refine ⟨_, cap, rfl, h6, h7, ?_⟩
      rcases hE with ⟨_, rfl⟩ | ⟨b', o', cur, ty, h3, hg, _, _, ho, hc, h1⟩
      · exact .inl rfl
      · rw [hl] at h3; simp only [Option.some.injEq, Prod.mk.injEq] at h3; obtain ⟨rfl, rfl⟩ := h3
        exact .inr ⟨b, o, rfl, hf b o hl, cells_of_arr hg hc h1⟩

theorem RL_cons {R : A → Value → Prop} {a : A} {as : List A} {u : Value} {us : List Value} : RL R (a :: as) (u :: us) ↔ R a u ∧ RL R as us := by
  constructor
  · rintro ⟨h1, h2⟩
    refine ⟨h2 0 a u rfl rfl, by simpa using h1, fun i b v hb hv => h2 (i + 1) b v (by simpa using hb) (by simpa using hv)⟩
  · rintro ⟨h1, h2, h3⟩
    refine ⟨by simpa using h2, fun i b v hb hv => ?_⟩
    cases i with
    | zero => simp at hb hv; subst hb; subst hv; exact h1
    | succ i => exact h3 i b v (by simpa using hb) (by simpa using hv)

theorem instA_n {a : A} {n : Nat} : (instA n a).2 = n + (freshA a).length := by cases a <;> rfl

theorem frozL (hF : ∀ b, F b → F2 b) (hM : ∀ k, EntRel g w F m lam k (m k)) : ∀ {as : List A} {us : List Value} {n : Nat}, RL (fun a x => RA w F m lam a x ∧ x.oneCell' = true) (instL n as).1 us →
    (∀ (j : Nat) e, (as.flatMap freshA)[j]? = some e → m (n + j) = e ∧ freA lam F2 (n + j)) → RL (fun a x => RA w F2 m2 lam a x ∧ x.oneCell' = true) (as.map zA) us := by
  intro as
  induction as with
  | nil =>
    intro us n h _
    cases us with
    | nil => exact ⟨rfl, by simp⟩
    | cons u us => exact absurd h.1 (by simp [instL])
  | cons a as ih =>
    intro us n h he
    cases us with
    | nil => exact absurd h.1 (by simp [instL])
    | cons u us =>
      simp only [instL] at h
      rw [RL_cons] at h
      rw [List.map_cons, RL_cons]
      refine ⟨⟨frozA hF hM h.1.1 fun sz rows e => ?_, h.1.2⟩, ih h.2 fun j e hj => ?_⟩
      · subst e
        exact he 0 _ (by simp [freshA])
      · rw [instA_n, Nat.add_assoc]
        refine he _ e ?_
        rw [List.flatMap_cons, List.getElem?_append_right (by omega), Nat.add_sub_cancel_left]
        exact hj

theorem instL_n : ∀ {as : List A} {n : Nat}, (instL n as).2 = n + (as.flatMap freshA).length := by
  intro as
  induction as with
  | nil => intro n; rfl
  | cons a as ih => intro n; simp only [instL, ih, instA_n, List.flatMap_cons, List.length_append]; omega
theorem inst1_n {x : AV} {n : Nat} : (inst1 n x).2 = n + (fresh1 x).length := by
  cases x with
  | «at» a => exact instA_n
  | ag cs => exact instL_n
  | tp xs => rfl

theorem frozV1 (hF : ∀ b, F b → F2 b) (hM : ∀ k, EntRel g w F m lam k (m k)) {x : AV} {u : Value} {n : Nat} (h : RV1 w F m lam (inst1 n x).1 u)
    (he : ∀ (j : Nat) e, (fresh1 x)[j]? = some e → m (n + j) = e ∧ freA lam F2 (n + j)) : RV1 w F2 m2 lam (zV1 x) u := by
  cases x with
  | «at» a =>
    refine frozA hF hM h fun sz rows e => ?_
    subst e
    exact he 0 _ rfl
  | ag cs =>
    obtain ⟨us, h1, h2⟩ := h
    exact ⟨us, h1, frozL hF hM h2 he⟩
  | tp xs => exact h

theorem frozT (hF : ∀ b, F b → F2 b) (hM : ∀ k, EntRel g w F m lam k (m k)) : ∀ {xs : List AV} {us : List Value} {n : Nat}, (instT n xs).1.length = us.length →
    (∀ (i : Nat) (x : AV) (y : Value), (instT n xs).1[i]? = some x → us[i]? = some y → RV1 w F m lam x y) →
    (∀ (j : Nat) e, (xs.flatMap fresh1)[j]? = some e → m (n + j) = e ∧ freA lam F2 (n + j)) → (xs.map zV1).length = us.length ∧ ∀ (i : Nat) (x : AV) (y : Value), (xs.map zV1)[i]? = some x → us[i]? = some y → RV1 w F2 m2 lam x y := by
  intro xs
  induction xs with
  | nil => intro us n h1 _ _; exact ⟨by simpa [instT] using h1, by simp⟩
  | cons x xs ih =>
    intro us n h1 h2 he
    cases us with
    | nil => simp [instT] at h1
    | cons u us =>
      simp only [instT, List.length_cons, Nat.add_right_cancel_iff] at h1
      obtain ⟨h3, h4⟩ := ih h1 (fun i a b ha hb => h2 (i + 1) a b (by simpa [instT] using ha) (by simpa using hb)) (fun j e hj => by
        rw [inst1_n, Nat.add_assoc]
        refine he _ e ?_
        rw [List.flatMap_cons, List.getElem?_append_right (by omega), Nat.add_sub_cancel_left]
        exact hj)
      refine ⟨by simp at h3 ⊢; exact h3, fun i a b ha hb => ?_⟩
      cases i with
      | zero =>
        simp only [List.map_cons, List.getElem?_cons_zero, Option.some.injEq] at ha hb
        subst ha; subst hb
        refine frozV1 hF hM (h2 0 _ _ rfl rfl) fun j e hj => he j e ?_
        rw [List.flatMap_cons, List.getElem?_append_left (List.getElem?_eq_some_iff.1 hj).1]
        exact hj
      | succ i => exact h4 i a b (by simpa using ha) (by simpa using hb)
end

theorem freshes_zV (res : AV) : freshes (zV res) = [] := by
  have hA : ∀ a, freshA (zA a) = [] := fun a => by cases a <;> rfl
  have h1 : ∀ x, fresh1 (zV1 x) = [] := fun x => by
    cases x with
    | «at» a => exact hA a
    | ag cs => simp [zV1, fresh1, List.flatMap_map, hA]
    | tp xs => rfl
  cases res with
  | «at» a => exact hA a
  | ag cs => exact h1 (.ag cs)
  | tp xs => simp [zV, freshes, List.flatMap_map, h1]

theorem instV_zV (res : AV) : instV 1000 (zV res) = zV res := by
  have hA : ∀ n a, instA n (zA a) = (zA a, n) := fun n a => by cases a <;> rfl
  have hL : ∀ (n : Nat) (as : List A), instL n (as.map zA) = (as.map zA, n) := by
    intro n as
    induction as generalizing n with
    | nil => rfl
    | cons a as ih => simp only [List.map_cons, instL, hA, ih]
  have h1 : ∀ n x, inst1 n (zV1 x) = (zV1 x, n) := fun n x => by
    cases x with
    | «at» a => simp [zV1, inst1, hA]
    | ag cs => simp [zV1, inst1, hL]
    | tp xs => rfl
  have hT : ∀ (n : Nat) (xs : List AV), instT n (xs.map zV1) = (xs.map zV1, n) := by
    intro n xs
    induction xs generalizing n with
    | nil => rfl
    | cons a as ih => simp only [List.map_cons, instT, h1, ih]
  cases res with
  | «at» a => simp [zV, zV1, instV, inst1, hA]
  | ag cs => simp [zV, zV1, instV, inst1, hL]
  | tp xs => simp [zV, instV, hT]

/-- What a call gives may be taken as not written any more. -/
theorem SC.frozen {P : Program} {f : FuncId} {args : List AV} {res : AV} (h : SC P f args [] res []) : SC P f args [] (zV res) [] := by
  refine ⟨h.1, fun w F lam us hF hM hl hv => (h.2 w F lam us hF hM hl hv).mono ?_⟩
  rintro e w' ⟨v, F', lam', rfl, p1, p2, p3, p4, p5, p6, p7⟩
  have hfr : ∀ (j : Nat) e, (freshes res)[j]? = some e → ofM ([] : List Ent).length 1000 [] (freshes res) (1000 + j) = e := by
    intro j e hj
    rw [show ([] : List Ent).length = 0 from rfl, ofM_fresh (Nat.zero_le _), List.getD_eq_getElem?_getD, hj]; rfl
  have hent : ∀ (j : Nat) e, (freshes res)[j]? = some e → ∀ b o, lam' (1000 + j) = some (b, o) → w.heap.size ≤ b ∧ b < w'.heap.size := by
    intro j e hj b o hb
    rcases freshes_arr res e (List.mem_of_getElem? hj) with ⟨sz, rows, rfl⟩ | ⟨cs, rfl, _⟩
    · have := p6.ent (1000 + j)
      rw [hfr j _ hj] at this
      rcases this.2 with ⟨h, _⟩ | ⟨b', o', cur, ty, h3, h4, h5, h6, h7⟩
      · rw [hb] at h; cases h
      · rw [hb] at h3; simp only [Option.some.injEq, Prod.mk.injEq] at h3; obtain ⟨rfl, rfl⟩ := h3
        exact ⟨h6.2 (Nat.zero_le _), (Array.getElem?_eq_some_iff.1 h4).1⟩
    · have := p6.ent (1000 + j)
      rw [hfr j _ hj] at this
      obtain ⟨b', cur, ty, h3, h4, h5, h6, h7⟩ := this
      rw [hb] at h3; simp only [Option.some.injEq, Prod.mk.injEq] at h3; obtain ⟨rfl, rfl⟩ := h3
      exact ⟨h6.2 (Nat.zero_le _), (Array.getElem?_eq_some_iff.1 h4).1⟩
  let F2 : Nat → Prop := fun b => F' b ∨ ∃ j e o, (freshes res)[j]? = some e ∧ lam' (1000 + j) = some (b, o)
  have he : ∀ (j : Nat) e, (freshes res)[j]? = some e → ofM ([] : List Ent).length 1000 [] (freshes res) (1000 + j) = e ∧ freA lam' F2 (1000 + j) :=
    fun j e hj => ⟨hfr j e hj, fun b o hb => .inr ⟨j, e, o, hj, hb⟩⟩
  refine ⟨v, F2, lam', rfl, fun b hb => .inl (p1 b hb), ?_, ?_, p4, p5, ?_, ?_⟩
  · rintro b hb (h | ⟨j, e, o, hj, ho⟩)
    · exact p2 b hb h
    · have := (hent j e hj b o ho).1; omega
  · rintro b (h | ⟨j, e, o, hj, ho⟩)
    · exact p3 b h
    · exact (hent j e hj b o ho).2
  · rw [freshes_zV]
    have hg : ∀ k, ofM ([] : List Ent).length 1000 [] [] k = Ent.gone := by intro k; simp [ofM]
    exact ⟨fun k => by rw [hg]; trivial, fun k k' b o o' h => by rw [hg] at h; exact h.elim⟩
  · rw [instV_zV]
    cases res with
    | «at» a => exact frozV1 (x := .at a) (fun b hb => .inl hb) p6.ent p7 he
    | ag cs => exact frozV1 (x := .ag cs) (fun b hb => .inl hb) p6.ent p7 he
    | tp xs =>
      obtain ⟨us, h1, h2, h3⟩ := p7
      obtain ⟨h4, h5⟩ := frozT (m2 := ofM ([] : List Ent).length 1000 [] (freshes (zV (.tp xs)))) (fun b hb => Or.inl hb) p6.ent h2 h3 he
      exact ⟨us, h1, h4, h5⟩
end Go.Abs

/- Ends of functions, and calls, told as computing. -/
namespace Go.Abs
open Go.RowKit
set_option linter.unusedVariables false
set_option linter.unusedSimpArgs false

/-! ### Ends -/
/-- The arrays of the call's own that a value names. -/
def keysE (k : Nat) : Ent → List Nat
  | .arr .. => [k]
  | _ => []
def keysX (k : Nat) : Ent → List Nat
  | .box .. => [k]
  | _ => []
def keysA (m : Mem) : A → List Nat
  | .ow k _ _ _ => keysE k (m k)
  | .bx k _ _ => keysX k (m k)
  | _ => []
def keysL (m : Mem) : List A → List Nat
  | [] => []
  | a :: as => keysA m a ++ keysL m as
def keys1 (m : Mem) : AV → List Nat
  | .at a => keysA m a
  | .ag cs => keysL m cs
  | .tp _ => []
def keysT (m : Mem) : List AV → List Nat
  | [] => []
  | x :: xs => keys1 m x ++ keysT m xs

/-- A nil slice that is given where an array of one's own is told. -/
def nilK (x : AV) (a b : Prop) : Prop :=
  match x with
  | .at .nil => a
  | _ => b
theorem nilK_nil {a b : Prop} : nilK (.at .nil) a b = a := rfl
theorem nilK_ow {k v s n : Nat} {a b : Prop} : nilK (.at (.ow k v s n)) a b = b := rfl
/-- .. in a box that is given. -/
def nilA (x : A) (a b : Prop) : Prop :=
  match x with
  | .nil => a
  | _ => b
def boxK (e : Ent) (j : Nat) (K : Nat → List A → A → Prop) : Prop :=
  match e with
  | .box v cells => (match cells[j]? with | some x => K v cells x | none => False)
  | _ => False
def bxK (x : AV) (K : Nat → Prop) : Prop :=
  match x with
  | .at (.bx k _ _) => K k
  | _ => False
def ownCell (a : Nat) : Nat → List A → (St → Prop) → St → Prop
  | _, [], K, σ => K σ
  | j, .fr sz _ :: ws, K, σ => bxK (σ.t a) fun k => boxK (σ.m k) j fun v cells x => nilA x (σ.m (600000 + 100 * a + j) = .gone ∧ ownCell a (j + 1) ws K ⟨σ.t, upd (upd σ.m (600000 + 100 * a + j) (.arr 0 sz [])) k (.box v (cells.set j (.ow (600000 + 100 * a + j) 0 sz 0)))⟩) (ownCell a (j + 1) ws K σ)
  | j, _ :: ws, K, σ => ownCell a (j + 1) ws K σ
def ownNil : List ResultVar → List AV → (St → Prop) → St → Prop
  | .tmp t :: rs, .at (.fr sz _) :: ws, K, σ => nilK (σ.t t) (σ.m (500000 + t) = .gone ∧ ownNil rs ws K ⟨upd σ.t t (.at (.ow (500000 + t) 0 sz 0)), upd σ.m (500000 + t) (.arr 0 sz [])⟩) (ownNil rs ws K σ)
  | .cell a _ :: rs, .ag cs :: ws, K, σ => ownCell a 0 cs (ownNil rs ws K) σ
  | _ :: rs, _ :: ws, K, σ => ownNil rs ws K σ
  | _, _, K, σ => K σ
def cellOk : AV → Prop
  | .at (.bx _ _ _) => True
  | _ => False
theorem cellOk_bx {k v o : Nat} : cellOk (.at (.bx k v o)) = True := rfl
def resC (P : Program) (σ : St) : List ResultVar → (List AV → Prop) → Prop
  | [], K => K []
  | .tmp t :: rs, K => resC P σ rs fun xs => K (σ.t t :: xs)
  | .cell a t :: rs, K => cellOk (σ.t a) ∧ onR (loadS P t σ.m (σ.t a)) fun x => resC P σ rs fun xs => K (x :: xs)
def partsOf : AV → List AV
  | .tp xs => xs
  | x => [x]

/-- The frame at a function's end gives what is told. -/
def finX (nx : Nat) (m : Mem) (xs : List AV) (res : AV) (ext' : List Ent) (ks : List Nat) : Prop :=
  ks.Nodup ∧ (∀ k ∈ ks, nx ≤ k) ∧ subR (renV (invOf nx 1000 ks) m (oneOf xs)) (instV 1000 res) ∧ (List.range nx).map (fun k => renE (invOf nx 1000 ks) m (m k)) = ext' ∧ (ks.map fun k => renE (invOf nx 1000 ks) m (m k)) = freshes res
def finW (P : Program) (nx : Nat) (rs : List ResultVar) (res : AV) (ext' : List Ent) : Post
  | .ret, σ => nx ≤ 1000 ∧ ownNil rs (partsOf res) (fun σ => resC P σ rs fun xs => finX nx σ.m xs res ext' (keysT σ.m xs)) σ
  | _, _ => False
/-- .. that gives one plain value. -/
def finV (t : Nat) (x : Value) : Post
  | .ret, σ => σ.t t = .at (.v x)
  | _, _ => False

section
variable {P : Program} {nx : Nat} {σ : St}
theorem ownCell_weak {K : St → Prop} {a : Nat} {hx : nx ≤ 500000} : ∀ {ws : List A} {j : Nat} {σ : St}, ownCell a j ws K σ → ∃ σ1, Weak nx σ σ1 ∧ K σ1 := by
  intro ws
  induction ws with
  | nil => intro j σ h; exact ⟨σ, Weak.refl _ _, h⟩
  | cons w ws ih =>
    intro j σ h
    cases w with
    | fr sz rows =>
      simp only [ownCell] at h
      unfold bxK at h
      split at h
      · rename_i k _ _ _
        unfold boxK at h
        split at h
        · rename_i v cells hk
          split at h
          · rename_i x hj
            unfold nilA at h
            split at h
            · obtain ⟨σ1, h1, h2⟩ := ih h.2
              exact ⟨σ1, Weak.trans (Weak.ownBox σ hk hj h.1 (by omega)) h1, h2⟩
            · exact ih h
          · exact h.elim
        · exact h.elim
      · exact h.elim
    | _ => exact ih h
theorem ownNil_weak {K : St → Prop} {hx : nx ≤ 500000} : ∀ {rs : List ResultVar} {ws : List AV} {σ : St}, ownNil rs ws K σ → ∃ σ1, Weak nx σ σ1 ∧ K σ1 := by
  intro rs
  induction rs with
  | nil => intro ws σ h; cases ws <;> exact ⟨σ, Weak.refl _ _, h⟩
  | cons r rs ih =>
    intro ws σ h
    cases ws with
    | nil => cases r <;> exact ⟨σ, Weak.refl _ _, h⟩
    | cons x ws =>
      cases r with
      | tmp t =>
        cases x with
        | «at» a =>
          cases a with
          | fr sz rows =>
            simp only [ownNil] at h
            unfold nilK at h
            split at h
            · rename_i hn
              obtain ⟨σ1, h1, h2⟩ := ih h.2
              exact ⟨σ1, Weak.trans (Weak.own σ hn h.1 (by omega)) h1, h2⟩
            · exact ih h
          | _ => exact ih h
        | _ => exact ih h
      | cell b ty =>
        cases x with
        | ag cs =>
          obtain ⟨σ1, h1, h2⟩ := ownCell_weak (nx := nx) (hx := hx) h
          obtain ⟨σ2, h3, h4⟩ := ih h2
          exact ⟨σ2, Weak.trans h1 h3, h4⟩
        | _ => exact ih h

theorem resC_at {σ : St} : ∀ {rs : List ResultVar} {K : List AV → Prop}, resC P σ rs K → ∃ xs, resAt P σ rs xs ∧ K xs := by
  intro rs
  induction rs with
  | nil => intro K h; exact ⟨[], trivial, h⟩
  | cons r rs ih =>
    intro K h
    cases r with
    | tmp t =>
      obtain ⟨xs, h1, h2⟩ := ih h
      exact ⟨σ.t t :: xs, (⟨rfl, h1⟩ : _ ∧ _), h2⟩
    | cell a t =>
      obtain ⟨hc, h⟩ := h
      unfold cellOk at hc
      split at hc
      · rename_i k v o hb
        cases hl : loadS P t σ.m (σ.t a) with
        | none => rw [hl] at h; exact h.elim
        | some r =>
          obtain ⟨x, c⟩ := r
          rw [hl] at h
          obtain ⟨hcc, h⟩ := h
          obtain ⟨xs, h1, h2⟩ := ih h
          exact ⟨x :: xs, (⟨⟨k, v, o, c, hb, hl, hcc⟩, h1⟩ : _ ∧ _), h2⟩
      · exact hc.elim

theorem finW_S {fn : Func} {rs : List ResultVar} {res : AV} {ext' : List Ent} (hr : fn.results.toList = rs) : ∀ e σ, finW P nx rs res ext' e σ → finS P nx fn res ext' e σ := by
  intro e σ h
  cases e with
  | ret =>
    obtain ⟨hnx, h⟩ := h
    obtain ⟨σ1, hw, h⟩ := ownNil_weak (nx := nx) (hx := by omega) h
    obtain ⟨xs, h1, h2, h3, h4, h5, h6⟩ := resC_at h
    exact ⟨σ1, xs, _, hw, by rw [hr]; exact h1, hnx, h2, h3, h4, h5, h6⟩
  | _ => exact h.elim

theorem finV_S {fn : Func} {t : Nat} {x : Value} (hr : fn.results = #[.tmp t]) : ∀ e σ, finV t x e σ → finS P 0 fn (.at (.v x)) [] e σ := by
  intro e σ h
  cases e with
  | ret => exact fin_plain hr h
  | _ => exact h.elim

theorem SC.of_W {f : FuncId} {fn : Func} {c : Code} {args : List AV} {ext : List Ent} {res : AV} {ext' : List Ent} {rs : List ResultVar} (hm : P.follows .mixedOrders = true) (hf : P.funcs[f]? = some fn) (hn : (fn.name == "runtime.NumGoroutine") = false) (hb : fn.body = some c)
    (hr : fn.results = rs.toArray) (n : Nat) (hnt : fn.ntmps = n) (hsz : args.length ≤ n) (h : W P ext.length n c (finW P ext.length rs res ext') ⟨ofT (slotsOf 0 args), ofM ext.length 1000 ext []⟩) : SC P f args ext res ext' := by
  subst hnt
  exact SC.of_T hf hn hb hsz (T.mono (W.T hm h) (finW_S (by rw [hr])))
theorem SC.of_V {f : FuncId} {fn : Func} {c : Code} {args : List AV} {x : Value} {t : Nat} (hm : P.follows .mixedOrders = true) (hf : P.funcs[f]? = some fn) (hn : (fn.name == "runtime.NumGoroutine") = false) (hb : fn.body = some c)
    (hr : fn.results = #[.tmp t]) (n : Nat) (hnt : fn.ntmps = n) (hsz : args.length ≤ n) (h : W P 0 n c (finV t x) ⟨ofT (slotsOf 0 args), M0⟩) : SC P f args [] (.at (.v x)) [] := by
  subst hnt
  rw [← ofM_M0] at h
  exact SC.of_T hf hn hb hsz (T.mono (W.T hm h) (finV_S hr))
end

/-! ### Loops -/
def boxKeys (m : Mem) : Ent → List Nat
  | .box _ cells => keysL m cells
  | _ => []
def keysB (m : Mem) : A → List Nat
  | .ow k _ _ _ => keysE k (m k)
  | .bx k _ _ => k :: boxKeys m (m k)
  | _ => []
def keysV (m : Mem) : List AV → List Nat
  | [] => []
  | .at a :: xs => keysB m a ++ keysV m xs
  | .ag cs :: xs => keysL m cs ++ keysV m xs
  | .tp _ :: xs => keysV m xs
theorem keysV_nil {m : Mem} : keysV m [] = [] := rfl
theorem keysV_at {m : Mem} {a : A} {xs : List AV} : keysV m (.at a :: xs) = keysB m a ++ keysV m xs := rfl
theorem keysV_ag {m : Mem} {cs : List A} {xs : List AV} : keysV m (.ag cs :: xs) = keysL m cs ++ keysV m xs := rfl

/-- What a loop's head keeps: the slots that live, and the memory that they name, in their order. -/
def headK (live : List Nat) (σ : St) (I : List AV → List Ent → Prop) : Prop :=
  (keysV σ.m (live.map σ.t)).Nodup ∧ I (live.map fun t => renV (invOf 0 100 (keysV σ.m (live.map σ.t))) σ.m (σ.t t)) ((keysV σ.m (live.map σ.t)).map fun k => renE (invOf 0 100 (keysV σ.m (live.map σ.t))) σ.m (σ.m k))
theorem headK_eq {live : List Nat} {t : Nat → AV} {m : Mem} {I : List AV → List Ent → Prop} : headK live ⟨t, m⟩ I =
    ((keysV m (live.map t)).Nodup ∧ I (live.map fun k => renV (invOf 0 100 (keysV m (live.map t))) m (t k)) ((keysV m (live.map t)).map fun k => renE (invOf 0 100 (keysV m (live.map t))) m (m k))) := rfl

theorem T.loopW {P : Program} {nt : Nat} {c : Code} {Q : Post} {σ : St} (hm : P.follows .mixedOrders = true) (live : List Nat) (I : Nat → List AV → List Ent → Prop) (n : Nat) (h0 : headK live σ (I n))
    (round : ∀ n vs es, I n vs es → W P 0 nt c (thenS (fun σ' => ∃ n', n' < n ∧ headK live σ' (I n')) Q) ⟨ofT (live.zip vs), updL M0 100 es⟩) : T P 0 nt (.loop c) Q σ :=
  T.loopV live _ I n (Nat.zero_le _) [] rfl h0.1 (fun _ _ => Nat.zero_le _) rfl h0.2 fun n vs es hI => by
    rw [ofM_updL]
    refine T.mono (Q := thenS (fun σ' => ∃ n', n' < n ∧ headK live σ' (I n')) Q) (W.T hm (round n vs es hI)) ?_
    · intro e σ' hq
      cases e with
      | normal => obtain ⟨n', h1, h2, h3⟩ := hq; exact ⟨n', _, h1, ⟨h2, fun _ _ => Nat.zero_le _, rfl⟩, h3⟩
      | _ => exact hq

/-! ### Calls -/
section
variable {P : Program} {nx : Nat} {f : FuncId} {avs args : List AV} {d : Option Nat} {K : St → Prop} {t : Nat → AV} {m : Mem} {res : AV}

def isArr : Ent → Bool
  | .arr .. => true
  | _ => false
theorem isArr_some {e : Ent} (h : isArr e = true) : ∃ ver sz rows, e = .arr ver sz rows := by
  cases e <;> simp [isArr] at h
  exact ⟨_, _, _, rfl⟩
def borOk (m : Mem) : List Nat → Prop
  | [] => True
  | k :: ks => isArr (m k) = true ∧ borOk m ks
theorem borOk_all {m : Mem} : ∀ {bor : List Nat}, borOk m bor → ∀ k ∈ bor, ∃ ver sz rows, m k = .arr ver sz rows := by
  intro bor
  induction bor with
  | nil => intro _ k hk; cases hk
  | cons b bor ih =>
    intro h k hk
    rcases List.mem_cons.1 hk with rfl | hk
    · exact isArr_some h.1
    · exact ih h.2 k hk
def ownOk (nx : Nat) : List Nat → Prop
  | [] => True
  | k :: ks => nx ≤ k ∧ ownOk nx ks
theorem ownOk_all : ∀ {bor : List Nat}, ownOk nx bor → ∀ k ∈ bor, nx ≤ k := by
  intro bor
  induction bor with
  | nil => intro _ k hk; cases hk
  | cons b bor ih =>
    intro h k hk
    rcases List.mem_cons.1 hk with rfl | hk
    · exact h.1
    · exact ih h.2 k hk

theorem Gone_M0 {B : Nat} : Gone M0 B = True := by apply propext; exact ⟨fun _ => trivial, fun _ j _ => rfl⟩
theorem Gone_up {m : Mem} {k B : Nat} {e : Ent} (h : k < B ∨ B + 16 ≤ k) : Gone (upd m k e) B = Gone m B := Gone_upd (by simpa using h)

/-- What a call must find. -/
def CallX (nx : Nat) (bor : List Nat) (fz : Bool) (avs args : List AV) (m : Mem) (B : Nat) (res : AV) : Prop :=
  subT (avs.map (passV [] bor m)) args ∧ Gone m B ∧ nx ≤ B ∧ (freshes res).length ≤ 16 ∧ borOk m bor ∧ (fz = true ∨ bor = [] ∨ res.noIm = true) ∧ (fz = false ∨ ownOk nx bor)

/-- A call that is lent arrays. -/
theorem callX (bor : List Nat) (h : SC P f args [] res []) (hx : CallX nx bor false avs args m (siteOf d) res) (hK : K ⟨putD t d (backV m [] (siteOf d) (instV 1000 res)), updL m (siteOf d) (freshes res)⟩) : callU P nx f avs d K ⟨t, m⟩ :=
  .inl <| callI bor h hx.1 hx.2.1 hx.2.2.1 hx.2.2.2.1 (borOk_all hx.2.2.2.2.1) (hx.2.2.2.2.2.1.resolve_left (by simp)) hK
theorem callXQ {ban : List Nat} (bor : List Nat) (h : SC P f args [] res []) (hx : CallX nx bor false avs args m (siteOf d) res) (hK : K ⟨putD t d (backV m [] (siteOf d) (instV 1000 res)), updL m (siteOf d) (freshes res)⟩) : callQ P nx ban f avs d K ⟨t, m⟩ :=
  callIQ bor h hx.1 hx.2.1 hx.2.2.1 hx.2.2.2.1 (borOk_all hx.2.2.2.2.1) (hx.2.2.2.2.2.1.resolve_left (by simp)) hK
/-- .. which nobody writes any more. -/
theorem callXF (bor : List Nat) (h : SC P f args [] res []) (hx : CallX nx bor true avs args m (siteOf d) res) (hK : K ⟨putD t d (backV m [] (siteOf d) (instV 1000 res)), updL (iceL m bor) (siteOf d) (freshes res)⟩) : callU P nx f avs d K ⟨t, m⟩ :=
  .inl <| callF bor h hx.1 hx.2.1 hx.2.2.1 hx.2.2.2.1 (fun k hk => ⟨borOk_all hx.2.2.2.2.1 k hk, ownOk_all (hx.2.2.2.2.2.2.resolve_left (by simp)) k hk⟩) hK
end
end Go.Abs

/- The words by which a simplifier walks. -/
namespace Go.Abs
open Go.RowKit
set_option linter.unusedVariables false
set_option linter.unusedSimpArgs false

/-- A thing that is still to be computed. -/
def todo {β : Type} (x : β) : β := x
theorem todo_eq {β : Type} {x : β} : todo x = x := by simp only [todo]
/-- A thing that is computed first. -/
def evK {β : Type} (x : β) (K : β → Prop) : Prop := K x
theorem evK_eq {β : Type} {x : β} {K : β → Prop} : evK x K = K x := rfl

/-! ### Only what decides is looked at: the rest waits. -/
section
theorem evK_congr {β : Type} {x y : β} {K : β → Prop} (h : x = y) : evK x K = evK y K := by rw [h]
theorem onR_congr {β : Type} {r s : Option (β × Prop)} {K : β → Prop} (h : r = s) : onR r K = onR s K := by rw [h]
theorem onO_congr {β : Type} {r s : Option β} {K : β → Prop} (h : r = s) : onO r K = onO s K := by rw [h]
theorem onM_congr {r s : Option (AV × Mem × Prop)} {K : AV → Mem → Prop} (h : r = s) : onM r K = onM s K := by rw [h]
theorem boxAt_congr {e e' : Ent} {ver : Nat} {K : List A → Prop} (h : e = e') : boxAt e ver K = boxAt e' ver K := by rw [h]
theorem arrAt_congr {e e' : Ent} {ver sz : Nat} {K : List (List Value) → Prop} (h : e = e') : arrAt e ver sz K = arrAt e' ver sz K := by rw [h]
theorem rowAt_congr {e e' : Ent} {ver sz i i' : Nat} {K : List Value → Prop} (h : e = e') (hi : i = i') : rowAt e ver sz i K = rowAt e' ver sz i' K := by rw [h, hi]
theorem condK_congr {x y : AV} {K1 K2 : Prop} (h : x = y) : condK x K1 K2 = condK y K1 K2 := by rw [h]
theorem guardK_congr {x y : AV} {want : Bool} {K1 K2 K3 : Prop} (h : x = y) : guardK x want K1 K2 K3 = guardK y want K1 K2 K3 := by rw [h]
theorem pickK_congr {c c' a a' b b' : AV} {K : AV → Prop} (h : c = c') (h1 : a = a') (h2 : b = b') : pickK c a b K = pickK c' a' b' K := by rw [h, h1, h2]
theorem exK_congr {x y : AV} {i : Nat} {K : AV → Prop} (h : x = y) : exK x i K = exK y i K := by rw [h]
theorem makeK_congr {sz by_ nx site : Nat} {z : List Value} {m : Mem} {X X' Y Y' : AV} {K : AV → Mem → Prop} (h : X = X') (h1 : Y = Y') : makeK sz by_ nx site z m X Y K = makeK sz by_ nx site z m X' Y' K := by rw [h, h1]
theorem max2K_congr {X X' Y Y' : AV} {K : AV → Prop} (h : X = X') (h1 : Y = Y') : max2K X Y K = max2K X' Y' K := by rw [h, h1]
theorem min2K_congr {X X' Y Y' : AV} {K : AV → Prop} (h : X = X') (h1 : Y = Y') : min2K X Y K = min2K X' Y' K := by rw [h, h1]
theorem appK_congr {κ nx sz by_ : Nat} {m : Mem} {X X' : AV} {n n' : Option (List (List Value))} {K : AV → Mem → Prop} (h : X = X') (h1 : n = n') : appK κ nx sz by_ m X n K = appK κ nx sz by_ m X' n' K := by rw [h, h1]
theorem loadK_congr {P : Program} {t1 : TypeId} {m : Mem} {X X' : AV} {K : AV → Prop} (h : X = X') : loadK P t1 m X K = loadK P t1 m X' K := by rw [h]
theorem sliceK_congr {P : Program} {nx : Nat} {q : Qm} {t1 : TypeId} {σ : St} {X X' : AV} {lo hi mx : Option Operand} {K : AV → Mem → Prop} (h : X = X') : sliceK P nx q t1 σ X lo hi mx K = sliceK P nx q t1 σ X' lo hi mx K := by rw [h]
theorem nilK_congr {x y : AV} {a b : Prop} (h : x = y) : nilK x a b = nilK y a b := by rw [h]
theorem callC_congr {P : Program} {nx : Nat} {f : FuncId} {avs avs' : List AV} {d : Option Nat} {K : St → Prop} {σ : St} (h : avs = avs') : callC P nx f avs d K σ = callC P nx f avs' d K σ := by rw [h]
theorem drawnK_congr {ops ops' : Array Oper} {R : Qm → Prop} (h : ops = ops') : drawnK ops R = drawnK ops' R := by rw [h]
theorem callU_congr {P : Program} {nx : Nat} {f : FuncId} {avs avs' : List AV} {d : Option Nat} {K : St → Prop} {σ : St} (h : avs = avs') : callU P nx f avs d K σ = callU P nx f avs' d K σ := by rw [h]
theorem callQ_congr {P : Program} {nx : Nat} {ban : List Nat} {f : FuncId} {avs avs' : List AV} {d : Option Nat} {K : St → Prop} {σ : St} (h : avs = avs') : callQ P nx ban f avs d K σ = callQ P nx ban f avs' d K σ := by rw [h]
theorem T_congr {P : Program} {nx nt nt' : Nat} {c : Code} {Q : Post} {σ : St} (h : nt = nt') : T P nx nt c Q σ = T P nx nt' c Q σ := by rw [h]
end

section
variable {P : Program} {nx : Nat} {q : Qm} {K : St → Prop} {t : Nat → AV} {m : Mem} {d : Option Nat} {ty t1 t2 e : TypeId} {pos : String} {af : Array Edge} {g : Option (Nat × Bool)} {x y : Operand}

theorem actW_move : actW P nx q ⟨d, .move x, ty, pos, af, g⟩ K ⟨t, m⟩ = evK (todo ((⟨t, m⟩ : St).ev x)) fun v => K ⟨putD t d v, m⟩ := actC_move (P := P) (nx := nx) (quiet := q) (K := K) (t := t) (m := m)
theorem actW_assign : actW P nx q ⟨d, .assign x, ty, pos, af, g⟩ K ⟨t, m⟩ = evK (todo ((⟨t, m⟩ : St).ev x)) fun v => K ⟨putD t d v, m⟩ := actC_assign (P := P) (nx := nx) (quiet := q) (K := K) (t := t) (m := m)
theorem actW_pick {c a b : Operand} : actW P nx q ⟨d, .pick c a b, ty, pos, af, g⟩ K ⟨t, m⟩ = pickK (todo ((⟨t, m⟩ : St).ev c)) ((⟨t, m⟩ : St).ev a) ((⟨t, m⟩ : St).ev b) fun v => K ⟨putD t d v, m⟩ := actC_pick (P := P) (nx := nx) (q := q) (K := K) (t := t) (m := m)
theorem actW_bin {o1 : BinOp} : actW P nx q ⟨d, .binOp o1 t1 x y t2, ty, pos, af, g⟩ K ⟨t, m⟩ = (onR (todo (binS P o1 t1 ((⟨t, m⟩ : St).ev x) ((⟨t, m⟩ : St).ev y))) fun v => K ⟨putD t d (.at (.v v)), m⟩) := actC_bin (P := P) (nx := nx) (quiet := q) (K := K) (t := t) (m := m)
theorem actW_un {o1 : UnOp} : actW P nx q ⟨d, .unOp o1 t1 x, ty, pos, af, g⟩ K ⟨t, m⟩ = (onO (todo (unS o1 ((⟨t, m⟩ : St).ev x))) fun v => K ⟨putD t d (.at (.v v)), m⟩) := actC_un (P := P) (nx := nx) (quiet := q) (K := K) (t := t) (m := m)
theorem actW_conv : actW P nx q ⟨d, .convert t1 t2 x, ty, pos, af, g⟩ K ⟨t, m⟩ = (onO (todo (convS P t1 t2 ((⟨t, m⟩ : St).ev x))) fun v => K ⟨putD t d (.at (.v v)), m⟩) := actC_conv (P := P) (nx := nx) (quiet := q) (K := K) (t := t) (m := m)
theorem freeB_nil {X : AV} : freeB (some []) X = True := by simp [freeB]
theorem freeB_bx {b k v o : Nat} {l : List Nat} : freeB (some (b :: l)) (.at (.bx k v o)) = (k ∉ b :: l) := by simp [freeB, keyOf]
theorem freeB_pa {b k v s i o : Nat} {l : List Nat} : freeB (some (b :: l)) (.at (.pa k v s i o)) = (k ∉ b :: l) := by simp [freeB, keyOf]
theorem freeB_pi {q : Qm} {cs : List Value} : freeB q (.at (.pi cs)) = True := by cases q <;> simp [freeB, keyOf]
theorem heldB_bx {b : Nat} {l : List Nat} {k v o : Nat} : heldB (some (b :: l)) (.at (.bx k v o)) = (b = 999999 ∨ k ∈ b :: l) := by simp [heldB, keyOf]
theorem heldB_pa {b : Nat} {l : List Nat} {k v s i o : Nat} : heldB (some (b :: l)) (.at (.pa k v s i o)) = (b = 999999 ∨ k ∈ b :: l) := by simp [heldB, keyOf]
theorem freeB_congr {q : Qm} {X Y : AV} (h : X = Y) : freeB q X = freeB q Y := by rw [h]
theorem heldB_congr {q : Qm} {X Y : AV} (h : X = Y) : heldB q X = heldB q Y := by rw [h]
theorem actW_load : actW P nx none ⟨d, .load t1 x, ty, pos, af, g⟩ K ⟨t, m⟩ = loadK P t1 m (todo ((⟨t, m⟩ : St).ev x)) fun v => K ⟨putD t d v, m⟩ := by
  show (freeB none _ ∧ _) = _
  rw [show freeB none ((⟨t, m⟩ : St).ev x) = True from rfl, true_and]; rfl
theorem actW_loadQ : actW P nx (some []) ⟨d, .load t1 x, ty, pos, af, g⟩ K ⟨t, m⟩ = loadK P t1 m (todo ((⟨t, m⟩ : St).ev x)) fun v => K ⟨putD t d v, m⟩ := by
  show (freeB (some []) _ ∧ _) = _
  rw [freeB_nil, true_and]; rfl
theorem actW_loadB {b : Nat} {l : List Nat} : actW P nx (some (b :: l)) ⟨d, .load t1 x, ty, pos, af, g⟩ K ⟨t, m⟩ = (freeB (some (b :: l)) (todo ((⟨t, m⟩ : St).ev x)) ∧ loadK P t1 m (todo ((⟨t, m⟩ : St).ev x)) fun v => K ⟨putD t d v, m⟩) := rfl
theorem actW_store : actW P nx none ⟨d, .store t1 x y, ty, pos, af, g⟩ K ⟨t, m⟩ = (onR (todo (storeS P t1 m ((⟨t, m⟩ : St).ev x) ((⟨t, m⟩ : St).ev y))) fun m1 => K ⟨putD t d (.at .dead), m1⟩) := by
  refine (actC_store (P := P) (nx := nx) (quiet := none) (K := K) (t := t) (m := m)).trans ?_
  rw [show heldB none ((⟨t, m⟩ : St).ev x) = True from rfl, true_and]; rfl
theorem actW_storeQ : actW P nx (some []) ⟨d, .store t1 x y, ty, pos, af, g⟩ K ⟨t, m⟩ = (onR (todo (storeS P t1 m ((⟨t, m⟩ : St).ev x) ((⟨t, m⟩ : St).ev y))) fun m1 => K ⟨putD t d (.at .dead), m1⟩) := by
  refine (actC_store (P := P) (nx := nx) (quiet := some []) (K := K) (t := t) (m := m)).trans ?_
  rw [show heldB (some []) ((⟨t, m⟩ : St).ev x) = True from rfl, true_and]; rfl
theorem actW_storeB {b : Nat} {l : List Nat} : actW P nx (some (b :: l)) ⟨d, .store t1 x y, ty, pos, af, g⟩ K ⟨t, m⟩ = (heldB (some (b :: l)) (todo ((⟨t, m⟩ : St).ev x)) ∧ onR (todo (storeS P t1 m ((⟨t, m⟩ : St).ev x) ((⟨t, m⟩ : St).ev y))) fun m1 => K ⟨putD t d (.at .dead), m1⟩) :=
  actC_store (P := P) (nx := nx) (quiet := some (b :: l)) (K := K) (t := t) (m := m)
theorem actW_fieldAddr {f : Nat} : actW P nx q ⟨d, .fieldAddr t1 x f, ty, pos, af, g⟩ K ⟨t, m⟩ = (onO (todo (fieldAddrS P t1 f ((⟨t, m⟩ : St).ev x))) fun v => K ⟨putD t d v, m⟩) := actC_fieldAddr (P := P) (nx := nx) (quiet := q) (K := K) (t := t) (m := m)
theorem actW_field {f : Nat} : actW P nx q ⟨d, .field t1 x f, ty, pos, af, g⟩ K ⟨t, m⟩ = (onR (todo (fieldS P t1 f ((⟨t, m⟩ : St).ev x))) fun v => K ⟨putD t d v, m⟩) := actC_field (P := P) (nx := nx) (quiet := q) (K := K) (t := t) (m := m)
theorem actW_indexAddr : actW P nx q ⟨d, .indexAddr t1 x y, ty, pos, af, g⟩ K ⟨t, m⟩ = (onR (todo (indexAddrS P t1 ((⟨t, m⟩ : St).ev x) ((⟨t, m⟩ : St).ev y))) fun v => K ⟨putD t d v, m⟩) := actC_indexAddr (P := P) (nx := nx) (quiet := q) (K := K) (t := t) (m := m)
theorem actW_index : actW P nx q ⟨d, .index t1 x y, ty, pos, af, g⟩ K ⟨t, m⟩ = (onR (todo (indexS P t1 ((⟨t, m⟩ : St).ev x) ((⟨t, m⟩ : St).ev y))) fun v => K ⟨putD t d v, m⟩) := actC_index (P := P) (nx := nx) (quiet := q) (K := K) (t := t) (m := m)
theorem actW_slice {lo hi mx : Option Operand} : actW P nx q ⟨d, .slice t1 x lo hi mx, ty, pos, af, g⟩ K ⟨t, m⟩ = sliceK P nx q t1 ⟨t, m⟩ (todo ((⟨t, m⟩ : St).ev x)) lo hi mx fun v m1 => K ⟨putD t d v, m1⟩ := rfl
theorem actW_box : actW P nx q ⟨d, .box t1 x, ty, pos, af, g⟩ K ⟨t, m⟩ = onO (todo (atomsOf ((⟨t, m⟩ : St).ev x))) fun cells => evK (todo (siteOf d)) fun s => m s = .gone ∧ nx ≤ s ∧ K ⟨putD t d (.at (.bx s 0 0)), upd m s (.box 0 cells)⟩ := actC_boxK (P := P) (nx := nx) (q := q) (K := K) (t := t) (m := m)
theorem actW_alloc : actW P nx q ⟨d, .alloc t1, ty, pos, af, g⟩ K ⟨t, m⟩ = onO (todo (zeroAtoms P t1)) fun cells => evK (todo (siteOf d)) fun s => cells.all A.solid = true ∧ m s = .gone ∧ nx ≤ s ∧ K ⟨putD t d (.at (.bx s 0 0)), upd m s (.box 0 cells)⟩ := actC_allocK (P := P) (nx := nx) (q := q) (K := K) (t := t) (m := m)
theorem actW_extract {i : Nat} : actW P nx q ⟨d, .extract x i, ty, pos, af, g⟩ K ⟨t, m⟩ = exK (todo ((⟨t, m⟩ : St).ev x)) i fun v => K ⟨putD t d v, m⟩ := by
  exact (actC_extract (P := P) (nx := nx) (quiet := q) (K := K) (t := t) (m := m)).trans extract_k
theorem actW_build {parts : Array (Nat × Operand)} : actW P nx q ⟨d, .build t1 parts, ty, pos, af, g⟩ K ⟨t, m⟩ = onO (todo (tiOf P t1)) fun I => evK (todo parts.toList) fun ps => evK (todo I.z) fun z => fillSK P ⟨t, m⟩ I.fs ps z fun cs => K ⟨putD t d (.ag cs), m⟩ := rfl
theorem actW_buildSlice {len : Nat} {parts : Array (Nat × Operand)} : actW P nx q ⟨d, .buildSlice t1 len parts, ty, pos, af, g⟩ K ⟨t, m⟩ = onO (todo (siOf P t1)) fun I => len * I.sz ≤ 16777216 ∧ evK (todo parts.toList) fun ps => evK (todo (List.replicate len I.z)) fun z => evK (todo I.sz) fun sz => fillRK ⟨t, m⟩ sz ps z fun rows => evK (todo (siteOf d)) fun s => evK (todo rows) fun rows => m s = .gone ∧ nx ≤ s ∧ K ⟨putD t d (.at (.ow s 0 sz len)), upd m s (.arr 0 sz rows)⟩ := rfl
theorem actW_make : actW P nx q ⟨d, .makeSlice t1 x y, ty, pos, af, g⟩ K ⟨t, m⟩ = onO (todo (siOf P t1)) fun I => evK (todo (siteOf d)) fun s => makeK I.sz I.by_ nx s I.z m (todo ((⟨t, m⟩ : St).ev x)) ((⟨t, m⟩ : St).ev y) fun v m1 => K ⟨putD t d v, m1⟩ := rfl
theorem actW_len : actW P nx q ⟨d, .call { callee := .builtin .len, args := #[x], argTypes := #[t1] }, ty, pos, af, g⟩ K ⟨t, m⟩ = onO (todo (lenS P t1 ((⟨t, m⟩ : St).ev x))) fun v => K ⟨putD t d (.at (.v v)), m⟩ := by
  refine (actC_builtin (P := P) (nx := nx) (quiet := q) (K := K) (t := t) (m := m)).trans ?_
  rw [quietB_len]; simp only [true_and]
  exact len_call
/-- .. told so that a simplifier looks at the slot first. -/
def quietK (q : Qm) (m : Mem) (X : AV) : Prop := quietP q m X
theorem quietK_congr {q : Qm} {m : Mem} {X X' : AV} (h : X = X') : quietK q m X = quietK q m X' := by rw [h]
theorem quietK_loud {X : AV} : quietK none m X = True := quietP_loud
theorem quietK_nil {ban : List Nat} : quietK (some ban) m (.at .nil) = True := quietP_nil
theorem quietK_ow {k v s n : Nat} : quietK (some []) m (.at (.ow k v s n)) = evK (todo (m k)) noRowsE := quietP_ow
theorem quietK_owB {b k v s n : Nat} {l : List Nat} : quietK (some (b :: l)) m (.at (.ow k v s n)) = (k ∈ b :: l ∨ evK (todo (m k)) noRowsE) := rfl
theorem actW_append : actW P nx q ⟨d, .call { callee := .builtin .append, args := #[x, y], argTypes := #[t1, t2] }, ty, pos, af, g⟩ K ⟨t, m⟩ =
    (quietK q m (todo ((⟨t, m⟩ : St).ev x)) ∧ onO (siOf P t1) fun I => onO (strFlag P t1 t2) fun b => evK (siteOf d) fun s => appK s nx I.sz I.by_ m ((⟨t, m⟩ : St).ev x) (newsK b I.sz m ((⟨t, m⟩ : St).ev y)) fun v m1 => K ⟨putD t d v, m1⟩ ) := rfl
theorem actW_copy : actW P nx q ⟨d, .call { callee := .builtin .copy, args := #[x, y], argTypes := #[t1, t2] }, ty, pos, af, g⟩ K ⟨t, m⟩ =
    copyK P t1 m (todo ((⟨t, m⟩ : St).ev x)) (todo ((⟨t, m⟩ : St).ev y)) fun v m1 => K ⟨putD t d v, m1⟩ := rfl
theorem copyK_congr {P : Program} {t1 : TypeId} {m : Mem} {X X' Y Y' : AV} {K : AV → Mem → Prop} (h : X = X') (h1 : Y = Y') : copyK P t1 m X Y K = copyK P t1 m X' Y' K := by rw [h, h1]
theorem copyK_vw {k ver sz off n k' ver' sz' off' n' : Nat} {K : AV → Mem → Prop} : copyK P t1 m (.at (.vw k ver sz off n)) (.at (.vw k' ver' sz' off' n')) K =
    onO (todo (siOf P t1)) fun I => (k' = k ∧ ver' = ver ∧ sz' = sz ∧ I.sz = sz) ∧ arrAt (todo (m k)) ver sz fun rows => K (.at (.v (.int .i64 ((min n' n : Nat) : Int)))) (upd m k (.arr ver sz (splice rows off ((rows.drop off').take (min n' n))))) := rfl
theorem sliceK_owQ {ban : List Nat} {σ : St} {k ver sz n : Nat} {lo hi : Option Operand} {K : AV → Mem → Prop} : sliceK P nx (some ban) t1 σ (.at (.ow k ver sz n)) lo hi none K =
    (onO (todo (siOf P t1)) fun I => I.sz = sz ∧ onO (todo (boundS σ lo 0)) fun l => onO (todo (boundS σ hi n)) fun h => (0 ≤ l ∧ l ≤ h ∧ h ≤ (n : Int)) ∧ evK (todo l.toNat) fun l' => evK (todo (h.toNat - l.toNat)) fun c => K (.at (.vw k ver sz l' c)) σ.m) := rfl
theorem actW_max {ts : Array TypeId} : actW P nx q ⟨d, .call { callee := .builtin .max, args := #[x, y], argTypes := ts }, ty, pos, af, g⟩ K ⟨t, m⟩ = max2K (todo ((⟨t, m⟩ : St).ev x)) ((⟨t, m⟩ : St).ev y) fun v => K ⟨putD t d v, m⟩ := by
  obtain ⟨ts⟩ := ts
  rcases ts with _ | ⟨a, _ | ⟨b, _ | ⟨c, l⟩⟩⟩ <;> rfl
theorem actW_min {ts : Array TypeId} : actW P nx q ⟨d, .call { callee := .builtin .min, args := #[x, y], argTypes := ts }, ty, pos, af, g⟩ K ⟨t, m⟩ = min2K (todo ((⟨t, m⟩ : St).ev x)) ((⟨t, m⟩ : St).ev y) fun v => K ⟨putD t d v, m⟩ := by
  obtain ⟨ts⟩ := ts
  rcases ts with _ | ⟨a, _ | ⟨b, _ | ⟨c, l⟩⟩⟩ <;> rfl
theorem actW_call {f : FuncId} {args : Array Operand} {ts : Array TypeId} : actW P nx none ⟨d, .call { callee := .value (.func f), args := args, argTypes := ts }, ty, pos, af, g⟩ K ⟨t, m⟩ = evK (todo (args.toList.map (⟨t, m⟩ : St).ev)) fun avs => callC P nx f (todo avs) d K ⟨t, m⟩ := by
  exact actC_call (P := P) (nx := nx) (K := K) (t := t) (m := m)
theorem actW_callQ {ban : List Nat} {f : FuncId} {args : Array Operand} {ts : Array TypeId} : actW P nx (some ban) ⟨d, .call { callee := .value (.func f), args := args, argTypes := ts }, ty, pos, af, g⟩ K ⟨t, m⟩ = evK (todo (args.toList.map (⟨t, m⟩ : St).ev)) fun avs => callQ P nx ban f (todo avs) d K ⟨t, m⟩ := by
  exact actC_callQ (P := P) (nx := nx) (K := K) (t := t) (m := m)

theorem makeK_ev {sz by_ nx site : Nat} {z : List Value} {k k' : IntKind} {n n' : Int} {K : AV → Mem → Prop} : makeK sz by_ nx site z m (.at (.v (.int k n))) (.at (.v (.int k' n'))) K = evK (todo n.toNat) fun j => m site = .gone ∧ (nx ≤ site ∧ n = n' ∧ 0 ≤ n ∧ n ≤ 4611686018427387904 ∧ (by_ : Int) * n ≤ 281474976710656) ∧ K (.at (.ow site 0 sz j)) (upd m site (.arr 0 sz (List.replicate j z))) := rfl
theorem appK_nil_ev {κ nx sz by_ : Nat} {ns : List (List Value)} {K : AV → Mem → Prop} : appK κ nx sz by_ m (.at .nil) (some ns) K = (m κ = .gone ∧ (nx ≤ κ ∧ Room ns.length by_) ∧ evK (todo ns.length) fun j => K (.at (.ow κ 0 sz j)) (upd m κ (.arr 0 sz ns))) := rfl
theorem appK_ow_ev {κ nx sz by_ k ver sz' n : Nat} {ns : List (List Value)} {K : AV → Mem → Prop} : appK κ nx sz by_ m (.at (.ow k ver sz' n)) (some ns) K = arrAt (todo (m k)) ver sz' fun rows => (sz' = sz ∧ nx ≤ k) ∧ evK (todo (rows.length + ns.length)) fun j => Room j by_ ∧ evK (todo (ver + 1)) fun v => evK (todo (rows ++ ns)) fun rs => K (.at (.ow k v sz j)) (upd m k (.arr v sz rs)) := rfl
theorem fillSK_ev {σ : St} {fs : List Field} {i : Nat} {x : Operand} {rest : List (Nat × Operand)} {cells : List A} {K : List A → Prop} : fillSK P σ fs ((i, x) :: rest) cells K = onO (todo fs[i]?) fun fd => onO (todo (atomsOf (σ.ev x))) fun as => szT P fd.type = some as.length ∧ fd.offset + as.length ≤ cells.length ∧ evK (todo (splice cells fd.offset as)) fun cs => fillSK P σ fs rest cs K := rfl
theorem fillRK_ev {σ : St} {sz i : Nat} {x : Operand} {rest : List (Nat × Operand)} {rows : List (List Value)} {K : List (List Value) → Prop} : fillRK σ sz ((i, x) :: rest) rows K = onO (todo ((atomsOf (σ.ev x)).bind valsOf)) fun us => us.length = sz ∧ i < rows.length ∧ evK (todo (rows.set i us)) fun rs => fillRK σ sz rest rs K := rfl
theorem strFlag_same : strFlag P t1 t1 = some false := by simp [strFlag]
theorem loadK_bx {κ ver off : Nat} {K : AV → Prop} : loadK P t1 m (.at (.bx κ ver off)) K = onR (todo (loadS P t1 m (.at (.bx κ ver off)))) K := rfl
theorem loadK_pi {cs : List Value} {K : AV → Prop} : loadK P t1 m (.at (.pi cs)) K = onR (todo (loadS P t1 m (.at (.pi cs)))) K := rfl
theorem loadK_paA {κ ver sz i off : Nat} {K : AV → Prop} {s : Nat} (h : aggT P t1 = some false) (hs : szT P t1 = some s) : loadK P t1 m (.at (.pa κ ver sz i off)) K = (off < sz ∧ rowAt (todo (m κ)) ver sz i fun r => evK (todo (r.getD off undef)) fun u => K (.at (.v u))) := by
  simp only [loadK, h, hs, evK, todo]
theorem loadK_paB {κ ver sz i off : Nat} {K : AV → Prop} {s : Nat} (h : aggT P t1 = some true) (hs : szT P t1 = some s) : loadK P t1 m (.at (.pa κ ver sz i off)) K = (off + s ≤ sz ∧ rowAt (todo (m κ)) ver sz i fun r => evK (todo (((r.drop off).take s).map A.v)) fun cs => K (.ag cs)) := by
  simp only [loadK, h, hs, evK, todo]
theorem sliceK_ow {σ : St} {k ver sz n : Nat} {lo hi : Option Operand} {K : AV → Mem → Prop} : sliceK P nx none t1 σ (.at (.ow k ver sz n)) lo hi none K = (onO (todo (siOf P t1)) fun I => I.sz = sz ∧ nx ≤ k ∧ onO (todo (boundS σ lo 0)) fun l => onO (todo (boundS σ hi n)) fun h => arrAt (todo (σ.m k)) ver sz fun rows => (0 ≤ l ∧ l ≤ h ∧ h ≤ (n : Int)) ∧ evK (todo (h.toNat - l.toNat)) fun j => evK (todo (ver + 1)) fun v => evK (todo ((rows.drop l.toNat).take j)) fun rs => K (.at (.ow k v sz j)) (upd σ.m k (.arr v sz rs))) := rfl
theorem sliceK_im {σ : St} {sz : Nat} {rows : List (List Value)} {lo hi mx : Option Operand} {K : AV → Mem → Prop} : sliceK P nx q t1 σ (.at (.im sz rows)) lo hi mx K = onM (todo (sliceS P nx q t1 σ (.at (.im sz rows)) lo hi mx)) K := rfl
theorem sliceK_nil {σ : St} {lo hi mx : Option Operand} {K : AV → Mem → Prop} : sliceK P nx q t1 σ (.at .nil) lo hi mx K = onM (todo (sliceS P nx q t1 σ (.at .nil) lo hi mx)) K := rfl
theorem sliceK_v {σ : St} {v : Value} {lo hi mx : Option Operand} {K : AV → Mem → Prop} : sliceK P nx q t1 σ (.at (.v v)) lo hi mx K = onM (todo (sliceS P nx q t1 σ (.at (.v v)) lo hi mx)) K := rfl

theorem field_1K {fs : Array Field} {f : Nat} {fd : Field} {cs : List A} {K : AV → Prop} (ht : P.underlying t1 = some (.struct fs)) (hf : fs[f]? = some fd) (h : aggT P fd.type = some false) : onR (fieldS P t1 f (.ag cs)) K = onO (todo cs[fd.offset]?) fun a => K (.at a) := by
  simp only [fieldS, ht, hf, h, todo]
  cases cs[fd.offset]? <;> simp [onR, onO]

theorem W_regionT {nt id : Nat} {ops : Array Oper} {Q : Post} {σ : St} : W P nx nt (.region id ops false) Q σ = evK (todo ops.toList) fun L => runU P nx nt ops L (Q .normal) σ := W_region
theorem stepU_guardT {nt : Nat} {ops : Array Oper} {op : Op} {j : Nat} {want : Bool} : stepU P nx nt ops ⟨d, op, ty, pos, af, some (j, want)⟩ K ⟨t, m⟩ =
    (dstOk nt d = true ∧ onO (todo ((ops[j]?).bind (·.dst))) fun s => guardK (todo (t s)) want (actU P nx ⟨d, op, ty, pos, af, some (j, want)⟩ K ⟨upd t s (.at (.v (.bool want))), m⟩) (K ⟨putD (upd t s (.at (.v (.bool (!want))))) d (.tp []), m⟩) (K ⟨putD t d (.tp []), m⟩)) := stepU_guard
theorem actU_call {f : FuncId} {args : Array Operand} {ts : Array TypeId} : actU P nx ⟨d, .call { callee := .value (.func f), args := args, argTypes := ts }, ty, pos, af, g⟩ K ⟨t, m⟩ = evK (todo (args.toList.map (⟨t, m⟩ : St).ev)) fun avs => callU P nx f (todo avs) d K ⟨t, m⟩ := rfl
theorem actU_builtin {b : Builtin} {args : Array Operand} {ts : Array TypeId} : actU P nx ⟨d, .call { callee := .builtin b, args := args, argTypes := ts }, ty, pos, af, g⟩ K ⟨t, m⟩ = actW P nx none ⟨d, .call { callee := .builtin b, args := args, argTypes := ts }, ty, pos, af, g⟩ K ⟨t, m⟩ := rfl
theorem actU_move  : actU P nx ⟨d, .move x, ty, pos, af, g⟩ K ⟨t, m⟩ = actW P nx none ⟨d, .move x, ty, pos, af, g⟩ K ⟨t, m⟩ := rfl
theorem actU_assign  : actU P nx ⟨d, .assign x, ty, pos, af, g⟩ K ⟨t, m⟩ = actW P nx none ⟨d, .assign x, ty, pos, af, g⟩ K ⟨t, m⟩ := rfl
theorem actU_bin {o1 : BinOp} : actU P nx ⟨d, .binOp o1 t1 x y t2, ty, pos, af, g⟩ K ⟨t, m⟩ = actW P nx none ⟨d, .binOp o1 t1 x y t2, ty, pos, af, g⟩ K ⟨t, m⟩ := rfl
theorem actU_un {o1 : UnOp} : actU P nx ⟨d, .unOp o1 t1 x, ty, pos, af, g⟩ K ⟨t, m⟩ = actW P nx none ⟨d, .unOp o1 t1 x, ty, pos, af, g⟩ K ⟨t, m⟩ := rfl
theorem actU_conv  : actU P nx ⟨d, .convert t1 t2 x, ty, pos, af, g⟩ K ⟨t, m⟩ = actW P nx none ⟨d, .convert t1 t2 x, ty, pos, af, g⟩ K ⟨t, m⟩ := rfl
theorem actU_load  : actU P nx ⟨d, .load t1 x, ty, pos, af, g⟩ K ⟨t, m⟩ = actW P nx none ⟨d, .load t1 x, ty, pos, af, g⟩ K ⟨t, m⟩ := rfl
theorem actU_store  : actU P nx ⟨d, .store t1 x y, ty, pos, af, g⟩ K ⟨t, m⟩ = actW P nx none ⟨d, .store t1 x y, ty, pos, af, g⟩ K ⟨t, m⟩ := rfl
theorem actU_fieldAddr {f : Nat} : actU P nx ⟨d, .fieldAddr t1 x f, ty, pos, af, g⟩ K ⟨t, m⟩ = actW P nx none ⟨d, .fieldAddr t1 x f, ty, pos, af, g⟩ K ⟨t, m⟩ := rfl
theorem actU_field {f : Nat} : actU P nx ⟨d, .field t1 x f, ty, pos, af, g⟩ K ⟨t, m⟩ = actW P nx none ⟨d, .field t1 x f, ty, pos, af, g⟩ K ⟨t, m⟩ := rfl
theorem actU_indexAddr  : actU P nx ⟨d, .indexAddr t1 x y, ty, pos, af, g⟩ K ⟨t, m⟩ = actW P nx none ⟨d, .indexAddr t1 x y, ty, pos, af, g⟩ K ⟨t, m⟩ := rfl
theorem actU_index  : actU P nx ⟨d, .index t1 x y, ty, pos, af, g⟩ K ⟨t, m⟩ = actW P nx none ⟨d, .index t1 x y, ty, pos, af, g⟩ K ⟨t, m⟩ := rfl
theorem actU_slice {lo hi mx : Option Operand} : actU P nx ⟨d, .slice t1 x lo hi mx, ty, pos, af, g⟩ K ⟨t, m⟩ = actW P nx none ⟨d, .slice t1 x lo hi mx, ty, pos, af, g⟩ K ⟨t, m⟩ := rfl
theorem actU_box  : actU P nx ⟨d, .box t1 x, ty, pos, af, g⟩ K ⟨t, m⟩ = actW P nx none ⟨d, .box t1 x, ty, pos, af, g⟩ K ⟨t, m⟩ := rfl
theorem actU_alloc  : actU P nx ⟨d, .alloc t1, ty, pos, af, g⟩ K ⟨t, m⟩ = actW P nx none ⟨d, .alloc t1, ty, pos, af, g⟩ K ⟨t, m⟩ := rfl
theorem actU_extract {f : Nat} : actU P nx ⟨d, .extract x f, ty, pos, af, g⟩ K ⟨t, m⟩ = actW P nx none ⟨d, .extract x f, ty, pos, af, g⟩ K ⟨t, m⟩ := rfl
theorem actU_build {parts : Array (Nat × Operand)} : actU P nx ⟨d, .build t1 parts, ty, pos, af, g⟩ K ⟨t, m⟩ = actW P nx none ⟨d, .build t1 parts, ty, pos, af, g⟩ K ⟨t, m⟩ := rfl
theorem actU_buildSlice {len : Nat} {parts : Array (Nat × Operand)} : actU P nx ⟨d, .buildSlice t1 len parts, ty, pos, af, g⟩ K ⟨t, m⟩ = actW P nx none ⟨d, .buildSlice t1 len parts, ty, pos, af, g⟩ K ⟨t, m⟩ := rfl
theorem actU_make  : actU P nx ⟨d, .makeSlice t1 x y, ty, pos, af, g⟩ K ⟨t, m⟩ = actW P nx none ⟨d, .makeSlice t1 x y, ty, pos, af, g⟩ K ⟨t, m⟩ := rfl
theorem actU_pick {y2 : Operand} : actU P nx ⟨d, .pick x y y2, ty, pos, af, g⟩ K ⟨t, m⟩ = actW P nx none ⟨d, .pick x y y2, ty, pos, af, g⟩ K ⟨t, m⟩ := rfl
theorem W_loopT {nt : Nat} {x : Code} {Q : Post} {σ : St} : W P nx nt (.loop x) Q σ = T P nx (todo nt) (.loop x) Q σ := W_loop
theorem W_drawnT {nt id : Nat} {ops : Array Oper} {Q : Post} {σ : St} : W P nx nt (.region id ops true) Q σ = drawnK (todo ops) fun q => evK (todo ops.toList) fun L => runG P nx nt q ops L (Q .normal) σ := W_drawn
theorem W_condT {nt : Nat} {c : Operand} {x y : Code} {Q : Post} {σ : St} : W P nx nt (.cond c x y) Q σ = condK (todo (σ.ev c)) (W P nx nt x Q σ) (W P nx nt y Q σ) := W_cond
theorem stepG_guardT {nt : Nat} {quiet : Qm} {ops : Array Oper} {op : Op} {j : Nat} {want : Bool} : stepG P nx nt quiet ops ⟨d, op, ty, pos, af, some (j, want)⟩ K ⟨t, m⟩ =
    (dstOk nt d = true ∧ onO (todo ((ops[j]?).bind (·.dst))) fun s => guardK (todo (t s)) want (actW P nx quiet ⟨d, op, ty, pos, af, some (j, want)⟩ K ⟨upd t s (.at (.v (.bool want))), m⟩) (K ⟨putD (upd t s (.at (.v (.bool (!want))))) d (.tp []), m⟩) (K ⟨putD t d (.tp []), m⟩)) := stepG_guard
theorem thenS_n {K : St → Prop} {Q : Post} {σ : St} : thenS K Q .normal σ = K σ := rfl
theorem thenS_r {K : St → Prop} {Q : Post} {σ : St} : thenS K Q .ret σ = Q .ret σ := rfl
theorem thenS_e {K : St → Prop} {Q : Post} {σ : St} {i : Nat} : thenS K Q (.exit i) σ = Q (.exit i) σ := rfl
theorem blockS_n {Q : Post} {σ : St} {i : Nat} : blockS i Q .normal σ = Q .normal σ := rfl
theorem blockS_r {Q : Post} {σ : St} {i : Nat} : blockS i Q .ret σ = Q .ret σ := rfl
theorem blockS_e {Q : Post} {σ : St} {i j : Nat} : blockS i Q (.exit j) σ = if j = i then Q .normal σ else Q (.exit j) σ := rfl
theorem all_mapK {β γ : Type} {f : β → γ} {l : List β} {j : Nat} {K : γ → Prop} : (∀ r, (l.map f)[j]? = some r → K r) = (∀ x, l[j]? = some x → evK (todo (f x)) K) := all_map

/-! ### Ends -/
theorem finV_ret {k : Nat} {v : Value} : finV k v .ret ⟨t, m⟩ = (t k = .at (.v v)) := rfl
theorem finW_ret {rs : List ResultVar} {res : AV} {ext : List Ent} : finW P nx rs res ext .ret ⟨t, m⟩ = (nx ≤ 1000 ∧ ownNil rs (partsOf res) (fun σ => resC P σ rs fun xs => finX nx σ.m xs res ext (keysT σ.m xs)) ⟨t, m⟩) := rfl
variable {rs : List ResultVar} {ws : List AV} {K1 : St → Prop} {KL : List AV → Prop}
theorem ownNil_fr {k sz : Nat} {rows : List (List Value)} : ownNil (.tmp k :: rs) (.at (.fr sz rows) :: ws) K1 ⟨t, m⟩ = nilK (todo (t k)) (m (500000 + k) = .gone ∧ ownNil rs ws K1 ⟨upd t k (.at (.ow (500000 + k) 0 sz 0)), upd m (500000 + k) (.arr 0 sz [])⟩) (ownNil rs ws K1 ⟨t, m⟩) := rfl
theorem ownNil_v {k : Nat} {v : Value} {σ : St} : ownNil (.tmp k :: rs) (.at (.v v) :: ws) K1 σ = ownNil rs ws K1 σ := rfl
theorem ownNil_im {k sz : Nat} {rows : List (List Value)} {σ : St} : ownNil (.tmp k :: rs) (.at (.im sz rows) :: ws) K1 σ = ownNil rs ws K1 σ := rfl
theorem ownNil_ag {k : Nat} {cs : List A} {σ : St} : ownNil (.tmp k :: rs) (.ag cs :: ws) K1 σ = ownNil rs ws K1 σ := rfl
theorem ownNil_cell {k : Nat} {cs : List A} {σ : St} : ownNil (.cell k ty :: rs) (.ag cs :: ws) K1 σ = evK (todo cs) fun l => ownCell k 0 l (ownNil rs ws K1) σ := rfl
theorem ownCell_nil {a j : Nat} {K2 : St → Prop} {σ : St} : ownCell a j [] K2 σ = K2 σ := rfl
theorem ownCell_v {a j : Nat} {v : Value} {cs : List A} {K2 : St → Prop} {σ : St} : ownCell a j (.v v :: cs) K2 σ = ownCell a (j + 1) cs K2 σ := rfl
theorem ownCell_im {a j sz : Nat} {rows : List (List Value)} {cs : List A} {K2 : St → Prop} {σ : St} : ownCell a j (.im sz rows :: cs) K2 σ = ownCell a (j + 1) cs K2 σ := rfl
theorem ownCell_nilA {a j : Nat} {cs : List A} {K2 : St → Prop} {σ : St} : ownCell a j (.nil :: cs) K2 σ = ownCell a (j + 1) cs K2 σ := rfl
theorem ownCell_fr {a j sz : Nat} {rows : List (List Value)} {cs : List A} {K2 : St → Prop} : ownCell a j (.fr sz rows :: cs) K2 ⟨t, m⟩ =
    bxK (todo (t a)) fun k => boxK (todo (m k)) j fun v cells x => nilA x (evK (todo (600000 + 100 * a + j)) fun κ => m κ = .gone ∧ evK (todo (cells.set j (.ow κ 0 sz 0))) fun cs' => ownCell a (j + 1) cs K2 ⟨t, upd (upd m κ (.arr 0 sz [])) k (.box v cs')⟩) (ownCell a (j + 1) cs K2 ⟨t, m⟩) := rfl
theorem bxK_congr {x y : AV} {K : Nat → Prop} (h : x = y) : bxK x K = bxK y K := by rw [h]
theorem bxK_bx {k v o : Nat} {K : Nat → Prop} : bxK (.at (.bx k v o)) K = K k := rfl
theorem boxK_congr {e e' : Ent} {j j' : Nat} {K : Nat → List A → A → Prop} (h : e = e') (hj : j = j') : boxK e j K = boxK e' j' K := by rw [h, hj]
theorem boxK_box {v j : Nat} {cells : List A} {K : Nat → List A → A → Prop} : boxK (.box v cells) j K = onO (todo cells[j]?) (K v cells) := by
  simp only [boxK, todo, onO]
  cases cells[j]? <;> rfl
theorem nilA_congr {x y : A} {a b : Prop} (h : x = y) : nilA x a b = nilA y a b := by rw [h]
theorem nilA_nil {a b : Prop} : nilA .nil a b = a := rfl
theorem nilA_ow {k v s n : Nat} {a b : Prop} : nilA (.ow k v s n) a b = b := rfl
theorem nilA_im {s : Nat} {r : List (List Value)} {a b : Prop} : nilA (.im s r) a b = b := rfl
theorem ownNil_nil {σ : St} : ownNil [] ws K1 σ = K1 σ := by cases ws <;> rfl
theorem resC_nil {σ : St} : resC P σ [] KL = KL [] := rfl
theorem resC_tmp {k : Nat} : resC P ⟨t, m⟩ (.tmp k :: rs) KL = resC P ⟨t, m⟩ rs fun xs => KL (t k :: xs) := rfl
theorem resC_cell {k : Nat} : resC P ⟨t, m⟩ (.cell k ty :: rs) KL = (cellOk (t k) ∧ onR (todo (loadS P ty m (t k))) fun x => resC P ⟨t, m⟩ rs fun xs => KL (x :: xs)) := rfl
theorem oneOf_1 {x : AV} : oneOf [x] = x := rfl
theorem oneOf_2 {x y : AV} {xs : List AV} : oneOf (x :: y :: xs) = .tp (x :: y :: xs) := rfl
theorem subR_tp {xs ys : List AV} : subR (.tp xs) (.tp ys) = subT xs ys := rfl
theorem subR_at {a b : A} : subR (.at a) (.at b) = subA a b := rfl
theorem subR_ag {as bs : List A} : subR (.ag as) (.ag bs) = subL as bs := rfl
theorem subL_cons {a b : A} {as bs : List A} : subL (a :: as) (b :: bs) = (subA a b ∧ subL as bs) := rfl
theorem subL_nil : subL [] [] = True := rfl
theorem subA_v {v w : Value} : subA (.v v) (.v w) = (v = w) := by simp [subA]
theorem subA_ow {k v s n k' v' s' n' : Nat} : subA (.ow k v s n) (.ow k' v' s' n') = (k = k' ∧ v = v' ∧ s = s' ∧ n = n') := by simp [subA]
theorem subA_im {s : Nat} {r r' : List (List Value)} : subA (.im s r) (.im s r') = (r = r') := by
  cases r <;> cases r' <;> simp [subA]
theorem subA_nil {s : Nat} {r : List (List Value)} : subA .nil (.im s r) = (r = []) := by
  cases r <;> simp [subA]
theorem subA_nil0 {s : Nat} {r : List (List Value)} (h : r = []) : subA .nil (.im s r) = True := by
  subst h; rfl
theorem instV_tp {n : Nat} {xs : List AV} : instV n (.tp xs) = .tp (instT n xs).1 := rfl
theorem instV_at {n : Nat} {a : A} : instV n (.at a) = .at (instA n a).1 := rfl
theorem instV_ag {n : Nat} {cs : List A} : instV n (.ag cs) = .ag (instL n cs).1 := rfl
theorem ren_v {iv : Nat → Option Nat} {v : Value} : ren iv m (.v v) = .v v := rfl
theorem ren_im {iv : Nat → Option Nat} {s : Nat} {r : List (List Value)} : ren iv m (.im s r) = .im s r := rfl
theorem ren_nil {iv : Nat → Option Nat} : ren iv m .nil = .nil := rfl
def renOw (iv : Option Nat) (e : Ent) (ver sz n : Nat) : A :=
  match iv with
  | some k' => if ver = e.ver then .ow k' 0 sz n else .dead
  | none => match e with | .ice ver' sz' rows => if ver = ver' ∧ sz = sz' then .im sz rows else .dead | _ => .dead
theorem ren_ow {iv : Nat → Option Nat} {k ver sz n : Nat} : ren iv m (.ow k ver sz n) = renOw (iv k) (m k) ver sz n := rfl
theorem renOw_arr {k' ver sz sz' n : Nat} {rows : List (List Value)} : renOw (some k') (.arr ver sz' rows) ver sz n = .ow k' 0 sz n := by simp [renOw, Ent.ver]
theorem renOw_ice {ver sz n : Nat} {rows : List (List Value)} : renOw none (.ice ver sz rows) ver sz n = .im sz rows := by simp [renOw]
theorem renOw_none {ver ver' sz sz' n : Nat} {rows : List (List Value)} : renOw none (.arr ver' sz' rows) ver sz n = .dead := rfl
theorem renOw_gone {ver sz n : Nat} : renOw none .gone ver sz n = .dead := rfl
def renBx (iv : Option Nat) (e : Ent) (ver off : Nat) : A := match iv with | some k' => if ver = e.ver then .bx k' 0 off else .dead | none => .dead
theorem ren_bx {iv : Nat → Option Nat} {k ver off : Nat} : ren iv m (.bx k ver off) = renBx (iv k) (m k) ver off := rfl
theorem renBx_box {k' ver off : Nat} {cells : List A} : renBx (some k') (.box ver cells) ver off = .bx k' 0 off := by simp [renBx, Ent.ver]
theorem renBx_none {e : Ent} {ver off : Nat} : renBx none e ver off = .dead := rfl
theorem ren_dead {iv : Nat → Option Nat} : ren iv m .dead = .dead := rfl
theorem ren_er {iv : Nat → Option Nat} : ren iv m .er = .er := rfl
theorem renE_arr {iv : Nat → Option Nat} {v s : Nat} {r : List (List Value)} : renE iv m (.arr v s r) = .arr 0 s r := rfl
theorem renE_ice {iv : Nat → Option Nat} {v s : Nat} {r : List (List Value)} : renE iv m (.ice v s r) = .ice 0 s r := rfl
theorem renE_box {iv : Nat → Option Nat} {v : Nat} {cells : List A} : renE iv m (.box v cells) = .box 0 (cells.map (ren iv m)) := rfl
theorem inv_0 {b k : Nat} {ks : List Nat} : invOf 0 b ks k = (ks.idxOf? k).map (b + ·) := by
  simp only [invOf, Nat.not_lt_zero, if_false]
  cases ks.idxOf? k <;> rfl
theorem iceOf_arr {v s : Nat} {r : List (List Value)} : iceOf (.arr v s r) = .ice v s r := rfl
theorem iceL_nil : iceL m [] = m := rfl
theorem iceL_cons {k : Nat} {ks : List Nat} : iceL m (k :: ks) = iceL (upd m k (iceOf (m k))) ks := rfl

theorem keysT_nil : keysT m [] = [] := rfl
theorem keysT_cons {x : AV} {xs : List AV} : keysT m (x :: xs) = keys1 m x ++ keysT m xs := rfl
theorem keys1_at {a : A} : keys1 m (.at a) = keysA m a := rfl
theorem keys1_ag {cs : List A} : keys1 m (.ag cs) = keysL m cs := rfl
theorem keysL_nil : keysL m [] = [] := rfl
theorem keysL_cons {a : A} {cs : List A} : keysL m (a :: cs) = keysA m a ++ keysL m cs := rfl
theorem keysA_ow {k v s n : Nat} : keysA m (.ow k v s n) = keysE k (m k) := rfl
theorem keysA_bx {k v o : Nat} : keysA m (.bx k v o) = keysX k (m k) := rfl
theorem keysX_box {k v : Nat} {cs : List A} : keysX k (.box v cs) = [k] := rfl
theorem instA_fb {n : Nat} {cs : List PC} : instA n (.fb cs) = (.bx n 0 0, n + 1) := rfl
theorem freshA_fb {cs : List PC} : freshA (.fb cs) = [.box 0 (cs.map PC.at)] := rfl
theorem noIm_fb {cs : List PC} : A.noIm (.fb cs) = false := rfl
theorem pc_v {x : Value} : (PC.v x).at = .v x := rfl
theorem pc_im {s : Nat} {r : List (List Value)} : (PC.im s r).at = .im s r := rfl
theorem subA_bx {k v o k' v' o' : Nat} : subA (.bx k v o) (.bx k' v' o') = (k = k' ∧ v = v' ∧ o = o') := by simp [subA]
theorem keysA_v {v : Value} : keysA m (.v v) = [] := rfl
theorem keysA_im {s : Nat} {r : List (List Value)} : keysA m (.im s r) = [] := rfl
theorem keysA_nil : keysA m .nil = [] := rfl
theorem keysE_arr {k v s : Nat} {r : List (List Value)} : keysE k (.arr v s r) = [k] := rfl
theorem keysE_ice {k v s : Nat} {r : List (List Value)} : keysE k (.ice v s r) = [] := rfl
theorem keysB_ow {k v s n : Nat} : keysB m (.ow k v s n) = keysE k (m k) := rfl
theorem keysB_bx {k v o : Nat} : keysB m (.bx k v o) = k :: boxKeys m (m k) := rfl
theorem keysB_v {v : Value} : keysB m (.v v) = [] := rfl
theorem keysB_im {s : Nat} {r : List (List Value)} : keysB m (.im s r) = [] := rfl
theorem keysB_nil : keysB m .nil = [] := rfl
theorem keysB_er : keysB m .er = [] := rfl
theorem keysB_dead : keysB m .dead = [] := rfl
theorem boxKeys_box {v : Nat} {cells : List A} : boxKeys m (.box v cells) = keysL m cells := rfl
theorem renV_at {iv : Nat → Option Nat} {a : A} : renV iv m (.at a) = .at (ren iv m a) := rfl
theorem renV_ag {iv : Nat → Option Nat} {cs : List A} : renV iv m (.ag cs) = .ag (cs.map (ren iv m)) := rfl
theorem renV_tp {iv : Nat → Option Nat} {xs : List AV} : renV iv m (.tp xs) = .tp (xs.map (renV1 iv m)) := rfl
theorem renV1_at {iv : Nat → Option Nat} {a : A} : renV1 iv m (.at a) = .at (ren iv m a) := rfl
theorem renV1_ag {iv : Nat → Option Nat} {cs : List A} : renV1 iv m (.ag cs) = .ag (cs.map (ren iv m)) := rfl
theorem zV_at {a : A} : zV (.at a) = .at (zA a) := rfl
theorem zV_ag {cs : List A} : zV (.ag cs) = .ag (cs.map zA) := rfl
theorem zV_tp {xs : List AV} : zV (.tp xs) = .tp (xs.map zV1) := rfl
theorem zV1_at {a : A} : zV1 (.at a) = .at (zA a) := rfl
theorem zV1_ag {cs : List A} : zV1 (.ag cs) = .ag (cs.map zA) := rfl
theorem zA_fr {s : Nat} {r : List (List Value)} : zA (.fr s r) = .im s r := rfl
theorem zA_v {v : Value} : zA (.v v) = .v v := rfl
theorem zA_im {s : Nat} {r : List (List Value)} : zA (.im s r) = .im s r := rfl
theorem zA_nil : zA .nil = .nil := rfl
theorem zA_er : zA .er = .er := rfl
theorem instA_fr {n s : Nat} {r : List (List Value)} : instA n (.fr s r) = (.ow n 0 s r.length, n + 1) := rfl
theorem instA_v {n : Nat} {v : Value} : instA n (.v v) = (.v v, n) := rfl
theorem instA_im {n s : Nat} {r : List (List Value)} : instA n (.im s r) = (.im s r, n) := rfl
theorem instA_nil {n : Nat} : instA n .nil = (.nil, n) := rfl
theorem instA_er {n : Nat} : instA n .er = (.er, n) := rfl
theorem inst1_at {n : Nat} {a : A} : inst1 n (.at a) = (.at (instA n a).1, (instA n a).2) := rfl
theorem inst1_ag {n : Nat} {cs : List A} : inst1 n (.ag cs) = (.ag (instL n cs).1, (instL n cs).2) := rfl
theorem freshes_at {a : A} : freshes (.at a) = freshA a := rfl
theorem freshes_ag {cs : List A} : freshes (.ag cs) = cs.flatMap freshA := rfl
theorem freshes_tp {xs : List AV} : freshes (.tp xs) = xs.flatMap fresh1 := rfl
theorem fresh1_at {a : A} : fresh1 (.at a) = freshA a := rfl
theorem fresh1_ag {cs : List A} : fresh1 (.ag cs) = cs.flatMap freshA := rfl
theorem freshA_fr {s : Nat} {r : List (List Value)} : freshA (.fr s r) = [.arr 0 s r] := rfl
theorem freshA_v {v : Value} : freshA (.v v) = [] := rfl
theorem freshA_im {s : Nat} {r : List (List Value)} : freshA (.im s r) = [] := rfl
theorem freshA_nil : freshA .nil = [] := rfl
theorem freshA_er : freshA .er = [] := rfl
theorem isArr_arr {v s : Nat} {r : List (List Value)} : isArr (.arr v s r) = true := rfl
theorem noIm_v {v : Value} : A.noIm (.v v) = true := rfl
theorem noIm_fr {s : Nat} {r : List (List Value)} : A.noIm (.fr s r) = true := rfl
theorem noIm_nil : A.noIm .nil = true := rfl
theorem noIm_er : A.noIm .er = true := rfl
theorem noIm_im {s : Nat} {r : List (List Value)} : A.noIm (.im s r) = false := rfl
theorem noIm1_at {a : A} : AV.noIm1 (.at a) = a.noIm := rfl
theorem noIm1_ag {cs : List A} : AV.noIm1 (.ag cs) = cs.all A.noIm := rfl
theorem avnoIm_at {a : A} : AV.noIm (.at a) = a.noIm := rfl
theorem avnoIm_ag {cs : List A} : AV.noIm (.ag cs) = cs.all A.noIm := rfl
theorem avnoIm_tp {xs : List AV} : AV.noIm (.tp xs) = xs.all AV.noIm1 := rfl
theorem partsOf_tp {xs : List AV} : partsOf (.tp xs) = xs := rfl
theorem partsOf_at {a : A} : partsOf (.at a) = [.at a] := rfl
theorem partsOf_ag {cs : List A} : partsOf (.ag cs) = [.ag cs] := rfl

/-! ### Calls -/
def passE (e : Ent) (b : Bool) (ver sz : Nat) : A :=
  match e with
  | .arr ver' sz' rows => if ver = ver' ∧ sz = sz' ∧ b = true then .im sz rows else .dead
  | .ice ver' sz' rows => if ver = ver' ∧ sz = sz' then .im sz rows else .dead
  | _ => .dead
theorem passA_ow {bor : List Nat} {k ver sz n : Nat} : passA [] bor m (.ow k ver sz n) = passE (m k) (decide (k ∈ bor)) ver sz := by
  simp only [passA, List.idxOf?_nil, passE, decide_eq_true_eq]
  cases m k <;> rfl
theorem passE_arr {ver sz : Nat} {rows : List (List Value)} : passE (.arr ver sz rows) true ver sz = .im sz rows := by simp [passE]
theorem passE_ice {ver sz : Nat} {rows : List (List Value)} {b : Bool} : passE (.ice ver sz rows) b ver sz = .im sz rows := by simp [passE]
theorem passV_at {bor : List Nat} {a : A} : passV [] bor m (.at a) = .at (passA [] bor m a) := rfl
theorem passV_ag {bor : List Nat} {cs : List A} : passV [] bor m (.ag cs) = .ag (cs.map (passA [] bor m)) := rfl
theorem passA_v {bor : List Nat} {v : Value} : passA [] bor m (.v v) = .v v := rfl
theorem passA_im {bor : List Nat} {s : Nat} {r : List (List Value)} : passA [] bor m (.im s r) = .im s r := rfl
theorem passA_nil {bor : List Nat} : passA [] bor m .nil = .nil := rfl
theorem backV_at {B : Nat} {a : A} : backV m [] B (.at a) = .at (backA m [] B a) := rfl
theorem backV_ag {B : Nat} {cs : List A} : backV m [] B (.ag cs) = .ag (cs.map (backA m [] B)) := rfl
theorem backV_tp {B : Nat} {xs : List AV} : backV m [] B (.tp xs) = .tp (xs.map (backV1 m [] B)) := rfl
theorem backV1_at {B : Nat} {a : A} : backV1 m [] B (.at a) = .at (backA m [] B a) := rfl
theorem backV1_ag {B : Nat} {cs : List A} : backV1 m [] B (.ag cs) = .ag (cs.map (backA m [] B)) := rfl
theorem backA_v {B : Nat} {v : Value} : backA m [] B (.v v) = .v v := rfl
theorem backA_im {B : Nat} {s : Nat} {r : List (List Value)} : backA m [] B (.im s r) = .im s r := rfl
theorem backA_nil {B : Nat} : backA m [] B .nil = .nil := rfl
theorem backA_bx {B j off : Nat} (h : 1000 ≤ j) : backA m [] B (.bx j 0 off) = .bx (B + (j - 1000)) 0 off := by
  simp only [backA, List.length_nil, Nat.zero_le, and_true, true_and, if_pos h]
theorem backA_ow {B j s n : Nat} (h : 1000 ≤ j) : backA m [] B (.ow j 0 s n) = .ow (B + (j - 1000)) 0 s n := by
  simp only [backA, if_true, List.length_nil, Nat.not_lt_zero, if_false, if_pos h]
end

attribute [go_sem ↓] runU_nil runU_cons stepU_plain stepU_guardT actU_call actU_builtin actU_move actU_assign actU_bin actU_un actU_conv actU_load actU_store actU_fieldAddr actU_field actU_indexAddr actU_index actU_slice actU_box actU_alloc actU_extract actU_build actU_buildSlice actU_make actU_pick fillRK_nil fillRK_ev fillSK_nil fillSK_ev W_drawnT thenS_n thenS_r thenS_e blockS_n blockS_r blockS_e all_mapK actW_move actW_assign actW_pick actW_bin actW_un actW_conv actW_load actW_loadQ actW_loadB actW_store actW_storeQ actW_storeB actW_fieldAddr actW_field actW_indexAddr actW_index actW_slice actW_box actW_alloc actW_extract actW_build actW_buildSlice actW_make actW_len actW_append actW_copy actW_max actW_min actW_call actW_callQ W_skip W_exit W_ret W_seq W_block W_condT W_regionT W_loopT runG_nil runG_cons stepG_plain stepG_guardT finV_ret finW_ret ownNil_fr ownNil_v ownNil_im ownNil_ag ownNil_cell ownCell_nil ownCell_v ownCell_im ownCell_nilA ownCell_fr ownNil_nil resC_nil resC_tmp resC_cell headK_eq
attribute [go_sem ↓] quietK_loud
attribute [go_sem 5000] condK_true condK_false guardK_tt guardK_tf guardK_ft guardK_ff guardK_no
attribute [congr] evK_congr onR_congr onO_congr onM_congr boxAt_congr arrAt_congr rowAt_congr condK_congr guardK_congr pickK_congr exK_congr makeK_congr max2K_congr min2K_congr appK_congr loadK_congr sliceK_congr nilK_congr callU_congr callC_congr callQ_congr T_congr drawnK_congr quietK_congr freeB_congr heldB_congr bxK_congr boxK_congr nilA_congr copyK_congr
attribute [go_sem] Nat.reduceLT Nat.reduceEqDiff Nat.reduceMul Nat.reduceAdd Nat.reduceSub Nat.reduceLeDiff Nat.reduceBEq Nat.reduceBNe Nat.zero_le
  quietK_nil quietK_ow quietK_owB freeB_bx freeB_pa freeB_pi heldB_bx heldB_pa noRowsE_arr bxK_bx boxK_box nilA_nil nilA_ow nilA_im List.set_cons_zero List.set_cons_succ
  evK_eq todo_eq
  
  strFlag_same loadK_bx loadK_pi sliceK_ow sliceK_owQ copyK_vw sliceK_im sliceK_nil sliceK_v
  condK_bool guardK_t guardK_f
  makeK_ev exK_tp pickK_true pickK_false max2K_int min2K_int rowsAt_arr rowsAt_ice newsK_nil newsK_im newsK_ow newsK_str appK_nil_ev appK_ow_ev boundS_none boundS_some intOfAV_int rowAt_arr rowAt_ice
  nilK_nil nilK_ow cellOk_bx finX oneOf_1 oneOf_2
  keysT_nil keysT_cons keys1_at keys1_ag keysL_nil keysL_cons keysA_ow keysA_bx keysX_box instA_fb freshA_fb noIm_fb pc_v pc_im subA_bx keysA_v keysA_im keysA_nil keysE_arr keysE_ice keysB_ow keysB_bx keysB_v keysB_im keysB_nil keysB_er keysB_dead boxKeys_box renV_at renV_ag renV_tp renV1_at renV1_ag zV_at zV_ag zV_tp zV1_at zV1_ag zA_fr zA_v zA_im zA_nil zA_er instA_fr instA_v instA_im instA_nil instA_er inst1_at inst1_ag freshes_at freshes_ag freshes_tp fresh1_at fresh1_ag freshA_fr freshA_v freshA_im freshA_nil freshA_er isArr_arr noIm_v noIm_fr noIm_nil noIm_er noIm_im noIm1_at noIm1_ag avnoIm_at avnoIm_ag avnoIm_tp partsOf_tp partsOf_at partsOf_ag
  subR_tp subR_at subR_ag subT_cons subT_nil subV_at subV_ag subL_cons subL_nil subA_v subA_ow subA_im subA_nil subA_self subL_self
  instV_tp instV_at instV_ag instT instL List.flatMap_cons List.flatMap_nil
  ren_v ren_im ren_nil ren_ow renOw_arr renOw_ice renOw_none renOw_gone ren_bx renBx_box renBx_none ren_dead ren_er renE_arr renE_ice renE_box inv_0 List.idxOf?_cons List.idxOf?_nil Option.map_none
  iceOf_arr iceL_nil iceL_cons passV_at passV_ag passA_v passA_im passA_nil passA_ow passE_arr passE_ice backV_at backV_ag backV_tp backV1_at backV1_ag backA_v backA_im backA_nil backA_ow backA_bx
  M0_at ofM_M0 updL_nil updL_cons ofM_updL Gone_M0 Gone_up CallX borOk ownOk
  keysV_nil keysV_at keysV_ag List.map_eq_nil_iff
  List.zip_cons_cons List.zip_nil_left List.range_zero List.nodup_cons List.nodup_nil List.mem_cons List.not_mem_nil List.length_append List.append_nil List.nil_append List.replicate_zero List.replicate_succ List.set_cons_zero List.set_cons_succ List.getElem?_toArray List.getElem?_nil
  List.length_replicate List.length_set List.length_take List.length_drop List.all_cons List.all_nil
  AV.at.injEq A.v.injEq A.ow.injEq A.im.injEq A.bx.injEq AV.ag.injEq Value.int.injEq Value.bool.injEq Value.string.injEq Ent.arr.injEq List.cons.injEq
  beq_self_eq_true Nat.min_self Int.reduceNe Int.reduceEq Int.reduceNeg Int.reduceLT Int.reduceLE ne_eq eq_self not_true_eq_false not_false_eq_true false_or or_false true_or or_true and_self decide_true decide_false decide_eq_false_iff_not Bool.not_true Bool.not_false Bool.not_eq_true' Bool.not_eq_false' Bool.not_not Bool.true_eq_false Bool.false_eq_true true_implies false_implies implies_true forall_eq_or_imp forall_eq reduceCtorEq Bool.true_and Bool.and_true Bool.false_and Bool.and_false Bool.or_true Bool.true_or Bool.false_or Bool.or_false
  List.getD_nil Nat.add_zero Nat.zero_add Int.toNat_natCast
end Go.Abs

/- Functions that are handed arrays to write: their calls, their loops. -/
namespace Go.Abs
open Go.RowKit
set_option linter.unusedVariables false
set_option linter.unusedSimpArgs false

def updK : Mem → List Nat → List Ent → Mem
  | m, k :: ks, e :: es => updK (upd m k (merge (m k) e)) ks es
  | m, _, _ => m
theorem updK_cons {m : Mem} {k : Nat} {ks : List Nat} {e : Ent} {es : List Ent} : updK m (k :: ks) (e :: es) = updK (upd m k (merge (m k) e)) ks es := rfl
theorem updK_nil {m : Mem} {es : List Ent} : updK m [] es = m := by cases es <;> rfl
theorem merge_arr {v s s' v' : Nat} {r r' : List (List Value)} : merge (.arr v s r) (.arr v' s' r') = .arr v s r' := rfl
def plainL (m : Mem) : List Nat → Prop
  | [] => True
  | k :: ks => (m k).plain = true ∧ plainL m ks
def likeL (m : Mem) : List Nat → List Ent → Prop
  | [], [] => True
  | k :: ks, e :: es => (m k).like e = true ∧ likeL m ks es
  | _, _ => False
theorem like_arr {v s s' : Nat} {r r' : List (List Value)} (h : r.length = r'.length) : (Ent.arr v s r).like (.arr 0 s r') = true := by simp [Ent.like, h]
theorem like_arrd {v s : Nat} {r r' : List (List Value)} : (Ent.arr v s r).like (.arr 0 s r') = decide (r.length = r'.length) := by simp only [Ent.like, beq_self_eq_true, Bool.true_and]; exact Bool.eq_iff_iff.2 (by simp)
theorem plain_arr {v s : Nat} {r : List (List Value)} : (Ent.arr v s r).plain = true := rfl
theorem extE_arr {v s : Nat} {r : List (List Value)} : extE (.arr v s r) = .arr 0 s r := rfl
def passK (i : Option Nat) (e : Ent) (ver sz n : Nat) : A :=
  match i, e with
  | some i, .arr ver' _ _ => if ver = ver' then .ow i 0 sz n else .dead
  | _, _ => .dead
theorem passK_arr {i v s s' n : Nat} {r : List (List Value)} : passK (some i) (.arr v s' r) v s n = .ow i 0 s n := by simp [passK]

section
variable {P : Program} {nx nt : Nat} {f : FuncId} {avs args : List AV} {d : Option Nat} {K : St → Prop} {t : Nat → AV} {m : Mem} {keys : List Nat} {ext' : List Ent}
theorem plainL_all : ∀ {ks : List Nat}, plainL m ks → ∀ k ∈ ks, (m k).plain = true := by
  intro ks
  induction ks with
  | nil => intro _ k hk; cases hk
  | cons a ks ih =>
    intro h k hk
    rcases List.mem_cons.1 hk with rfl | hk
    · exact h.1
    · exact ih h.2 k hk
theorem likeL_all : ∀ {ks : List Nat} {es : List Ent}, likeL m ks es → es.length = ks.length ∧ ∀ i k, ks[i]? = some k → (m k).like (es.getD i .gone) = true := by
  intro ks
  induction ks with
  | nil => intro es h; cases es with
    | nil => exact ⟨rfl, by simp⟩
    | cons e es => exact h.elim
  | cons a ks ih =>
    intro es h
    cases es with
    | nil => exact h.elim
    | cons e es =>
      obtain ⟨h1, h2⟩ := ih h.2
      refine ⟨by simp [h1], fun i k hk => ?_⟩
      cases i with
      | zero => simp at hk; subst hk; exact h.1
      | succ i => simpa using h2 i k (by simpa using hk)
theorem updK_at : ∀ {ks : List Nat} {es : List Ent} {m : Mem}, ks.Nodup → es.length = ks.length → ∀ k, updK m ks es k = match ks.idxOf? k with | some i => merge (m k) (es.getD i .gone) | none => m k := by
  intro ks
  induction ks with
  | nil => intro es m _ _ k; simp [updK_nil]
  | cons a ks ih =>
    intro es m hnd hl k
    cases es with
    | nil => simp at hl
    | cons e es =>
      rw [List.nodup_cons] at hnd
      rw [updK_cons, ih hnd.2 (by simpa using hl), List.idxOf?_cons]
      by_cases hk : a = k
      · subst hk
        have : ks.idxOf? a = none := by
          cases h : ks.idxOf? a with
          | none => rfl
          | some i => exact absurd (List.mem_of_getElem? (idxOf?_some h)) hnd.1
        simp [this, upd_same]
      · have hb : (a == k) = false := by simpa using hk
        rw [hb]
        simp only [Bool.false_eq_true, if_false]
        rw [upd_ne _ _ (Ne.symm hk)]
        cases ks.idxOf? k <;> simp

/-- What a call that hands arrays over must find. -/
def CallM (nx : Nat) (keys : List Nat) (avs args : List AV) (m : Mem) (B : Nat) (ext ext' : List Ent) : Prop :=
  keys.Nodup ∧ plainL m keys ∧ likeL m keys ext' ∧ Gone m B ∧ nx ≤ B ∧ exts keys m = ext ∧ subT (avs.map (passV keys [] m)) args

theorem callXM {x : Value} {ext : List Ent} (keys : List Nat) (h : SC P f args ext (.at (.v x)) ext') (hk : keys.length ≤ 900) (hx : CallM nx keys avs args m (siteOf d) ext ext') (hK : K ⟨putD t d (.at (.v x)), updK m keys ext'⟩) : callU P nx f avs d K ⟨t, m⟩ := by
  left
  obtain ⟨h1, h2, h3, h4, h5, rfl, h6⟩ := hx
  obtain ⟨h7, h8⟩ := likeL_all h3
  refine ⟨_, ⟨keys, [], false, args, _, ext', ⟨h1, hk, plainL_all h2, by simp, h4, h5⟩, ⟨h7, h8, by simp [freshes, fresh1, freshA], .inr (.inl rfl)⟩, h6, h, rfl⟩, ?_⟩
  have : backM m keys [] false (siteOf d) ext' (freshes (.at (.v x))) = updK m keys ext' := by
    funext k
    rw [updK_at h1 h7]
    unfold backM
    cases keys.idxOf? k with
    | some i => rfl
    | none =>
      dsimp only
      rw [if_neg (by simp), if_neg (fun h => by have := h.2; simp only [show (freshes (.at (.v x))).length = 0 from rfl] at this; omega)]
  rw [this]; exact hK

theorem ofM_own {n b : Nat} {es : List Ent} (h : es.length = n) (hb : n ≤ b) : ofM n b es [] = updL M0 0 es := by
  subst h
  funext k
  rw [updL_at, M0_at]
  simp only [ofM, Nat.zero_le, true_and, Nat.zero_add, Nat.sub_zero]
  by_cases hk : k < es.length
  · rw [if_pos hk, if_pos hk]
  · rw [if_neg hk, if_neg hk]; split <;> rfl

def headM (nx : Nat) (live : List Nat) (σ : St) (I : List AV → List Ent → Prop) : Prop :=
  I (live.map fun t => renV (invOf nx 100 []) σ.m (σ.t t)) ((List.range nx).map fun k => renE (invOf nx 100 []) σ.m (σ.m k))
theorem headM_eq {live : List Nat} {I : List AV → List Ent → Prop} : headM nx live ⟨t, m⟩ I = I (live.map fun k => renV (invOf nx 100 []) m (t k)) ((List.range nx).map fun k => renE (invOf nx 100 []) m (m k)) := rfl
theorem T.loopM {c : Code} {Q : Post} {σ : St} (hm : P.follows .mixedOrders = true) (live : List Nat) (I : Nat → List AV → List Ent → Prop) (n : Nat) (hnx : nx ≤ 100) (h0 : headM nx live σ (I n))
    (round : ∀ n vs es, I n vs es → es.length = nx → W P nx nt c (thenS (fun σ' => ∃ n', n' < n ∧ headM nx live σ' (I n')) Q) ⟨ofT (live.zip vs), updL M0 0 es⟩) : T P nx nt (.loop c) Q σ := by
  refine T.loopC live [] (fun n σ => ∃ vs es, I n vs es ∧ es.length = nx ∧ σ = ⟨ofT (live.zip vs), ofM nx 100 es []⟩) n hnx (by simp) (by simp) ⟨_, _, h0, by simp, ?_⟩ ?_
  · rw [zip_map_self]; rfl
  · rintro n σ ⟨vs, es, hI, hl, rfl⟩
    rw [ofM_own hl hnx]
    refine T.mono (W.T hm (round n vs es hI hl)) fun e σ' hq => ?_
    cases e with
    | normal =>
      obtain ⟨n', h1, h5⟩ := hq
      refine ⟨n', [], h1, by simp, by simp, _, _, h5, by simp, ?_⟩
      rw [zip_map_self]; rfl
    | _ => exact hq

theorem SC.of_M {f : FuncId} {fn : Func} {c : Code} {args : List AV} {ext : List Ent} {res : AV} {ext' : List Ent} {rs : List ResultVar} (hm : P.follows .mixedOrders = true) (hf : P.funcs[f]? = some fn) (hn : (fn.name == "runtime.NumGoroutine") = false) (hb : fn.body = some c)
    (hr : fn.results = rs.toArray) (n : Nat) (hnt : fn.ntmps = n) (hsz : args.length ≤ n) (hx : ext.length ≤ 1000) (h : W P ext.length n c (finW P ext.length rs res ext') ⟨ofT (slotsOf 0 args), updL M0 0 ext⟩) : SC P f args ext res ext' := by
  refine SC.of_W hm hf hn hb hr n hnt hsz ?_
  rw [ofM_own rfl hx]; exact h
theorem passV_atK {a : A} : passV keys [] m (.at a) = .at (passA keys [] m a) := rfl
theorem passV_agK {cs : List A} : passV keys [] m (.ag cs) = .ag (cs.map (passA keys [] m)) := rfl
theorem passA_vK {v : Value} : passA keys [] m (.v v) = .v v := rfl
theorem passA_owK {k ver sz n : Nat} (h : k ∈ keys) : passA keys [] m (.ow k ver sz n) = passK (keys.idxOf? k) (m k) ver sz n := by
  simp only [passA]
  cases hi : keys.idxOf? k with
  | none => exact absurd h (idxOf?_none hi)
  | some i => simp only [passK]; cases m k <;> rfl
theorem exts_eq : exts keys m = keys.map fun k => extE (m k) := rfl
end

/-! ### Marks -/
def marks (f : Int → List Value) (s : Int) (k : Int) (n : Nat) : List (List Value) := (List.range n).map fun (i : Nat) => f (k + s * (i : Int))
theorem marks_length {f : Int → List Value} {s k : Int} {n : Nat} : (marks f s k n).length = n := by simp [marks]
theorem marks_zero {f : Int → List Value} {s k : Int} : marks f s k 0 = [] := rfl
theorem marks_get {f : Int → List Value} {s k : Int} {n i : Nat} {K : List Value → Prop} (h : i < n) : (∀ r, (marks f s k n)[i]? = some r → K r) = K (f (k + s * i)) := by
  simp [marks, h]
/-- One place more is marked. -/
theorem marks_set {β : Type} {g : β → List Value} {f : Int → List Value} {s k : Int} {l : List β} {i : Nat} {x : β} {r : List Value} (h : l[i]? = some x) (hr : r = f (k + s * i)) :
    (marks f s k i ++ (l.drop i).map g).set i r = marks f s k (i + 1) ++ (l.drop (i + 1)).map g := by
  subst hr
  rw [List.set_append_right _ _ (by rw [marks_length]; omega), marks_length, Nat.sub_self, drop_get h, List.map_cons, List.set_cons_zero]
  simp [marks, List.range_succ]
theorem marks_mid {β : Type} {g : β → List Value} {f : Int → List Value} {s k : Int} {l : List β} {i : Nat} {x : β} (h : l[i]? = some x) : (marks f s k i ++ (l.drop i).map g).getD i [] = g x := by
  rw [List.getD_eq_getElem?_getD, List.getElem?_append_right (by rw [marks_length]; omega), marks_length, Nat.sub_self, drop_get h]; rfl

attribute [go_sem] updK_cons updK_nil merge_arr plainL likeL plain_arr like_arrd extE_arr passK_arr CallM headM_eq passV_atK passV_agK passA_vK passA_owK exts_eq marks_length List.range_succ
end Go.Abs

/- Walks that halt at each 'if': what comes after it is shown once. -/
namespace Go.Abs
open Go.RowKit
set_option linter.unusedVariables false
set_option linter.unusedSimpArgs false

def isIf : Code → Bool
  | .seq _ (.cond ..) => true
  | _ => false

/-- What is left to show of code; at an 'if' the walk halts. -/
def V (P : Program) (nx nt : Nat) : Code → Post → St → Prop
  | .skip, Q, σ => Q .normal σ
  | .exit id, Q, σ => Q (.exit id) σ
  | .ret, Q, σ => Q .ret σ
  | .seq x y, Q, σ => (isIf x = true ∧ T P nx nt (.seq x y) Q σ) ∨ (isIf x = false ∧ V P nx nt x (thenS (V P nx nt y Q) Q) σ)
  | .block id x, Q, σ => V P nx nt x (blockS id Q) σ
  | .cond c x y, Q, σ => condK (σ.ev c) (V P nx nt x Q σ) (V P nx nt y Q σ)
  | .region _ ops false, Q, σ => runU P nx nt ops ops.toList (Q .normal) σ
  | .region _ ops true, Q, σ => drawnK ops fun q => runG P nx nt q ops ops.toList (Q .normal) σ
  | c, Q, σ => T P nx nt c Q σ

section
variable {P : Program} {nx nt : Nat} {ops : Array Oper} {σ : St} {Q : Post} {x y a b : Code} {id : Nat} {c : Operand} {dr : Bool}
theorem V_skip : V P nx nt .skip Q σ = Q .normal σ := by rw [V]
theorem V_exit : V P nx nt (.exit id) Q σ = Q (.exit id) σ := by rw [V]
theorem V_ret : V P nx nt .ret Q σ = Q .ret σ := by rw [V]
theorem V_seq (h : isIf x = false) : V P nx nt (.seq x y) Q σ = V P nx nt x (thenS (V P nx nt y Q) Q) σ := by rw [V]; simp [h]
theorem V_if : V P nx nt (.seq (.seq a (.cond c x b)) y) Q σ = T P nx (todo nt) (.seq (.seq a (.cond c x b)) y) Q σ := by rw [V]; simp [isIf, todo]
theorem V_seq_region : V P nx nt (.seq (.region id ops dr) y) Q σ = V P nx nt (.region id ops dr) (thenS (V P nx nt y Q) Q) σ := V_seq rfl
theorem V_seq_block : V P nx nt (.seq (.block id x) y) Q σ = V P nx nt (.block id x) (thenS (V P nx nt y Q) Q) σ := V_seq rfl
theorem V_seq_loop : V P nx nt (.seq (.loop x) y) Q σ = V P nx nt (.loop x) (thenS (V P nx nt y Q) Q) σ := V_seq rfl
theorem V_seq_skip : V P nx nt (.seq .skip y) Q σ = V P nx nt .skip (thenS (V P nx nt y Q) Q) σ := V_seq rfl
theorem V_seq_cond : V P nx nt (.seq (.cond c a b) y) Q σ = V P nx nt (.cond c a b) (thenS (V P nx nt y Q) Q) σ := V_seq rfl
theorem V_seq_seq_region : V P nx nt (.seq (.seq a (.region id ops dr)) y) Q σ = V P nx nt (.seq a (.region id ops dr)) (thenS (V P nx nt y Q) Q) σ := V_seq rfl
theorem V_seq_seq_seq : V P nx nt (.seq (.seq a (.seq x b)) y) Q σ = V P nx nt (.seq a (.seq x b)) (thenS (V P nx nt y Q) Q) σ := V_seq rfl
theorem V_seq_seq_block : V P nx nt (.seq (.seq a (.block id x)) y) Q σ = V P nx nt (.seq a (.block id x)) (thenS (V P nx nt y Q) Q) σ := V_seq rfl
theorem V_seq_seq_loop : V P nx nt (.seq (.seq a (.loop x)) y) Q σ = V P nx nt (.seq a (.loop x)) (thenS (V P nx nt y Q) Q) σ := V_seq rfl
theorem V_seq_seq_skip : V P nx nt (.seq (.seq a .skip) y) Q σ = V P nx nt (.seq a .skip) (thenS (V P nx nt y Q) Q) σ := V_seq rfl
theorem V_seq_seq_ret : V P nx nt (.seq (.seq a .ret) y) Q σ = V P nx nt (.seq a .ret) (thenS (V P nx nt y Q) Q) σ := V_seq rfl
theorem V_seq_seq_exit : V P nx nt (.seq (.seq a (.exit id)) y) Q σ = V P nx nt (.seq a (.exit id)) (thenS (V P nx nt y Q) Q) σ := V_seq rfl
theorem V_block : V P nx nt (.block id x) Q σ = V P nx nt x (blockS id Q) σ := by rw [V]
theorem V_cond : V P nx nt (.cond c x y) Q σ = condK (todo (σ.ev c)) (V P nx nt x Q σ) (V P nx nt y Q σ) := by rw [V]; rfl
theorem V_region : V P nx nt (.region id ops false) Q σ = W P nx nt (.region id ops false) Q σ := by rw [V, W]
theorem V_drawn : V P nx nt (.region id ops true) Q σ = W P nx nt (.region id ops true) Q σ := by rw [V, W]
theorem V_loop : V P nx nt (.loop x) Q σ = T P nx (todo nt) (.loop x) Q σ := by rw [V] <;> simp [todo]

theorem V.T (hm : P.follows .mixedOrders = true) : ∀ {c : Code} {Q : Post} {σ : St}, V P nx nt c Q σ → T P nx nt c Q σ := by
  intro c
  induction c with
  | skip => intro Q σ h; rw [V_skip] at h; exact T.skip h
  | exit id => intro Q σ h; rw [V_exit] at h; exact T.exit h
  | ret => intro Q σ h; rw [V_ret] at h; exact T.ret h
  | seq x y ihx ihy =>
    intro Q σ h
    rw [V] at h
    rcases h with ⟨_, h⟩ | ⟨_, h⟩
    · exact h
    · refine T.seq (T.mono (ihx h) fun e σ hq => ?_)
      cases e with
      | normal => exact ihy hq
      | _ => exact hq
  | block id x ih => intro Q σ h; rw [V_block] at h; exact T.block (ih h)
  | cond c x y ihx ihy =>
    intro Q σ h
    rw [V] at h
    unfold condK at h
    split at h
    · rename_i b hb
      exact T.cond hb (fun e => ihx (h.1 e)) (fun e => ihy (h.2 e))
    · exact h.elim
  | region id ops drawn =>
    intro Q σ h
    cases drawn with
    | false => rw [V_region] at h; exact W.T hm h
    | true => rw [V_drawn] at h; exact W.T hm h
  | _ => intro Q σ h; simpa only [V] using h
end

section
variable {P : Program} {nt : Nat} {c x y : Code} {Q : Post} {σ : St}
/-- An 'if', walked through with all that comes after it. -/
theorem T.stepJ (hm : P.follows .mixedOrders = true) (h : V P 0 nt x (thenS (V P 0 nt y Q) Q) σ) : T P 0 nt (.seq x y) Q σ :=
  T.seq (T.mono (V.T hm h) fun e σ hq => by
    cases e with
    | normal => exact V.T hm hq
    | _ => exact hq)
/-- An 'if', and then what comes after it: of what it leaves only what lives is kept. -/
theorem T.joinJ (hm : P.follows .mixedOrders = true) (live : List Nat) (I : List AV → List Ent → Prop) (h0 : V P 0 nt x (thenS (fun σ' => headK live σ' I) Q) σ)
    (rest : ∀ vs es, I vs es → V P 0 nt y Q ⟨ofT (live.zip vs), updL M0 100 es⟩) : T P 0 nt (.seq x y) Q σ :=
  T.seq (T.mono (V.T hm h0) fun e σ' hq => by
    cases e with
    | normal =>
      obtain ⟨h1, h2⟩ := hq
      have hc : Weak 0 σ' (Abs.canon 0 100 live (keysV σ'.m (live.map σ'.t)) σ') := Weak.canon live (keysV σ'.m (live.map σ'.t)) σ' (Nat.zero_le _) h1 (fun _ _ => Nat.zero_le _)
      refine T.weak hc ?_
      have := V.T hm (rest _ _ h2)
      rw [zip_map_self, ← ofM_updL] at this
      exact this
    | _ => exact hq)
theorem T.loopJ (hm : P.follows .mixedOrders = true) (live : List Nat) (I : Nat → List AV → List Ent → Prop) (n : Nat) (h0 : headK live σ (I n))
    (round : ∀ n vs es, I n vs es → V P 0 nt c (thenS (fun σ' => ∃ n', n' < n ∧ headK live σ' (I n')) Q) ⟨ofT (live.zip vs), updL M0 100 es⟩) : T P 0 nt (.loop c) Q σ :=
  T.loopV live _ I n (Nat.zero_le _) [] rfl h0.1 (fun _ _ => Nat.zero_le _) rfl h0.2 fun n vs es hI => by
    rw [ofM_updL]
    refine T.mono (Q := thenS (fun σ' => ∃ n', n' < n ∧ headK live σ' (I n')) Q) (V.T hm (round n vs es hI)) ?_
    · intro e σ' hq
      cases e with
      | normal => obtain ⟨n', h1, h2, h3⟩ := hq; exact ⟨n', _, h1, ⟨h2, fun _ _ => Nat.zero_le _, rfl⟩, h3⟩
      | _ => exact hq
end
section
variable {P : Program} {f : FuncId} {fn : Func} {c : Code} {args : List AV}
theorem SC.of_WJ {ext : List Ent} {res : AV} {ext' : List Ent} {rs : List ResultVar} (hm : P.follows .mixedOrders = true) (hf : P.funcs[f]? = some fn) (hn : (fn.name == "runtime.NumGoroutine") = false) (hb : fn.body = some c)
    (hr : fn.results = rs.toArray) (n : Nat) (hnt : fn.ntmps = n) (hsz : args.length ≤ n) (h : V P ext.length n c (finW P ext.length rs res ext') ⟨ofT (slotsOf 0 args), ofM ext.length 1000 ext []⟩) : SC P f args ext res ext' := by
  subst hnt
  exact SC.of_T hf hn hb hsz (T.mono (V.T hm h) (finW_S (by rw [hr])))
theorem SC.of_VJ {x : Value} {t : Nat} (hm : P.follows .mixedOrders = true) (hf : P.funcs[f]? = some fn) (hn : (fn.name == "runtime.NumGoroutine") = false) (hb : fn.body = some c)
    (hr : fn.results = #[.tmp t]) (n : Nat) (hnt : fn.ntmps = n) (hsz : args.length ≤ n) (h : V P 0 n c (finV t x) ⟨ofT (slotsOf 0 args), M0⟩) : SC P f args [] (.at (.v x)) [] := by
  subst hnt
  rw [← ofM_M0] at h
  exact SC.of_T hf hn hb hsz (T.mono (V.T hm h) (finV_S hr))
end
attribute [go_sem ↓] V_skip V_exit V_ret V_if V_seq_region V_seq_block V_seq_loop V_seq_skip V_seq_cond V_seq_seq_region V_seq_seq_seq V_seq_seq_block V_seq_seq_loop V_seq_seq_skip V_seq_seq_ret V_seq_seq_exit V_block V_cond V_region V_drawn V_loop
end Go.Abs

/- Functions that are handed boxes, or return new ones; bits of numbers. -/
namespace Go.Abs
open Go.RowKit
set_option linter.unusedVariables false
set_option linter.unusedSimpArgs false
set_option maxRecDepth 100000
set_option maxHeartbeats 4000000

def farA : A → Bool
  | .ow k _ _ _ => decide (1000 ≤ k)
  | _ => true
def farV1 : AV → Bool
  | .at a => farA a
  | .ag cs => cs.all farA
  | .tp _ => true
def farV : AV → Bool
  | .tp xs => xs.all farV1
  | x => farV1 x
section
variable {P : Program} {nx nt : Nat} {f : FuncId} {avs args : List AV} {d : Option Nat} {K : St → Prop} {t : Nat → AV} {m : Mem} {keys : List Nat} {ext' : List Ent} {B : Nat}
theorem backA_far (hk : keys.length ≤ 900) {a : A} (h : farA a = true) : backA m keys B a = backA m [] B a := by
  cases a with
  | ow k ver sz n =>
    have : 1000 ≤ k := by simpa [farA] using h
    simp only [backA, List.length_nil, Nat.not_lt_zero, if_false]
    rw [if_neg (show ¬ k < keys.length by omega)]
  | bx k ver off =>
    simp only [backA, List.length_nil, Nat.zero_le, and_true]
    by_cases hc : ver = 0 ∧ 1000 ≤ k
    · rw [if_pos hc, if_pos ⟨hc.1, hc.2, by omega⟩]
    · rw [if_neg hc, if_neg (fun h => hc ⟨h.1, h.2.1⟩)]
  | _ => rfl
theorem backV1_far (hk : keys.length ≤ 900) {x : AV} (h : farV1 x = true) : backV1 m keys B x = backV1 m [] B x := by
  cases x with
  | «at» a => simp only [backV1]; rw [backA_far hk h]
  | ag cs =>
    simp only [backV1]
    congr 1
    exact List.map_congr_left fun a ha => backA_far hk (List.all_eq_true.1 h a ha)
  | tp xs => rfl
theorem backV_far (hk : keys.length ≤ 900) {x : AV} (h : farV x = true) : backV m keys B x = backV m [] B x := by
  cases x with
  | tp xs =>
    simp only [backV]
    congr 1
    exact List.map_congr_left fun a ha => backV1_far hk (List.all_eq_true.1 h a ha)
  | «at» a => exact backV1_far (x := .at a) hk h
  | ag cs => exact backV1_far (x := .ag cs) hk h
/-- A call that hands over what is one's own, and returns something new. -/
theorem callXN {res : AV} {ext : List Ent} (keys : List Nat) (h : SC P f args ext res ext') (hk : keys.length ≤ 900) (hx : CallM nx keys avs args m (siteOf d) ext ext' ∧ (freshes res).length ≤ 16 ∧ farV (instV 1000 res) = true)
    (hK : K ⟨putD t d (backV m [] (siteOf d) (instV 1000 res)), updL (updK m keys ext') (siteOf d) (freshes res)⟩) : callU P nx f avs d K ⟨t, m⟩ := by
  left
  obtain ⟨⟨h1, h2, h3, h4, h5, rfl, h6⟩, hfr, hfar⟩ := hx
  obtain ⟨h7, h8⟩ := likeL_all h3
  refine ⟨_, ⟨keys, [], false, args, res, ext', ⟨h1, hk, plainL_all h2, by simp, h4, h5⟩, ⟨h7, h8, hfr, .inr (.inl rfl)⟩, h6, h, rfl⟩, ?_⟩
  have hm : backM m keys [] false (siteOf d) ext' (freshes res) = updL (updK m keys ext') (siteOf d) (freshes res) := by
    funext k
    rw [updL_at, updK_at h1 h7]
    unfold backM
    cases hi : keys.idxOf? k with
    | some i =>
      have hp := plainL_all h2 k (List.mem_of_getElem? (idxOf?_some hi))
      have hn : ¬ (siteOf d ≤ k ∧ k < siteOf d + (freshes res).length) := fun hn => by
        have := h4 (k - siteOf d) (by omega)
        rw [show siteOf d + (k - siteOf d) = k by omega] at this
        rw [this] at hp; simp [Ent.plain] at hp
      dsimp only
      rw [if_neg hn]
    | none =>
      dsimp only
      rw [if_neg (by simp)]
  rw [hm, backV_far hk hfar]; exact hK
/-- A call that hands over what is one's own, and may return it. -/
theorem callXH {res : AV} {ext : List Ent} (keys : List Nat) (h : SC P f args ext res ext') (hk : keys.length ≤ 900) (hx : CallM nx keys avs args m (siteOf d) ext ext' ∧ (freshes res).length ≤ 16)
    (hK : K ⟨putD t d (backV m keys (siteOf d) (instV 1000 res)), updL (updK m keys ext') (siteOf d) (freshes res)⟩) : callU P nx f avs d K ⟨t, m⟩ := by
  left
  obtain ⟨⟨h1, h2, h3, h4, h5, rfl, h6⟩, hfr⟩ := hx
  obtain ⟨h7, h8⟩ := likeL_all h3
  refine ⟨_, ⟨keys, [], false, args, res, ext', ⟨h1, hk, plainL_all h2, by simp, h4, h5⟩, ⟨h7, h8, hfr, .inr (.inl rfl)⟩, h6, h, rfl⟩, ?_⟩
  have hm : backM m keys [] false (siteOf d) ext' (freshes res) = updL (updK m keys ext') (siteOf d) (freshes res) := by
    funext k
    rw [updL_at, updK_at h1 h7]
    unfold backM
    cases hi : keys.idxOf? k with
    | some i =>
      have hp := plainL_all h2 k (List.mem_of_getElem? (idxOf?_some hi))
      have hn : ¬ (siteOf d ≤ k ∧ k < siteOf d + (freshes res).length) := fun hn => by
        have := h4 (k - siteOf d) (by omega)
        rw [show siteOf d + (k - siteOf d) = k by omega] at this
        rw [this] at hp; simp [Ent.plain] at hp
      dsimp only
      rw [if_neg hn]
    | none =>
      dsimp only
      rw [if_neg (by simp)]
  rw [hm]; exact hK
theorem backH_at {a : A} : backV m keys B (.at a) = .at (backA m keys B a) := rfl
theorem backH_ag {cs : List A} : backV m keys B (.ag cs) = .ag (cs.map (backA m keys B)) := rfl
theorem backH_tp {xs : List AV} : backV m keys B (.tp xs) = .tp (xs.map (backV1 m keys B)) := rfl
theorem backH1_at {a : A} : backV1 m keys B (.at a) = .at (backA m keys B a) := rfl
theorem backH1_ag {cs : List A} : backV1 m keys B (.ag cs) = .ag (cs.map (backA m keys B)) := rfl
theorem backH_v {v : Value} : backA m keys B (.v v) = .v v := rfl
theorem backH_nil : backA m keys B .nil = .nil := rfl
theorem backH_ow0 {a sz n : Nat} {ks : List Nat} : backA m (a :: ks) B (.ow 0 0 sz n) = .ow a (m a).ver sz n := by simp [backA]
theorem backH_ow1 {a b sz n : Nat} {ks : List Nat} : backA m (a :: b :: ks) B (.ow 1 0 sz n) = .ow b (m b).ver sz n := by simp [backA]
theorem backH_ow2 {a b c sz n : Nat} {ks : List Nat} : backA m (a :: b :: c :: ks) B (.ow 2 0 sz n) = .ow c (m c).ver sz n := by simp [backA]
theorem backH_ow3 {a b c d sz n : Nat} {ks : List Nat} : backA m (a :: b :: c :: d :: ks) B (.ow 3 0 sz n) = .ow d (m d).ver sz n := by simp [backA]
theorem backH_ow4 {a b c d e sz n : Nat} {ks : List Nat} : backA m (a :: b :: c :: d :: e :: ks) B (.ow 4 0 sz n) = .ow e (m e).ver sz n := by simp [backA]
theorem backH_ow5 {a b c d e f sz n : Nat} {ks : List Nat} : backA m (a :: b :: c :: d :: e :: f :: ks) B (.ow 5 0 sz n) = .ow f (m f).ver sz n := by simp [backA]
theorem backH_owN {j s n : Nat} (h : 1000 ≤ j) (hk : keys.length ≤ j) : backA m keys B (.ow j 0 s n) = .ow (B + (j - 1000)) 0 s n := by
  simp only [backA, if_true]
  rw [if_neg (show ¬ j < keys.length by omega), if_pos h]
attribute [go_sem] backH_owN backH_at backH_ag backH_tp backH1_at backH1_ag backH_v backH_nil backH_ow0 backH_ow1 backH_ow2 backH_ow3 backH_ow4 backH_ow5
end
def keysN (nx : Nat) (m : Mem) (xs : List AV) : List Nat := (keysV m xs).filter fun k => decide (nx ≤ k)
theorem keysN_eq {nx : Nat} {m : Mem} {xs : List AV} : keysN nx m xs = (keysV m xs).filter fun k => decide (nx ≤ k) := rfl
/-- What a loop's head keeps where memory was handed over. -/
def headN (nx : Nat) (live : List Nat) (σ : St) (I : List AV → List Ent → List Ent → Prop) : Prop :=
  (keysN nx σ.m (live.map σ.t)).Nodup ∧ I (live.map fun t => renV (invOf nx 100 (keysN nx σ.m (live.map σ.t))) σ.m (σ.t t)) ((List.range nx).map fun k => renE (invOf nx 100 (keysN nx σ.m (live.map σ.t))) σ.m (σ.m k)) ((keysN nx σ.m (live.map σ.t)).map fun k => renE (invOf nx 100 (keysN nx σ.m (live.map σ.t))) σ.m (σ.m k))
theorem headN_eq {nx : Nat} {live : List Nat} {t : Nat → AV} {m : Mem} {I : List AV → List Ent → List Ent → Prop} : headN nx live ⟨t, m⟩ I =
    ((keysN nx m (live.map t)).Nodup ∧ I (live.map fun k => renV (invOf nx 100 (keysN nx m (live.map t))) m (t k)) ((List.range nx).map fun k => renE (invOf nx 100 (keysN nx m (live.map t))) m (m k)) ((keysN nx m (live.map t)).map fun k => renE (invOf nx 100 (keysN nx m (live.map t))) m (m k))) := rfl
theorem ofM_two {nx : Nat} {ex es : List Ent} (h : ex.length = nx) (hx : nx ≤ 100) : ofM nx 100 ex es = updL (updL M0 0 ex) 100 es := by
  subst h
  funext k
  rw [updL_at, updL_at, M0_at]
  simp only [ofM, Nat.zero_le, true_and, Nat.zero_add, Nat.sub_zero]
  by_cases hk : k < ex.length
  · rw [if_pos hk, if_neg (by omega), if_pos hk]
  · rw [if_neg hk, if_neg hk]
    by_cases h1 : 100 ≤ k
    · rw [if_pos h1]
      by_cases h2 : k < 100 + es.length
      · rw [if_pos ⟨h1, h2⟩]
      · rw [if_neg (fun h => h2 h.2), List.getD_eq_getElem?_getD, List.getElem?_eq_none (by omega)]; rfl
    · rw [if_neg h1, if_neg (fun h => h1 h.1)]
theorem T.loopN {P : Program} {nx nt : Nat} {c : Code} {Q : Post} {σ : St} (hm : P.follows .mixedOrders = true) (hnx : nx ≤ 100) (live : List Nat) (I : Nat → List AV → List Ent → List Ent → Prop) (n : Nat) (h0 : headN nx live σ (I n))
    (round : ∀ n vs ex es, I n vs ex es → ex.length = nx → W P nx nt c (thenS (fun σ' => ∃ n', n' < n ∧ headN nx live σ' (I n')) Q) ⟨ofT (live.zip vs), updL (updL M0 0 ex) 100 es⟩) : T P nx nt (.loop c) Q σ := by
  have own : ∀ (m : Mem) (xs : List AV), ∀ k ∈ keysN nx m xs, nx ≤ k := fun m xs k hk => by simpa using (List.mem_filter.1 hk).2
  refine T.loopC live (keysN nx σ.m (live.map σ.t)) (fun n σ => ∃ vs ex es, I n vs ex es ∧ ex.length = nx ∧ σ = ⟨ofT (live.zip vs), ofM nx 100 ex es⟩) n hnx h0.1 (own _ _) ⟨_, _, _, h0.2, by simp, ?_⟩ ?_
  · rw [zip_map_self]; rfl
  · rintro n σ ⟨vs, ex, es, hI, hl, rfl⟩
    rw [ofM_two hl hnx]
    refine T.mono (W.T hm (round n vs ex es hI hl)) fun e σ' hq => ?_
    cases e with
    | normal =>
      obtain ⟨n', h1, h2, h3⟩ := hq
      refine ⟨n', keysN nx σ'.m (live.map σ'.t), h1, h2, own _ _, _, _, _, h3, by simp, ?_⟩
      rw [zip_map_self]; rfl
    | _ => exact hq
attribute [go_sem] keysN_eq headN_eq List.filter_cons List.filter_nil
theorem verH_arr {v s : Nat} {r : List (List Value)} : (Ent.arr v s r).ver = v := rfl
theorem verH_box {v : Nat} {c : List A} : (Ent.box v c).ver = v := rfl
attribute [go_sem] verH_arr verH_box
def passB (i : Option Nat) (e : Ent) (ver off : Nat) : A :=
  match i, e with
  | some i, .box ver' _ => if ver = ver' then .bx i 0 off else .dead
  | _, _ => .dead
theorem passB_box {i v off : Nat} {c : List A} : passB (some i) (.box v c) v off = .bx i 0 off := by simp [passB]
theorem passA_bxK {keys : List Nat} {m : Mem} {k ver off : Nat} : passA keys [] m (.bx k ver off) = passB (keys.idxOf? k) (m k) ver off := by
  simp only [passA, passB]
  cases keys.idxOf? k with
  | none => rfl
  | some i => cases m k <;> rfl
theorem plain_box {v : Nat} {c : List A} : (Ent.box v c).plain = c.all A.plain := rfl
theorem like_box {v v' : Nat} {c c' : List A} : (Ent.box v c).like (.box v' c') = c'.all A.plain := rfl
theorem extE_box {v : Nat} {c : List A} : extE (.box v c) = .box 0 c := rfl
theorem merge_box {v v' : Nat} {c c' : List A} : merge (.box v c) (.box v' c') = .box v c' := rfl
theorem plain_v {v : Value} : (A.v v).plain = true := rfl
theorem plain_im {s : Nat} {r : List (List Value)} : (A.im s r).plain = true := rfl
theorem farV_tp {xs : List AV} : farV (.tp xs) = xs.all farV1 := rfl
theorem farV_at {a : A} : farV (.at a) = farA a := rfl
theorem farV_ag {cs : List A} : farV (.ag cs) = cs.all farA := rfl
theorem farV1_at {a : A} : farV1 (.at a) = farA a := rfl
theorem farV1_ag {cs : List A} : farV1 (.ag cs) = cs.all farA := rfl
theorem farA_ow {k v s n : Nat} : farA (.ow k v s n) = decide (1000 ≤ k) := rfl
theorem farA_v {v : Value} : farA (.v v) = true := rfl
theorem farA_bx {k v o : Nat} : farA (.bx k v o) = true := rfl
theorem farA_nil : farA .nil = true := rfl
attribute [go_sem] passA_bxK passB_box plain_box like_box extE_box merge_box plain_v plain_im farV_tp farV_at farV_ag farV1_at farV1_ag farA_ow farA_v farA_bx farA_nil List.all_cons List.all_nil
/-! ### Calls that hand over memory and are lent arrays, also where the order is open -/
def disjL : List Nat → List Nat → Prop
  | [], _ => True
  | k :: ks, keys => k ∉ keys ∧ disjL ks keys
theorem disjL_nil {keys : List Nat} : disjL [] keys = True := rfl
theorem disjL_cons {k : Nat} {ks keys : List Nat} : disjL (k :: ks) keys = (k ∉ keys ∧ disjL ks keys) := rfl
theorem disjL_all {keys : List Nat} : ∀ {bor : List Nat}, disjL bor keys → ∀ k ∈ bor, k ∉ keys := by
  intro bor
  induction bor with
  | nil => intro _ k hk; cases hk
  | cons b bor ih =>
    intro h k hk
    rcases List.mem_cons.1 hk with rfl | hk
    · exact h.1
    · exact ih h.2 k hk
/-- What a call must find that hands memory over, and is lent arrays that nobody writes any more. -/
def CallH (nx : Nat) (keys bor : List Nat) (avs args : List AV) (m : Mem) (B : Nat) (ext ext' : List Ent) (res : AV) : Prop :=
  keys.Nodup ∧ plainL m keys ∧ likeL m keys ext' ∧ Gone m B ∧ nx ≤ B ∧ exts keys m = ext ∧ subT (avs.map (passV keys bor m)) args ∧ borOk m bor ∧ ownOk nx bor ∧ disjL bor keys ∧ (freshes res).length ≤ 16
section
variable {P : Program} {nx nt : Nat} {f : FuncId} {avs args : List AV} {d : Option Nat} {K : St → Prop} {t : Nat → AV} {m : Mem} {keys bor ban : List Nat} {ext ext' : List Ent} {B : Nat} {res : AV}
theorem hand_core (hk : keys.length ≤ 900) (hx : CallH nx keys bor avs args m B ext ext' res) :
    CallOk nx m keys bor true B ∧ BackOk m keys bor true ext' (freshes res) res ∧ subT (avs.map (passV keys bor m)) args ∧ exts keys m = ext ∧ backM m keys bor true B ext' (freshes res) = updL (iceL (updK m keys ext') bor) B (freshes res) := by
  obtain ⟨h1, h2, h3, h4, h5, h6, h7, h8, h9, h10, h11⟩ := hx
  obtain ⟨h12, h13⟩ := likeL_all h3
  have hb := borOk_all h8
  have ho := ownOk_all h9
  have hd := disjL_all h10
  refine ⟨⟨h1, hk, plainL_all h2, fun k hk => ⟨hb k hk, hd k hk, fun _ => ho k hk⟩, h4, h5⟩, ⟨h12, h13, h11, .inl rfl⟩, h7, h6, ?_⟩
  funext k
  rw [updL_at, iceL_at, updK_at h1 h12]
  unfold backM
  have hsite : ∀ k, m k ≠ .gone → ¬ (B ≤ k ∧ k < B + (freshes res).length) := fun k hk hh => by
    have := h4 (k - B) (by omega)
    rw [show B + (k - B) = k by omega] at this
    exact hk this
  cases hi : keys.idxOf? k with
  | some i =>
    have hmem := List.mem_of_getElem? (idxOf?_some hi)
    have hp := plainL_all h2 k hmem
    have hn := hsite k (fun h => by rw [h] at hp; simp [Ent.plain] at hp)
    dsimp only
    rw [if_neg hn, if_neg (fun h => hd k h hmem)]
  | none =>
    dsimp only
    by_cases hkb : k ∈ bor
    · obtain ⟨v, s, r, hm⟩ := hb k hkb
      rw [if_pos ⟨rfl, hkb⟩, if_neg (hsite k (by rw [hm]; simp)), if_pos hkb]
    · rw [if_neg (fun h => hkb h.2), if_neg hkb]
/-- .. and returns something new; .. -/
theorem callXNB (keys bor : List Nat) (h : SC P f args ext res ext') (hk : keys.length ≤ 900) (hx : CallH nx keys bor avs args m (siteOf d) ext ext' res) (hfar : farV (instV 1000 res) = true)
    (hK : K ⟨putD t d (backV m [] (siteOf d) (instV 1000 res)), updL (iceL (updK m keys ext') bor) (siteOf d) (freshes res)⟩) : callU P nx f avs d K ⟨t, m⟩ := by
  obtain ⟨h1, h2, h3, rfl, h5⟩ := hand_core hk hx
  exact .inl ⟨_, ⟨keys, bor, true, args, res, ext', h1, h2, h3, h, rfl⟩, by rw [h5, backV_far hk hfar]; exact hK⟩
theorem callXNQ (keys bor : List Nat) (hban : ∀ k ∈ keys, k ∈ ban) (h : SC P f args ext res ext') (hk : keys.length ≤ 900) (hx : CallH nx keys bor avs args m (siteOf d) ext ext' res) (hfar : farV (instV 1000 res) = true)
    (hK : K ⟨putD t d (backV m [] (siteOf d) (instV 1000 res)), updL (iceL (updK m keys ext') bor) (siteOf d) (freshes res)⟩) : callQ P nx ban f avs d K ⟨t, m⟩ := by
  obtain ⟨h1, h2, h3, rfl, h5⟩ := hand_core hk hx
  exact ⟨_, ⟨keys, bor, true, args, res, ext', hban, h1, h2, h3, h, rfl⟩, by rw [h5, backV_far hk hfar]; exact hK⟩
/-- .. or may return what it was handed. -/
theorem callXHB (keys bor : List Nat) (h : SC P f args ext res ext') (hk : keys.length ≤ 900) (hx : CallH nx keys bor avs args m (siteOf d) ext ext' res)
    (hK : K ⟨putD t d (backV m keys (siteOf d) (instV 1000 res)), updL (iceL (updK m keys ext') bor) (siteOf d) (freshes res)⟩) : callU P nx f avs d K ⟨t, m⟩ := by
  obtain ⟨h1, h2, h3, rfl, h5⟩ := hand_core hk hx
  exact .inl ⟨_, ⟨keys, bor, true, args, res, ext', h1, h2, h3, h, rfl⟩, by rw [h5]; exact hK⟩
theorem callXHQ (keys bor : List Nat) (hban : ∀ k ∈ keys, k ∈ ban) (h : SC P f args ext res ext') (hk : keys.length ≤ 900) (hx : CallH nx keys bor avs args m (siteOf d) ext ext' res)
    (hK : K ⟨putD t d (backV m keys (siteOf d) (instV 1000 res)), updL (iceL (updK m keys ext') bor) (siteOf d) (freshes res)⟩) : callQ P nx ban f avs d K ⟨t, m⟩ := by
  obtain ⟨h1, h2, h3, rfl, h5⟩ := hand_core hk hx
  exact ⟨_, ⟨keys, bor, true, args, res, ext', hban, h1, h2, h3, h, rfl⟩, by rw [h5]; exact hK⟩
/-- A call that is lent arrays which nobody writes any more, where the order is open. -/
theorem callXFQ (bor : List Nat) (h : SC P f args [] res []) (hx : CallX nx bor true avs args m (siteOf d) res) (hK : K ⟨putD t d (backV m [] (siteOf d) (instV 1000 res)), updL (iceL m bor) (siteOf d) (freshes res)⟩) : callQ P nx ban f avs d K ⟨t, m⟩ := by
  obtain ⟨h1, h2, h3, h4, h5, h6, h7⟩ := hx
  have hd : disjL bor [] := by
    clear h1 h5 h6 h7 hK
    induction bor with
    | nil => trivial
    | cons b bor ih => exact ⟨by simp, ih⟩
  have hx' : CallH nx [] bor avs args m (siteOf d) [] [] res := ⟨List.nodup_nil, trivial, trivial, h2, h3, rfl, h1, h5, h7.resolve_left (by simp), hd, h4⟩
  obtain ⟨k1, k2, k3, k4, k5⟩ := hand_core (by simp) hx'
  exact ⟨_, ⟨[], bor, true, args, res, [], by simp, k1, k2, k3, h, rfl⟩, by rw [k5]; exact hK⟩
theorem passA_owN {k ver sz n : Nat} (h : k ∉ keys) : passA keys bor m (.ow k ver sz n) = passE (m k) (decide (k ∈ bor)) ver sz := by
  have hidx : keys.idxOf? k = none := by
    cases hh : keys.idxOf? k with
    | none => rfl
    | some i => exact absurd (List.mem_of_getElem? (idxOf?_some hh)) h
  simp only [passA, hidx, passE]
  cases m k <;> simp [and_assoc]
theorem passA_owKB {k ver sz n : Nat} (h : k ∈ keys) : passA keys bor m (.ow k ver sz n) = passK (keys.idxOf? k) (m k) ver sz n := by
  cases hi : keys.idxOf? k with
  | none =>
    obtain ⟨i, hi'⟩ := List.mem_iff_getElem?.1 h
    exfalso
    have : ∀ {l : List Nat}, k ∈ l → l.idxOf? k ≠ none := by
      intro l
      induction l with
      | nil => intro h; cases h
      | cons a l ih =>
        intro hm
        rw [List.idxOf?_cons]
        by_cases ha : (a == k) = true
        · rw [if_pos ha]; simp
        · rw [if_neg ha]
          have := ih ((List.mem_cons.1 hm).resolve_left (fun e => ha (by simp [e])))
          intro hn
          cases h : l.idxOf? k with
          | none => exact this h
          | some i => rw [h] at hn; simp at hn
    exact this h hi
  | some i => simp only [passA, hi, passK]; cases m k <;> rfl
theorem passA_bxB {k ver off : Nat} : passA keys bor m (.bx k ver off) = passB (keys.idxOf? k) (m k) ver off := by
  simp only [passA, passB]
  cases keys.idxOf? k with
  | none => rfl
  | some i => cases m k <;> rfl
theorem passV_atB {a : A} : passV keys bor m (.at a) = .at (passA keys bor m a) := rfl
theorem passV_agB {cs : List A} : passV keys bor m (.ag cs) = .ag (cs.map (passA keys bor m)) := rfl
theorem passA_vB {v : Value} : passA keys bor m (.v v) = .v v := rfl
theorem passA_imB {s : Nat} {r : List (List Value)} : passA keys bor m (.im s r) = .im s r := rfl
theorem passA_nilB : passA keys bor m .nil = .nil := rfl
end
attribute [go_sem] CallH disjL_nil disjL_cons passA_owN passA_owKB passA_bxB passV_atB passV_agB passA_vB passA_imB passA_nilB
def nck : AV → Option AV
  | .at (.bx k ver off) => some (.at (.bx k ver off))
  | _ => none
theorem nck_bx {k ver off : Nat} : nck (.at (.bx k ver off)) = some (.at (.bx k ver off)) := rfl
section
variable {P : Program} {nx : Nat} {q : Qm} {d : Option Nat} {x : Operand} {ty : TypeId} {pos : String} {af : Array Edge} {g : Option (Nat × Bool)} {K : St → Prop} {t : Nat → AV} {m : Mem}
theorem actW_nilCheck : actW P nx q ⟨d, .nilCheck x, ty, pos, af, g⟩ K ⟨t, m⟩ = (onO (todo (nck ((⟨t, m⟩ : St).ev x))) fun v => K ⟨putD t d v, m⟩) := by
  show actC P nx q ⟨d, .nilCheck x, ty, pos, af, g⟩ K ⟨t, m⟩ = _
  rw [actC_nilCheck]
  simp only [opS, todo]
  generalize (⟨t, m⟩ : St).ev x = v
  cases v with
  | «at» a => cases a <;> simp [nck, onO, onM]
  | _ => simp [nck, onO, onM]
theorem actU_nilCheck : actU P nx ⟨d, .nilCheck x, ty, pos, af, g⟩ K ⟨t, m⟩ = actW P nx none ⟨d, .nilCheck x, ty, pos, af, g⟩ K ⟨t, m⟩ := rfl
end
attribute [go_sem ↓] actU_nilCheck actW_nilCheck
attribute [go_sem] nck_bx
/-! ### Bits -/
def bAnd (k : IntKind) (a b : Int) : Int := k.wrap ((BitVec.ofInt k.bits a &&& BitVec.ofInt k.bits b).toNat)
def bXor (k : IntKind) (a b : Int) : Int := k.wrap ((BitVec.ofInt k.bits a ^^^ BitVec.ofInt k.bits b).toNat)
def bShr (k : IntKind) (a b : Int) : Int := a.fdiv (2 ^ (min b.toNat k.bits))
section
variable {P : Program} {ty t1 t2 : TypeId} {k k' : IntKind} {a b : Int} {K : Value → Prop}
theorem bin_and : onR (binS P .and ty (.at (.v (.int k a))) (.at (.v (.int k b)))) K = K (.int k (bAnd k a b)) := by
  simp only [binS, intBin, onR, if_true, bAnd, true_and]
theorem bin_xor : onR (binS P .xor ty (.at (.v (.int k a))) (.at (.v (.int k b)))) K = K (.int k (bXor k a b)) := by
  simp only [binS, intBin, onR, if_true, bXor, true_and]
theorem bin_shr : onR (binS P .shr ty (.at (.v (.int k a))) (.at (.v (.int k' b)))) K = (0 ≤ b ∧ K (.int k (bShr k a b))) := by
  simp only [binS, shBin, onR, bShr]
theorem conv_ii {k1 k2 : IntKind} (h1 : P.underlying t1 = some (.int k1)) (h2 : P.underlying t2 = some (.int k2)) : onO (convS P t1 t2 (.at (.v (.int k a)))) K = K (.int k2 (k2.wrap a)) := by
  simp only [convS, h1, h2, onO]
theorem bAnd_255 : 0 ≤ bAnd .i64 a 255 ∧ bAnd .i64 a 255 ≤ 255 := by
  unfold bAnd
  have h : (BitVec.ofInt (IntKind.bits .i64) a &&& BitVec.ofInt (IntKind.bits .i64) 255).toNat ≤ 255 := by
    rw [BitVec.toNat_and]
    exact Nat.le_trans Nat.and_le_right (by decide)
  generalize (BitVec.ofInt (IntKind.bits .i64) a &&& BitVec.ofInt (IntKind.bits .i64) 255).toNat = n at h
  rw [wrap64 (by omega) (by omega)]
  omega
end
attribute [go_sem] bin_and bin_xor bin_shr
end Go.Abs
