/- A region that leaves its order open: every order comes to the same. -/
import Derived.Test.YtfkciaogihemiaaARegion
namespace Go.Abs
open Go.RowKit
set_option linter.unusedVariables false
set_option linter.unusedSimpArgs false

inductive Cls where
  | p | l | n | k | m
  deriving DecidableEq

def clsOf (quiet : Bool) (o : Oper) : Cls :=
  match o.op with
  | .move _ => .p
  | .assign _ => .p
  | .pick .. => .p
  | .binOp .. => .p
  | .unOp .. => .p
  | .convert .. => .p
  | .fieldAddr .. => .p
  | .field .. => .p
  | .indexAddr .. => .p
  | .index .. => .p
  | .slice .. => if quiet then .p else .m
  | .build .. => .p
  | .extract .. => .p
  | .nilCheck _ => .p
  | .load .. => .l
  | .box .. => .n
  | .alloc _ => .n
  | .buildSlice .. => .n
  | .makeSlice .. => .n
  | .call c =>
    match c.callee with
    | .builtin .len => .p
    | .builtin .max => .p
    | .builtin .min => .p
    | .value (.func _) => if quiet then .k else .m
    | _ => .m
  | _ => .m

def Cls.comm : Cls → Cls → Bool
  | .p, _ => true
  | _, .p => true
  | .l, .l => true
  | .l, .n => true
  | .n, .l => true
  | .n, .n => true
  | .l, .k => true
  | .k, .l => true
  | _, _ => false

section
variable {P : Program} {nx : Nat} {quiet : Bool} {o : Oper} {σ τ : St}

theorem fillS_congr {fs : List Field} {parts : List (Nat × Operand)} (h : ∀ p ∈ parts, τ.ev p.2 = σ.ev p.2) (as : List A) : fillS fs P τ parts as = fillS fs P σ parts as := by
  induction parts generalizing as with
  | nil => rfl
  | cons p parts ih =>
    obtain ⟨i, x⟩ := p
    have hx : τ.ev x = σ.ev x := h (i, x) (by simp)
    have ih' := ih fun p hp => h p (by simp [hp])
    simp only [fillS, hx, ih']

theorem fillRows_congr {sz : Nat} {parts : List (Nat × Operand)} (h : ∀ p ∈ parts, τ.ev p.2 = σ.ev p.2) (rows : List (List Value)) : fillRows τ sz parts rows = fillRows σ sz parts rows := by
  induction parts generalizing rows with
  | nil => rfl
  | cons p parts ih =>
    obtain ⟨i, x⟩ := p
    have hx : τ.ev x = σ.ev x := h (i, x) (by simp)
    have ih' := ih fun p hp => h p (by simp [hp])
    simp only [fillRows, hx, ih']

theorem boundS_congr {x : Option Operand} {d : Int} (h : ∀ y, x = some y → τ.ev y = σ.ev y) : boundS τ x d = boundS σ x d := by
  cases x with
  | none => rfl
  | some y => simp only [boundS, h y rfl]

theorem builtinS_congr {κ : Nat} {b : Builtin} {args : List Operand} {ts : List TypeId} (h : ∀ y ∈ args, τ.ev y = σ.ev y) (hm : τ.m = σ.m) : builtinS P κ nx b args ts τ = builtinS P κ nx b args ts σ := by
  unfold builtinS
  split <;> simp_all

theorem opS_congr (h : ∀ y ∈ o.op.operands.toList, τ.ev y = σ.ev y) (hm : τ.m = σ.m) : opS P nx quiet o τ = opS P nx quiet o σ := by
  obtain ⟨dst, op, type, pos, after, guard⟩ := o
  cases op <;> simp only [Op.operands, List.mem_cons, List.not_mem_nil, or_false, forall_eq_or_imp, forall_eq] at h <;> simp only [opS]
  all_goals first
    | (simp only [h, hm]; done)
    | skip
  case build t parts =>
    have : ∀ as fs, fillS fs P τ parts.toList as = fillS fs P σ parts.toList as := fun as fs => fillS_congr (fun p hp => h p.2 (by
      simp only [List.mem_map]; exact ⟨p, hp, rfl⟩)) as
    simp only [this, hm]
  case buildSlice t len parts =>
    have : ∀ sz rows, fillRows τ sz parts.toList rows = fillRows σ sz parts.toList rows := fun sz rows => fillRows_congr (fun p hp => h p.2 (by
      simp only [List.mem_map]; exact ⟨p, hp, rfl⟩)) rows
    simp only [this, hm]
  case slice t x lo hi mx =>
    simp only [Array.toList_append, List.mem_append] at h
    have hx := h x (by simp)
    have hl : ∀ d, boundS τ lo d = boundS σ lo d := fun d => boundS_congr fun y hy => h y (by subst hy; simp)
    have hh : ∀ d, boundS τ hi d = boundS σ hi d := fun d => boundS_congr fun y hy => h y (by subst hy; simp)
    simp only [sliceS, hx, hl, hh, hm]
  case call cl =>
    split
    · rename_i b hcl
      refine builtinS_congr (fun y hy => h y ?_) hm
      simp only [Call.operands, hcl, Array.toList_append, List.mem_append]
      exact .inr hy
    · rfl

/-- An operation that neither looks at memory nor turns it. -/
theorem opS_pure (hp : clsOf quiet o = .p) {t : Nat → AV} {m m0 : Mem} : opS P nx quiet o ⟨t, m⟩ = (opS P nx quiet o ⟨t, m0⟩).map fun r => (r.1, m, r.2.2) := by
  have hev : ∀ y, (⟨t, m⟩ : St).ev y = (⟨t, m0⟩ : St).ev y := fun y => by cases y <;> rfl
  obtain ⟨dst, op, type, pos, after, guard⟩ := o
  cases op <;> simp only [clsOf, reduceCtorEq] at hp <;> simp only [opS, hev] <;> try (first | rfl | (split <;> rfl))
  case build ty parts =>
    have : ∀ as fs, fillS fs P ⟨t, m⟩ parts.toList as = fillS fs P ⟨t, m0⟩ parts.toList as := fun as fs => fillS_congr (fun p _ => hev p.2) as
    simp only [this]
    repeat' split
    all_goals first | rfl | simp_all
  case slice ty x lo hi mx =>
    have hq : quiet = true := by cases quiet <;> simp_all
    subst hq
    have hb : ∀ y d, boundS ⟨t, m⟩ y d = boundS ⟨t, m0⟩ y d := fun y d => boundS_congr fun z _ => hev z
    simp only [sliceS, hb, Bool.true_eq_false, false_and, and_false, if_false]
    repeat' split
    all_goals first | rfl | simp_all
  case extract x i =>
    repeat' split
    all_goals first | rfl | simp_all
  case call cl =>
    split at hp <;> try (cases hp; done)
    · rename_i hc
      simp only [hc, builtinS]
      repeat' split
      all_goals first | rfl | simp_all
    · rename_i hc
      simp only [hc, builtinS]
      repeat' split
      all_goals first | rfl | simp_all
    · rename_i hc
      simp only [hc, builtinS]
      repeat' split
      all_goals first | rfl | simp_all
    · split at hp <;> cases hp

end
end Go.Abs
