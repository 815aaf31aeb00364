/- Words for computing: append, cuts, max and min. -/
import Derived.Test.YtcaokibfjjoimaaAEvMem
namespace Go.Abs
open Go.RowKit
set_option linter.unusedVariables false
set_option linter.unusedSimpArgs false

section
variable {P : Program} {κ nx : Nat} {q : Bool} {K : AV → Mem → Prop} {t : Nat → AV} {m : Mem} {t1 t2 e : TypeId} {x y : Operand} {sz by_ : Nat} {news : List (List Value)}

/-- The room that an append may take. -/
def Room (n by_ : Nat) : Prop := n * by_ ≤ 140737488355328 ∧ n ≤ 4611686018427387904

/-- What is put behind. -/
def newsOf (P : Program) (t1 t2 : TypeId) (sz : Nat) (m : Mem) : AV → Option (List (List Value))
  | .at (.v (.string s)) => if sz = 0 ∧ isStr P t2 = true then some (s.data.toList.map fun (b : UInt8) => [Value.int .u8 (b.toNat : Int)]) else none
  | .at .nil => if t2 = t1 then some [] else none
  | x => (srcRows m x).bind fun p => if p.1 = sz + 1 ∧ t2 = t1 then some p.2 else none

theorem news_ow {k v n : Nat} (hm : m k = .arr v (sz + 1) news) : newsOf P t1 t1 sz m (.at (.ow k v (sz + 1) n)) = some news := by
  simp [newsOf, srcRows, hm]
theorem news_oi {k v n : Nat} (hm : m k = .ice v (sz + 1) news) : newsOf P t1 t1 sz m (.at (.ow k v (sz + 1) n)) = some news := by
  simp [newsOf, srcRows, hm]
theorem news_im : newsOf P t1 t1 sz m (.at (.im (sz + 1) news)) = some news := by
  simp [newsOf, srcRows]
theorem news_nil : newsOf P t1 t1 sz m (.at .nil) = some [] := by
  simp [newsOf]

def pushS (P : Program) (κ nx : Nat) (e : TypeId) (sz by_ : Nat) (m : Mem) (D : AV) (news : List (List Value)) : Res :=
  match D with
  | .at .nil =>
    match m κ with
    | .gone => if (zeroVals P e).map List.length = some (sz + 1) then some (.at (.ow κ 0 (sz + 1) news.length), upd m κ (.arr 0 (sz + 1) news), nx ≤ κ ∧ news.length * by_ ≤ 140737488355328 ∧ news.length ≤ 4611686018427387904) else none
    | _ => none
  | .at (.ow k ver sz' n) =>
    match m k with
    | .arr ver' sz'' rows =>
      if ver = ver' ∧ sz' = sz'' ∧ sz' = sz + 1 ∧ nx ≤ k ∧ (zeroVals P e).map List.length = some (sz + 1) then
        some (.at (.ow k (ver + 1) (sz + 1) (rows.length + news.length)), upd m k (.arr (ver + 1) (sz + 1) (rows ++ news)), (rows.length + news.length) * by_ ≤ 140737488355328 ∧ rows.length + news.length ≤ 4611686018427387904)
      else none
    | _ => none
  | _ => none

theorem appendS_eq {D S : AV} (ht : P.underlying t1 = some (.slice e)) (hs : szT P e = some (sz + 1)) (hb : (P.info? e).map (·.bytes) = some by_) (hn : newsOf P t1 t2 sz m S = some news) :
    appendS P κ nx t1 t2 m D S = pushS P κ nx e sz by_ m D news := by
  have : appendS P κ nx t1 t2 m D S = (match newsOf P t1 t2 sz m S with | some news => pushS P κ nx e sz by_ m D news | none => none) := by
    simp only [appendS, ht, hs, hb]
    rfl
  rw [this, hn]

theorem app_nil (ht : P.underlying t1 = some (.slice e)) (hs : szT P e = some (sz + 1)) (hb : (P.info? e).map (·.bytes) = some by_) (hz : (zeroVals P e).map List.length = some (sz + 1))
    (hx : (⟨t, m⟩ : St).ev x = .at .nil) (hn : newsOf P t1 t2 sz m ((⟨t, m⟩ : St).ev y) = some news) :
    onM (builtinS P κ nx .append [x, y] [t1, t2] ⟨t, m⟩) K = (m κ = .gone ∧ (nx ≤ κ ∧ Room news.length by_) ∧ K (.at (.ow κ 0 (sz + 1) news.length)) (upd m κ (.arr 0 (sz + 1) news))) := by
  refine gone_cases (r := _ ∧ _) (fun h => ?_) (fun h => ?_)
  · simp only [builtinS, appendS_eq ht hs hb hn, pushS, hx]
    cases hm : m κ <;> simp_all [onM]
  · simp only [builtinS, appendS_eq ht hs hb hn, pushS, hx, h, hz, if_true, onM, Room]

theorem app_ow {k ver n : Nat} {rows : List (List Value)} (ht : P.underlying t1 = some (.slice e)) (hs : szT P e = some (sz + 1)) (hb : (P.info? e).map (·.bytes) = some by_) (hz : (zeroVals P e).map List.length = some (sz + 1))
    (hx : (⟨t, m⟩ : St).ev x = .at (.ow k ver (sz + 1) n)) (hm : m k = .arr ver (sz + 1) rows) (hk : nx ≤ k) (hn : newsOf P t1 t2 sz m ((⟨t, m⟩ : St).ev y) = some news) :
    onM (builtinS P κ nx .append [x, y] [t1, t2] ⟨t, m⟩) K = (Room (rows.length + news.length) by_ ∧ K (.at (.ow k (ver + 1) (sz + 1) (rows.length + news.length))) (upd m k (.arr (ver + 1) (sz + 1) (rows ++ news)))) := by
  simp only [builtinS, appendS_eq ht hs hb hn, pushS, hx, hm, hz, hk, and_self, if_true, onM, Room]

theorem max_i {ts : List TypeId} {k : IntKind} {a b : Int} (hx : (⟨t, m⟩ : St).ev x = .at (.v (.int k a))) (hy : (⟨t, m⟩ : St).ev y = .at (.v (.int k b))) : onM (builtinS P κ nx .max [x, y] ts ⟨t, m⟩) K = K (.at (.v (.int k (max a b)))) m := by
  simp only [builtinS, hx, hy, max2S, onM, true_and]
  congr 4
  split <;> omega
theorem min_i {ts : List TypeId} {k : IntKind} {a b : Int} (hx : (⟨t, m⟩ : St).ev x = .at (.v (.int k a))) (hy : (⟨t, m⟩ : St).ev y = .at (.v (.int k b))) : onM (builtinS P κ nx .min [x, y] ts ⟨t, m⟩) K = K (.at (.v (.int k (min a b)))) m := by
  simp only [builtinS, hx, hy, min2S, onM, true_and]
  congr 4
  split <;> omega

theorem cut_im {lo hi : Option Operand} {rows : List (List Value)} {l h : Int} (ht : P.underlying t1 = some (.slice e)) (hs : szT P e = some sz) (hl : boundS ⟨t, m⟩ lo 0 = some l) (hh : boundS ⟨t, m⟩ hi rows.length = some h) :
    onM (sliceS P nx q t1 ⟨t, m⟩ (.at (.im sz rows)) lo hi none) K = ((0 ≤ l ∧ l ≤ h ∧ h ≤ (rows.length : Int)) ∧ K (.at (.im sz ((rows.drop l.toNat).take (h.toNat - l.toNat)))) m) := by
  simp only [sliceS, ht, hs, if_true, hl, hh, onM]
theorem cut_str {lo hi : Option Operand} {s : ByteArray} {l h : Int} (ht : P.underlying t1 = some .string) (hl : boundS ⟨t, m⟩ lo 0 = some l) (hh : boundS ⟨t, m⟩ hi s.size = some h) :
    onM (sliceS P nx q t1 ⟨t, m⟩ (.at (.v (.string s))) lo hi none) K = ((0 ≤ l ∧ l ≤ h ∧ h ≤ (s.size : Int)) ∧ K (.at (.v (.string (s.extract l.toNat h.toNat)))) m) := by
  simp only [sliceS, ht, hl, hh, onM]
theorem cut_ow {lo hi : Option Operand} {k ver n : Nat} {rows : List (List Value)} {l h : Int} (ht : P.underlying t1 = some (.slice e)) (hs : szT P e = some sz) (hk : nx ≤ k) (hm : m k = .arr ver sz rows) (hl : boundS ⟨t, m⟩ lo 0 = some l) (hh : boundS ⟨t, m⟩ hi n = some h) :
    onM (sliceS P nx false t1 ⟨t, m⟩ (.at (.ow k ver sz n)) lo hi none) K = ((0 ≤ l ∧ l ≤ h ∧ h ≤ (n : Int)) ∧ K (.at (.ow k (ver + 1) sz (h.toNat - l.toNat))) (upd m k (.arr (ver + 1) sz ((rows.drop l.toNat).take (h.toNat - l.toNat))))) := by
  simp only [sliceS, ht, hs, hk, hl, hh, hm, and_self, if_true, onM]
end
end Go.Abs
