/- What one operation does: the operations on numbers, texts and truths. -/
import Derived.Test.YtfkciaogihemiaaASound
import Derived.WideLaws
namespace Go.Abs
open Go.RowKit
set_option linter.unusedVariables false
set_option linter.unusedSimpArgs false

section
variable {P : Program} {w : World} {F : Nat → Prop} {m : Mem} {lam : Lam}

theorem run_intBin {op : BinOp} {k : IntKind} {a b : Int} {v : Value} {c : Prop} (h : intBin op k a b = some (v, c)) (hc : c) (t : TypeId) (ox oy : Operand) :
    (do eqGuard op t ox oy (.int k a) (.int k b); binOp op t (.int k a) (.int k b) : Sem Value).run P w = .ok v w ∧ v.oneCell' = true := by
  cases op <;> simp only [intBin, Option.some.injEq, Prod.mk.injEq, reduceCtorEq] at h <;> obtain ⟨rfl, rfl⟩ := h <;>
    simp [eqGuard, binOp, Op.intArith, Op.intDiv, Op.intBits, Op.intCmp, Value.oneCell', hc]

theorem run_shBin {op : BinOp} {k k' : IntKind} {a b : Int} {v : Value} {c : Prop} (h : shBin op k a b = some (v, c)) (hc : c) (t : TypeId) (ox oy : Operand) :
    (do eqGuard op t ox oy (.int k a) (.int k' b); binOp op t (.int k a) (.int k' b) : Sem Value).run P w = .ok v w ∧ v.oneCell' = true := by
  cases op <;> simp only [shBin, Option.some.injEq, Prod.mk.injEq, reduceCtorEq] at h <;> obtain ⟨rfl, rfl⟩ := h <;>
    simp [eqGuard, binOp, Op.shift, Value.oneCell', Int.not_lt.2 hc]

theorem run_strBin {op : BinOp} {a b : ByteArray} {v : Value} {c : Prop} (h : strBin op a b = some (v, c)) (hc : c) (t : TypeId) (ox oy : Operand) :
    (do eqGuard op t ox oy (.string a) (.string b); binOp op t (.string a) (.string b) : Sem Value).run P w = .ok v w ∧ v.oneCell' = true := by
  cases op <;> simp only [strBin, Option.some.injEq, Prod.mk.injEq, reduceCtorEq] at h <;> obtain ⟨rfl, rfl⟩ := h
  · refine ⟨?_, rfl⟩
    have := run_string_add_sum (P := P) (w := w) a b hc
    simpa [eqGuard, binOp] using this
  all_goals simp [eqGuard, binOp, Op.stringOp, Value.oneCell']

theorem run_boolBin {op : BinOp} {a b : Bool} {t : TypeId} (ht : P.underlying t = some .bool) (ox oy : Operand) :
    (op = .eql → (do eqGuard op t ox oy (.bool a) (.bool b); binOp op t (.bool a) (.bool b) : Sem Value).run P w = .ok (.bool (a == b)) w) ∧
    (op = .neq → (do eqGuard op t ox oy (.bool a) (.bool b); binOp op t (.bool a) (.bool b) : Sem Value).run P w = .ok (.bool (!(a == b))) w) := by
  constructor <;> rintro rfl <;> simp [eqGuard, binOp, run_equal_bool w t a b ht]

theorem run_ifaceBin {t tx : TypeId} {x : Value} {ms : Array (String × TypeId)} (ht : P.underlying t = some (.interface ms)) (ox oy : Operand) :
    (do eqGuard .eql t ox oy (.iface tx x) .nilIface; binOp .eql t (.iface tx x) .nilIface : Sem Value).run P w = .ok (.bool false) w ∧
    (do eqGuard .neq t ox oy (.iface tx x) .nilIface; binOp .neq t (.iface tx x) .nilIface : Sem Value).run P w = .ok (.bool true) w := by
  have hm : P.underlying t = some (.interface (P.methodsAt t)) := by simp [Program.methodsAt, ht]
  constructor <;> simp [eqGuard, run_eql_held_nil w t tx x hm, run_neq_held_nil w t tx x hm]

theorem run_eqCells {fs : List Field} {xs ys : List A} {us vs : List Value} {r : Bool} (d : Nat) (h : eqCells P fs xs ys = some r)
    (hx : RL (fun a x => RA w F m lam a x ∧ x.oneCell' = true) xs us) (hy : RL (fun a x => RA w F m lam a x ∧ x.oneCell' = true) ys vs) :
    (Op.eqFields (d + 1) us.toArray vs.toArray fs).run P w = .ok r w := by
  induction fs generalizing r with
  | nil => simp only [eqCells, Option.some.injEq] at h; subst h; simp [Op.eqFields]
  | cons f fs ih =>
    simp only [eqCells] at h
    split at h
    · cases h
    · rename_i hn
      split at h
      · rename_i k k0 a k' b r' hu hxa hyb hr
        split at h
        · rename_i hk
          subst hk
          simp only [Option.some.injEq] at h
          subst h
          have hi := ih hr
          have h1 : us[f.offset]? = some (.int k0 a) := by
            have hl := hx.1
            have := (List.getElem?_eq_some_iff.1 hxa).1
            obtain ⟨u, hu'⟩ : ∃ u, us[f.offset]? = some u := ⟨us[f.offset]'(by omega), List.getElem?_eq_getElem _⟩
            have := (hx.2 _ _ _ hxa hu').1.1
            rw [hu', this]
          have h2 : vs[f.offset]? = some (.int k0 b) := by
            have hl := hy.1
            have := (List.getElem?_eq_some_iff.1 hyb).1
            obtain ⟨u, hu'⟩ : ∃ u, vs[f.offset]? = some u := ⟨vs[f.offset]'(by omega), List.getElem?_eq_getElem _⟩
            have := (hy.2 _ _ _ hyb hu').1.1
            rw [hu', this]
          simp only [Op.eqFields, hn, ne_eq, not_false_eq_true, if_true, Sem.run_bind, part, isAgg, run_underlying hu, Result.andThen_ok, Sem.run_pure, Sem.run_ite, Bool.false_eq_true, if_false, List.getElem?_toArray, h1, h2, run_equalIn_int w d f.type k0 k0 a b]
          rw [run_equalIn_int w d f.type k0 k a b hu]
          simp only [Result.andThen_ok]
          cases hab : (a == b)
          · simp
          · simpa using hi
        · cases h
      · rename_i a b r' hu hxa hyb hr
        simp only [Option.some.injEq] at h
        subst h
        have hi := ih hr
        have h1 : us[f.offset]? = some (.bool a) := by
          have hl := hx.1
          have := (List.getElem?_eq_some_iff.1 hxa).1
          obtain ⟨u, hu'⟩ : ∃ u, us[f.offset]? = some u := ⟨us[f.offset]'(by omega), List.getElem?_eq_getElem _⟩
          have := (hx.2 _ _ _ hxa hu').1.1
          rw [hu', this]
        have h2 : vs[f.offset]? = some (.bool b) := by
          have hl := hy.1
          have := (List.getElem?_eq_some_iff.1 hyb).1
          obtain ⟨u, hu'⟩ : ∃ u, vs[f.offset]? = some u := ⟨vs[f.offset]'(by omega), List.getElem?_eq_getElem _⟩
          have := (hy.2 _ _ _ hyb hu').1.1
          rw [hu', this]
        simp only [Op.eqFields, hn, ne_eq, not_false_eq_true, if_true, Sem.run_bind, part, isAgg, run_underlying hu, Result.andThen_ok, Sem.run_pure, Sem.run_ite, Bool.false_eq_true, if_false, List.getElem?_toArray, h1, h2]
        rw [run_equalIn_bool' w d f.type a b hu]
        simp only [Result.andThen_ok]
        cases hab : (a == b)
        · simp
        · simpa using hi
      · cases h

theorem run_aggBin {t : TypeId} {fs : Array Field} {xs ys : List A} {us vs : List Value} {r : Bool} (ht : P.underlying t = some (.struct fs)) (h : eqCells P fs.toList xs ys = some r)
    (h1 : P.eqGuardType P.depth t = false) (h2 : P.stoodInHeld t = false)
    (hx : RL (fun a x => RA w F m lam a x ∧ x.oneCell' = true) xs us) (hy : RL (fun a x => RA w F m lam a x ∧ x.oneCell' = true) ys vs) (ox oy : Operand) :
    (do eqGuard .eql t ox oy (.agg us.toArray) (.agg vs.toArray); binOp .eql t (.agg us.toArray) (.agg vs.toArray) : Sem Value).run P w = .ok (.bool r) w ∧
    (do eqGuard .neq t ox oy (.agg us.toArray) (.agg vs.toArray); binOp .neq t (.agg us.toArray) (.agg vs.toArray) : Sem Value).run P w = .ok (.bool (!r)) w := by
  have hf : P.fieldsOf t = fs := by simp [Program.fieldsOf, ht]
  have hr := run_eqCells (P := P) 9998 h hx hy
  have hq := run_equalIn_agg (P := P) w 9999 t us.toArray vs.toArray (by rw [hf]; exact ht) h2
  rw [hf, hr] at hq
  constructor <;> simp only [Sem.run_bind, run_eqGuard_agg w _ t ox oy _ _ h1, Result.andThen_ok, run_eql_struct, run_neq_struct, hq]

theorem run_binS {op : BinOp} {t : TypeId} {X Y : AV} {v : Value} {c : Prop} {x y : Value} (h : binS P op t X Y = some (v, c)) (hc : c)
    (hX : RV w F m lam X x) (hY : RV w F m lam Y y) (ox oy : Operand) :
    (do eqGuard op t ox oy x y; binOp op t x y : Sem Value).run P w = .ok v w ∧ v.oneCell' = true := by
  unfold binS at h
  split at h
  · obtain ⟨rfl, _⟩ := hX
    obtain ⟨rfl, _⟩ := hY
    split at h
    · exact run_shBin h hc t ox oy
    · exact run_shBin h hc t ox oy
    · split at h
      · rename_i hk; subst hk; exact run_intBin h hc t ox oy
      · cases h
  · obtain ⟨rfl, _⟩ := hX
    obtain ⟨rfl, _⟩ := hY
    exact run_strBin h hc t ox oy
  · obtain ⟨rfl, _⟩ := hX
    obtain ⟨rfl, _⟩ := hY
    split at h
    · rename_i ht
      simp only [Option.some.injEq, Prod.mk.injEq] at h; obtain ⟨rfl, rfl⟩ := h
      exact ⟨(run_boolBin ht ox oy).1 rfl, rfl⟩
    · rename_i ht
      simp only [Option.some.injEq, Prod.mk.injEq] at h; obtain ⟨rfl, rfl⟩ := h
      exact ⟨(run_boolBin ht ox oy).2 rfl, rfl⟩
    · cases h
  · obtain ⟨tx, x0, rfl⟩ := hX
    obtain ⟨rfl, _⟩ := hY
    split at h
    · rename_i ht
      simp only [Option.some.injEq, Prod.mk.injEq] at h; obtain ⟨rfl, rfl⟩ := h
      exact ⟨(run_ifaceBin ht ox oy).1, rfl⟩
    · rename_i ht
      simp only [Option.some.injEq, Prod.mk.injEq] at h; obtain ⟨rfl, rfl⟩ := h
      exact ⟨(run_ifaceBin ht ox oy).2, rfl⟩
    · cases h
  · obtain ⟨us, rfl, hx⟩ := hX
    obtain ⟨vs, rfl, hy⟩ := hY
    split at h
    · rename_i ht
      split at h
      · rename_i hr
        simp only [Option.some.injEq, Prod.mk.injEq] at h; obtain ⟨rfl, rfl⟩ := h
        exact ⟨(run_aggBin ht hr hc.1 hc.2 hx hy ox oy).1, rfl⟩
      · rename_i hr
        simp only [Option.some.injEq, Prod.mk.injEq] at h; obtain ⟨rfl, rfl⟩ := h
        exact ⟨(run_aggBin ht hr hc.1 hc.2 hx hy ox oy).2, rfl⟩
      · cases h
    · cases h
  · cases h

theorem run_unS {op : UnOp} {X : AV} {v x : Value} (h : unS op X = some v) (hX : RV w F m lam X x) : (Op.unary op x).run P w = .ok v w ∧ v.oneCell' = true := by
  unfold unS at h
  split at h
  · obtain ⟨rfl, _⟩ := hX
    split at h <;> simp only [Option.some.injEq, reduceCtorEq] at h
    subst h
    exact ⟨rfl, rfl⟩
  · obtain ⟨rfl, _⟩ := hX
    split at h <;> simp only [Option.some.injEq, reduceCtorEq] at h
    subst h
    exact ⟨rfl, rfl⟩
  · cases h

theorem run_convS {s d : TypeId} {X : AV} {v x : Value} (h : convS P s d X = some v) (hX : RV w F m lam X x) : (convert s d x).run P w = .ok v w ∧ v.oneCell' = true := by
  unfold convS at h
  split at h
  · obtain ⟨rfl, _⟩ := hX
    split at h <;> simp only [Option.some.injEq, reduceCtorEq] at h
    · rename_i hs hd
      subst h
      exact ⟨by simp [convert, run_underlying hs, run_underlying hd, Conv.intToInt], rfl⟩
    · rename_i hs hd
      subst h
      exact ⟨by simp [convert, run_underlying hs, run_underlying hd, Conv.intToString], rfl⟩
  · obtain ⟨rfl, _⟩ := hX
    split at h <;> simp only [Option.some.injEq, reduceCtorEq] at h
    rename_i hs hd
    subst h
    exact ⟨by simp [convert, run_underlying hs, run_underlying hd], rfl⟩
  · cases h

theorem run_lenS {t ty : TypeId} {X : AV} {v x : Value} (h : lenS P t X = some v) (hX : RV w F m lam X x) :
    (Builtin.len_ #[t] ty #[x]).run P w = .ok v w ∧ v.oneCell' = true := by
  unfold lenS at h
  split at h
  · obtain ⟨rfl, _⟩ := hX
    split at h <;> simp only [Option.some.injEq, reduceCtorEq] at h
    rename_i ht; subst h
    exact ⟨by simp [Builtin.len_, run_underlying ht, goInt], rfl⟩
  · obtain ⟨_, a, cap, rfl, _⟩ := hX
    split at h <;> simp only [Option.some.injEq, reduceCtorEq] at h
    rename_i ht; subst h
    exact ⟨by simp [Builtin.len_, run_underlying ht, goInt], rfl⟩
  · obtain ⟨_, ⟨rfl, rfl⟩ | ⟨b, o, cap, rfl⟩, _⟩ := hX <;> split at h <;> simp only [Option.some.injEq, reduceCtorEq] at h <;> rename_i ht <;> subst h <;>
      exact ⟨by simp [Builtin.len_, run_underlying ht, goInt], rfl⟩
  · cases hX
    split at h <;> simp only [Option.some.injEq, reduceCtorEq] at h
    rename_i ht; subst h
    exact ⟨by simp [Builtin.len_, run_underlying ht, goInt], rfl⟩
  · cases h

theorem run_max2 {X Y : AV} {v x y : Value} (h : max2S X Y = some v) (hX : RV w F m lam X x) (hY : RV w F m lam Y y) (ts : Array TypeId) (t : TypeId) : (Builtin.max_ ts t #[x, y]).run P w = .ok v w ∧ v.oneCell' = true := by
  unfold max2S at h
  split at h
  · obtain ⟨rfl, _⟩ := hX
    obtain ⟨rfl, _⟩ := hY
    simp only [Option.some.injEq] at h; subst h
    exact ⟨by simp [Builtin.max_, Builtin.max2], rfl⟩
  · cases h

theorem run_min2 {X Y : AV} {v x y : Value} (h : min2S X Y = some v) (hX : RV w F m lam X x) (hY : RV w F m lam Y y) (ts : Array TypeId) (t : TypeId) : (Builtin.min_ ts t #[x, y]).run P w = .ok v w ∧ v.oneCell' = true := by
  unfold min2S at h
  split at h
  · obtain ⟨rfl, _⟩ := hX
    obtain ⟨rfl, _⟩ := hY
    simp only [Option.some.injEq] at h; subst h
    exact ⟨by simp [Builtin.min_, Builtin.min2], rfl⟩
  · cases h

end
end Go.Abs
