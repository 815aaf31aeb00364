/- Regions that have their order, walked in parts: what comes after a part is shown once. -/
import Derived.Test.YtfdkpmbpnppllaaGreatAHarn
namespace Go.Abs
open Go.RowKit
set_option linter.unusedVariables false
set_option linter.unusedSimpArgs false

/-- From every frame that is as told, the rest of a region comes to one that is as told. -/
def TR (P : Program) (nt : Nat) (ops : Array Oper) (L : List Oper) (Q : Post) (σ : St) : Prop :=
  ∀ (k : Nat) (g : G) (F : Nat → Prop) (lam : Lam) (a : Act) (w : World), ops.toList.drop k = L → g.P = P → g.nx = 0 → g.nt = nt → Inv g F lam σ a w →
    wpOps P ops (fun e a' w' => ∃ σ' F' lam', Q e σ' ∧ Inv g F' lam' σ' a' w') (List.range' k L.length) a w
theorem rawApp_cons {β : Type} {a : β} {l m : List β} : (a :: l).append m = a :: l.append m := rfl
theorem rawApp_nil {β : Type} {m : List β} : ([] : List β).append m = m := rfl
attribute [go_sem] rawApp_cons rawApp_nil
section
variable {P : Program} {nt : Nat} {ops : Array Oper} {L : List Oper} {Q : Post} {σ σ' : St} {x y z : Code} {id : Nat} {c : Operand}
theorem TR.weak (hw : Weak 0 σ σ') (h : TR P nt ops L Q σ') : TR P nt ops L Q σ := fun k g F lam a w hL h1 h2 h3 hI =>
  let ⟨F', lam', hI'⟩ := hw g F lam a w h2 hI
  h k g F' lam' a w hL h1 h2 h3 hI'
theorem runU_cut {g : G} {L2 : List Oper} {K : St → Prop} (h2 : g.nx = 0) (hK : ∀ σ', K σ' → TR g.P g.nt ops L2 Q σ') : ∀ (L : List Oper) (k : Nat) (σ : St) (F : Nat → Prop) (lam : Lam) (a : Act) (w : World), ops.toList.drop k = L ++ L2 → runU g.P 0 g.nt ops L K σ → Inv g F lam σ a w →
    wpOps g.P ops (fun e a' w' => ∃ σ' F' lam', Q e σ' ∧ Inv g F' lam' σ' a' w') (List.range' k (L ++ L2).length) a w := by
  intro L
  induction L with
  | nil => intro k σ F lam a w hL h hI; exact hK σ h k g F lam a w hL rfl h2 rfl hI
  | cons o L ih =>
    intro k σ F lam a w hL h hI
    have hk : ops.toList[k]? = some o := by
      have := congrArg (·[0]?) hL
      simpa using this
    rw [List.cons_append, List.length_cons, List.range'_succ, wpOps_cons]
    unfold wpOp
    rw [show ops[k]? = some o by simpa using hk]
    have h' : stepU g.P g.nx g.nt ops o (runU g.P 0 g.nt ops L K) σ := by rw [h2]; exact h
    exact stepU_sound hI h' fun σ' hK' F' lam' a' w' hI' => ih (k + 1) σ' F' lam' a' w' (by rw [← List.drop_drop, hL]; rfl) hK' hI'
theorem TR.part (j : Nat) (h : evK (todo (L.take j)) fun L1 => runU P 0 nt ops L1 (fun σ' => TR P nt ops (L.drop j) Q σ') σ) : TR P nt ops L Q σ := fun k g F lam a w hL h1 h2 h3 hI => by
  subst h1; subst h3
  have := runU_cut h2 (fun _ h => h) (L.take j) k σ F lam a w (by rw [List.take_append_drop]; exact hL) h hI
  rw [List.take_append_drop] at this
  exact this
theorem TR.rest (h : evK (todo L) fun L1 => runU P 0 nt ops L1 (Q .normal) σ) : TR P nt ops L Q σ := fun k g F lam a w hL h1 h2 h3 hI => by
  subst h1; subst h3
  refine runU_sound (K := Q .normal) (fun σ' hK F' lam' a' w' hI' => ⟨σ', F', lam', hK, hI'⟩) L k σ F lam a w hL ?_ hI
  rw [h2]; exact h
theorem TR.join (j : Nat) (live : List Nat) (I : List AV → List Ent → Prop) (h0 : evK (todo (L.take j)) fun L1 => runU P 0 nt ops L1 (fun σ' => headK live σ' I) σ)
    (rest : ∀ vs es, I vs es → TR P nt ops (L.drop j) Q ⟨ofT (live.zip vs), updL M0 100 es⟩) : TR P nt ops L Q σ := by
  have key : ∀ σ', headK live σ' I → TR P nt ops (L.drop j) Q σ' := by
    rintro σ' ⟨h1, h2⟩
    have hc : Weak 0 σ' (Abs.canon 0 100 live (keysV σ'.m (live.map σ'.t)) σ') := Weak.canon live (keysV σ'.m (live.map σ'.t)) σ' (Nat.zero_le _) h1 (fun _ _ => Nat.zero_le _)
    refine TR.weak hc ?_
    have := rest _ _ h2
    rw [zip_map_self, ← ofM_updL] at this
    exact this
  intro k g F lam a w hL h1 h2 h3 hI
  subst h1; subst h3
  have := runU_cut h2 key (L.take j) k σ F lam a w (by rw [List.take_append_drop]; exact hL) h0 hI
  rw [List.take_append_drop] at this
  exact this
theorem T.regionR (h : TR P nt ops ops.toList Q σ) : T P 0 nt (.region id ops false) Q σ := fun g F lam a w h1 h2 h3 hI => by
  subst h1
  refine wp_region ?_
  have := h 0 g F lam a w rfl rfl h2 h3 hI
  rw [List.range_eq_range']; simpa using this
theorem T.seqR (hm : P.follows .mixedOrders = true) (h : TR P nt ops ops.toList (thenS (V P 0 nt y Q) Q) σ) : T P 0 nt (.seq (.region id ops false) y) Q σ :=
  T.seq (T.mono (T.regionR h) fun e σ hq => by
    cases e with
    | normal => exact V.T hm hq
    | _ => exact hq)
theorem T.ifR (hm : P.follows .mixedOrders = true) (h : TR P nt ops ops.toList (thenS (V P 0 nt (.cond c x y) (thenS (T P 0 nt z Q) Q)) Q) σ) : T P 0 nt (.seq (.seq (.region id ops false) (.cond c x y)) z) Q σ :=
  T.seq (T.seq (T.mono (T.regionR h) fun e σ hq => by
    cases e with
    | normal => exact V.T hm hq
    | _ => exact hq))
end
end Go.Abs
