/- Food far from the base: how often the party must have gone out for it. Numbers alone. -/
import Derived.Test.YtfdkpmbpnppllaaGreatAHarn
namespace Go.Abs
open Go.RowKit
set_option linter.unusedVariables false
set_option linter.unusedSimpArgs false
set_option maxRecDepth 100000

/-- Whether one is at least so far out. -/
def farT (k d : Int) : Int := if k ≤ d then 1 else 0
/-- What lies at least so far out, with the party's load. -/
def farR (k d f g : Int) : Int := g + (if k ≤ d then f else 0)
structure Lev (C n k d f g o : Int) : Prop where
  g0 : 0 ≤ g
  o0 : farT k d ≤ o
  lev : farR k d f g + n * (o - farT k d) ≤ o * (C - n)
theorem farT_1 {k d : Int} (h : k ≤ d) : farT k d = 1 := if_pos h
theorem farT_0 {k d : Int} (h : ¬ k ≤ d) : farT k d = 0 := if_neg h
theorem farR_1 {k d f g : Int} (h : k ≤ d) : farR k d f g = g + f := by unfold farR; rw [if_pos h]
theorem farR_0 {k d f g : Int} (h : ¬ k ≤ d) : farR k d f g = g := by unfold farR; rw [if_neg h]; omega
theorem mul_m1 (n o : Int) : n * (o - 1) = n * o - n := by rw [Int.mul_sub, Int.mul_one]
theorem mul_m0 (n o : Int) : n * (o - 0) = n * o := by rw [Int.sub_zero]
theorem mul_p1 (n o : Int) : n * (o + 1) = n * o + n := by rw [Int.mul_add, Int.mul_one]
theorem add_1m (o c : Int) : (o + 1) * c = o * c + c := by rw [Int.add_mul, Int.one_mul]
theorem add_10 (n o : Int) : n * (o + 1 - 1) = n * o := by rw [show o + 1 - 1 = o by omega]
/-- A day: some food is picked up, a day's food is eaten, the party goes a cell at most. -/
structure Day (C n d d' f f' q : Int) : Prop where
  n1 : 1 ≤ n
  fC : f ≤ C
  q0 : 0 ≤ q
  eat : n ≤ f + q
  full : f + q ≤ C
  f' : f' = f + q - n
  d0 : 0 ≤ d'
  move : d' ≤ d + 1 ∧ d ≤ d' + 1
  up : d < d' → q = 0
def crossed (k d d' : Int) : Int := if (k ≤ d ∧ ¬ k ≤ d') ∨ (¬ k ≤ d ∧ k ≤ d') then 1 else 0
def goes (k d d' o : Int) : Int := if ¬ k ≤ d ∧ k ≤ d' then o + 1 else o
theorem lev_day {C n k d d' f f' g g' q o : Int} (hd : Day C n d d' f f' q) (h : Lev C n k d f g o) (hg : g' = g - (if k ≤ d then q else 0)) (hg0 : 0 ≤ g') :
    Lev C n k d' f' g' (goes k d d' o) ∧ 2 * goes k d d' o - farT k d' = 2 * o - farT k d + crossed k d d' := by
  obtain ⟨h1, h2, h3⟩ := h
  obtain ⟨n1, fC, q0, eat, full, f1, d0, move, up⟩ := hd
  by_cases a : k ≤ d
  · by_cases b : k ≤ d'
    · have e1 : goes k d d' o = o := if_neg (by omega)
      have e2 : crossed k d d' = 0 := if_neg (by omega)
      rw [if_pos a] at hg
      rw [farT_1 a] at h2 h3 ⊢
      rw [farR_1 a, mul_m1] at h3
      rw [e1, e2, farT_1 b]
      exact ⟨⟨hg0, by rw [farT_1 b]; exact h2, by rw [farT_1 b, farR_1 b, mul_m1]; omega⟩, by omega⟩
    · have e1 : goes k d d' o = o := if_neg (by omega)
      have e2 : crossed k d d' = 1 := if_pos (by omega)
      rw [if_pos a] at hg
      rw [farT_1 a] at h2 h3 ⊢
      rw [farR_1 a, mul_m1] at h3
      rw [e1, e2, farT_0 b]
      exact ⟨⟨hg0, by rw [farT_0 b]; omega, by rw [farT_0 b, farR_0 b, mul_m0]; omega⟩, by omega⟩
  · by_cases b : k ≤ d'
    · have e1 : goes k d d' o = o + 1 := if_pos (by omega)
      have e2 : crossed k d d' = 1 := if_pos (by omega)
      have := up (by omega)
      rw [if_neg a] at hg
      rw [farT_0 a] at h2 h3 ⊢
      rw [farR_0 a, mul_m0] at h3
      rw [e1, e2, farT_1 b]
      exact ⟨⟨hg0, by rw [farT_1 b]; omega, by rw [farT_1 b, farR_1 b, add_10, add_1m]; omega⟩, by omega⟩
    · have e1 : goes k d d' o = o := if_neg (by omega)
      have e2 : crossed k d d' = 0 := if_neg (by omega)
      rw [if_neg a] at hg
      rw [farT_0 a] at h2 h3 ⊢
      rw [farR_0 a, mul_m0] at h3
      rw [e1, e2, farT_0 b]
      exact ⟨⟨hg0, by rw [farT_0 b]; exact h2, by rw [farT_0 b, farR_0 b, mul_m0]; omega⟩, by omega⟩
/-- Food is laid, or taken. -/
theorem lev_put {C n k d f f' g g' o m : Int} (h : Lev C n k d f g o) (hf : f' = f - m) (hg : g' = g + (if k ≤ d then m else 0)) (hg0 : 0 ≤ g') : Lev C n k d f' g' o := by
  obtain ⟨h1, h2, h3⟩ := h
  by_cases a : k ≤ d
  · rw [if_pos a] at hg
    rw [farR_1 a] at h3
    exact ⟨hg0, h2, by rw [farR_1 a]; omega⟩
  · rw [if_neg a] at hg
    rw [farR_0 a] at h3
    exact ⟨hg0, h2, by rw [farR_0 a]; omega⟩
structure CI (C n d f g1 g2 g3 g4 gv et e : Int) (o1 o2 o3 o4 D a b1 b2 tk : Int) : Prop where
  l1 : Lev C n 1 d f g1 o1
  l2 : Lev C n 2 d f g2 o2
  l3 : Lev C n 3 d f g3 o3
  l4 : Lev C n 4 d f g4 o4
  f0 : 0 ≤ f
  fC : f ≤ C
  d0 : 0 ≤ d
  n1 : 1 ≤ n
  gs : g4 ≤ g3 ∧ g3 ≤ g2 ∧ g2 ≤ g1
  load : farR 1 d f g1 + n * D ≤ o1 * C
  days : (2 * o1 - farT 1 d) + (2 * o2 - farT 2 d) + (2 * o3 - farT 3 d) + (2 * o4 - farT 4 d) ≤ D
  gv1 : gv ≤ 10 + 12 * a
  et1 : n * D ≤ et
  evs : D + a + b1 + b2 + tk ≤ e
  pos : 0 ≤ a ∧ 0 ≤ b1 ∧ 0 ≤ b2 ∧ 0 ≤ tk ∧ 0 ≤ D
  no2 : b2 = 0 → g2 = 0
  no1 : b1 = 0 → g1 = g2
  tk1 : 1 ≤ tk → 1 ≤ b1
  tk0 : tk = 0 → (d = 1 → f ≤ C - n) ∧ farR 2 d f g2 + n * (o2 - farT 2 d) ≤ o2 * (C - 2 * n)
theorem CI.skip {C n d f g1 g2 g3 g4 gv et e o1 o2 o3 o4 D a b1 b2 tk : Int} (h : CI C n d f g1 g2 g3 g4 gv et e o1 o2 o3 o4 D a b1 b2 tk) : CI C n d f g1 g2 g3 g4 gv et (e + 1) o1 o2 o3 o4 D a b1 b2 tk :=
  { h with evs := by have := h.evs; omega }
theorem CI.give {C n f g1 g2 g3 g4 gv et e o1 o2 o3 o4 D a b1 b2 tk m f' gv' : Int} (h : CI C n 0 f g1 g2 g3 g4 gv et e o1 o2 o3 o4 D a b1 b2 tk) (hm : 0 ≤ m ∧ m ≤ 12) (hf : f' = f + m) (hC : f' ≤ C) (hg : gv' = gv + m) :
    CI C n 0 f' g1 g2 g3 g4 gv' et (e + 1) o1 o2 o3 o4 D (a + 1) b1 b2 tk := by
  have r : ∀ k g, 1 ≤ k → farR k 0 f' g = farR k 0 f g := fun k g hk => by rw [farR_0 (by omega), farR_0 (by omega)]
  exact {
    l1 := ⟨h.l1.g0, h.l1.o0, by rw [r 1 _ (by omega)]; exact h.l1.lev⟩
    l2 := ⟨h.l2.g0, h.l2.o0, by rw [r 2 _ (by omega)]; exact h.l2.lev⟩
    l3 := ⟨h.l3.g0, h.l3.o0, by rw [r 3 _ (by omega)]; exact h.l3.lev⟩
    l4 := ⟨h.l4.g0, h.l4.o0, by rw [r 4 _ (by omega)]; exact h.l4.lev⟩
    f0 := by have := h.f0; omega
    fC := hC
    d0 := h.d0
    n1 := h.n1
    gs := h.gs
    load := by rw [r 1 _ (by omega)]; exact h.load
    days := h.days
    gv1 := by have := h.gv1; omega
    et1 := h.et1
    evs := by have := h.evs; omega
    pos := by have := h.pos; omega
    no2 := h.no2
    no1 := h.no1
    tk1 := h.tk1
    tk0 := fun k => ⟨fun k2 => by omega, by rw [r 2 _ (by omega)]; exact (h.tk0 k).2⟩ }
theorem CI.put {C n d f g1 g2 g3 g4 gv et e o1 o2 o3 o4 D a b1 b2 tk m f' g1' g2' g3' g4' : Int} (h : CI C n d f g1 g2 g3 g4 gv et e o1 o2 o3 o4 D a b1 b2 tk) (hf : f' = f - m) (hf0 : 0 ≤ f') (hfC : f' ≤ C)
    (h1 : g1' = g1 + (if 1 ≤ d then m else 0)) (h2 : g2' = g2 + (if 2 ≤ d then m else 0)) (h3 : g3' = g3 + (if 3 ≤ d then m else 0)) (h4 : g4' = g4 + (if 4 ≤ d then m else 0)) (p1 : 0 ≤ g1') (p2 : 0 ≤ g2') (p3 : 0 ≤ g3') (p4 : 0 ≤ g4') (gs : g4' ≤ g3' ∧ g3' ≤ g2' ∧ g2' ≤ g1') :
    ∃ b1' b2' tk', CI C n d f' g1' g2' g3' g4' gv et (e + 1) o1 o2 o3 o4 D a b1' b2' tk' := by
  have hp := h.pos
  have he := h.evs
  have sum : ∀ k g g', g' = g + (if k ≤ d then m else 0) → farR k d f' g' = farR k d f g := by
    intro k g g' hg
    by_cases a : k ≤ d
    · rw [if_pos a] at hg; rw [farR_1 a, farR_1 a]; omega
    · rw [if_neg a] at hg; rw [farR_0 a, farR_0 a]; omega
  have base : ∀ b1' b2' tk', D + a + b1' + b2' + tk' ≤ e + 1 → (0 ≤ b1' ∧ 0 ≤ b2' ∧ 0 ≤ tk') → (b2' = 0 → g2' = 0) → (b1' = 0 → g1' = g2') → (1 ≤ tk' → 1 ≤ b1') → (tk' = 0 → tk = 0 ∧ (d = 1 → f' ≤ C - n)) →
      CI C n d f' g1' g2' g3' g4' gv et (e + 1) o1 o2 o3 o4 D a b1' b2' tk' := fun b1' b2' tk' q1 q2 q3 q4 q5 q6 => {
    l1 := lev_put h.l1 hf h1 p1
    l2 := lev_put h.l2 hf h2 p2
    l3 := lev_put h.l3 hf h3 p3
    l4 := lev_put h.l4 hf h4 p4
    f0 := hf0
    fC := hfC
    d0 := h.d0
    n1 := h.n1
    gs := gs
    load := by rw [sum 1 _ _ h1]; exact h.load
    days := h.days
    gv1 := h.gv1
    et1 := h.et1
    evs := q1
    pos := ⟨hp.1, q2.1, q2.2.1, q2.2.2, hp.2.2.2.2⟩
    no2 := q3
    no1 := q4
    tk1 := q5
    tk0 := fun k => ⟨(q6 k).2, by rw [sum 2 _ _ h2]; exact (h.tk0 (q6 k).1).2⟩ }
  have n2 := h.no2
  have n1' := h.no1
  have t1 := h.tk1
  have t0 := h.tk0
  have g10 := h.l1.g0
  have g20 := h.l2.g0
  have hgs := h.gs
  by_cases a2 : 2 ≤ d
  · rw [if_pos a2] at h2
    rw [if_pos (by omega)] at h1
    by_cases hm : 0 ≤ m
    · exact ⟨b1, b2 + 1, tk, base _ _ _ (by omega) (by omega) (by omega) (by omega) t1 (fun k => ⟨k, fun k2 => by omega⟩)⟩
    · exact ⟨b1, b2, tk, base _ _ _ (by omega) (by omega) (fun k => by have := n2 k; omega) (by omega) t1 (fun k => ⟨k, fun k2 => by omega⟩)⟩
  · rw [if_neg a2] at h2
    by_cases a1 : 1 ≤ d
    · rw [if_pos a1] at h1
      by_cases hm : 0 ≤ m
      · exact ⟨b1 + 1, b2, tk, base _ _ _ (by omega) (by omega) (fun k => by have := n2 k; omega) (by omega) (by omega) (fun k => ⟨k, fun k2 => by have := (t0 k).1 k2; omega⟩)⟩
      · have hb1 : 1 ≤ b1 := by
          refine Decidable.byContradiction fun hb => ?_
          have := n1' (by omega)
          omega
        exact ⟨b1, b2, tk + 1, base _ _ _ (by omega) (by omega) (fun k => by have := n2 k; omega) (by omega) (fun _ => hb1) (fun k => by omega)⟩
    · rw [if_neg a1] at h1
      exact ⟨b1, b2, tk, base _ _ _ (by omega) (by omega) (fun k => by have := n2 k; omega) (fun k => by have := n1' k; omega) t1 (fun k => ⟨k, fun k2 => by omega⟩)⟩
theorem CI.day {C n d d' f f' q g1 g2 g3 g4 gv et et' e o1 o2 o3 o4 D a b1 b2 tk g1' g2' g3' g4' : Int} (h : CI C n d f g1 g2 g3 g4 gv et e o1 o2 o3 o4 D a b1 b2 tk) (hd : Day C n d d' f f' q) (ht : et' = et + n)
    (h1 : g1' = g1 - (if 1 ≤ d then q else 0)) (h2 : g2' = g2 - (if 2 ≤ d then q else 0)) (h3 : g3' = g3 - (if 3 ≤ d then q else 0)) (h4 : g4' = g4 - (if 4 ≤ d then q else 0)) (p1 : 0 ≤ g1') (p2 : 0 ≤ g2') (p3 : 0 ≤ g3') (p4 : 0 ≤ g4') (gs : g4' ≤ g3' ∧ g3' ≤ g2' ∧ g2' ≤ g1') (hq1 : d = 1 → b1 = 0 → q = 0) :
    ∃ o1' o2' o3' o4' D', CI C n d' f' g1' g2' g3' g4' gv et' (e + 1) o1' o2' o3' o4' D' a b1 b2 tk := by
  have L1 := lev_day hd h.l1 h1 p1
  have L2 := lev_day hd h.l2 h2 p2
  have L3 := lev_day hd h.l3 h3 p3
  have L4 := lev_day hd h.l4 h4 p4
  have hp := h.pos
  have he := h.evs
  have hds := h.days
  have hlo := h.load
  have het := h.et1
  have n2 := h.no2
  have n1' := h.no1
  have t1 := h.tk1
  have t0 := h.tk0
  have hd0 := h.d0
  obtain ⟨n1, fC, q0, eat, full, f1, d0, move, up⟩ := hd
  have cr : crossed 1 d d' + crossed 2 d d' + crossed 3 d d' + crossed 4 d d' ≤ 1 ∧ (d = 0 → d' = 0 → crossed 1 d d' + crossed 2 d d' + crossed 3 d d' + crossed 4 d d' = 0) := by
    unfold crossed
    split <;> split <;> split <;> split <;> omega
  have key : ∀ D', (D' = D ∧ d = 0 ∧ d' = 0) ∨ (D' = D + 1 ∧ ¬ (d = 0 ∧ d' = 0)) → CI C n d' f' g1' g2' g3' g4' gv et' (e + 1) (goes 1 d d' o1) (goes 2 d d' o2) (goes 3 d d' o3) (goes 4 d d' o4) D' a b1 b2 tk := fun D' hD => {
    l1 := L1.1
    l2 := L2.1
    l3 := L3.1
    l4 := L4.1
    f0 := by omega
    fC := by omega
    d0 := d0
    n1 := n1
    gs := gs
    load := by
      by_cases a1 : 1 ≤ d
      · rcases hD with hD | hD
        · omega
        · rw [hD.1, mul_p1, show goes 1 d d' o1 = o1 from if_neg (by omega)]
          rw [if_pos a1] at h1
          rw [farR_1 a1] at hlo
          by_cases a2 : 1 ≤ d'
          · rw [farR_1 a2]; omega
          · rw [farR_0 a2]; omega
      · rw [if_neg a1] at h1
        rw [farR_0 a1] at hlo
        by_cases a2 : 1 ≤ d'
        · have hq := up (by omega)
          rcases hD with hD | hD
          · omega
          · rw [hD.1, mul_p1, show goes 1 d d' o1 = o1 + 1 from if_pos (by omega), add_1m, farR_1 a2]; omega
        · rcases hD with hD | hD
          · rw [hD.1, show goes 1 d d' o1 = o1 from if_neg (by omega), farR_0 a2]; omega
          · omega
    days := by
      have c1 := L1.2
      have c2 := L2.2
      have c3 := L3.2
      have c4 := L4.2
      have := cr.1
      have := cr.2
      omega
    gv1 := h.gv1
    et1 := by
      rcases hD with hD | hD
      · rw [hD.1]; omega
      · rw [hD.1, mul_p1]; omega
    evs := by omega
    pos := by omega
    no2 := fun k => by have := n2 k; split at h2 <;> omega
    no1 := fun k => by
      have := n1' k
      by_cases a2 : 2 ≤ d
      · rw [if_pos a2] at h2; rw [if_pos (by omega)] at h1; omega
      · rw [if_neg a2] at h2
        by_cases a1 : 1 ≤ d
        · rw [if_pos a1] at h1
          have := hq1 (by omega) k
          omega
        · rw [if_neg a1] at h1; omega
    tk1 := t1
    tk0 := fun k => by
      refine ⟨fun k2 => by omega, ?_⟩
      obtain ⟨s1, s2⟩ := t0 k
      by_cases a2 : 2 ≤ d
      · rw [if_pos a2] at h2
        rw [farR_1 a2, farT_1 a2, mul_m1] at s2
        rw [show goes 2 d d' o2 = o2 from if_neg (by omega)]
        by_cases b2' : 2 ≤ d'
        · rw [farR_1 b2', farT_1 b2', mul_m1]; omega
        · rw [farR_0 b2', farT_0 b2', mul_m0]; omega
      · rw [if_neg a2] at h2
        rw [farR_0 a2, farT_0 a2, mul_m0] at s2
        by_cases b2' : 2 ≤ d'
        · have hq := up (by omega)
          have := s1 (by omega)
          rw [show goes 2 d d' o2 = o2 + 1 from if_pos (by omega), farR_1 b2', farT_1 b2', add_10, add_1m]; omega
        · rw [show goes 2 d d' o2 = o2 from if_neg (by omega), farR_0 b2', farT_0 b2', mul_m0]; omega }
  by_cases hz : d = 0 ∧ d' = 0
  · exact ⟨_, _, _, _, D, key D (.inl ⟨rfl, hz.1, hz.2⟩)⟩
  · exact ⟨_, _, _, _, D + 1, key (D + 1) (.inr ⟨rfl, hz⟩)⟩
theorem farT_nn (k d : Int) : 0 ≤ farT k d := by unfold farT; split <;> omega
/-- Level k is reached with more than a load: it was gone to twice. -/
theorem lev_two {C n k d f g o : Int} (h : Lev C n k d f g o) (hn : 1 ≤ n) (hr : C + n < farR k d f g) (hC : 0 ≤ C) : 2 ≤ o := by
  obtain ⟨h1, h2, h3⟩ := h
  refine Decidable.byContradiction fun ho => ?_
  have hT : farT k d = 0 ∨ farT k d = 1 := by unfold farT; split <;> omega
  have ho' : o = 0 ∨ o = 1 := by omega
  rcases ho' with rfl | rfl
  · have e : farT k d = 0 := by omega
    rw [e] at h3
    simp at h3
    omega
  · rcases hT with e | e
    · rw [e] at h3; simp at h3; omega
    · rw [e] at h3; simp at h3; omega
theorem CI.core {C n d f g1 g2 g3 g4 gv et e o1 o2 o3 o4 D a b1 b2 tk : Int} (h : CI C n d f g1 g2 g3 g4 gv et e o1 o2 o3 o4 D a b1 b2 tk) (he : e ≤ 13) (hC : 10 ≤ C ∧ 5 * n ≤ C) (hg : et + f + g1 ≤ gv) :
    (3 ≤ d → C + n < farR 2 d f g2 → 6 * n ≤ C) ∧ (4 ≤ d → C + n < farR 3 d f g3 → 11 * n ≤ C) ∧ (5 ≤ d → ¬ C + n < farR 4 d f g4) := by
  have hp := h.pos
  have hev := h.evs
  have hds := h.days
  have hlo := h.load
  have het := h.et1
  have hgv := h.gv1
  have n1 := h.n1
  have fC := h.fC
  have gs := h.gs
  have no2 := h.no2
  have no1 := h.no1
  have tk1 := h.tk1
  have tk0 := h.tk0
  have q1 := h.l1.o0
  have q2 := h.l2.o0
  have q3 := h.l3.o0
  have q4 := h.l4.o0
  have z3 := farT_nn 3 d
  have z4 := farT_nn 4 d
  refine ⟨fun hd hr => ?_, fun hd hr => ?_, fun hd hr => ?_⟩
  · rw [farT_1 (show 1 ≤ d by omega), farT_1 (show 2 ≤ d by omega), farT_1 (show 3 ≤ d by omega)] at hds
    rw [farT_1 (show 3 ≤ d by omega)] at q3
    rw [farR_1 (show 2 ≤ d by omega)] at hr
    have w1 := lev_two h.l1 n1 (by rw [farR_1 (by omega)]; omega) (by omega)
    have w2 := lev_two h.l2 n1 (by rw [farR_1 (by omega)]; omega) (by omega)
    rw [farR_1 (show 1 ≤ d by omega)] at hlo
    have hb2 : 1 ≤ b2 := Decidable.byContradiction fun hb => by have := no2 (by omega); omega
    refine Decidable.byContradiction fun hc => ?_
    have hn2 : 2 ≤ n := by omega
    by_cases ho : o1 = 2
    · subst ho
      have hD : 7 ≤ D := by omega
      have := Int.mul_le_mul_of_nonneg_left hD (show 0 ≤ n by omega)
      omega
    · have hD : 9 ≤ D := by omega
      have := Int.mul_le_mul_of_nonneg_left hD (show 0 ≤ n by omega)
      have ha : 2 ≤ a := by omega
      have ho1 : o1 = 3 := by omega
      have ho2 : o2 = 2 := by omega
      have htk : tk = 0 := by omega
      have := (tk0 htk).2
      rw [ho2, farR_1 (show 2 ≤ d by omega), farT_1 (show 2 ≤ d by omega)] at this
      omega
  · rw [farT_1 (show 1 ≤ d by omega), farT_1 (show 2 ≤ d by omega), farT_1 (show 3 ≤ d by omega), farT_1 (show 4 ≤ d by omega)] at hds
    rw [farT_1 (show 4 ≤ d by omega)] at q4
    rw [farR_1 (show 3 ≤ d by omega)] at hr
    have w1 := lev_two h.l1 n1 (by rw [farR_1 (by omega)]; omega) (by omega)
    have w2 := lev_two h.l2 n1 (by rw [farR_1 (by omega)]; omega) (by omega)
    have w3 := lev_two h.l3 n1 (by rw [farR_1 (by omega)]; omega) (by omega)
    rw [farR_1 (show 1 ≤ d by omega)] at hlo
    have hb2 : 1 ≤ b2 := Decidable.byContradiction fun hb => by have := no2 (by omega); omega
    have hD : 10 ≤ D := by omega
    have := Int.mul_le_mul_of_nonneg_left hD (show 0 ≤ n by omega)
    have ha : 1 ≤ a := by omega
    have ho : o1 = 2 := by omega
    subst ho
    omega
  · rw [farT_1 (show 1 ≤ d by omega), farT_1 (show 2 ≤ d by omega), farT_1 (show 3 ≤ d by omega), farT_1 (show 4 ≤ d by omega)] at hds
    rw [farR_1 (show 4 ≤ d by omega)] at hr
    have w1 := lev_two h.l1 n1 (by rw [farR_1 (by omega)]; omega) (by omega)
    have w2 := lev_two h.l2 n1 (by rw [farR_1 (by omega)]; omega) (by omega)
    have w3 := lev_two h.l3 n1 (by rw [farR_1 (by omega)]; omega) (by omega)
    have w4 := lev_two h.l4 n1 (by rw [farR_1 (by omega)]; omega) (by omega)
    have hb2 : 1 ≤ b2 := Decidable.byContradiction fun hb => by have := no2 (by omega); omega
    have hD : 12 ≤ D := by omega
    have := Int.mul_le_mul_of_nonneg_left hD (show 0 ≤ n by omega)
    have ha : 1 ≤ a := by omega
    omega
end Go.Abs
