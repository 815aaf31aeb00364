/- Any weather that the rule allows: what a calm day instead of a storm does to the way home. -/
import Derived.Test.YtfdkpmbpnppllaaGreatATurnZ
import Derived.Test.YtfdkpmbpnppllaaGreatAComesZ
namespace Go.Abs
open Go.RowKit Go.Proofs
set_option linter.unusedVariables false
set_option linter.unusedSimpArgs false
set_option maxRecDepth 100000

/-! ### Calm days among the days to come -/
theorem suf_storm {l : List Bool} {j k : Nat} (h : j ≤ k) : stormZ (l.drop (l.length - j)) ≤ stormZ (l.drop (l.length - k)) := by
  refine storm_sub ?_
  obtain ⟨i, hi⟩ : ∃ i, l.length - j = (l.length - k) + i := ⟨l.length - j - (l.length - k), by omega⟩
  rw [hi, ← List.drop_drop]
  exact List.drop_sublist _ _
theorem cal_win {r : DRule} (hr : r.Ok) : ∀ (T j : Nat) (l : List Bool), l.length ≤ 10 → j + T ≤ r.window.toNat → stormZ (l.drop (l.length - j)) ≤ r.most → stormZ (l.drop (l.length - j)) + T ≤ r.most + cal r T l := by
  intro T
  induction T with
  | zero => intro j l hl hj hs; simp [cal]; exact hs
  | succ T ih =>
    intro j l hl hj hs
    have hw := hr.1
    by_cases hm : mayP r l
    · have h1 := (may_last.1 hm).2
      have h2 := suf_storm (l := l) (j := j) (k := r.window.toNat - 1) (by omega)
      have h3 : stormZ ((addDay l true).drop ((addDay l true).length - (j + 1))) = stormZ (l.drop (l.length - j)) + 1 := by
        rw [last_add hl (by omega), stormApp, storm_one]; rfl
      have := ih (j + 1) (addDay l true) (addDay_len _ _) (by omega) (by rw [h3]; omega)
      rw [cal, if_pos hm, decide_eq_true hm]
      rw [h3] at this
      omega
    · have h3 : stormZ ((addDay l false).drop ((addDay l false).length - (j + 1))) = stormZ (l.drop (l.length - j)) := by
        rw [last_add hl (by omega), stormApp, storm_one]; simp [sb]
      have := ih (j + 1) (addDay l false) (addDay_len _ _) (by omega) (by rw [h3]; omega)
      rw [cal, if_neg hm, decide_eq_false hm]
      rw [h3] at this
      omega
theorem cal_0 {r : DRule} (hr : r.Ok) {T : Nat} {l : List Bool} (hl : l.length ≤ 10) (hT : T ≤ r.window.toNat) : (T : Int) ≤ r.most + cal r T l := by
  have h := cal_win hr T 0 l hl (by omega) (by simp [stormZ, sumL]; exact hr.2.1)
  simp [stormZ, sumL] at h
  exact h
noncomputable def aft (r : DRule) : Nat → List Bool → List Bool
  | 0, l => l
  | n + 1, l => aft r n (addDay l (decide (mayP r l)))
theorem aft_len (r : DRule) : ∀ (n : Nat) (l : List Bool), l.length ≤ 10 → (aft r n l).length ≤ 10 := by
  intro n
  induction n with
  | zero => intro l h; exact h
  | succ n ih => intro l h; exact ih _ (addDay_len _ _)
theorem cal_add (r : DRule) (b : Nat) : ∀ (a : Nat) (l : List Bool), cal r (a + b) l = cal r a l + cal r b (aft r a l) := by
  intro a
  induction a with
  | zero => intro l; simp [cal, aft]
  | succ a ih =>
    intro l
    rw [show a + 1 + b = (a + b) + 1 by omega, cal, cal, ih, aft]
    omega
theorem cal_le (r : DRule) {a b : Nat} (h : a ≤ b) (l : List Bool) : cal r a l ≤ cal r b l := by
  obtain ⟨k, rfl⟩ : ∃ k, b = a + k := ⟨b - a, by omega⟩
  rw [cal_add]
  have := cal_pos r k (aft r a l)
  omega
theorem cal_few {r : DRule} (hr : r.Ok) (hw : r.window ≤ 6) (h2 : r.most + 2 ≤ r.window) {l : List Bool} (hl : l.length ≤ 10) : 1 ≤ cal r 5 l ∧ 2 ≤ cal r 6 l ∧ 3 ≤ cal r 11 l := by
  have hm := hr.2.1
  have h1 := hr.1
  obtain ⟨m, hmm⟩ : ∃ m : Nat, r.most = m := ⟨r.most.toNat, by omega⟩
  have a1 := cal_0 hr (T := m + 1) hl (by omega)
  have a2 := cal_0 hr (T := m + 2) hl (by omega)
  have a3 := cal_0 hr (T := m + 1) (aft_len r (m + 2) l hl) (by omega)
  have b1 := cal_le r (a := m + 1) (b := 5) (by omega) l
  have b2 := cal_le r (a := m + 2) (b := 6) (by omega) l
  have b3 := cal_le r (a := m + 2 + (m + 1)) (b := 11) (by omega) l
  rw [cal_add] at b3
  omega
/-! ### Loads -/
theorem pick_cap {p : DParty} {n : Int} (h0 : 0 ≤ p.food) (h : p.food ≤ capZ p.crew) : (pickZ p n).food ≤ capZ p.crew := by
  show p.food + pickN p n ≤ _
  unfold pickN roomZ
  split <;> omega
theorem pick_full {p : DParty} {n : Int} (h0 : 0 ≤ p.food) (hn : 0 ≤ n) (h : p.food + n ≤ capZ p.crew) : (pickZ p n).food = p.food + n := by
  show p.food + pickN p n = _
  unfold pickN roomZ
  split <;> omega
theorem pick_bind {p : DParty} {n : Int} (h0 : 0 ≤ p.food) (h1 : p.food ≤ capZ p.crew) (h : capZ p.crew ≤ p.food + n) : (pickZ p n).food = capZ p.crew := by
  show p.food + pickN p n = _
  unfold pickN roomZ
  split <;> omega
theorem homeW_eat {r : DRule} {l : List DDepot} {p : DParty} {c : Int} {rest : List Int} (h : (homeW r l p (c :: rest)).2.2 = true) : eatP p :=
  Decidable.byContradiction fun he => by rw [homeW_none he] at h; cases h
theorem storm_fd {p : DParty} (h : eatP p) : (stormZ' p).food = p.food - needZ p.crew ∧ (stormZ' p).crew = p.crew ∧ (stormZ' p).past = addDay p.past true := ⟨(eat_food h).1, (eat_crew p).1, rfl⟩
theorem calm_fd {l : List DDepot} {p : DParty} {c : Int} (h : eatP p) (hl : 0 ≤ foodAt c l) : p.food - needZ p.crew ≤ (calmZ l p c).food ∧ (calmZ l p c).food ≤ p.food - needZ p.crew + foodAt c l ∧ (calmZ l p c).crew = p.crew ∧ (calmZ l p c).past = addDay p.past false := by
  have hn := pickN_bnd { eatZ p with at_ := c } (foodAt c l)
  have hp := pick_le (p := { eatZ p with at_ := c }) hl
  have hf : (calmZ l p c).food = (eatZ p).food + pickN { eatZ p with at_ := c } (foodAt c l) := rfl
  have he := (eat_food h).1
  exact ⟨by omega, by omega, (eat_crew p).1, rfl⟩
theorem safe_load (r : DRule) (l : List DDepot) (hl : ∀ c, 0 ≤ foodAt c l) : ∀ (n : Nat) (p : DParty) (rest : List Int), 801 * rest.length + p.food.toNat ≤ n → 0 ≤ p.food → CrewP p.crew → (∃ T : Nat, (rest.length : Int) ≤ cal r T p.past ∧ needZ p.crew * (T : Int) ≤ p.food) → (homeW r l p rest).2.2 = true := by
  intro n
  induction n with
  | zero =>
    intro p rest h hf hc hT
    cases rest with
    | nil => rw [homeW_nil]
    | cons c rest => simp at h
  | succ n ih =>
    intro p rest h hf hc hT
    cases rest with
    | nil => rw [homeW_nil]
    | cons c rest =>
      have hnd := needZ_pos hc
      obtain ⟨T, h2, h3⟩ := hT
      cases T with
      | zero => simp [cal] at h2; omega
      | succ T =>
        rw [mul_S] at h3
        have hpos : 0 ≤ needZ p.crew * (T : Int) := Int.mul_nonneg (by omega) (by omega)
        have he : eatP p := ⟨hc, by omega⟩
        by_cases hs : mayP r p.past
        · rw [homeW_storm he hs]
          have hsf := storm_food he
          obtain ⟨e1, e2, e3⟩ := storm_fd he
          rw [cal, if_pos hs, decide_eq_true hs] at h2
          refine ih (stormZ' p) (c :: rest) (by omega) (by omega) (by rw [e2]; exact hc) ⟨T, by rw [e3]; omega, by rw [e2]; omega⟩
        · rw [homeW_calm he hs]
          have hsf := calm_food (l := l) (c := c) he
          obtain ⟨e1, e1b, e2, e3⟩ := calm_fd (l := l) (c := c) he (hl c)
          rw [List.length_cons] at h h2
          rw [cal, if_neg hs, decide_eq_false hs] at h2
          refine ih (calmZ l p c) rest (by omega) (by omega) (by rw [e2]; exact hc) ⟨T, by rw [e3]; omega, by rw [e2]; omega⟩
/-! ### Where a calm day lets all storms come anew -/
theorem full_trail : ∀ l : List Bool, (l.length : Int) ≤ stormZ l → trail l = l.length := by
  intro l
  induction l with
  | nil => intro _; rfl
  | cons b l ih =>
    intro h
    have h2 : stormZ (b :: l) = (if b = true then 1 else 0) + stormZ l := by simp [stormZ, sumL]
    have h3 := stormZ_bound l
    rw [List.length_cons] at h ⊢
    by_cases hb : b = true
    · rw [if_pos hb] at h2
      rw [trail, if_pos hb, ih (by omega)]
    · rw [if_neg hb] at h2; omega
theorem one_may {r : DRule} {l : List Bool} (hr : r.Ok) (h1 : r.window = r.most + 1) : mayP r l ↔ (tr l : Int) < r.most := by
  have hw := hr.1
  have hm := hr.2.1
  have e : stormZ (l.drop (l.length - (r.window.toNat - 1))) = stormZ (l.reverse.take (r.window.toNat - 1)) := by
    rw [← storm_rev, List.reverse_drop]
    congr 1
    by_cases hle : l.length ≤ r.window.toNat - 1
    · rw [List.take_of_length_le (by simp; omega), List.take_of_length_le (by simp; omega)]
    · congr 1; omega
  rw [may_last, e]
  have h4 := trail_storm (l.reverse.take (r.window.toNat - 1))
  rw [trail_take] at h4
  constructor
  · intro h
    have := h.2
    unfold tr; omega
  · intro h
    refine ⟨hr, Decidable.byContradiction fun hn => ?_⟩
    have hlen : (l.reverse.take (r.window.toNat - 1)).length ≤ r.window.toNat - 1 := by rw [List.length_take]; omega
    have hb := stormZ_bound (l.reverse.take (r.window.toNat - 1))
    have hf := full_trail (l.reverse.take (r.window.toNat - 1)) (by omega)
    rw [trail_take] at hf
    unfold tr at h; omega
theorem one_ok (r : DRule) (l : List DDepot) (hr : r.Ok) (h1 : r.window = r.most + 1) : ∀ (n : Nat) (p q : DParty) (rest : List Int), 801 * rest.length + p.food.toNat ≤ n → 0 ≤ p.food → q.crew = p.crew → tr q.past = tr p.past → p.food ≤ q.food → (homeW r l p rest).2.2 = true → (homeW r l q rest).2.2 = true := by
  intro n
  induction n with
  | zero =>
    intro p q rest h hf hc hp hm ho
    cases rest with
    | nil => rw [homeW_nil]
    | cons c rest => simp at h
  | succ n ih =>
    intro p q rest h hf hc hp hm ho
    cases rest with
    | nil => rw [homeW_nil]
    | cons c rest =>
      have he := homeW_eat ho
      have he' : eatP q := ⟨by rw [hc]; exact he.1, by rw [hc]; exact Int.le_trans he.2 hm⟩
      have e1 := eat_food he
      have e2 := eat_food he'
      rw [hc] at e2
      have ec := eat_crew p
      have ec' := eat_crew q
      by_cases hs : mayP r p.past
      · have hs' : mayP r q.past := by rw [one_may hr h1, hp, ← one_may hr h1]; exact hs
        rw [homeW_storm he hs] at ho
        rw [homeW_storm he' hs']
        have hsf := storm_food he
        exact ih (stormZ' p) (stormZ' q) (c :: rest) (by omega) (by show 0 ≤ (eatZ p).food; omega) (by show (eatZ q).crew = (eatZ p).crew; rw [ec.1, ec'.1, hc]) (by show tr (addDay _ _) = tr (addDay _ _); rw [tr_add, tr_add, hp]) (by show (eatZ p).food ≤ (eatZ q).food; omega) ho
      · have hs' : ¬ mayP r q.past := by rw [one_may hr h1, hp, ← one_may hr h1]; exact hs
        rw [homeW_calm he hs] at ho
        rw [homeW_calm he' hs']
        have hsf := calm_food (l := l) (c := c) he
        rw [List.length_cons] at h
        have hk : (calmZ l p c).food ≤ (calmZ l q c).food := by
          show (pickZ { eatZ p with at_ := c } (foodAt c l)).food ≤ (pickZ { eatZ q with at_ := c } (foodAt c l)).food
          exact pick_mono (by show (eatZ q).crew = (eatZ p).crew; rw [ec.1, ec'.1, hc]) (by show 0 ≤ (eatZ p).food; omega) (by show (eatZ p).food ≤ (eatZ q).food; omega)
        have hn := pickN_bnd { eatZ p with at_ := c } (foodAt c l)
        exact ih (calmZ l p c) (calmZ l q c) rest (by omega) (by show 0 ≤ (eatZ p).food + pickN { eatZ p with at_ := c } (foodAt c l); omega) (by show (eatZ q).crew = (eatZ p).crew; rw [ec.1, ec'.1, hc]) (by show tr (addDay _ _) = tr (addDay _ _); rw [tr_add, tr_add]; rfl) hk ho
theorem calm_cap {l : List DDepot} {p : DParty} {c : Int} (h : eatP p) (h0 : 0 ≤ p.food) (hc : p.food ≤ capZ p.crew) : (calmZ l p c).food ≤ capZ p.crew := by
  have e := eat_food h
  have ec := eat_crew p
  have := pick_cap (p := { eatZ p with at_ := c }) (n := foodAt c l) (by show 0 ≤ (eatZ p).food; omega) (by show (eatZ p).food ≤ capZ (eatZ p).crew; rw [ec.1]; omega)
  have h2 : capZ ({ eatZ p with at_ := c } : DParty).crew = capZ p.crew := by show capZ (eatZ p).crew = _; rw [ec.1]
  rw [h2] at this
  exact this
theorem arrive (r : DRule) (l : List DDepot) (hl : ∀ c, 0 ≤ foodAt c l) : ∀ (n : Nat) (p : DParty) (mid post : List Int), 801 * (mid ++ post).length + p.food.toNat ≤ n → 0 ≤ p.food → p.food ≤ capZ p.crew → mid ≠ [] → (homeW r l p (mid ++ post)).2.2 = true →
    ∃ q : DParty, q.crew = p.crew ∧ 0 ≤ q.food ∧ q.food ≤ capZ p.crew ∧ tr q.past = 0 ∧ (homeW r l q post).2.2 = true := by
  intro n
  induction n with
  | zero =>
    intro p mid post h hf hc hne ho
    cases mid with
    | nil => exact absurd rfl hne
    | cons c mid => simp at h
  | succ n ih =>
    intro p mid post h hf hc hne ho
    cases mid with
    | nil => exact absurd rfl hne
    | cons c mid =>
      rw [List.cons_append] at ho h
      have he := homeW_eat ho
      by_cases hs : mayP r p.past
      · rw [homeW_storm he hs] at ho
        have hsf := storm_food he
        obtain ⟨e1, e2, e3⟩ := storm_fd he
        have hnd := eat_food he
        have := ih (stormZ' p) (c :: mid) post (by rw [List.cons_append]; omega) (by omega) (by rw [e2]; omega) (by simp) (by rw [List.cons_append]; exact ho)
        rw [e2] at this
        exact this
      · rw [homeW_calm he hs] at ho
        have hsf := calm_food (l := l) (c := c) he
        obtain ⟨e1, e1b, e2, e3⟩ := calm_fd (l := l) (c := c) he (hl c)
        have hcc := calm_cap (l := l) (c := c) he hf hc
        have hnd := eat_food he
        rw [List.length_cons] at h
        cases mid with
        | nil =>
          refine ⟨calmZ l p c, e2, by omega, hcc, ?_, ho⟩
          rw [e3, tr_add]; rfl
        | cons d mid =>
          have := ih (calmZ l p c) (d :: mid) post (by omega) (by omega) (by rw [e2]; exact hcc) (by simp) ho
          rw [e2] at this
          exact this
/-! ### Two ways home, side by side -/
def heap (l : List DDepot) : List Int → Int
  | [] => 0
  | c :: cs => foodAt c l + heap l cs
theorem heap_app (l : List DDepot) : ∀ (a b : List Int), heap l (a ++ b) = heap l a + heap l b := by
  intro a
  induction a with
  | nil => intro b; simp [heap]
  | cons c a ih => intro b; rw [List.cons_append, heap, heap, ih]; omega
theorem heap_pos {l : List DDepot} (hl : ∀ c, 0 ≤ foodAt c l) : ∀ a : List Int, 0 ≤ heap l a := by
  intro a
  induction a with
  | nil => exact Int.le_refl _
  | cons c a ih => have := hl c; rw [heap]; omega
/-- From anywhere so far away a full load leads home, or the rule lets a calm day bring all storms back. -/
def Sure (r : DRule) (crew : List DMember) (k : Nat) : Prop := (∀ past : List Bool, past.length ≤ 10 → ∃ T : Nat, (k : Int) ≤ cal r T past ∧ needZ crew * (T : Int) ≤ capZ crew) ∨ r.window = r.most + 1
/-- On the way the party's room is not filled up, but for where a full load leads home. -/
def NB (r : DRule) (l : List DDepot) (crew : List DMember) (v : Int) (rest : List Int) : Prop :=
  ∀ (pre : List Int) (c : Int) (post : List Int), rest = pre ++ c :: post → post ≠ [] → v + heap l (pre ++ [c]) ≤ capZ crew + needZ crew * ((pre.length + 1 : Nat) : Int) ∨ Sure r crew post.length
theorem NB.mono {r : DRule} {l : List DDepot} {crew : List DMember} {v v' : Int} {rest : List Int} (h : NB r l crew v rest) (hv : v' ≤ v) : NB r l crew v' rest := fun pre c post e hp => (h pre c post e hp).imp (fun h => by omega) id
theorem NB.next {r : DRule} {l : List DDepot} {crew : List DMember} {v v' : Int} {c : Int} {rest : List Int} (h : NB r l crew v (c :: rest)) (hv : v' ≤ v - needZ crew + foodAt c l) : NB r l crew v' rest := fun pre d post e hp => by
  rcases h (c :: pre) d post (by rw [e]; rfl) hp with h | h
  · left
    rw [List.cons_append, heap, List.length_cons, mul_S (needZ crew) (pre.length + 1)] at h
    omega
  · exact .inr h
theorem sim (r : DRule) (l : List DDepot) (hr : r.Ok) (hl : ∀ c, 0 ≤ foodAt c l) : ∀ (n : Nat) (p q : DParty) (mid rest : List Int), 801 * (mid ++ rest).length + p.food.toNat ≤ n → 0 ≤ p.food → p.food ≤ capZ p.crew → q.crew = p.crew → q.food ≤ capZ p.crew → Dm mid.length p.past q.past → p.food + heap l mid ≤ q.food →
    NB r l p.crew q.food rest → (homeW r l p (mid ++ rest)).2.2 = true → (homeW r l q rest).2.2 = true := by
  intro n
  induction n with
  | zero =>
    intro p q mid rest h hf hpc hc hqc hd hm hn ho
    cases rest with
    | nil => rw [homeW_nil]
    | cons c rest => simp at h
  | succ n ih =>
    intro p q mid rest h hf hpc hc hqc hd hm hn ho
    cases rest with
    | nil => rw [homeW_nil]
    | cons c rest =>
      have hhp := heap_pos hl mid
      have he : eatP p := by
        cases mid with
        | nil => exact homeW_eat ho
        | cons m mid => exact homeW_eat ho
      have hnd := eat_food he
      have he' : eatP q := ⟨by rw [hc]; exact he.1, by rw [hc]; omega⟩
      have ndq : needZ q.crew = needZ p.crew := by rw [hc]
      have cpq : capZ q.crew = capZ p.crew := by rw [hc]
      -- the second party comes to the next cell
      have landed : ∀ (pA : DParty) (midc : List Int), 801 * (midc ++ rest).length + pA.food.toNat ≤ n → 0 ≤ pA.food → pA.food ≤ capZ p.crew → pA.crew = p.crew → Dm midc.length pA.past (addDay q.past false) → pA.food + heap l midc ≤ q.food - needZ p.crew + foodAt c l → (midc = [] → tr pA.past = 0) →
          (homeW r l pA (midc ++ rest)).2.2 = true → (homeW r l (calmZ l q c) rest).2.2 = true := by
        intro pA midc hA hA0 hAc hAcr hAd hAm hAt hAo
        obtain ⟨b1, b2, b3, b4⟩ := calm_fd (l := l) (c := c) he' (hl c)
        rw [ndq] at b1 b2
        have hq0 : 0 ≤ (calmZ l q c).food := by omega
        have hqcap := calm_cap (l := l) (c := c) he' (by omega) (by omega)
        rw [cpq] at hqcap
        have hfood : q.food - needZ p.crew + foodAt c l ≤ capZ p.crew → (calmZ l q c).food = q.food - needZ p.crew + foodAt c l := by
          intro hb
          have e := eat_food he'
          have ec := eat_crew q
          have := pick_full (p := { eatZ q with at_ := c }) (n := foodAt c l) (by show 0 ≤ (eatZ q).food; omega) (hl c) (by show (eatZ q).food + _ ≤ capZ (eatZ q).crew; rw [ec.1]; omega)
          have h2 : ({ eatZ q with at_ := c } : DParty).food = q.food - needZ p.crew := by show (eatZ q).food = _; omega
          rw [h2] at this
          exact this
        by_cases hb : q.food - needZ p.crew + foodAt c l ≤ capZ p.crew
        · have ef := hfood hb
          refine ih pA (calmZ l q c) midc rest hA hA0 (by rw [hAcr]; exact hAc) (by rw [b3, hc, hAcr]) (by rw [hAcr]; exact hqcap) (by rw [b4]; exact hAd) (by omega) (by rw [hAcr]; exact hn.next (by omega)) hAo
        · have ef : (calmZ l q c).food = capZ p.crew := by
            have e := eat_food he'
            have ec := eat_crew q
            have := pick_bind (p := { eatZ q with at_ := c }) (n := foodAt c l) (by show 0 ≤ (eatZ q).food; omega) (by show (eatZ q).food ≤ capZ (eatZ q).crew; rw [ec.1]; omega) (by show capZ (eatZ q).crew ≤ (eatZ q).food + _; rw [ec.1]; omega)
            have h2 : capZ ({ eatZ q with at_ := c } : DParty).crew = capZ p.crew := by show capZ (eatZ q).crew = _; rw [ec.1, hc]
            rw [h2] at this
            exact this
          cases rest with
          | nil => rw [homeW_nil]
          | cons d rest =>
            rcases hn [] c (d :: rest) rfl (by simp) with h5 | h5
            · exfalso
              rw [List.nil_append, heap, heap] at h5
              simp at h5
              omega
            · rcases h5 with h5 | h5
              · obtain ⟨T, h6, h7⟩ := h5 (calmZ l q c).past (by rw [b4]; exact addDay_len _ _)
                exact safe_load r l hl _ (calmZ l q c) (d :: rest) (Nat.le_refl _) hq0 (by rw [b3, hc]; exact he.1) ⟨T, h6, by rw [b3, hc, ef]; exact h7⟩
              · have hto : ∃ pB : DParty, pB.crew = pA.crew ∧ 0 ≤ pB.food ∧ pB.food ≤ capZ pA.crew ∧ tr pB.past = 0 ∧ (homeW r l pB (d :: rest)).2.2 = true := by
                  cases midc with
                  | nil => exact ⟨pA, rfl, hA0, by rw [hAcr]; exact hAc, hAt rfl, hAo⟩
                  | cons m midc => exact arrive r l hl _ pA (m :: midc) (d :: rest) (Nat.le_refl _) hA0 (by rw [hAcr]; exact hAc) (by simp) hAo
                obtain ⟨pB, g1, g2, g3, g4, g5⟩ := hto
                exact one_ok r l hr h5 _ pB (calmZ l q c) (d :: rest) (Nat.le_refl _) g2 (by rw [b3, hc, g1, hAcr]) (by rw [b4, tr_add, g4]; rfl) (by rw [ef]; rw [hAcr] at g3; exact g3) g5
      have hdl : ∀ (b b' : Bool) (k : Nat), (k : Int) = mid.length + sb b - sb b' → Dm k (addDay p.past b) (addDay q.past b') := by
        intro b b' k hk
        have := hd.add b b' (by omega)
        rw [← hk] at this
        exact this
      by_cases hs : mayP r p.past
      · obtain ⟨e1, e2, e3⟩ := storm_fd he
        have hsf := storm_food he
        have hoA : (homeW r l (stormZ' p) (mid ++ c :: rest)).2.2 = true := by
          cases mid with
          | nil =>
            rw [List.nil_append] at ho ⊢
            rw [homeW_storm he hs] at ho; exact ho
          | cons m mid =>
            rw [List.cons_append] at ho ⊢
            rw [homeW_storm he hs] at ho; exact ho
        by_cases hs' : mayP r q.past
        · obtain ⟨f1, f2, f3⟩ := storm_fd he'
          rw [homeW_storm he' hs']
          refine ih (stormZ' p) (stormZ' q) mid (c :: rest) (by omega) (by omega) (by rw [e2]; omega) (by rw [f2, e2, hc]) (by rw [e2]; omega) (by rw [e3, f3]; exact hdl true true _ (by omega)) (by omega) (by rw [e2]; exact hn.mono (by omega)) hoA
        · rw [homeW_calm he' hs']
          refine landed (stormZ' p) (mid ++ [c]) (by rw [List.append_assoc]; simp only [List.cons_append, List.nil_append]; omega) (by omega) (by omega) e2 (by rw [e3]; exact hdl true false _ (by rw [List.length_append]; simp [sb])) (by rw [heap_app, heap, heap]; omega) (by simp) (by rw [List.append_assoc]; exact hoA)
      · by_cases hs' : mayP r q.past
        · obtain ⟨f1, f2, f3⟩ := storm_fd he'
          rw [homeW_storm he' hs']
          cases mid with
          | nil => exact absurd (Dm.may hd hs') hs
          | cons m mid =>
            rw [List.cons_append] at ho
            rw [homeW_calm he hs] at ho
            obtain ⟨e1, e1b, e2, e3⟩ := calm_fd (l := l) (c := m) he (hl m)
            have hsf := calm_food (l := l) (c := m) he
            have hcc := calm_cap (l := l) (c := m) he hf hpc
            rw [heap] at hm
            rw [List.cons_append, List.length_cons] at h
            refine ih (calmZ l p m) (stormZ' q) mid (c :: rest) (by omega) (by omega) (by rw [e2]; exact hcc) (by rw [f2, e2, hc]) (by rw [e2]; omega) (by rw [e3, f3]; exact hdl false true _ (by rw [List.length_cons]; simp [sb])) (by omega) (by rw [e2]; exact hn.mono (by omega)) ho
        · rw [homeW_calm he' hs']
          cases mid with
          | nil =>
            rw [List.nil_append] at ho h
            rw [homeW_calm he hs] at ho
            obtain ⟨e1, e1b, e2, e3⟩ := calm_fd (l := l) (c := c) he (hl c)
            have hsf := calm_food (l := l) (c := c) he
            have hcc := calm_cap (l := l) (c := c) he hf hpc
            rw [heap] at hm
            rw [List.length_cons] at h
            refine landed (calmZ l p c) [] (by rw [List.nil_append]; omega) (by omega) hcc e2 (by rw [e3]; exact hdl false false _ (by simp [sb])) (by rw [heap]; omega) (fun _ => by rw [e3, tr_add]; rfl) ho
          | cons m mid =>
            rw [List.cons_append] at ho
            rw [homeW_calm he hs] at ho
            obtain ⟨e1, e1b, e2, e3⟩ := calm_fd (l := l) (c := m) he (hl m)
            have hsf := calm_food (l := l) (c := m) he
            have hcc := calm_cap (l := l) (c := m) he hf hpc
            rw [heap] at hm
            rw [List.cons_append, List.length_cons] at h
            refine landed (calmZ l p m) (mid ++ [c]) (by rw [List.append_assoc]; simp only [List.cons_append, List.nil_append]; omega) (by omega) hcc e2 (by rw [e3]; exact hdl false false _ (by rw [List.length_append, List.length_cons]; simp [sb])) (by rw [heap_app, heap, heap]; omega) (by simp) (by rw [List.append_assoc]; exact ho)
end Go.Abs
