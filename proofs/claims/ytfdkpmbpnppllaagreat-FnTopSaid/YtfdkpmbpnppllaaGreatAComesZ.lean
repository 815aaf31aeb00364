/- A trek comes home: the events of the way home lead to the base. -/
import Derived.Test.YtfdkpmbpnppllaaGreatAEvtR
namespace Go.Abs
open Go.RowKit Go.Proofs
set_option linter.unusedVariables false
set_option linter.unusedSimpArgs false
set_option maxRecDepth 100000

/-! ### More food does not change the way home -/
theorem pick_mono {p p' : DParty} {n : Int} (hc : p'.crew = p.crew) (h : 0 ≤ p.food) (h2 : p.food ≤ p'.food) : (pickZ p n).food ≤ (pickZ p' n).food := by
  show p.food + pickN p n ≤ p'.food + pickN p' n
  unfold pickN roomZ
  rw [hc]
  split <;> split <;> omega
theorem homeW_mono (r : DRule) (l l' : List DDepot) : ∀ (n : Nat) (p p' : DParty) (rest : List Int), 801 * rest.length + p.food.toNat ≤ n → 0 ≤ p.food → p'.crew = p.crew → p'.past = p.past → p.food ≤ p'.food → (∀ c ∈ rest, foodAt c l' = foodAt c l) → (homeW r l p rest).2.2 = true → (homeW r l' p' rest).2.2 = true ∧ (homeW r l' p' rest).2.1 = (homeW r l p rest).2.1 := by
  intro n
  induction n with
  | zero =>
    intro p p' rest h hf hc hp hm hl ho
    cases rest with
    | nil => rw [homeW_nil, homeW_nil]; exact ⟨rfl, rfl⟩
    | cons c rest => simp at h
  | succ n ih =>
    intro p p' rest h hf hc hp hm hl ho
    cases rest with
    | nil => rw [homeW_nil, homeW_nil]; exact ⟨rfl, rfl⟩
    | cons c rest =>
      by_cases he : eatP p
      · have he' : eatP p' := ⟨by rw [hc]; exact he.1, by rw [hc]; exact Int.le_trans he.2 hm⟩
        have e1 := eat_food he
        have e2 := eat_food he'
        rw [hc] at e2
        have ec := eat_crew p
        have ec' := eat_crew p'
        by_cases hs : mayP r p.past
        · have hs' : mayP r p'.past := by rw [hp]; exact hs
          rw [homeW_storm he hs] at ho
          rw [homeW_storm he hs, homeW_storm he' hs']
          have hsf := storm_food he
          have := ih (stormZ' p) (stormZ' p') (c :: rest) (by omega) (by show 0 ≤ (eatZ p).food; omega) (by show (eatZ p').crew = (eatZ p).crew; rw [ec.1, ec'.1, hc]) (by show addDay _ _ = addDay _ _; rw [hp]) (by show (eatZ p).food ≤ (eatZ p').food; omega) hl ho
          exact ⟨this.1, by show _ ++ _ = _ ++ _; rw [this.2]⟩
        · have hs' : ¬ mayP r p'.past := by rw [hp]; exact hs
          rw [homeW_calm he hs] at ho
          rw [homeW_calm he hs, homeW_calm he' hs']
          have hsf := calm_food (l := l) (c := c) he
          rw [List.length_cons] at h
          have hk : (calmZ l p c).food ≤ (calmZ l' p' c).food := by
            show (pickZ { eatZ p with at_ := c } (foodAt c l)).food ≤ (pickZ { eatZ p' with at_ := c } (foodAt c l')).food
            rw [hl c (by simp)]
            exact pick_mono (by show (eatZ p').crew = (eatZ p).crew; rw [ec.1, ec'.1, hc]) (by show 0 ≤ (eatZ p).food; omega) (by show (eatZ p).food ≤ (eatZ p').food; omega)
          have hn := pickN_bnd { eatZ p with at_ := c } (foodAt c l)
          have := ih (calmZ l p c) (calmZ l' p' c) rest (by omega) (by show 0 ≤ (eatZ p).food + pickN { eatZ p with at_ := c } (foodAt c l); omega) (by show (eatZ p').crew = (eatZ p).crew; rw [ec.1, ec'.1, hc]) (by show addDay _ _ = addDay _ _; rw [hp]) hk (fun e he => hl e (by simp [he])) ho
          exact ⟨this.1, by show _ ++ _ = _ ++ _; rw [this.2]⟩
      · rw [homeW_none he] at ho; cases ho
/-! ### The way of the next cell -/
theorem wayF_near {x : DLand} {b : Int} (hb : x.Open b) : ∀ (k : Nat) (c : Int), x.Open c → dist (stepsZ x [b]) c = k → ∀ e ∈ wayF x (stepsZ x [b]) k c, dist (stepsZ x [b]) e ≤ k := by
  intro k
  induction k with
  | zero => intro c hc h e he; simp [wayF] at he; subst he; omega
  | succ k ih =>
    intro c hc h e he
    rw [wayF, List.mem_cons] at he
    rcases he with rfl | he
    · omega
    · have hn := next_in hb hc (by omega)
      have := ih (nextZ x (stepsZ x [b]) c) (next_open hb hc (by omega)) (by omega) e he
      omega
theorem way_cases {x : DLand} {a b : Int} (h : wayZ x a b ≠ []) : x.Open a ∧ x.Open b ∧ 0 ≤ dist (stepsZ x [b]) a ∧ wayZ x a b = wayF x (stepsZ x [b]) (dist (stepsZ x [b]) a).toNat a := by
  have hd : ¬ daysZ x a b < 0 := fun hd => h (by rw [wayZ, if_pos hd])
  have hop := days_open hd
  have h0 : 0 ≤ dist (stepsZ x [a]) b := by rw [daysZ, if_pos hop] at hd; omega
  have hrev := steps_rev hop.1 hop.2 h0
  exact ⟨hop.1, hop.2, by omega, by rw [wayZ, if_neg hd]⟩
theorem way_base {x : DLand} {b : Int} (h : wayZ x b b ≠ []) : wayZ x b b = [b] := by
  obtain ⟨h1, h2, h3, h4⟩ := way_cases h
  rw [h4, steps_0 h2]; rfl
theorem way_next {x : DLand} {a b : Int} (h : wayZ x a b ≠ []) (hne : a ≠ b) : ∃ c rest, wayZ x a b = a :: c :: rest ∧ wayZ x c b = c :: rest ∧ x.Open c ∧ ∀ e ∈ c :: rest, e ≠ a := by
  obtain ⟨h1, h2, h3, h4⟩ := way_cases h
  have hpos : dist (stepsZ x [b]) a ≠ 0 := fun h0 => hne (steps_zero h2 h1 h0)
  have hn := next_in h2 h1 (by omega)
  have ho := next_open h2 h1 (by omega)
  obtain ⟨k, hk⟩ : ∃ k : Nat, dist (stepsZ x [b]) a = k + 1 := ⟨(dist (stepsZ x [b]) a).toNat - 1, by omega⟩
  rw [show (dist (stepsZ x [b]) a).toNat = k + 1 by omega, wayF] at h4
  have hrev := steps_rev h2 ho (by omega)
  have hw : wayZ x (nextZ x (stepsZ x [b]) a) b = wayF x (stepsZ x [b]) k (nextZ x (stepsZ x [b]) a) := by
    rw [wayZ, if_neg (by rw [daysZ, if_pos ⟨ho, h2⟩, hrev]; omega), show (dist (stepsZ x [b]) (nextZ x (stepsZ x [b]) a)).toNat = k by omega]
  have hfar := wayF_near h2 k (nextZ x (stepsZ x [b]) a) ho (by omega)
  have hh : ∃ rest, wayF x (stepsZ x [b]) k (nextZ x (stepsZ x [b]) a) = nextZ x (stepsZ x [b]) a :: rest := by cases k <;> exact ⟨_, rfl⟩
  obtain ⟨rest, hr⟩ := hh
  rw [hr] at h4 hw hfar
  refine ⟨_, rest, h4, hw, ho, fun e he hea => ?_⟩
  have := hfar e he
  rw [hea] at this
  omega
/-! ### Food is taken -/
theorem tk_in {c n : Int} {d e : DDepot} (h : tk c n d = some e) (hd : 1 ≤ d.food ∧ d.food ≤ 10000) (hn : 0 ≤ n) : e.cell = d.cell ∧ 1 ≤ e.food ∧ e.food ≤ 10000 := by
  unfold tk at h
  split at h
  · split at h
    · cases h; exact ⟨rfl, by simp only []; omega, by simp only []; omega⟩
    · cases h
  · split at h
    · cases h; exact ⟨rfl, hd⟩
    · cases h
theorem take_at {c n e : Int} (h : e ≠ c) : ∀ {l : List DDepot}, (∀ d ∈ l, 1 ≤ d.food ∧ d.food ≤ 10000) → foodAt e (takeL c n l) = foodAt e l := by
  intro l
  induction l with
  | nil => intro _; rfl
  | cons d l ih =>
    intro hf
    have h1 := hf d (by simp)
    have h2 := ih fun y hy => hf y (by simp [hy])
    show foodAt e ((d :: l).filterMap (tk c n)) = _
    change foodAt e (l.filterMap (tk c n)) = _ at h2
    rw [List.filterMap_cons]
    by_cases hc : d.cell = c
    · have hk : tk c n d = if 0 < d.food - n then some ⟨d.cell, d.food - n⟩ else none := if_pos hc
      have hr : foodAt e (d :: l) = foodAt e l := by rw [foodAt, if_neg (by rw [hc]; exact fun h3 => h h3.symm)]
      rw [hk, hr]
      by_cases hp : 0 < d.food - n
      · rw [if_pos hp]
        show foodAt e (⟨d.cell, d.food - n⟩ :: l.filterMap (tk c n)) = _
        rw [foodAt, if_neg (by show ¬ d.cell = e; rw [hc]; exact fun h3 => h h3.symm)]
        exact h2
      · rw [if_neg hp]; exact h2
    · have hk : tk c n d = some d := by unfold tk; rw [if_neg hc, if_pos (by omega)]
      rw [hk]
      show foodAt e (d :: _) = _
      rw [foodAt, foodAt, h2]
theorem take_asc {c n : Int} {l : List DDepot} (ha : Asc l) (hf : ∀ d ∈ l, 1 ≤ d.food ∧ d.food ≤ 10000) (hn : 0 ≤ n) : Asc (takeL c n l) := by
  unfold Asc takeL at *
  rw [List.pairwise_filterMap]
  refine List.Pairwise.imp_of_mem ?_ ha
  intro a b hia hib hab a' h1 b' h2
  rw [(tk_in h1 (hf a hia) hn).1, (tk_in h2 (hf b hib) hn).1]
  exact hab
theorem depots_of {x : DLand} {l : List DDepot} (ha : Asc l) (hf : ∀ d ∈ l, x.Open d.cell ∧ 1 ≤ d.food ∧ d.food ≤ 10000) (hx : x.Ok) (hl : l.length ≤ 20) : DepotsP x l := by
  refine ⟨fun j d hd => ?_, hx, hl⟩
  have h1 := hf d (mem_get hd)
  refine ⟨h1.1, h1.2, fun hj q hq => ?_⟩
  have h2 := List.pairwise_iff_getElem.1 ha (j - 1) j (List.getElem?_eq_some_iff.1 hq).1 (List.getElem?_eq_some_iff.1 hd).1 (by omega)
  rw [(List.getElem?_eq_some_iff.1 hq).2, (List.getElem?_eq_some_iff.1 hd).2] at h2
  exact h2
theorem DepotsP.opn {x : DLand} {l : List DDepot} (h : DepotsP x l) : ∀ d ∈ l, x.Open d.cell := by
  intro d hd
  obtain ⟨i, hi⟩ := List.getElem?_of_mem hd
  exact (h.1 i d hi).1
theorem take_depots {x : DLand} {l : List DDepot} {c n : Int} (h : DepotsP x l) (hn : 0 ≤ n) : DepotsP x (takeL c n l) := by
  refine depots_of (take_asc h.asc h.food hn) (fun e he => ?_) h.2.1 (Nat.le_trans (takeL_len c n l) h.2.2)
  obtain ⟨d, hd, hk⟩ := List.mem_filterMap.1 he
  have h1 := tk_in hk (h.food d hd) hn
  rw [h1.1]
  exact ⟨h.opn d hd, h1.2⟩
theorem foodZ_cons {d : DDepot} {l : List DDepot} : foodZ (d :: l) = foodOf d + foodZ l := by simp [foodZ, sumL]
theorem take_sum {c n : Int} : ∀ {l : List DDepot}, Asc l → (∀ d ∈ l, 1 ≤ d.food ∧ d.food ≤ 10000) → 0 ≤ n → n ≤ foodAt c l → foodZ (takeL c n l) = foodZ l - n := by
  intro l
  induction l with
  | nil => intro _ _ h1 h2; simp [foodAt] at h2; have : n = 0 := by omega
           subst this; rfl
  | cons d l ih =>
    intro ha hf h1 h2
    have hd := hf d (by simp)
    obtain ⟨hlt, ha2⟩ := List.pairwise_cons.1 ha
    have hf2 : ∀ y ∈ l, 1 ≤ y.food ∧ y.food ≤ 10000 := fun y hy => hf y (by simp [hy])
    show foodZ ((d :: l).filterMap (tk c n)) = _
    rw [List.filterMap_cons, foodZ_cons]
    have hfo : foodOf d = d.food := by unfold foodOf; omega
    by_cases hc : d.cell = c
    · have hid : l.filterMap (tk c n) = l := takeL_id (fun e he => by have := hlt e he; omega) hf2
      have hk : tk c n d = if 0 < d.food - n then some ⟨d.cell, d.food - n⟩ else none := if_pos hc
      rw [foodAt, if_pos hc] at h2
      rw [hk, hid, hfo]
      split
      · rename_i he
        split at he
        · cases he
        · omega
      · rename_i v he
        split at he
        · cases he
          rw [foodZ_cons, show foodOf ⟨d.cell, d.food - n⟩ = d.food - n by unfold foodOf; simp only []; omega]
          omega
        · cases he
    · have hk : tk c n d = some d := by unfold tk; rw [if_neg hc, if_pos (by omega)]
      rw [foodAt, if_neg hc] at h2
      rw [hk]
      show foodZ (d :: l.filterMap (tk c n)) = _
      rw [foodZ_cons]
      have : foodZ (l.filterMap (tk c n)) = foodZ l - n := ih ha2 hf2 h1 h2
      omega
/-! ### A day is added -/
theorem storm_sub {l m : List Bool} (h : l.Sublist m) : stormZ l ≤ stormZ m := by
  induction h with
  | slnil => exact Int.le_refl _
  | cons a h ih =>
    rename_i l1 l2
    have : stormZ (a :: l2) = (if a = true then 1 else 0) + stormZ l2 := by simp [stormZ, sumL]
    split at this <;> omega
  | cons_cons a h ih =>
    rename_i l1 l2
    have h1 : stormZ (a :: l1) = (if a = true then 1 else 0) + stormZ l1 := by simp [stormZ, sumL]
    have h2 : stormZ (a :: l2) = (if a = true then 1 else 0) + stormZ l2 := by simp [stormZ, sumL]
    omega
theorem storm_app (l m : List Bool) : stormZ (l ++ m) = stormZ l + stormZ m := by simp [stormZ, sumL]
theorem keeps_add {r : DRule} {l : List Bool} {s : Bool} (h : KeepsP r l) (hm : s = true → mayP r l) : KeepsP r (addDay l s) := by
  refine ⟨h.1, fun e he => ?_⟩
  have hw := h.1.1
  have key : ∀ e, e < l.length + 2 → stormZ (win (l ++ [s]) r.window.toNat e) ≤ r.most := by
    intro e he
    by_cases h1 : e < l.length + 1
    · have := h.2 e h1
      have e1 : win (l ++ [s]) r.window.toNat e = win l r.window.toNat e := by
        unfold win
        rw [List.drop_append_of_le_length (by omega), List.take_append_of_le_length (by simp; omega)]
      rw [e1]; exact this
    · have e2 : e = l.length + 1 := by omega
      subst e2
      have e1 : win (l ++ [s]) r.window.toNat (l.length + 1) = l.drop (l.length + 1 - r.window.toNat) ++ [s] := by
        unfold win
        rw [List.drop_append_of_le_length (by omega), List.take_of_length_le (by simp; omega)]
      rw [e1, storm_app]
      cases s with
      | true =>
        have := (hm rfl).2
        have h3 : stormZ [true] = 1 := rfl
        omega
      | false =>
        have h3 : stormZ [false] = 0 := rfl
        have h4 := h.2 l.length (by omega)
        have h5 : (l.drop (l.length + 1 - r.window.toNat)).Sublist (win l r.window.toNat l.length) := by
          unfold win
          rw [List.take_of_length_le (by simp)]
          rw [show l.length + 1 - r.window.toNat = (l.length - r.window.toNat) + (l.length + 1 - r.window.toNat - (l.length - r.window.toNat)) by omega, ← List.drop_drop]
          exact List.drop_sublist _ _
        have := storm_sub h5
        omega
  have hlen : (addDay l s).length = l.length + 1 - (l.length + 1 - 10) := by simp [addDay]
  refine Int.le_trans (storm_sub ?_) (key (e + (l.length + 1 - 10)) (by omega))
  unfold win addDay
  generalize l.length + 1 - 10 = k
  generalize r.window.toNat = w
  rw [List.drop_drop]
  obtain ⟨j, hj⟩ : ∃ j, k + (e - w) = (e + k - w) + j := ⟨k + (e - w) - (e + k - w), by omega⟩
  rw [hj, ← List.drop_drop, show e - (e - w) = (e + k - (e + k - w)) - j by omega, ← List.drop_take]
  exact List.drop_sublist _ _
/-! ### A day on the way home, in the worst weather -/
section
variable {x : DLand} {base : Int} {r : DRule} {l : List DDepot} {p : DParty}
theorem at_retL {n e : Int} (hl : ∀ d ∈ l, 1 ≤ d.food ∧ d.food ≤ 10000) {c : Int} (h : e ≠ c) : foodAt e (if 0 < n then takeL c n l else l) = foodAt e l := by
  split
  · exact take_at h hl
  · rfl
/-- A day on the way home in the worst weather: the party can come back from there, and the days left are those behind the first one. -/
theorem home_day (hb : backP x base r l p) (hne : p.at_ ≠ base) :
    retP x base r l p (decide (mayP r p.past)) ∧ eatP (pickZ p (foodAt p.at_ l)) ∧ PartyP x (retZ x base r l p (decide (mayP r p.past))) ∧ DepotsP x (retL x base r l p (decide (mayP r p.past))) ∧
      backP x base r (retL x base r l p (decide (mayP r p.past))) (retZ x base r l p (decide (mayP r p.past))) ∧
      (homeOf x base r l p).2.1 = decide (mayP r p.past) :: (homeOf x base r (retL x base r l p (decide (mayP r p.past))) (retZ x base r l p (decide (mayP r p.past)))).2.1 := by
  obtain ⟨c, rest, hw, hwc, hoc, hfar⟩ := way_next hb.1.2 hne
  have hret : retP x base r l p (decide (mayP r p.past)) := ⟨hb, hne, fun h => of_decide_eq_true h⟩
  have hv := hb.1.1
  have hfd := hv.2.1.food
  have hn := pickN_bnd p (foodAt p.at_ l)
  have hpf := pick_food (n := foodAt p.at_ l) hv.2.2.2.2.1
  have hok := hb.2
  unfold homeOf at hok
  rw [hw, List.drop_succ_cons, List.drop_zero] at hok
  have he : eatP (pickZ p (foodAt p.at_ l)) := Decidable.byContradiction fun he => by rw [homeW_none he] at hok; cases hok
  have ef := eat_food he
  have ec := eat_crew (pickZ p (foodAt p.at_ l))
  have hcell : homeCell x base p = c := by rw [homeCell, hw]; rfl
  have hlast : DepotsP x (retL x base r l p (decide (mayP r p.past))) := by
    rw [retL, if_pos hret]
    split
    · exact take_depots hv.2.1 (by omega)
    · exact hv.2.1
  have hagree : ∀ e ∈ c :: rest, foodAt e (retL x base r l p (decide (mayP r p.past))) = foodAt e l := by
    intro e hee
    rw [retL, if_pos hret]
    exact at_retL hfd (hfar e hee)
  by_cases hm : mayP r p.past
  · have ed : decide (mayP r p.past) = true := decide_eq_true hm
    have ez : retZ x base r l p (decide (mayP r p.past)) = dayZ (pickZ p (foodAt p.at_ l)) p.at_ true := by rw [retZ, if_pos hret, ed, if_pos rfl]
    have hpp : PartyP x (retZ x base r l p (decide (mayP r p.past))) := by
      rw [ez]
      exact ⟨hv.2.2.1, by show CrewP (eatZ _).crew; rw [ec.1]; exact hv.2.2.2.1, by show 0 ≤ (eatZ _).food ∧ (eatZ _).food ≤ 10000; omega, addDay_len _ _⟩
    have hat : (retZ x base r l p (decide (mayP r p.past))).at_ = p.at_ := by rw [ez]; rfl
    rw [homeW_storm he hm] at hok
    have hmono := homeW_mono r l (retL x base r l p (decide (mayP r p.past))) _ (stormZ' (pickZ p (foodAt p.at_ l))) (pickZ (retZ x base r l p (decide (mayP r p.past))) (foodAt p.at_ (retL x base r l p (decide (mayP r p.past))))) (c :: rest) (Nat.le_refl _)
      (by show 0 ≤ (eatZ _).food; omega) (by rw [ez]; rfl) (by rw [ez]; rfl) (by
        have h1 := pickN_bnd (retZ x base r l p (decide (mayP r p.past))) (foodAt p.at_ (retL x base r l p (decide (mayP r p.past))))
        have h2 : (retZ x base r l p (decide (mayP r p.past))).food = (stormZ' (pickZ p (foodAt p.at_ l))).food := by rw [ez]; rfl
        show _ ≤ (retZ x base r l p (decide (mayP r p.past))).food + _
        omega) hagree hok
    refine ⟨hret, he, hpp, hlast, ⟨⟨⟨hv.1, hlast, hpp⟩, by rw [hat]; exact hb.1.2⟩, ?_⟩, ?_⟩
    · unfold homeOf
      rw [hat, hw, List.drop_succ_cons, List.drop_zero]
      exact hmono.1
    · unfold homeOf
      rw [hat, hw, List.drop_succ_cons, List.drop_zero, homeW_storm he hm, hmono.2, ed]
      rfl
  · have ed : decide (mayP r p.past) = false := decide_eq_false hm
    have ez : retZ x base r l p (decide (mayP r p.past)) = dayZ (pickZ p (foodAt p.at_ l)) c false := by rw [retZ, if_pos hret, ed, if_neg (by decide), hcell]
    have hpp : PartyP x (retZ x base r l p (decide (mayP r p.past))) := by
      rw [ez]
      exact ⟨hoc, by show CrewP (eatZ _).crew; rw [ec.1]; exact hv.2.2.2.1, by show 0 ≤ (eatZ _).food ∧ (eatZ _).food ≤ 10000; omega, addDay_len _ _⟩
    have hat : (retZ x base r l p (decide (mayP r p.past))).at_ = c := by rw [ez]; rfl
    rw [homeW_calm he hm] at hok
    have hf : (pickZ (retZ x base r l p (decide (mayP r p.past))) (foodAt c (retL x base r l p (decide (mayP r p.past))))).food = (calmZ l (pickZ p (foodAt p.at_ l)) c).food := by
      rw [ez, hagree c (by simp)]; rfl
    have h1 := pickN_bnd { eatZ (pickZ p (foodAt p.at_ l)) with at_ := c } (foodAt c l)
    have hmono := homeW_mono r l (retL x base r l p (decide (mayP r p.past))) _ (calmZ l (pickZ p (foodAt p.at_ l)) c) (pickZ (retZ x base r l p (decide (mayP r p.past))) (foodAt c (retL x base r l p (decide (mayP r p.past))))) rest (Nat.le_refl _)
      (by show 0 ≤ (eatZ _).food + pickN { eatZ (pickZ p (foodAt p.at_ l)) with at_ := c } (foodAt c l); omega) (by rw [ez]; rfl) (by rw [ez]; rfl) (Int.le_of_eq hf.symm) (fun e hee => hagree e (by simp [hee])) hok
    refine ⟨hret, he, hpp, hlast, ⟨⟨⟨hv.1, hlast, hpp⟩, by rw [hat, hwc]; simp⟩, ?_⟩, ?_⟩
    · unfold homeOf
      rw [hat, hwc, List.drop_succ_cons, List.drop_zero]
      exact hmono.1
    · unfold homeOf
      rw [hat, hwc, hw]
      simp only [List.drop_succ_cons, List.drop_zero]
      rw [homeW_calm he hm, hmono.2, ed]
      rfl
end
theorem writeP_go {t : DTrek} {cell food : Int} (h : trekP t) (hd : t.day + 1 ≤ 5000) (hat : 0 ≤ cell ∧ cell ≤ 63) (hfd : 0 ≤ food ∧ food ≤ 10000) : writeP (pagesOf t) (t.day + 1) cell food := by
  have hd0 := h.2.2.2.2.1
  have hj : Journal (pagesOf t) ∧ (prevP (pagesOf t) (pagesOf t).length).day ≤ t.day := by
    unfold pagesOf
    split
    · exact ⟨⟨fun j m hm => by simp at hm, by simp⟩, by simp [prevP_0]; omega⟩
    · refine ⟨h.2.2.1, ?_⟩
      rcases h.2.2.2.1 with h0 | h0
      · rw [h0, prevP_0]; simp only []; omega
      · exact h0
  refine ⟨fun i q hi => ?_, by have := pagesOf_len t; simp; omega⟩
  by_cases hlt : i < (pagesOf t).length
  · rw [List.getElem?_append_left hlt] at hi
    have := hj.1.1 i q hi
    unfold okP at this ⊢
    rw [prevP_app (by omega)]; exact this
  · have hlt2 := (List.getElem?_eq_some_iff.1 hi).1
    have hie : i = (pagesOf t).length := by simp at hlt2; omega
    subst hie
    rw [List.getElem?_append_right (Nat.le_refl _), Nat.sub_self] at hi
    simp only [List.getElem?_cons_zero, Option.some.injEq] at hi
    subst hi
    unfold okP
    rw [prevP_app (Nat.le_refl _)]
    exact ⟨⟨by simp only [mkPage]; omega, by simp only [mkPage]; omega⟩, hat, hfd, rfl⟩
theorem pick_le {p : DParty} {n : Int} (h : 0 ≤ n) : pickN p n ≤ n := by
  have := roomZ_bnd p
  unfold pickN; omega
noncomputable abbrev worstS (t : DTrek) : Bool := decide (mayP t.rule t.party.past)
noncomputable abbrev homeT (t : DTrek) : DTrek := dayT t (retZ t.land t.base t.rule t.depots t.party (worstS t)) (retL t.land t.base t.rule t.depots t.party (worstS t))
theorem home_trek {t : DTrek} (ht : trekP t) (hne : t.party.at_ ≠ t.base) (hd : t.day + 1 ≤ 5000) : trekP (homeT t) := by
  obtain ⟨hret, he, hpp, hll, hbk, hls⟩ := home_day (p := t.party) (l := t.depots) ht.1 hne
  have hd0 := ht.2.2.2.2.1
  have ed : IntKind.i64.wrap (t.day + 1) = t.day + 1 := wrap64 (by omega) (by omega)
  have hw := writeP_go (cell := (retZ t.land t.base t.rule t.depots t.party (worstS t)).at_) (food := (retZ t.land t.base t.rule t.depots t.party (worstS t)).food) ht hd (cell_bnd hpp.1.1) hpp.2.2.1
  have ej : (homeT t).journal = pagesOf t ++ [mkPage (pagesOf t) (t.day + 1) (retZ t.land t.base t.rule t.depots t.party (worstS t)).at_ (retZ t.land t.base t.rule t.depots t.party (worstS t)).food] := by
    show writeL (pagesOf t) (IntKind.i64.wrap (t.day + 1)) _ _ = _
    rw [ed, writeL, if_pos hw]
  have edd : (homeT t).day = t.day + 1 := ed
  refine ⟨hbk, ?_, ?_, ?_, by rw [edd]; omega, ?_⟩
  · show KeepsP t.rule (retZ t.land t.base t.rule t.depots t.party (worstS t)).past
    have : (retZ t.land t.base t.rule t.depots t.party (worstS t)).past = addDay t.party.past (worstS t) := by rw [retZ, if_pos hret]; rfl
    rw [this]
    exact keeps_add ht.2.1 fun h => of_decide_eq_true h
  · rw [ej]; exact hw
  · right
    rw [ej, edd, List.length_append, List.length_singleton, prevP_S (p := mkPage (pagesOf t) (t.day + 1) (retZ t.land t.base t.rule t.depots t.party (worstS t)).at_ (retZ t.land t.base t.rule t.depots t.party (worstS t)).food) (by simp)]
    exact Int.le_refl _
  · obtain ⟨h1, h2, h3, h4⟩ := ht.2.2.2.2.2
    have hv := ht.1.1.1
    have hfd := hv.2.1.food
    have hfa := foodAt_bnd hfd t.party.at_
    have hn := pickN_bnd t.party (foodAt t.party.at_ t.depots)
    have hnl := pick_le (p := t.party) hfa.1
    have hnd := needZ_bnd t.party.crew
    have ef := eat_food he
    have efood : (retZ t.land t.base t.rule t.depots t.party (worstS t)).food = t.party.food + pickN t.party (foodAt t.party.at_ t.depots) - needZ t.party.crew := by
      rw [retZ, if_pos hret]
      show (eatZ (pickZ t.party (foodAt t.party.at_ t.depots))).food = _
      rw [ef.1]; rfl
    have eZ : foodZ (retL t.land t.base t.rule t.depots t.party (worstS t)) = foodZ t.depots - pickN t.party (foodAt t.party.at_ t.depots) := by
      rw [retL, if_pos hret]
      split
      · exact take_sum hv.2.1.asc hfd hn.1 hnl
      · omega
    have hfz := foodZ_bnd (retL t.land t.base t.rule t.depots t.party (worstS t))
    have hfp : 0 ≤ (retZ t.land t.base t.rule t.depots t.party (worstS t)).food ∧ (retZ t.land t.base t.rule t.depots t.party (worstS t)).food ≤ 10000 := hpp.2.2.1
    have ee : (homeT t).eaten = t.eaten + needZ t.party.crew := wrap64 (by omega) (by omega)
    have e1 : (homeT t).party.food = (retZ t.land t.base t.rule t.depots t.party (worstS t)).food := rfl
    have e2 : (homeT t).depots = retL t.land t.base t.rule t.depots t.party (worstS t) := rfl
    refine ⟨h1, ?_, hfp, ?_⟩
    · rw [ee]; omega
    · rw [ee, e1, e2, eZ, efood]
      show t.given = _
      omega
theorem home_apply {t : DTrek} (ht : trekP t) (hne : t.party.at_ ≠ t.base) (hd : t.day + 1 ≤ 5000) : applyZ t (homeEv (worstS t)) = homeT t := by
  have h1 := home_trek ht hne hd
  rw [(apply_4 rfl).1, dayR]
  exact if_pos ⟨(home_day ht.1 hne).1, ht, h1⟩
theorem homeEvZ_step {t : DTrek} (ht : trekP t) (hne : t.party.at_ ≠ t.base) (hd : t.day + 1 ≤ 5000) : homeEvZ t = homeEv (worstS t) :: homeEvZ (homeT t) := by
  rw [homeEvZ, if_pos ht, homeEvZ, if_pos (home_trek ht hne hd), (home_day ht.1 hne).2.2.2.2.2, List.map_cons]
  rfl
theorem homeEvZ_base {t : DTrek} (ht : trekP t) (hb : t.party.at_ = t.base) : homeEvZ t = [] := by
  have hw := ht.1.1.2
  rw [homeEvZ, if_pos ht, homeOf]
  rw [hb] at hw ⊢
  rw [way_base hw]
  simp [homeW_nil]
theorem comes_home : ∀ (n : Nat) (t : DTrek), trekP t → (homeOf t.land t.base t.rule t.depots t.party).2.1.length ≤ n → t.day + n ≤ 5000 → comesHomeP t := by
  intro n
  induction n with
  | zero =>
    intro t ht hn hd
    by_cases hb : t.party.at_ = t.base
    · unfold comesHomeP
      rw [homeEvZ_base ht hb]
      exact hb
    · have := (home_day ht.1 hb).2.2.2.2.2
      rw [this] at hn; simp at hn
  | succ n ih =>
    intro t ht hn hd
    by_cases hb : t.party.at_ = t.base
    · unfold comesHomeP
      rw [homeEvZ_base ht hb]
      exact hb
    · have h1 := (home_day ht.1 hb).2.2.2.2.2
      have hd0 := ht.2.2.2.2.1
      rw [h1, List.length_cons] at hn
      have hd1 : t.day + 1 ≤ 5000 := by omega
      have edd : (homeT t).day = t.day + 1 := wrap64 (by omega) (by omega)
      have hn2 : (homeOf t.land t.base t.rule (homeT t).depots (homeT t).party).2.1.length ≤ n := Nat.le_of_succ_le_succ hn
      have := ih (homeT t) (home_trek ht hb hd1) hn2 (by rw [edd]; omega)
      unfold comesHomeP at this ⊢
      rw [homeEvZ_step ht hb hd1]
      show (runZ (applyZ t (homeEv (worstS t))) (homeEvZ (homeT t))).party.at_ = (runZ (applyZ t (homeEv (worstS t))) (homeEvZ (homeT t))).base
      rw [home_apply ht hb hd1]
      exact this
/-! ### .. in few days -/
def trail : List Bool → Nat
  | [] => 0
  | b :: l => if b = true then trail l + 1 else 0
def tr (l : List Bool) : Nat := min 10 (trail l.reverse)
theorem trail_le (l : List Bool) : trail l ≤ l.length := by
  induction l with
  | nil => exact Nat.le_refl _
  | cons b l ih => unfold trail; split <;> simp <;> omega
theorem trail_take (l : List Bool) : ∀ n : Nat, trail (l.take n) = min n (trail l) := by
  induction l with
  | nil => intro n; simp [trail]
  | cons b l ih =>
    intro n
    cases n with
    | zero => simp [trail]
    | succ n =>
      rw [List.take_succ_cons]
      unfold trail
      rw [ih]
      split <;> omega
theorem trail_storm (l : List Bool) : (trail l : Int) ≤ stormZ l := by
  induction l with
  | nil => exact Int.le_refl _
  | cons b l ih =>
    have h := stormZ_bound (b :: l)
    have h2 : stormZ (b :: l) = (if b = true then 1 else 0) + stormZ l := by simp [stormZ, sumL]
    unfold trail
    split
    · rename_i hb; rw [if_pos hb] at h2; omega
    · omega
theorem storm_rev (l : List Bool) : stormZ l.reverse = stormZ l := by
  induction l with
  | nil => rfl
  | cons b l ih =>
    rw [List.reverse_cons, storm_app, ih]
    simp [stormZ, sumL]; omega
theorem may_tr {r : DRule} {l : List Bool} (h : mayP r l) : tr l < 9 := by
  have h1 := h.2
  have h2 := h.1
  have h3 : stormZ (l.drop (l.length + 1 - r.window.toNat)) = stormZ (l.reverse.take (r.window.toNat - 1)) := by
    rw [← storm_rev, List.reverse_drop]
    congr 1
    by_cases hle : l.length + 1 ≤ r.window.toNat
    · rw [List.take_of_length_le (by simp; omega), List.take_of_length_le (by simp; omega)]
    · congr 1; omega
  have h4 := trail_storm (l.reverse.take (r.window.toNat - 1))
  rw [trail_take] at h4
  have h5 := h2.1
  have h6 := h2.2
  unfold tr
  omega
theorem tr_add (l : List Bool) (b : Bool) : tr (addDay l b) = if b = true then min 10 (tr l + 1) else 0 := by
  have h : (addDay l b).reverse = (b :: l.reverse).take (l.length + 1 - (l.length + 1 - 10)) := by
    rw [addDay, List.reverse_drop]; simp
  have h2 := trail_le l.reverse
  rw [List.length_reverse] at h2
  have h3 : trail (b :: l.reverse) = if b = true then trail l.reverse + 1 else 0 := rfl
  unfold tr
  rw [h, trail_take, h3]
  split <;> omega
theorem homeW_days (r : DRule) (l : List DDepot) : ∀ (n : Nat) (p : DParty) (rest : List Int), 801 * rest.length + p.food.toNat ≤ n → (homeW r l p rest).2.1.length + min (tr p.past) (11 * rest.length) ≤ 11 * rest.length := by
  intro n
  induction n with
  | zero =>
    intro p rest h
    cases rest with
    | nil => rw [homeW_nil]; simp
    | cons c rest => simp at h
  | succ n ih =>
    intro p rest h
    cases rest with
    | nil => rw [homeW_nil]; simp
    | cons c rest =>
      have h10 : tr p.past ≤ 10 := by unfold tr; omega
      by_cases he : eatP p
      · by_cases hs : mayP r p.past
        · rw [homeW_storm he hs]
          have hsf := storm_food he
          have := ih (stormZ' p) (c :: rest) (by omega)
          have e1 : tr (stormZ' p).past = min 10 (tr p.past + 1) := by rw [show (stormZ' p).past = addDay p.past true from rfl, tr_add, if_pos rfl]
          have h9 := may_tr hs
          rw [e1] at this
          rw [List.length_cons] at this ⊢
          show ([true] ++ (homeW r l (stormZ' p) (c :: rest)).2.1).length + _ ≤ _
          rw [List.length_append, List.length_singleton]
          omega
        · rw [homeW_calm he hs]
          have hsf := calm_food (l := l) (c := c) he
          rw [List.length_cons] at h
          have := ih (calmZ l p c) rest (by omega)
          rw [List.length_cons]
          show ([false] ++ (homeW r l (calmZ l p c) rest).2.1).length + _ ≤ _
          rw [List.length_append, List.length_singleton]
          omega
      · rw [homeW_none he]; simp; omega
theorem home_short {t : DTrek} (ht : trekP t) (hd : t.day ≤ 4000) : comesHomeP t := by
  have h := homeW_days t.rule t.depots _ (pickZ t.party (foodAt t.party.at_ t.depots)) ((wayZ t.land t.party.at_ t.base).drop 1) (Nat.le_refl _)
  have hl := wayZ_len t.land t.party.at_ t.base
  rw [List.length_drop] at h
  exact comes_home 726 t ht (by show (homeW _ _ _ _).2.1.length ≤ _; omega) (by omega)
end Go.Abs
