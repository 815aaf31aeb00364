/- The way home in any weather, day by day. -/
import Derived.Test.YtfdkpmbpnppllaaGreatATopZ
namespace Go.Abs
open Go.RowKit Go.Proofs
set_option linter.unusedVariables false
set_option linter.unusedSimpArgs false
set_option maxRecDepth 100000

/-- A party that fills its room comes home, where that is sure. -/
theorem bound (r : DRule) (l : List DDepot) (hr : r.Ok) (hl : ∀ c, 0 ≤ foodAt c l) {q pA : DParty} {c : Int} {midc rest : List Int} (he : eatP q) (hq0 : 0 ≤ q.food) (hqc : q.food ≤ capZ q.crew) (hb : capZ q.crew ≤ q.food - needZ q.crew + foodAt c l) (hs : rest = [] ∨ Sure r q.crew rest.length)
    (hA0 : 0 ≤ pA.food) (hAc : pA.food ≤ capZ pA.crew) (hAcr : pA.crew = q.crew) (hAt : midc = [] → tr pA.past = 0) (hAo : (homeW r l pA (midc ++ rest)).2.2 = true) : (homeW r l (calmZ l q c) rest).2.2 = true := by
  obtain ⟨b1, b2, b3, b4⟩ := calm_fd (l := l) (c := c) he (hl c)
  have e := eat_food he
  have ec := eat_crew q
  have ef : (calmZ l q c).food = capZ q.crew := by
    have := pick_bind (p := { eatZ q with at_ := c }) (n := foodAt c l) (by show 0 ≤ (eatZ q).food; omega) (by show (eatZ q).food ≤ capZ (eatZ q).crew; rw [ec.1]; omega) (by show capZ (eatZ q).crew ≤ (eatZ q).food + _; rw [ec.1]; omega)
    have h2 : capZ ({ eatZ q with at_ := c } : DParty).crew = capZ q.crew := by show capZ (eatZ q).crew = _; rw [ec.1]
    rw [h2] at this
    exact this
  cases rest with
  | nil => rw [homeW_nil]
  | cons d rest =>
    rcases hs with hs | hs
    · cases hs
    rcases hs with h5 | h5
    · obtain ⟨T, h6, h7⟩ := h5 (calmZ l q c).past (by rw [b4]; exact addDay_len _ _)
      exact safe_load r l hl _ (calmZ l q c) (d :: rest) (Nat.le_refl _) (by omega) (by rw [b3]; exact he.1) ⟨T, h6, by rw [b3, ef]; exact h7⟩
    · have hto : ∃ pB : DParty, pB.crew = pA.crew ∧ 0 ≤ pB.food ∧ pB.food ≤ capZ pA.crew ∧ tr pB.past = 0 ∧ (homeW r l pB (d :: rest)).2.2 = true := by
        cases midc with
        | nil => exact ⟨pA, rfl, hA0, hAc, hAt rfl, hAo⟩
        | cons m midc => exact arrive r l hl _ pA (m :: midc) (d :: rest) (Nat.le_refl _) hA0 hAc (by simp) hAo
      obtain ⟨pB, g1, g2, g3, g4, g5⟩ := hto
      exact one_ok r l hr h5 _ pB (calmZ l q c) (d :: rest) (Nat.le_refl _) g2 (by rw [b3, g1, hAcr]) (by rw [b4, tr_add, g4]; rfl) (by rw [ef]; rw [hAcr] at g3; exact g3) g5
theorem foodAt_take {c n : Int} : ∀ {l : List DDepot}, Asc l → (∀ d ∈ l, 1 ≤ d.food ∧ d.food ≤ 10000) → 0 ≤ n → n ≤ foodAt c l → foodAt c (takeL c n l) = foodAt c l - n := by
  intro l
  induction l with
  | nil => intro _ _ h1 h2; simp [foodAt] at h2; have : n = 0 := by omega
           subst this; rfl
  | cons d l ih =>
    intro ha hf h1 h2
    have hd := hf d (by simp)
    obtain ⟨hlt, ha2⟩ := List.pairwise_cons.1 ha
    have hf2 : ∀ y ∈ l, 1 ≤ y.food ∧ y.food ≤ 10000 := fun y hy => hf y (by simp [hy])
    show foodAt c ((d :: l).filterMap (tk c n)) = _
    rw [List.filterMap_cons]
    by_cases hc : d.cell = c
    · have hid : l.filterMap (tk c n) = l := takeL_id (fun e he => by have := hlt e he; omega) hf2
      have hk : tk c n d = if 0 < d.food - n then some ⟨d.cell, d.food - n⟩ else none := if_pos hc
      rw [foodAt, if_pos hc] at h2 ⊢
      have hz : ∀ m : List DDepot, (∀ e ∈ m, e.cell ≠ c) → foodAt c m = 0 := by
        intro m
        induction m with
        | nil => intro _; rfl
        | cons e m ihm => intro h; rw [foodAt, if_neg (h e (by simp))]; exact ihm fun y hy => h y (by simp [hy])
      rw [hk, hid]
      by_cases hp : 0 < d.food - n
      · rw [if_pos hp]
        show foodAt c (⟨d.cell, d.food - n⟩ :: l) = _
        rw [foodAt, if_pos hc]
      · rw [if_neg hp]
        rw [hz l fun e he => by have := hlt e he; omega]
        omega
    · have hk : tk c n d = some d := by unfold tk; rw [if_neg hc, if_pos (by omega)]
      rw [foodAt, if_neg hc] at h2 ⊢
      rw [hk]
      show foodAt c (d :: l.filterMap (tk c n)) = _
      rw [foodAt, if_neg hc]
      exact ih ha2 hf2 h1 h2
theorem foodAt_0 {l : List DDepot} (hf : ∀ d ∈ l, 1 ≤ d.food ∧ d.food ≤ 10000) (c : Int) : 0 ≤ foodAt c l := (foodAt_bnd hf c).1
theorem heap_eq {l l' : List DDepot} : ∀ a : List Int, (∀ c ∈ a, foodAt c l' = foodAt c l) → heap l' a = heap l a := by
  intro a
  induction a with
  | nil => intro _; rfl
  | cons c a ih => intro h; rw [heap, heap, h c (by simp), ih fun e he => h e (by simp [he])]
/-- What keeps a way home open in any weather. -/
def Open' (x : DLand) (base : Int) (r : DRule) (l : List DDepot) (p : DParty) : Prop := p.food ≤ capZ p.crew ∧ NB r l p.crew (p.food + foodAt p.at_ l) ((wayZ x p.at_ base).drop 1)
theorem NB.congr {r : DRule} {l l' : List DDepot} {crew : List DMember} {v : Int} {rest : List Int} (h : NB r l crew v rest) (hl : ∀ c ∈ rest, foodAt c l' = foodAt c l) : NB r l' crew v rest := fun pre c post e hp => by
  have := h pre c post e hp
  rw [heap_eq (l := l) (l' := l') (pre ++ [c]) (fun d hd => hl d (by
    rw [e]
    rcases List.mem_append.1 hd with hd | hd
    · exact List.mem_append_left _ hd
    · rw [List.mem_singleton] at hd; subst hd; simp))]
  exact this
section
variable {x : DLand} {base : Int} {r : DRule} {l : List DDepot} {p : DParty}
theorem home_any (hb : backP x base r l p) (hne : p.at_ ≠ base) (hi : Open' x base r l p) (s : Bool) (hs : s = true → mayP r p.past) :
    retP x base r l p s ∧ eatP (pickZ p (foodAt p.at_ l)) ∧ PartyP x (retZ x base r l p s) ∧ DepotsP x (retL x base r l p s) ∧ backP x base r (retL x base r l p s) (retZ x base r l p s) ∧ Open' x base r (retL x base r l p s) (retZ x base r l p s) := by
  obtain ⟨c, rest, hw, hwc, hoc, hfar⟩ := way_next hb.1.2 hne
  have hret : retP x base r l p s := ⟨hb, hne, hs⟩
  have hv := hb.1.1
  have hr : r.Ok := hv.1
  have hfd := hv.2.1.food
  have hl := foodAt_0 hfd
  have hn := pickN_bnd p (foodAt p.at_ l)
  have hle := pick_le (p := p) (hl p.at_)
  have hpf := pick_food (n := foodAt p.at_ l) hv.2.2.2.2.1
  have hp0 := hv.2.2.2.2.1
  have hpc := pick_cap (p := p) (n := foodAt p.at_ l) hp0.1 hi.1
  have hok := hb.2
  unfold homeOf at hok
  rw [hw, List.drop_succ_cons, List.drop_zero] at hok
  have he := homeW_eat hok
  have ef := eat_food he
  have ec := eat_crew (pickZ p (foodAt p.at_ l))
  have hcell : homeCell x base p = c := by rw [homeCell, hw]; rfl
  have hNB := hi.2
  rw [hw, List.drop_succ_cons, List.drop_zero] at hNB
  have hlast : DepotsP x (retL x base r l p s) := by
    rw [retL, if_pos hret]
    split
    · exact take_depots hv.2.1 (by omega)
    · exact hv.2.1
  have hagree : ∀ e ∈ c :: rest, foodAt e (retL x base r l p s) = foodAt e l := by
    intro e hee
    rw [retL, if_pos hret]
    exact at_retL hfd (hfar e hee)
  have hhere : foodAt p.at_ (retL x base r l p s) = foodAt p.at_ l - pickN p (foodAt p.at_ l) := by
    rw [retL, if_pos hret]
    split
    · exact foodAt_take hv.2.1.asc hfd hn.1 hle
    · omega
  have efood : (eatZ (pickZ p (foodAt p.at_ l))).food = p.food + pickN p (foodAt p.at_ l) - needZ p.crew := by rw [ef.1]; rfl
  have end' : needZ (pickZ p (foodAt p.at_ l)).crew = needZ p.crew := rfl
  have ecap : capZ (pickZ p (foodAt p.at_ l)).crew = capZ p.crew := rfl
  by_cases hst : s = true
  · subst hst
    have hm := hs rfl
    have h1 := home_day (l := l) (p := p) hb hne
    rw [decide_eq_true hm] at h1
    refine ⟨hret, he, h1.2.2.1, hlast, h1.2.2.2.2.1, ?_⟩
    have ez : retZ x base r l p true = dayZ (pickZ p (foodAt p.at_ l)) p.at_ true := by rw [retZ, if_pos hret, if_pos rfl]
    have ezc : (retZ x base r l p true).crew = p.crew := by rw [ez]; exact ec.1
    have ezf : (retZ x base r l p true).food = p.food + pickN p (foodAt p.at_ l) - needZ p.crew := by rw [ez]; exact efood
    have eza : (retZ x base r l p true).at_ = p.at_ := by rw [ez]; rfl
    refine ⟨by rw [ezc, ezf]; have : p.food + pickN p (foodAt p.at_ l) ≤ capZ p.crew := hpc; omega, ?_⟩
    rw [ezc, ezf, eza, hhere, hw, List.drop_succ_cons, List.drop_zero]
    exact (hNB.mono (by omega)).congr hagree
  · have hst : s = false := by cases s with | true => exact absurd rfl hst | false => rfl
    subst hst
    have ez : retZ x base r l p false = dayZ (pickZ p (foodAt p.at_ l)) c false := by rw [retZ, if_pos hret, if_neg (by decide), hcell]
    have hpp : PartyP x (retZ x base r l p false) := by
      rw [ez]
      exact ⟨hoc, by show CrewP (eatZ _).crew; rw [ec.1]; exact hv.2.2.2.1, by show 0 ≤ (eatZ _).food ∧ (eatZ _).food ≤ 10000; omega, addDay_len _ _⟩
    have ezc : (retZ x base r l p false).crew = p.crew := by rw [ez]; exact ec.1
    have ezf : (retZ x base r l p false).food = p.food + pickN p (foodAt p.at_ l) - needZ p.crew := by rw [ez]; exact efood
    have eza : (retZ x base r l p false).at_ = c := by rw [ez]; rfl
    have hopen : Open' x base r (retL x base r l p false) (retZ x base r l p false) := by
      refine ⟨by rw [ezc, ezf]; have : p.food + pickN p (foodAt p.at_ l) ≤ capZ p.crew := hpc; omega, ?_⟩
      rw [ezc, ezf, eza, hagree c (by simp), hwc, List.drop_succ_cons, List.drop_zero]
      exact (hNB.next (by omega)).congr fun d hd => hagree d (by simp [hd])
    refine ⟨hret, he, hpp, hlast, ⟨⟨⟨hv.1, hlast, hpp⟩, by rw [eza, hwc]; simp⟩, ?_⟩, hopen⟩
    -- the way home behind a calm day
    have hB : (homeW r l (calmZ l (pickZ p (foodAt p.at_ l)) c) rest).2.2 = true := by
      by_cases hm : mayP r p.past
      · have hoA : (homeW r l (stormZ' (pickZ p (foodAt p.at_ l))) (c :: rest)).2.2 = true := by rw [homeW_storm he hm] at hok; exact hok
        obtain ⟨e1, e2, e3⟩ := storm_fd he
        by_cases hbd : (pickZ p (foodAt p.at_ l)).food - needZ p.crew + foodAt c l ≤ capZ p.crew
        · have hfull : (calmZ l (pickZ p (foodAt p.at_ l)) c).food = (pickZ p (foodAt p.at_ l)).food - needZ p.crew + foodAt c l := by
            have := pick_full (p := { eatZ (pickZ p (foodAt p.at_ l)) with at_ := c }) (n := foodAt c l) (by show 0 ≤ (eatZ _).food; omega) (hl c) (by show (eatZ _).food + _ ≤ capZ (eatZ _).crew; rw [ec.1, ef.1]; omega)
            have h2 : ({ eatZ (pickZ p (foodAt p.at_ l)) with at_ := c } : DParty).food = (pickZ p (foodAt p.at_ l)).food - needZ p.crew := ef.1
            rw [h2] at this
            exact this
          obtain ⟨b1, b2, b3, b4⟩ := calm_fd (l := l) (c := c) he (hl c)
          refine sim r l hr hl _ (stormZ' (pickZ p (foodAt p.at_ l))) (calmZ l (pickZ p (foodAt p.at_ l)) c) [c] rest (Nat.le_refl _) (by omega) (by rw [e2]; omega) (by rw [b3, e2]) (by rw [e2]; omega) ?_ (by rw [heap, heap]; omega) ?_ (by exact hoA)
          · rw [e3, b4]
            have hlen : p.past.length ≤ 10 := hv.2.2.2.2.2
            have := (dm_self hlen).add true false (by decide)
            exact this
          · rw [e2]
            refine hNB.next ?_
            have : (pickZ p (foodAt p.at_ l)).food = p.food + pickN p (foodAt p.at_ l) := rfl
            show _ ≤ _ - needZ p.crew + _
            omega
        · refine bound r l hr hl (q := pickZ p (foodAt p.at_ l)) (pA := stormZ' (pickZ p (foodAt p.at_ l))) (midc := [c]) he (by omega) hpc (by omega) ?_ (by omega) (by rw [e2]; omega) e2 (by simp) hoA
          cases rest with
          | nil => exact .inl rfl
          | cons d rest =>
            right
            rcases hNB [] c (d :: rest) rfl (by simp) with h5 | h5
            · exfalso
              rw [List.nil_append, heap, heap] at h5
              have : (pickZ p (foodAt p.at_ l)).food = p.food + pickN p (foodAt p.at_ l) := rfl
              simp at h5
              omega
            · exact h5
      · rw [homeW_calm he hm] at hok
        exact hok
    have hf : (pickZ (retZ x base r l p false) (foodAt c (retL x base r l p false))).food = (calmZ l (pickZ p (foodAt p.at_ l)) c).food := by
      rw [ez, hagree c (by simp)]; rfl
    have hbc := calm_fd (l := l) (c := c) he (hl c)
    have hmono := homeW_mono r l (retL x base r l p false) _ (calmZ l (pickZ p (foodAt p.at_ l)) c) (pickZ (retZ x base r l p false) (foodAt c (retL x base r l p false))) rest (Nat.le_refl _)
      (by omega) (by rw [ez]; rfl) (by rw [ez]; rfl) (Int.le_of_eq hf.symm) (fun e hee => hagree e (by simp [hee])) hB
    unfold homeOf
    rw [eza, hwc, List.drop_succ_cons, List.drop_zero]
    exact hmono.1
end
end Go.Abs
