/- Turning back: what the walks' results say. Without depots a party waits at worst no shorter than without storms. -/
import Derived.Test.YtfdkpmbpnppllaaGreatATurn
namespace Go.Abs
open Go.RowKit Go.Proofs
set_option linter.unusedVariables false
set_option linter.unusedSimpArgs false
set_option maxRecDepth 100000

/-! ### Calm days among the days to come, in the worst weather -/
noncomputable def cal (r : DRule) : Nat → List Bool → Int
  | 0, _ => 0
  | n + 1, l => (if mayP r l then 0 else 1) + cal r n (addDay l (decide (mayP r l)))
theorem cal_pos (r : DRule) : ∀ (n : Nat) (l : List Bool), 0 ≤ cal r n l := by
  intro n
  induction n with
  | zero => intro l; exact Int.le_refl _
  | succ n ih =>
    intro l
    have := ih (addDay l (decide (mayP r l)))
    rw [cal]; split <;> omega
theorem mul_S (a : Int) (n : Nat) : a * ((n + 1 : Nat) : Int) = a * n + a := by
  rw [Int.natCast_add, Int.mul_add]; simp
theorem pick_nil (p : DParty) (c : Int) : pickZ p (foodAt c []) = p := by
  have h : pickN p 0 = 0 := by
    have := roomZ_bnd p
    unfold pickN; omega
  show { p with food := p.food + pickN p 0 } = p
  rw [h, Int.add_zero]
theorem homeW_iff (r : DRule) : ∀ (n : Nat) (p : DParty) (rest : List Int), 801 * rest.length + p.food.toNat ≤ n → 0 ≤ p.food → CrewP p.crew → ((homeW r [] p rest).2.2 = true ↔ ∃ T : Nat, (rest.length : Int) ≤ cal r T p.past ∧ needZ p.crew * T ≤ p.food) := by
  intro n
  induction n with
  | zero =>
    intro p rest h hf hc
    cases rest with
    | nil => rw [homeW_nil]; exact ⟨fun _ => ⟨0, by simp [cal], by simp; exact hf⟩, fun _ => rfl⟩
    | cons c rest => simp at h
  | succ n ih =>
    intro p rest h hf hc
    cases rest with
    | nil => rw [homeW_nil]; exact ⟨fun _ => ⟨0, by simp [cal], by simp; exact hf⟩, fun _ => rfl⟩
    | cons c rest =>
      have hnd := needZ_pos hc
      by_cases he : eatP p
      · have ef := eat_food he
        have ec := eat_crew p
        by_cases hs : mayP r p.past
        · rw [homeW_storm he hs]
          have hsf := storm_food he
          have h1 := ih (stormZ' p) (c :: rest) (by omega) (by show 0 ≤ (eatZ p).food; omega) (by show CrewP (eatZ p).crew; rw [ec.1]; exact hc)
          have e1 : (stormZ' p).crew = p.crew := ec.1
          have e2 : (stormZ' p).food = p.food - needZ p.crew := ef.1
          have e3 : (stormZ' p).past = addDay p.past true := rfl
          rw [e1, e2, e3] at h1
          refine Iff.trans h1 ⟨fun ⟨T, h2, h3⟩ => ⟨T + 1, ?_, ?_⟩, fun ⟨T, h2, h3⟩ => ?_⟩
          · rw [cal, if_pos hs, decide_eq_true hs]; omega
          · rw [mul_S]; omega
          · cases T with
            | zero => simp [cal] at h2; omega
            | succ T =>
              rw [cal, if_pos hs, decide_eq_true hs] at h2
              rw [mul_S] at h3
              exact ⟨T, by omega, by omega⟩
        · rw [homeW_calm he hs]
          have hsf := calm_food (l := []) (c := c) he
          rw [List.length_cons] at h
          have hcal : calmZ [] p c = { eatZ p with at_ := c, past := addDay p.past false } := by
            show { pickZ { eatZ p with at_ := c } (foodAt c []) with past := addDay p.past false } = _
            rw [pick_nil]
          have h1 := ih (calmZ [] p c) rest (by omega) (by rw [hcal]; show 0 ≤ (eatZ p).food; omega) (by rw [hcal]; show CrewP (eatZ p).crew; rw [ec.1]; exact hc)
          have e1 : (calmZ [] p c).crew = p.crew := ec.1
          have e2 : (calmZ [] p c).food = p.food - needZ p.crew := by rw [hcal]; exact ef.1
          have e3 : (calmZ [] p c).past = addDay p.past false := rfl
          rw [e1, e2, e3] at h1
          rw [List.length_cons]
          refine Iff.trans h1 ⟨fun ⟨T, h2, h3⟩ => ⟨T + 1, ?_, ?_⟩, fun ⟨T, h2, h3⟩ => ?_⟩
          · rw [cal, if_neg hs, decide_eq_false hs]; omega
          · rw [mul_S]; omega
          · cases T with
            | zero => simp [cal] at h2; omega
            | succ T =>
              rw [cal, if_neg hs, decide_eq_false hs] at h2
              rw [mul_S] at h3
              exact ⟨T, by omega, by omega⟩
      · rw [homeW_none he]
        refine Iff.intro (fun h => by cases h) (fun h => ?_)
        obtain ⟨T, h2, h3⟩ := h
        exfalso
        refine he ⟨hc, ?_⟩
        cases T with
        | zero => simp [cal] at h2; omega
        | succ T =>
          rw [mul_S] at h3
          have : 0 ≤ needZ p.crew * (T : Int) := Int.mul_nonneg (by omega) (by omega)
          omega
/-! ### Pasts with more storms -/
theorem stormApp (l m : List Bool) : stormZ (l ++ m) = stormZ l + stormZ m := by simp [stormZ, sumL]
def Dm (e : Int) (c g : List Bool) : Prop := c.length = g.length ∧ c.length ≤ 10 ∧ ∀ k : Nat, k ≤ 10 → stormZ (c.drop (c.length - k)) ≤ stormZ (g.drop (g.length - k)) + e
theorem last_add {l : List Bool} {b : Bool} {k : Nat} (hl : l.length ≤ 10) (h1 : k + 1 ≤ 10) : (addDay l b).drop ((addDay l b).length - (k + 1)) = l.drop (l.length - k) ++ [b] := by
  have hn : (addDay l b).length = l.length + 1 - (l.length + 1 - 10) := by simp [addDay]
  rw [hn, addDay, List.drop_drop]
  by_cases hk : k + 1 ≤ l.length + 1 - (l.length + 1 - 10)
  · rw [show l.length + 1 - 10 + (l.length + 1 - (l.length + 1 - 10) - (k + 1)) = l.length - k by omega, List.drop_append_of_le_length (by omega)]
  · rw [show l.length + 1 - 10 + (l.length + 1 - (l.length + 1 - 10) - (k + 1)) = l.length - k by omega, List.drop_append_of_le_length (by omega)]
def sb (b : Bool) : Int := if b = true then 1 else 0
theorem storm_one (b : Bool) : stormZ [b] = sb b := by cases b <;> rfl
theorem Dm.add {e : Int} {c g : List Bool} (h : Dm e c g) (b b' : Bool) (he : 0 ≤ e + sb b - sb b') : Dm (e + sb b - sb b') (addDay c b) (addDay g b') := by
  obtain ⟨h1, h2, h3⟩ := h
  refine ⟨by simp [addDay, h1], addDay_len _ _, fun k hk => ?_⟩
  cases k with
  | zero => simp [stormZ, sumL]; omega
  | succ k =>
    rw [last_add h2 hk, last_add (by omega) hk, stormApp, stormApp, storm_one, storm_one]
    have := h3 k (by omega)
    omega
theorem may_last {r : DRule} {l : List Bool} : mayP r l ↔ r.Ok ∧ stormZ (l.drop (l.length - (r.window.toNat - 1))) < r.most := by
  unfold mayP
  refine and_congr_right fun h => ?_
  rw [show l.length + 1 - r.window.toNat = l.length - (r.window.toNat - 1) by have := h.1; omega]
theorem Dm.may {r : DRule} {c g : List Bool} (h : Dm 0 c g) (hg : mayP r g) : mayP r c := by
  rw [may_last] at hg ⊢
  have := h.2.2 (r.window.toNat - 1) (by have := hg.1.1; omega)
  exact ⟨hg.1, by omega⟩
theorem Dm.cal {r : DRule} : ∀ (T : Nat) (e : Int) (c g : List Bool), 0 ≤ e → Dm e c g → cal r T c ≤ cal r T g + e := by
  intro T
  induction T with
  | zero => intro e c g he h; simp [Go.Abs.cal]; exact he
  | succ T ih =>
    intro e c g he h
    have key : 0 ≤ e + sb (decide (mayP r c)) - sb (decide (mayP r g)) := by
      by_cases h0 : e = 0
      · subst h0
        by_cases hg : mayP r g
        · rw [decide_eq_true hg, decide_eq_true (h.may hg)]; decide
        · rw [decide_eq_false hg]; unfold sb; split <;> simp
      · unfold sb; split <;> split <;> omega
    have := ih _ _ _ key (h.add (decide (mayP r c)) (decide (mayP r g)) key)
    rw [Go.Abs.cal, Go.Abs.cal]
    by_cases hc : mayP r c
    · by_cases hg : mayP r g
      · rw [if_pos hc, if_pos hg]
        rw [decide_eq_true hc, decide_eq_true hg] at this ⊢
        simp only [sb, if_true] at this; omega
      · rw [if_pos hc, if_neg hg]
        rw [decide_eq_true hc, decide_eq_false hg] at this ⊢
        simp [sb] at this; omega
    · by_cases hg : mayP r g
      · rw [if_neg hc, if_pos hg]
        rw [decide_eq_false hc, decide_eq_true hg] at this ⊢
        simp [sb] at this; omega
      · rw [if_neg hc, if_neg hg]
        rw [decide_eq_false hc, decide_eq_false hg] at this ⊢
        simp [sb] at this; omega
/-! ### Without depots -/
structure Like (p q : DParty) : Prop where
  at_ : q.at_ = p.at_
  crew : q.crew = p.crew
  food : q.food = p.food
  past : Dm 0 p.past q.past
theorem like_back {x : DLand} {base : Int} {r : DRule} {p q : DParty} (h : Like p q) (hb : backP x base r [] p) : backP x base r [] q := by
  obtain ⟨⟨⟨h1, h2, h3⟩, h4⟩, h5⟩ := hb
  have hf := h3.2.2.1
  have hq : PartyP x q := ⟨by rw [h.at_]; exact h3.1, by rw [h.crew]; exact h3.2.1, by rw [h.food]; exact hf, by rw [← h.past.1]; exact h3.2.2.2⟩
  refine ⟨⟨⟨h1, h2, hq⟩, by rw [h.at_]; exact h4⟩, ?_⟩
  unfold homeOf at h5 ⊢
  rw [pick_nil] at h5 ⊢
  rw [homeW_iff r _ _ _ (Nat.le_refl _) hf.1 h3.2.1] at h5
  rw [homeW_iff r _ _ _ (Nat.le_refl _) (by rw [h.food]; exact hf.1) hq.2.1, h.at_, h.crew, h.food]
  obtain ⟨T, h6, h7⟩ := h5
  have := Dm.cal (r := r) T 0 p.past q.past (Int.le_refl _) h.past
  exact ⟨T, by omega, h7⟩
theorem like_eat {p q : DParty} (h : Like p q) (he : eatP p) : eatP q := ⟨by rw [h.crew]; exact he.1, by rw [h.crew, h.food]; exact he.2⟩
theorem like_day {p q : DParty} (h : Like p q) (he : eatP p) {to : Int} {b b' : Bool} (hb : b = true → b' = true) : Like (dayZ p to b) (dayZ q to b') := by
  have e1 := eat_food he
  have e2 := eat_food (like_eat h he)
  have c1 := eat_crew p
  have c2 := eat_crew q
  refine ⟨rfl, ?_, ?_, ?_⟩
  · show (eatZ q).crew = (eatZ p).crew
    rw [c1.1, c2.1, h.crew]
  · show (eatZ q).food = (eatZ p).food
    rw [e1.1, e2.1, h.crew, h.food]
  · show Dm 0 (addDay p.past b) (addDay q.past b')
    have hs : sb b ≤ sb b' := by
      cases b <;> cases b' <;> simp [sb] at hb ⊢
    obtain ⟨h1, h2, h3⟩ := h.past
    refine ⟨by simp [addDay, h1], addDay_len _ _, fun k hk => ?_⟩
    cases k with
    | zero => simp [stormZ, sumL]
    | succ k =>
      rw [last_add h2 hk, last_add (by omega) hk, stormApp, stormApp, storm_one, storm_one]
      have := h3 k (by omega)
      omega
theorem like_safe {x : DLand} {base : Int} {r : DRule} {p q : DParty} (h : Like p q) {to : Int} {b : Bool} (hs : safeP x base r [] p to b) : safeP x base r [] q to b :=
  ⟨like_eat h hs.1, like_back (like_day h hs.1 fun h => h) hs.2⟩
theorem like_wait {x : DLand} {base : Int} {r : DRule} {p q : DParty} (h : Like p q) (hm : mayWaitP x base r [] p) : mayWaitP x base r [] q :=
  ⟨like_back h hm.1, by rw [h.at_]; exact like_safe h hm.2.1, fun hq => by rw [h.at_]; exact like_safe h (hm.2.2 (h.past.may hq))⟩
theorem waits_le {x : DLand} {base : Int} {r : DRule} : ∀ (n : Nat) (p q : DParty), Like p q → waitsF x base r [] false n p ≤ waitsF x base r [] true n q := by
  intro n
  induction n with
  | zero => intro p q h; exact Nat.le_refl _
  | succ n ih =>
    intro p q h
    rw [waitsF_calm, waitsF_worst]
    by_cases hp : waitStepP x base r [] p false
    · have hq : waitStepP x base r [] q (decide (mayP r q.past)) := ⟨like_wait h hp.1, fun h => of_decide_eq_true h⟩
      rw [if_pos hp, if_pos hq]
      have := ih (waitStepZ x base r [] p false) (waitStepZ x base r [] q (decide (mayP r q.past))) (by
        rw [waitStepZ, if_pos hp, waitStepZ, if_pos hq, h.at_]
        exact like_day h hp.1.2.1.1 fun h => by cases h)
      omega
    · rw [if_neg hp]; omega
theorem dm_self {l : List Bool} (h : l.length ≤ 10) : Dm 0 l l := ⟨rfl, h, fun k _ => by omega⟩
theorem turn_le {x : DLand} {base : Int} {r : DRule} {p : DParty} : calmN x base r [] p ≤ latestZ x base r [] p := by
  by_cases hm : mayWaitP x base r [] p
  · exact waits_le 100 p p ⟨rfl, rfl, rfl, dm_self hm.1.1.1.2.2.2.2.2⟩
  · have : calmN x base r [] p = 0 := by
      show waitsF x base r [] false (99 + 1) p = 0
      rw [waitsF_calm, if_neg fun h => hm h.1]
    omega
section
variable {x : DLand} {base : Int} {r : DRule} {l : List DDepot} {p : DParty}
theorem latest_100 : latestZ x base r l p ≤ 100 := waitsF_le 100 p
theorem latest_pos : 0 < latestZ x base r l p ↔ mayWaitP x base r l p := by
  show 0 < waitsF x base r l true (99 + 1) p ↔ _
  rw [waitsF_worst]
  by_cases h : mayWaitP x base r l p
  · have hw : waitStepP x base r l p (decide (mayP r p.past)) := ⟨h, fun h => of_decide_eq_true h⟩
    rw [if_pos hw]
    exact ⟨fun _ => h, fun _ => Nat.succ_pos _⟩
  · rw [if_neg fun k => h k.1]
    exact ⟨fun k => absurd k (by decide), fun k => absurd k h⟩
/-! ### Ways that are safe -/
theorem along_way : ∀ (w : List Int) (p : DParty), alongZ x base r l p w = w.length → x.Open p.at_ → ∀ (i : Nat) c, (p.at_ :: w)[i]? = some c → x.Open c ∧ (0 < i → ∀ e, (p.at_ :: w)[i - 1]? = some e → c ∈ nearZ x e) := by
  intro w
  induction w with
  | nil =>
    intro p h ho i c hi
    cases i with
    | zero => simp at hi; subst hi; exact ⟨ho, fun h => absurd h (by omega)⟩
    | succ i => simp at hi
  | cons d w ih =>
    intro p h ho i c hi
    rw [alongZ] at h
    by_cases hg : goStepP x base r l p d false
    · rw [if_pos hg, List.length_cons] at h
      have hnear : d ∈ nearZ x p.at_ := hg.1.1.1
      have hod : x.Open d := by rw [nearZ, if_pos ho.1] at hnear; exact DLand.near_open ho.1 hnear
      have hat : (goStepZ x base r l p d false).at_ = d := by rw [goStepZ, if_pos hg]; rfl
      have h2 := ih (goStepZ x base r l p d false) (by omega) (by rw [hat]; exact hod)
      rw [hat] at h2
      cases i with
      | zero => simp at hi; subst hi; exact ⟨ho, fun h => absurd h (by omega)⟩
      | succ i =>
        rw [List.getElem?_cons_succ] at hi
        have h3 := h2 i c hi
        refine ⟨h3.1, fun _ e he => ?_⟩
        cases i with
        | zero =>
          simp at hi he
          subst hi; subst he
          exact hnear
        | succ i =>
          rw [Nat.add_sub_cancel, List.getElem?_cons_succ] at he
          exact h3.2 (by omega) e (by rw [Nat.add_sub_cancel]; exact he)
    · rw [if_neg hg, List.length_cons] at h; omega
theorem safe_way {way : List Int} (h : safeWayP x base r l p way) : way ≠ [] ∧ (∀ (i : Nat) c, way[i]? = some c → x.Open c ∧ (0 < i → ∀ e, way[i - 1]? = some e → c ∈ nearZ x e)) ∧ way.getD 0 0 = p.at_ := by
  obtain ⟨h1, h2, h3, h4⟩ := h
  cases way with
  | nil => simp at h2
  | cons a w =>
    have e : a = p.at_ := h3
    subst e
    rw [List.drop_succ_cons, List.drop_zero, List.length_cons] at h4
    have hal : alongZ x base r l p w = w.length := by omega
    exact ⟨by simp, along_way w p hal h1.1.1.2.2.1, rfl⟩
theorem targets_asc : (targetsZ x base r l p).Pairwise (· < ·) := by
  unfold targetsZ
  split
  · unfold targetTo
    rw [List.pairwise_map]
    refine List.Pairwise.imp (R := (· < ·)) (fun h => by omega) ?_
    exact (List.pairwise_lt_range).filter _
  · exact List.Pairwise.nil
theorem target_mem {k : Int} (h : k ∈ targetsZ x base r l p) : backP x base r l p ∧ targetP x base r l p k := by
  unfold targetsZ at h
  split at h
  · rename_i hb
    unfold targetTo at h
    obtain ⟨c, hc, rfl⟩ := List.mem_map.1 h
    exact ⟨hb, of_decide_eq_true (List.mem_filter.1 hc).2⟩
  · cases h
theorem target_way {k : Int} (h : k ∈ targetsZ x base r l p) : safeWayP x base r l p (wayZ x p.at_ k) := by
  obtain ⟨hb, h1, h2⟩ := target_mem h
  have hop := days_open (x := x) (a := p.at_) (b := k) (by omega)
  have h0 : 0 ≤ dist (stepsZ x [p.at_]) k := by rw [daysZ, if_pos hop] at h1; exact h1
  have hrev := steps_rev hop.1 hop.2 h0
  have hw : wayZ x p.at_ k = wayF x (stepsZ x [k]) (dist (stepsZ x [k]) p.at_).toNat p.at_ := by rw [wayZ, if_neg (by omega)]
  have hl : ((wayZ x p.at_ k).length : Int) = daysZ x p.at_ k + 1 := by
    rw [hw, wayF_len, daysZ, if_pos hop]; omega
  refine ⟨hb, by omega, ?_, by omega⟩
  rw [hw]; exact wayF_head
theorem target_self : backP x base r l p ↔ p.at_ ∈ targetsZ x base r l p := by
  refine ⟨fun hb => ?_, fun h => (target_mem h).1⟩
  have ho := hb.1.1.2.2.1
  unfold targetsZ
  rw [if_pos hb]
  refine List.mem_map.2 ⟨p.at_.toNat, List.mem_filter.2 ⟨List.mem_range.2 (by have := ho.1.2; omega), decide_eq_true ?_⟩, by have := ho.1.2; omega⟩
  have e : ((p.at_.toNat : Nat) : Int) = p.at_ := by have := ho.1.2; omega
  rw [e]
  have hd : daysZ x p.at_ p.at_ = 0 := by rw [daysZ, if_pos ⟨ho, ho⟩, steps_0 ho]
  have hw : wayZ x p.at_ p.at_ = [p.at_] := by
    rw [wayZ, if_neg (by omega), steps_0 ho]; rfl
  refine ⟨by omega, ?_⟩
  rw [hd, hw]; simp [alongZ]
end
end Go.Abs
