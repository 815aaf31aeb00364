/- A region that leaves its order open comes to what its own order comes to. -/
import Derived.Test.YtcaokibfjjoimaaASwap
namespace Go.Abs
open Go.RowKit
set_option linter.unusedVariables false
set_option linter.unusedSimpArgs false

/-- Place j has gone before whenever place i may go. -/
def reach (ops : Array Oper) : Nat → Nat → Nat → Bool
  | 0, _, _ => false
  | n + 1, j, i =>
    match ops[i]? with
    | none => false
    | some o => o.after.any (fun e => Region.binds .any e && e.on == j) || o.after.any (fun e => Region.binds .any e && reach ops n j e.on)

def news (quiet : Bool) (o : Oper) : Bool := match clsOf quiet o with | .n => o.dst.isSome | _ => true

def pairOk (quiet : Bool) (ops : Array Oper) (oj oi : Oper) : Bool := oj.apart ops oi && (clsOf quiet oj).comm (clsOf quiet oi) && news quiet oj && news quiet oi

def anyOk (quiet : Bool) (fuel : Nat) (ops : Array Oper) : Bool :=
  (List.range ops.size).all fun i =>
    match ops[i]? with
    | none => true
    | some oi => oi.after.all (fun e => !Region.binds .any e || decide (e.on < i)) && (List.range i).all fun j =>
        reach ops fuel j i || match ops[j]? with | none => true | some oj => pairOk quiet ops oj oi

section
variable {P : Program} {nx nt : Nat} {quiet : Bool} {ops : Array Oper} {g : G} {F : Nat → Prop} {lam : Lam} {σ σ' : St} {a : Act} {w : World}

def Closed (ops : Array Oper) (listed : Array Bool) : Prop := ∀ k o, ops[k]? = some o → listed.getD k false = true → ∀ e ∈ o.after, Region.binds .any e = true → listed.getD e.on false = true

theorem reach_listed {listed : Array Bool} (hc : Closed ops listed) : ∀ (n j i : Nat) (o : Oper), ops[i]? = some o → (∀ e ∈ o.after, Region.binds .any e = true → listed.getD e.on false = true) → reach ops n j i = true → listed.getD j false = true := by
  intro n
  induction n with
  | zero => intro j i o _ _ h; cases h
  | succ n ih =>
    intro j i o ho hl h
    simp only [reach, ho, Bool.or_eq_true, Array.any_eq_true', Bool.and_eq_true, beq_iff_eq] at h
    rcases h with ⟨e, he, hb, rfl⟩ | ⟨e, he, hb, hr⟩
    · exact hl e he hb
    · have h1 := hl e he hb
      cases hoe : ops[e.on]? with
      | none =>
        cases n with
        | zero => cases hr
        | succ n => simp [reach, hoe] at hr
      | some o' => exact ih j e.on o' hoe (hc e.on o' hoe h1) hr

theorem news_spec {o : Oper} (h : news quiet o = true) : clsOf quiet o = .n → o.dst.isSome = true := by
  intro hn; simpa [news, hn] using h

theorem front {i : Nat} {oi : Oper} (hoi : ops[i]? = some oi) {A B : List Nat} (hA : Alive P nx nt σ) (hp : ∀ j ∈ A, ∀ oj, ops[j]? = some oj → pairOk quiet ops oj oi = true) (hr : Run P nx nt quiet ops (A ++ i :: B) σ σ') :
    ∃ σ1, Stp P nx nt quiet ops oi σ σ1 ∧ Run P nx nt quiet ops (A ++ B) σ1 σ' := by
  induction A generalizing σ with
  | nil =>
    cases hr with
    | cons ho h hr =>
      rw [hoi] at ho; cases ho
      exact ⟨_, h, hr⟩
  | cons j A ih =>
    cases hr with
    | cons ho h hr =>
      rename_i oj σa
      obtain ⟨σb, h1, h2⟩ := ih (hA.stp h) (fun k hk => hp k (List.mem_cons_of_mem _ hk)) hr
      have hq := hp j (List.mem_cons_self ..) _ ho
      simp only [pairOk, Bool.and_eq_true] at hq
      obtain ⟨σc, h3, h4⟩ := swap hA hq.1.1.1 hq.1.1.2 (news_spec hq.1.2) (news_spec hq.2) h h1
      exact ⟨σc, h3, .cons ho h4 h2⟩

structure Rest (n : Nat) (listed : Array Bool) (L : List Nat) : Prop where
  size : listed.size = n
  mem : ∀ i, i ∈ L ↔ i < n ∧ listed.getD i true = false
  sort : L.Pairwise (· < ·)

theorem anyOk_spec {fuel : Nat} (h : anyOk quiet fuel ops = true) {i : Nat} {oi : Oper} (hi : ops[i]? = some oi) : (∀ e ∈ oi.after, Region.binds .any e = true → e.on < i) ∧
    ∀ j, j < i → reach ops fuel j i = true ∨ ∀ oj, ops[j]? = some oj → pairOk quiet ops oj oi = true := by
  have hlt := (Array.getElem?_eq_some_iff.1 hi).1
  simp only [anyOk, List.all_eq_true, List.mem_range] at h
  have h1 := h i hlt
  rw [hi] at h1
  simp only [Bool.and_eq_true, Array.all_eq_true_iff_forall_mem, List.all_eq_true, List.mem_range, Bool.or_eq_true, Bool.not_eq_true', decide_eq_true_eq] at h1
  refine ⟨fun e he hb => (h1.1 e he).resolve_left (by simp [hb]), fun j hj => ?_⟩
  rcases h1.2 j hj with h2 | h2
  · exact .inl h2
  · refine .inr fun oj hoj => ?_
    rw [hoj] at h2
    exact h2

theorem any_sound {fuel0 : Nat} (hok : anyOk quiet fuel0 ops = true) {Q : Exit → Act → World → Prop} (hn : ∀ F' lam' a' w', Inv g F' lam' σ' a' w' → Q .normal a' w') :
    ∀ (fuel : Nat) (listed : Array Bool) (L : List Nat) (F : Nat → Prop) (lam : Lam) (σ : St) (a : Act) (w : World), Rest ops.size listed L → Closed ops listed → Run g.P g.nx g.nt quiet ops L σ σ' → Inv g F lam σ a w → L.length ≤ fuel →
      wpAny g.P .any ops Q fuel listed a w := by
  have mem : ∀ {listed : Array Bool} {L : List Nat}, Rest ops.size listed L → ∀ {i}, i ∈ Region.ready .any ops listed → i ∈ L := by
    intro listed L hR i hi
    obtain ⟨h1, o, h2, _⟩ := mem_ready.1 hi
    exact (hR.mem i).2 ⟨(Array.getElem?_eq_some_iff.1 h2).1, h1⟩
  intro fuel
  induction fuel with
  | zero =>
    intro listed L F lam σ a w hR hC hr hI hl
    have : L = [] := List.eq_nil_of_length_eq_zero (Nat.le_zero.1 hl)
    subst this
    cases hr
    refine ⟨?_, hn _ _ _ _ hI⟩
    cases hrd : Region.ready .any ops listed with
    | nil => rfl
    | cons x xs => exact absurd (mem hR (i := x) (by rw [hrd]; simp)) (by simp)
  | succ fuel ih =>
    intro listed L F lam σ a w hR hC hr hI hl
    refine ⟨fun h0 => ?_, fun i hi => ?_⟩
    · cases L with
      | nil => cases hr; exact hn _ _ _ _ hI
      | cons i L =>
        exfalso
        obtain ⟨hilt, hiun⟩ := (hR.mem i).1 (by simp)
        have hoi : ops[i]? = some ops[i] := Array.getElem?_eq_getElem hilt
        have : i ∈ Region.ready .any ops listed := by
          refine mem_ready.2 ⟨hiun, _, hoi, fun e he hb => ?_⟩
          have hlt := (anyOk_spec hok hoi).1 e he hb
          have hnm : e.on ∉ i :: L := by
            intro hm
            rcases List.mem_cons.1 hm with hm | hm
            · omega
            · have := (List.pairwise_cons.1 hR.sort).1 _ hm; omega
          have h2 : listed.getD e.on true = true := by
            cases hh : listed.getD e.on true with
            | true => rfl
            | false => exact absurd ((hR.mem e.on).2 ⟨by omega, hh⟩) hnm
          have hsz : e.on < listed.size := by rw [hR.size]; omega
          simpa [Array.getD_eq_getD_getElem?, hsz] using h2
        rw [h0] at this; cases this
    · have hiL := mem hR hi
      obtain ⟨A, B, rfl⟩ := List.append_of_mem hiL
      obtain ⟨hun, oi, hoi, hall⟩ := mem_ready.1 hi
      have hsp := anyOk_spec hok hoi
      have hlt := (Array.getElem?_eq_some_iff.1 hoi).1
      obtain ⟨σ1, h1, h2⟩ := front hoi ⟨g, F, lam, a, w, rfl, rfl, rfl, hI⟩ (fun j hj oj hoj => by
        have hjL : j ∈ A ++ i :: B := List.mem_append_left _ hj
        have hji : j < i := (List.pairwise_append.1 hR.sort).2.2 j hj i (by simp)
        rcases hsp.2 j hji with h | h
        · have := reach_listed hC _ _ _ _ hoi hall h
          obtain ⟨hj1, hj2⟩ := (hR.mem j).1 hjL
          have hsz : j < listed.size := by rw [hR.size]; exact hj1
          simp [Array.getD_eq_getD_getElem?, hsz] at this hj2
          rw [this] at hj2; cases hj2
        · exact h oj hoj) hr
      have hsz : i < listed.size := by rw [hR.size]; exact hlt
      have hR' : Rest ops.size (listed.setIfInBounds i true) (A ++ B) := by
        refine ⟨by simpa using hR.size, fun k => ?_, ?_⟩
        · have hk := hR.mem k
          by_cases hki : k = i
          · subst hki
            have hnd : k ∉ A ++ B := by
              have := hR.sort.imp (fun {a b} (h : a < b) => Nat.ne_of_lt h)
              have hnd : (A ++ k :: B).Nodup := this
              simp only [List.nodup_append, List.nodup_cons] at hnd
              simp only [List.mem_append, not_or]
              exact ⟨fun h => hnd.2.2 k h k (by simp) rfl, hnd.2.1.1⟩
            simp [hsz]
            simpa using hnd
          · rw [getD_set_ne true (Ne.symm hki), ← hk]
            simp [hki]
        · have h := hR.sort
          simp only [List.pairwise_append, List.pairwise_cons] at h ⊢
          exact ⟨h.1, h.2.1.2, fun x hx y hy => h.2.2 x hx y (by simp [hy])⟩
      have hC' : Closed ops (listed.setIfInBounds i true) := by
        intro k o ho hk e he hb
        by_cases hki : k = i
        · subst hki
          rw [hoi] at ho; cases ho
          exact getD_set_true (hall e he hb)
        · rw [getD_set_ne false (Ne.symm hki)] at hk
          exact getD_set_true (hC k o ho hk e he hb)
      unfold wpOp
      rw [hoi]
      exact stp_sound hI rfl h1 fun F' lam' a' w' hI' => ih _ _ F' lam' _ a' w' hR' hC' h2 hI' (by simp at hl ⊢; omega)

theorem Inv.drawn (h : Inv g F lam σ a w) (n : Nat) : Inv g F lam σ a { w with drawn := n } where
  f1 := h.f1
  f2 := h.f2
  f3 := h.f3
  mem := ⟨h.mem.ent, h.mem.inj⟩
  l0 := h.l0
  sl := h.sl
  nt := h.nt
  chg := ⟨h.chg.os, h.chg.tape, h.chg.output, h.chg.size, h.chg.block, h.chg.bs⟩
  df := h.df

theorem rest0 (n : Nat) : Rest n (Array.replicate n false) (List.range n) where
  size := by simp
  mem i := by
    simp only [List.mem_range, Array.getD_eq_getD_getElem?]
    constructor
    · intro h; refine ⟨h, ?_⟩; simp [h]
    · exact fun h => h.1
  sort := List.pairwise_lt_range

/-- A region, drawn. -/
theorem region_drawn {id fuel0 : Nat} (hm : g.P.follows .mixedOrders = true) (hok : anyOk quiet fuel0 ops = true) (hr : Run g.P g.nx g.nt quiet ops (List.range ops.size) σ σ') (hI : Inv g F lam σ a w) {Q : Exit → Act → World → Prop}
    (hn : ∀ F' lam' a' w', Inv g F' lam' σ' a' w' → Q .normal a' w') : (Code.region id ops true).wp g.P Q a w :=
  wp_region_any hm (any_sound hok hn _ _ _ _ _ _ _ _ (rest0 _) (fun k o _ h => by
    exfalso
    simp only [Array.getD_eq_getD_getElem?] at h
    by_cases hk : k < ops.size
    · simp [hk] at h
    · simp [hk] at h) hr (hI.drawn _) (by simp))

/-- A region in its own order. -/
theorem region_plain {id : Nat} (hr : Run g.P g.nx g.nt quiet ops (List.range ops.size) σ σ') (hI : Inv g F lam σ a w) {Q : Exit → Act → World → Prop}
    (hn : ∀ F' lam' a' w', Inv g F' lam' σ' a' w' → Q .normal a' w') : (Code.region id ops false).wp g.P Q a w :=
  wp_region (run_sound hr hI hn)

end
end Go.Abs
