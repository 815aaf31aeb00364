/- Words for computing: calls. -/
import Derived.Test.YtfkciaogihemiaaAEv
namespace Go.Abs
open Go.RowKit
set_option linter.unusedVariables false
set_option linter.unusedSimpArgs false

/-- Nothing is held under the sixteen names of a site. -/
def Gone (m : Mem) (B : Nat) : Prop := ∀ j, j < 16 → m (B + j) = .gone

theorem Gone_upd {m : Mem} {k B : Nat} {e : Ent} (h : (decide (k < B) || decide (B + 16 ≤ k)) = true) : Gone (upd m k e) B = Gone m B := by
  simp only [Bool.or_eq_true, decide_eq_true_eq] at h
  apply propext
  constructor
  · intro hg j hj
    have := hg j hj
    rwa [upd_ne _ _ (by omega)] at this
  · intro hg j hj
    rw [upd_ne _ _ (by omega)]
    exact hg j hj
theorem Gone_ofM {nx base B : Nat} {ext es : List Ent} (h : (decide (nx ≤ B) && decide (base + es.length ≤ B)) = true) : Gone (ofM nx base ext es) B = True := by
  simp only [Bool.and_eq_true, decide_eq_true_eq] at h
  apply propext
  refine ⟨fun _ => trivial, fun _ j hj => ?_⟩
  unfold ofM
  rw [if_neg (by omega), if_pos (by omega), List.getD_eq_getElem?_getD, List.getElem?_eq_none (by omega)]
  rfl

/-- What a call leaves under new names. -/
def updL (m : Mem) (B : Nat) : List Ent → Mem
  | [] => m
  | e :: es => updL (upd m B e) (B + 1) es
def iceL (m : Mem) : List Nat → Mem
  | [] => m
  | k :: ks => iceL (upd m k (iceOf (m k))) ks

theorem updL_at {fs : List Ent} : ∀ {m : Mem} {B k : Nat}, updL m B fs k = if B ≤ k ∧ k < B + fs.length then fs.getD (k - B) .gone else m k := by
  induction fs with
  | nil => intro m B k; simp only [updL]; rw [if_neg (by simp only [List.length_nil]; omega)]
  | cons e es ih =>
    intro m B k
    simp only [updL, ih, List.length_cons]
    by_cases h : k = B
    · subst h
      rw [if_neg (by omega), if_pos (by omega), upd_same]
      simp
    · rw [upd_ne _ _ h]
      by_cases h2 : B + 1 ≤ k ∧ k < B + 1 + es.length
      · rw [if_pos h2, if_pos (by omega)]
        obtain ⟨j, hj⟩ : ∃ j, k - B = j + 1 := ⟨k - B - 1, by omega⟩
        rw [hj, show k - (B + 1) = j by omega]
        simp
      · rw [if_neg h2, if_neg (by omega)]

theorem iceL_at {bor : List Nat} : ∀ {m : Mem} {k : Nat}, iceL m bor k = if k ∈ bor then iceOf (m k) else m k := by
  induction bor with
  | nil => intro m k; simp [iceL]
  | cons b bor ih =>
    intro m k
    simp only [iceL, ih, List.mem_cons]
    by_cases h : k = b
    · subst h
      rw [upd_same]
      simp only [true_or, if_true]
      split
      · cases m k <;> rfl
      · rfl
    · rw [upd_ne _ _ h]
      simp [h]

theorem backM_lend {m : Mem} {B : Nat} {fs : List Ent} : backM m [] [] false B [] fs = updL m B fs := by
  funext k
  rw [updL_at]
  simp [backM]

section
variable {P : Program} {nx : Nat} {f : FuncId} {avs args : List AV} {d : Option Nat} {K : St → Prop} {t : Nat → AV} {m : Mem} {res : AV}

/-- A call that is lent arrays, and gives back nothing that lies in them. -/
theorem callI (bor : List Nat) (h : SC P f args [] res []) (hsub : subT (avs.map (passV [] bor m)) args) (hg : Gone m (siteOf d)) (hnx : nx ≤ siteOf d) (hf : (freshes res).length ≤ 16)
    (hb : ∀ k ∈ bor, ∃ ver sz rows, m k = .arr ver sz rows) (him : bor = [] ∨ res.noIm = true) (hK : K ⟨putD t d (backV m [] (siteOf d) (instV 1000 res)), updL m (siteOf d) (freshes res)⟩) : callC P nx f avs d K ⟨t, m⟩ := by
  refine ⟨_, ⟨[], bor, false, args, res, [], ⟨by simp, by simp, by simp, fun k hk => ⟨hb k hk, by simp, by simp⟩, hg, hnx⟩, ⟨rfl, by simp, hf, ?_⟩, hsub, h, rfl⟩, ?_⟩
  · rcases him with h | h
    · exact .inr (.inl h)
    · exact .inr (.inr ⟨h, by simp⟩)
  · have : backM m [] bor false (siteOf d) [] (freshes res) = updL m (siteOf d) (freshes res) := by
      rw [← backM_lend]
      funext k
      simp [backM]
    rw [this]; exact hK

/-- .. in a drawn region that must stay quiet. -/
theorem callIQ (bor : List Nat) (h : SC P f args [] res []) (hsub : subT (avs.map (passV [] bor m)) args) (hg : Gone m (siteOf d)) (hnx : nx ≤ siteOf d) (hf : (freshes res).length ≤ 16)
    (hb : ∀ k ∈ bor, ∃ ver sz rows, m k = .arr ver sz rows) (him : bor = [] ∨ res.noIm = true) (hK : K ⟨putD t d (backV m [] (siteOf d) (instV 1000 res)), updL m (siteOf d) (freshes res)⟩) : callQ P nx f avs d K ⟨t, m⟩ := by
  refine ⟨_, ⟨[], bor, false, args, res, [], rfl, ⟨by simp, by simp, by simp, fun k hk => ⟨hb k hk, by simp, by simp⟩, hg, hnx⟩, ⟨rfl, by simp, hf, ?_⟩, hsub, h, rfl⟩, ?_⟩
  · rcases him with h | h
    · exact .inr (.inl h)
    · exact .inr (.inr ⟨h, by simp⟩)
  · have : backM m [] bor false (siteOf d) [] (freshes res) = updL m (siteOf d) (freshes res) := by
      rw [← backM_lend]
      funext k
      simp [backM]
    rw [this]; exact hK

/-- A call that is lent arrays, which nobody writes any more. -/
theorem callF (bor : List Nat) (h : SC P f args [] res []) (hsub : subT (avs.map (passV [] bor m)) args) (hg : Gone m (siteOf d)) (hnx : nx ≤ siteOf d) (hf : (freshes res).length ≤ 16)
    (hb : ∀ k ∈ bor, (∃ ver sz rows, m k = .arr ver sz rows) ∧ nx ≤ k) (hK : K ⟨putD t d (backV m [] (siteOf d) (instV 1000 res)), updL (iceL m bor) (siteOf d) (freshes res)⟩) : callC P nx f avs d K ⟨t, m⟩ := by
  have hbs : ∀ k ∈ bor, k < siteOf d ∨ siteOf d + 16 ≤ k := by
    intro k hk
    obtain ⟨⟨v, s, r, hm⟩, _⟩ := hb k hk
    refine Decidable.byContradiction fun hn => ?_
    have := hg (k - siteOf d) (by omega)
    rw [show siteOf d + (k - siteOf d) = k by omega, hm] at this
    cases this
  refine ⟨_, ⟨[], bor, true, args, res, [], ⟨by simp, by simp, by simp, fun k hk => ⟨(hb k hk).1, by simp, fun _ => (hb k hk).2⟩, hg, hnx⟩, ⟨rfl, by simp, hf, .inl rfl⟩, hsub, h, rfl⟩, ?_⟩
  have : backM m [] bor true (siteOf d) [] (freshes res) = updL (iceL m bor) (siteOf d) (freshes res) := by
    funext k
    rw [updL_at, iceL_at]
    simp only [backM, List.idxOf?_nil, true_and]
    by_cases hk : k ∈ bor
    · rw [if_pos hk, if_neg (by have := hbs k hk; omega), if_pos hk]
    · rw [if_neg hk, if_neg hk]
  rw [this]; exact hK

end
end Go.Abs
