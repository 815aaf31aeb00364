/- More that is drawn: lands, pasts, crews that may be wrong. -/
import Derived.Test.YtmiajpljlkdhcaaGreatDoorADraw
namespace Go.Abs
open Go.RowKit Go.Proofs
set_option linter.unusedVariables false
set_option linter.unusedSimpArgs false
set_option maxRecDepth 100000
set_option maxHeartbeats 4000000

/-! ### A land that may be wrong -/
def rawV (s : DCur) : Int := intV s [-1, 0, 8, 9, 64, 9223372036854775807, -9223372036854775808]
def rawC (s : DCur) : DCur := intC s [-1, 0, 8, 9, 64, 9223372036854775807, -9223372036854775808]
theorem rawC_ok {s : DCur} (h : s.Ok) : (rawC s).Ok := intC_ok h _
theorem spec_l4Raw (s : DCur) (h : s.Ok) : SC Tryz.prog 37 [.at (.bx 0 0 0)] [.box 0 s.ats] (.at (.v (.int .i64 (rawV s)))) [.box 0 (rawC s).ats] := by
  refine SC.of_M mixed Tryz.func37 (by kernel_rfl) rfl Tryz.results37 _ Tryz.ntmps37 (by simp) (by simp) ?_
  simp -implicitDefEqProofs only [go_sem, invOf]
  refine callXNB [0] [1064] (spec_l1Int s [-1, 0, 8, 9, 64, 9223372036854775807, -9223372036854775808] h (by simp) (by simp)) (by decide) (by simp -implicitDefEqProofs only [go_sem]) (by simp -implicitDefEqProofs only [go_sem]) ?_
  simp -implicitDefEqProofs only [go_sem, invOf]
  exact ⟨rfl, rfl⟩
def anyK (s : DCur) : Int := belowV (landF s).2 14
def anyS (s : DCur) : DCur := belowS (landF s).2 14
def anyF (s : DCur) : DLand × DCur :=
  if anyK s = 0 then ({ (landF s).1 with w := rawV (anyS s) }, rawC (anyS s))
  else if anyK s = 1 then ({ (landF s).1 with h := rawV (anyS s) }, rawC (anyS s))
  else if anyK s = 2 then ({ (landF s).1 with cells := (landF s).1.cells.set 0 (intV (anyS s) [-1, 2, 3]) }, intC (anyS s) [-1, 2, 3])
  else if anyK s = 3 then ({ (landF s).1 with cells := (landF s).1.cells.drop 1 }, anyS s)
  else ((landF s).1, anyS s)
theorem anyF_ok {s : DCur} (h : s.Ok) : (anyF s).1.cells.length ≤ 30 ∧ (anyF s).2.Ok := by
  have h1 := landF_ok h
  have h2 := h1.1.cnt
  have h3 : (anyS s).Ok := belowS_ok h1.2 14
  unfold anyF
  split
  · exact ⟨h2.2, rawC_ok h3⟩
  split
  · exact ⟨h2.2, rawC_ok h3⟩
  split
  · exact ⟨by simp; omega, intC_ok h3 [-1, 2, 3]⟩
  split
  · exact ⟨by simp; omega, h3⟩
  · exact ⟨h2.2, h3⟩
theorem anyF_0 {s : DCur} (h : anyK s = 0) : anyF s = ({ (landF s).1 with w := rawV (anyS s) }, rawC (anyS s)) := if_pos h
theorem anyF_1 {s : DCur} (h0 : ¬ anyK s = 0) (h : anyK s = 1) : anyF s = ({ (landF s).1 with h := rawV (anyS s) }, rawC (anyS s)) := by rw [anyF, if_neg h0, if_pos h]
theorem anyF_2 {s : DCur} (h0 : ¬ anyK s = 0) (h1 : ¬ anyK s = 1) (h : anyK s = 2) : anyF s = ({ (landF s).1 with cells := (landF s).1.cells.set 0 (intV (anyS s) [-1, 2, 3]) }, intC (anyS s) [-1, 2, 3]) := by rw [anyF, if_neg h0, if_neg h1, if_pos h]
theorem anyF_3 {s : DCur} (h0 : ¬ anyK s = 0) (h1 : ¬ anyK s = 1) (h2 : ¬ anyK s = 2) (h : anyK s = 3) : anyF s = ({ (landF s).1 with cells := (landF s).1.cells.drop 1 }, anyS s) := by rw [anyF, if_neg h0, if_neg h1, if_neg h2, if_pos h]
theorem anyF_4 {s : DCur} (h0 : ¬ anyK s = 0) (h1 : ¬ anyK s = 1) (h2 : ¬ anyK s = 2) (h : ¬ anyK s = 3) : anyF s = ((landF s).1, anyS s) := by rw [anyF, if_neg h0, if_neg h1, if_neg h2, if_neg h]
theorem spec_l4Any (s : DCur) (h : s.Ok) : SC Tryz.prog 35 [.at (.bx 0 0 0)] [.box 0 s.ats] (.ag (anyF s).1.frs) [.box 0 (anyF s).2.ats] := by
  have h1 := landF_ok h
  have hc := h1.1.cnt
  have h3 : (anyS s).Ok := belowS_ok h1.2 14
  refine SC.of_M mixed Tryz.func35 (by kernel_rfl) rfl Tryz.results35 _ Tryz.ntmps35 (by simp) (by simp) ?_
  simp -implicitDefEqProofs only [go_sem, invOf]
  refine callXNB [0] [] (spec_l4Draw s h) (by decide) (by simp -implicitDefEqProofs only [go_sem]) (by simp -implicitDefEqProofs only [go_sem]) ?_
  simp -implicitDefEqProofs only [go_sem, invOf]
  refine callXNB [0] [] (spec_l1Below (landF s).2 14 h1.2) (by decide) (by simp -implicitDefEqProofs only [go_sem]) (by simp -implicitDefEqProofs only [go_sem]) ?_
  simp -implicitDefEqProofs only [go_sem, invOf]
  rw [show belowS (landF s).2 14 = anyS s from rfl]
  refine ⟨fun k0 => ?_, fun k0 => ⟨fun k1 => ?_, fun k1 => ⟨fun k2 => ?_, fun k2 => ⟨fun k3 => ?_, fun k3 => ?_⟩⟩⟩⟩
  · rw [anyF_0 k0]
    refine callXNB [0] [] (spec_l4Raw (anyS s) h3) (by decide) (by simp -implicitDefEqProofs only [go_sem]) (by simp -implicitDefEqProofs only [go_sem]) ?_
    simp -implicitDefEqProofs only [go_sem, invOf]
  · rw [anyF_1 k0 k1]
    refine callXNB [0] [] (spec_l4Raw (anyS s) h3) (by decide) (by simp -implicitDefEqProofs only [go_sem]) (by simp -implicitDefEqProofs only [go_sem]) ?_
    simp -implicitDefEqProofs only [go_sem, invOf]
  · rw [anyF_2 k0 k1 k2]
    refine ⟨some [999999, 0], by decide +kernel, ?_⟩
    simp -implicitDefEqProofs only [go_sem]
    refine callXNQ [0] [1368] (by decide) (spec_l1Int (anyS s) [-1, 2, 3] h3 (by simp) (by simp)) (by decide) (by simp -implicitDefEqProofs only [go_sem]) (by simp -implicitDefEqProofs only [go_sem]) ?_
    simp -implicitDefEqProofs only [go_sem, invOf]
    refine ⟨by omega, by simp; omega, ?_⟩
    generalize (landF s).1.cells = L
    cases L <;> simp [intRow]
  · rw [anyF_3 k0 k1 k2 k3]
    exact ⟨by omega, ⟨rfl, rfl, by simp⟩, rfl, by simp only [show Int.toNat 1 = 1 from rfl]; rw [List.take_of_length_le (by simp), List.map_drop]⟩
  · rw [anyF_4 k0 k1 k2 k3]
    exact ⟨⟨rfl, rfl, rfl⟩, rfl, rfl⟩
/-! ### A past -/
noncomputable def pastF (r : DRule) : Nat → DCur → List Bool → List Bool × DCur
  | 0, s, l => (l, s)
  | n + 1, s, l => if mayP r l then pastF r n (belowS s 2) (l ++ [onceV s 2]) else pastF r n s (l ++ [false])
theorem pastF_ok {r : DRule} : ∀ (n : Nat) (s : DCur) (l : List Bool), s.Ok → (pastF r n s l).2.Ok ∧ (pastF r n s l).1.length = l.length + n := by
  intro n
  induction n with
  | zero => intro s l h; exact ⟨h, rfl⟩
  | succ n ih =>
    intro s l h
    rw [pastF]
    split
    · have := ih (belowS s 2) (l ++ [onceV s 2]) (belowS_ok h 2)
      exact ⟨this.1, by rw [this.2]; simp; omega⟩
    · have := ih s (l ++ [false]) h
      exact ⟨this.1, by rw [this.2]; simp; omega⟩
theorem boolS {l : List Bool} {v : Bool} : l.map boolRow ++ [[.bool v]] = (l ++ [v]).map boolRow := by simp [boolRow]
/-- A row is turned. -/
def updAt {β : Type} (l : List β) (i : Nat) (f : β → β) : List β :=
  match l[i]? with
  | some m => l.set i (f m)
  | none => l
theorem updAt_len {β : Type} {l : List β} {i : Nat} {f : β → β} : (updAt l i f).length = l.length := by
  unfold updAt; split <;> simp
theorem updAt_all {β : Type} {l : List β} {i : Nat} {f : β → β} {p : β → Prop} (h : ∀ m ∈ l, p m) (hf : ∀ m ∈ l, p (f m)) : ∀ m ∈ updAt l i f, p m := by
  unfold updAt
  split
  · rename_i m hm
    intro y hy
    rcases List.mem_or_eq_of_mem_set hy with hy | rfl
    · exact h y hy
    · exact hf m (mem_get hm)
  · exact h
theorem updAt_map {β : Type} {l : List β} {row : β → List Value} {f : β → β} {i : Nat} (g : List Value → List Value) (h : ∀ m, g (row m) = row (f m)) (hi : i < l.length) :
    (l.map row).set i (g ((l.map row).getD i [])) = (updAt l i f).map row := by
  have e : l[i]? = some l[i] := List.getElem?_eq_getElem hi
  rw [updAt, e, List.getD_eq_getElem?_getD, List.getElem?_map, e]
  simp only [Option.map_some, Option.getD_some]
  rw [h, List.map_set]
/-! ### A rule and a past that may be wrong -/
def s6n (s : DCur) : Nat := (belowV (ruleS s) 15).toNat
noncomputable def s6P (s : DCur) : List Bool × DCur := pastF (ruleV s) (s6n s) (belowS (ruleS s) 15) []
noncomputable def s6K (s : DCur) : Int := belowV (s6P s).2 10
noncomputable def s6S (s : DCur) : DCur := belowS (s6P s).2 10
noncomputable def any6 (s : DCur) : (DRule × List Bool) × DCur :=
  if s6K s = 0 then (({ ruleV s with most := intV (s6S s) [-1, 5, 9, 10] }, (s6P s).1), intC (s6S s) [-1, 5, 9, 10])
  else if s6K s = 1 then (({ ruleV s with window := intV (s6S s) [0, 10, 11] }, (s6P s).1), intC (s6S s) [0, 10, 11])
  else if s6K s = 2 then ((ruleV s, (s6P s).1 ++ [true]), s6S s)
  else ((ruleV s, (s6P s).1), s6S s)
theorem ruleS_ok {s : DCur} (h : s.Ok) : (ruleS s).Ok := belowS_ok (belowS_ok h _) _
theorem s6_ok {s : DCur} (h : s.Ok) : (s6S s).Ok ∧ (s6P s).1.length = s6n s ∧ (s6P s).2.Ok ∧ s6n s ≤ 14 ∧ ((s6n s : Nat) : Int) = belowV (ruleS s) 15 := by
  have h1 := pastF_ok (r := ruleV s) (s6n s) (belowS (ruleS s) 15) [] (belowS_ok (ruleS_ok h) _)
  have hb := belowV_bnd (ruleS s) 15
  have hb2 := hb.2.1 (by omega)
  exact ⟨belowS_ok h1.1 _, by rw [s6P, h1.2]; simp, h1.1, by unfold s6n; omega, by unfold s6n; omega⟩
theorem any6_ok {s : DCur} (h : s.Ok) : (any6 s).1.2.length ≤ 15 ∧ (any6 s).2.Ok := by
  have h1 := s6_ok h
  unfold any6
  split
  · exact ⟨by show (s6P s).1.length ≤ 15; omega, intC_ok h1.1 [-1, 5, 9, 10]⟩
  split
  · exact ⟨by show (s6P s).1.length ≤ 15; omega, intC_ok h1.1 [0, 10, 11]⟩
  split
  · exact ⟨by simp; omega, h1.1⟩
  · exact ⟨by show (s6P s).1.length ≤ 15; omega, h1.1⟩
theorem any6_0 {s : DCur} (h : s6K s = 0) : any6 s = (({ ruleV s with most := intV (s6S s) [-1, 5, 9, 10] }, (s6P s).1), intC (s6S s) [-1, 5, 9, 10]) := if_pos h
theorem any6_1 {s : DCur} (h0 : ¬ s6K s = 0) (h : s6K s = 1) : any6 s = (({ ruleV s with window := intV (s6S s) [0, 10, 11] }, (s6P s).1), intC (s6S s) [0, 10, 11]) := by rw [any6, if_neg h0, if_pos h]
theorem any6_2 {s : DCur} (h0 : ¬ s6K s = 0) (h1 : ¬ s6K s = 1) (h : s6K s = 2) : any6 s = ((ruleV s, (s6P s).1 ++ [true]), s6S s) := by rw [any6, if_neg h0, if_neg h1, if_pos h]
theorem any6_3 {s : DCur} (h0 : ¬ s6K s = 0) (h1 : ¬ s6K s = 1) (h : ¬ s6K s = 2) : any6 s = ((ruleV s, (s6P s).1), s6S s) := by rw [any6, if_neg h0, if_neg h1, if_neg h]
/-! ### A crew that may be wrong -/
def c7 (s : DCur) : List DMember × DCur := crew7F 5 s 1 []
def c7i (s : DCur) : Nat := (belowV (c7 s).2 (c7 s).1.length).toNat
def c7a (s : DCur) : DCur := belowS (c7 s).2 (c7 s).1.length
def c7K (s : DCur) : Int := belowV (c7a s) 12
def c7S (s : DCur) : DCur := belowS (c7a s) 12
def any7 (s : DCur) : List DMember × DCur :=
  if c7K s = 0 then (updAt (c7 s).1 (c7i s) (fun m => { m with id := intV (c7S s) [0, 2, 99, 100] }), intC (c7S s) [0, 2, 99, 100])
  else if c7K s = 1 then (updAt (c7 s).1 (c7i s) (fun m => { m with strength := intV (c7S s) [-1, 100, 101] }), intC (c7S s) [-1, 100, 101])
  else if c7K s = 2 then (updAt (c7 s).1 (c7i s) (fun m => { m with need := intV (c7S s) [0, 10, 11] }), intC (c7S s) [0, 10, 11])
  else if c7K s = 3 then ([], c7S s)
  else ((c7 s).1, c7S s)
theorem crew7_grow : ∀ (k : Nat) (s : DCur) (i : Int) (l : List DMember), l.length ≤ (crew7F k s i l).1.length ∧ (crew7F k s i l).1.length ≤ l.length + k := by
  intro k
  induction k with
  | zero => intro s i l; exact ⟨Nat.le_refl _, Nat.le_refl _⟩
  | succ k ih =>
    intro s i l
    rw [crew7F]
    split
    · have := ih (crew7S s) (i + 1) (l ++ [crew7 s i])
      simp only [List.length_append, List.length_cons, List.length_nil] at this
      omega
    · simp
theorem crew7_ok : ∀ (k : Nat) (s : DCur) (i : Int) (l : List DMember), s.Ok → (crew7F k s i l).2.Ok := by
  intro k
  induction k with
  | zero => intro s i l h; exact h
  | succ k ih =>
    intro s i l h
    rw [crew7F]
    split
    · exact ih _ _ _ (belowS_ok (belowS_ok (belowS_ok (belowS_ok h _) _) _) _)
    · exact belowS_ok h 4
theorem c7_ok {s : DCur} (h : s.Ok) : (1 ≤ (c7 s).1.length ∧ (c7 s).1.length ≤ 5) ∧ (c7 s).2.Ok ∧ (c7S s).Ok ∧ c7i s < (c7 s).1.length ∧ ((c7i s : Nat) : Int) = belowV (c7 s).2 (c7 s).1.length := by
  have h0 : (c7 s).2.Ok := crew7_ok 5 s 1 [] h
  have hl : 1 ≤ (c7 s).1.length ∧ (c7 s).1.length ≤ 5 := by
    have := crew7_grow 4 (crew7S s) (1 + 1) ([] ++ [crew7 s 1])
    have hb := belowV_bnd s 4
    unfold c7
    rw [crew7F, if_pos (by omega)]
    simp only [List.length_append, List.length_cons, List.length_nil] at this
    omega
  have hb := belowV_bnd (c7 s).2 (c7 s).1.length
  have hb2 := hb.2.1 (by omega)
  exact ⟨hl, h0, belowS_ok (belowS_ok h0 _) _, by unfold c7i; omega, by unfold c7i; omega⟩
theorem any7_0 {s : DCur} (h : c7K s = 0) : any7 s = (updAt (c7 s).1 (c7i s) (fun m => { m with id := intV (c7S s) [0, 2, 99, 100] }), intC (c7S s) [0, 2, 99, 100]) := if_pos h
theorem any7_1 {s : DCur} (h0 : ¬ c7K s = 0) (h : c7K s = 1) : any7 s = (updAt (c7 s).1 (c7i s) (fun m => { m with strength := intV (c7S s) [-1, 100, 101] }), intC (c7S s) [-1, 100, 101]) := by rw [any7, if_neg h0, if_pos h]
theorem any7_2 {s : DCur} (h0 : ¬ c7K s = 0) (h1 : ¬ c7K s = 1) (h : c7K s = 2) : any7 s = (updAt (c7 s).1 (c7i s) (fun m => { m with need := intV (c7S s) [0, 10, 11] }), intC (c7S s) [0, 10, 11]) := by rw [any7, if_neg h0, if_neg h1, if_pos h]
theorem any7_3 {s : DCur} (h0 : ¬ c7K s = 0) (h1 : ¬ c7K s = 1) (h2 : ¬ c7K s = 2) (h : c7K s = 3) : any7 s = ([], c7S s) := by rw [any7, if_neg h0, if_neg h1, if_neg h2, if_pos h]
theorem any7_4 {s : DCur} (h0 : ¬ c7K s = 0) (h1 : ¬ c7K s = 1) (h2 : ¬ c7K s = 2) (h : ¬ c7K s = 3) : any7 s = ((c7 s).1, c7S s) := by rw [any7, if_neg h0, if_neg h1, if_neg h2, if_neg h]
theorem any7_ok {s : DCur} (h : s.Ok) : (any7 s).1.length ≤ 5 ∧ (any7 s).2.Ok := by
  have h1 := c7_ok h
  unfold any7
  split
  · exact ⟨by simp only [updAt_len]; omega, intC_ok h1.2.2.1 [0, 2, 99, 100]⟩
  split
  · exact ⟨by simp only [updAt_len]; omega, intC_ok h1.2.2.1 [-1, 100, 101]⟩
  split
  · exact ⟨by simp only [updAt_len]; omega, intC_ok h1.2.2.1 [0, 10, 11]⟩
  split
  · exact ⟨by simp, h1.2.2.1⟩
  · exact ⟨h1.1.2, h1.2.2.1⟩
end Go.Abs
