/- The law FnTop: its walk. -/
import Derived.Test.YtfdkpmbpnppllaaGreatADraw
import Derived.Test.YtfdkpmbpnppllaaGreatAWrite
import Derived.Test.YtfdkpmbpnppllaaGreatACur
import Derived.Test.YtfdkpmbpnppllaaGreatAEvtR
import Derived.Test.YtfdkpmbpnppllaaGreatATopY
import Derived.Test.YtfdkpmbpnppllaaGreatATopC
import Derived.Test.YtfdkpmbpnppllaaGreatAEvtZ
import Derived.Test.YtfdkpmbpnppllaaGreatAJournal
import Derived.Test.YtfdkpmbpnppllaaGreatAWay
namespace Go.Abs
open Go.RowKit Go.Proofs
set_option linter.unusedVariables false
set_option linter.unusedSimpArgs false
set_option maxRecDepth 100000
set_option maxHeartbeats 4000000

/-! ### A land that may be wrong -/
def rawV (s : DCur) : Int := intV s [-1, 0, 8, 9, 64, 9223372036854775807, -9223372036854775808]
def rawC (s : DCur) : DCur := intC s [-1, 0, 8, 9, 64, 9223372036854775807, -9223372036854775808]
theorem rawC_ok {s : DCur} (h : s.Ok) : (rawC s).Ok := intC_ok h _
theorem spec_l4Raw (s : DCur) (h : s.Ok) : SC Tryz.prog 156 [.at (.bx 0 0 0)] [.box 0 s.ats] (.at (.v (.int .i64 (rawV s)))) [.box 0 (rawC s).ats] := by
  refine SC.of_M mixed Tryz.func156 (by kernel_rfl) rfl Tryz.results156 _ Tryz.ntmps156 (by simp) (by simp) ?_
  simp -implicitDefEqProofs only [go_sem, invOf]
  refine callXNB [0] [1064] (spec_l1Int s [-1, 0, 8, 9, 64, 9223372036854775807, -9223372036854775808] h (by simp) (by simp)) (by decide) (by simp -implicitDefEqProofs only [go_sem]) (by simp -implicitDefEqProofs only [go_sem]) ?_
  simp -implicitDefEqProofs only [go_sem, invOf]
  exact ⟨rfl, rfl⟩
def anyK (s : DCur) : Int := belowV (landF s).2 14
def anyS (s : DCur) : DCur := belowS (landF s).2 14
def anyF (s : DCur) : DLand × DCur :=
  if anyK s = 0 then ({ (landF s).1 with w := rawV (anyS s) }, rawC (anyS s))
  else if anyK s = 1 then ({ (landF s).1 with h := rawV (anyS s) }, rawC (anyS s))
  else if anyK s = 2 then ({ (landF s).1 with cells := (landF s).1.cells.set 0 (intV (anyS s) [-1, 2, 3]) }, intC (anyS s) [-1, 2, 3])
  else if anyK s = 3 then ({ (landF s).1 with cells := (landF s).1.cells.drop 1 }, anyS s)
  else ((landF s).1, anyS s)
theorem anyF_ok {s : DCur} (h : s.Ok) : (anyF s).1.cells.length ≤ 30 ∧ (anyF s).2.Ok := by
  have h1 := landF_ok h
  have h2 := h1.1.cnt
  have h3 : (anyS s).Ok := belowS_ok h1.2 14
  unfold anyF
  split
  · exact ⟨h2.2, rawC_ok h3⟩
  split
  · exact ⟨h2.2, rawC_ok h3⟩
  split
  · exact ⟨by simp; omega, intC_ok h3 [-1, 2, 3]⟩
  split
  · exact ⟨by simp; omega, h3⟩
  · exact ⟨h2.2, h3⟩
theorem anyF_0 {s : DCur} (h : anyK s = 0) : anyF s = ({ (landF s).1 with w := rawV (anyS s) }, rawC (anyS s)) := if_pos h
theorem anyF_1 {s : DCur} (h0 : ¬ anyK s = 0) (h : anyK s = 1) : anyF s = ({ (landF s).1 with h := rawV (anyS s) }, rawC (anyS s)) := by rw [anyF, if_neg h0, if_pos h]
theorem anyF_2 {s : DCur} (h0 : ¬ anyK s = 0) (h1 : ¬ anyK s = 1) (h : anyK s = 2) : anyF s = ({ (landF s).1 with cells := (landF s).1.cells.set 0 (intV (anyS s) [-1, 2, 3]) }, intC (anyS s) [-1, 2, 3]) := by rw [anyF, if_neg h0, if_neg h1, if_pos h]
theorem anyF_3 {s : DCur} (h0 : ¬ anyK s = 0) (h1 : ¬ anyK s = 1) (h2 : ¬ anyK s = 2) (h : anyK s = 3) : anyF s = ({ (landF s).1 with cells := (landF s).1.cells.drop 1 }, anyS s) := by rw [anyF, if_neg h0, if_neg h1, if_neg h2, if_pos h]
theorem anyF_4 {s : DCur} (h0 : ¬ anyK s = 0) (h1 : ¬ anyK s = 1) (h2 : ¬ anyK s = 2) (h : ¬ anyK s = 3) : anyF s = ((landF s).1, anyS s) := by rw [anyF, if_neg h0, if_neg h1, if_neg h2, if_neg h]
theorem spec_l4Any (s : DCur) (h : s.Ok) : SC Tryz.prog 103 [.at (.bx 0 0 0)] [.box 0 s.ats] (.ag (anyF s).1.frs) [.box 0 (anyF s).2.ats] := by
  have h1 := landF_ok h
  have hc := h1.1.cnt
  have h3 : (anyS s).Ok := belowS_ok h1.2 14
  refine SC.of_M mixed Tryz.func103 (by kernel_rfl) rfl Tryz.results103 _ Tryz.ntmps103 (by simp) (by simp) ?_
  simp -implicitDefEqProofs only [go_sem, invOf]
  refine callXNB [0] [] (spec_l4Draw s h) (by decide) (by simp -implicitDefEqProofs only [go_sem]) (by simp -implicitDefEqProofs only [go_sem]) ?_
  simp -implicitDefEqProofs only [go_sem, invOf]
  refine callXNB [0] [] (spec_l1Below (landF s).2 14 h1.2) (by decide) (by simp -implicitDefEqProofs only [go_sem]) (by simp -implicitDefEqProofs only [go_sem]) ?_
  simp -implicitDefEqProofs only [go_sem, invOf]
  rw [show belowS (landF s).2 14 = anyS s from rfl]
  refine ⟨fun k0 => ?_, fun k0 => ⟨fun k1 => ?_, fun k1 => ⟨fun k2 => ?_, fun k2 => ⟨fun k3 => ?_, fun k3 => ?_⟩⟩⟩⟩
  · rw [anyF_0 k0]
    refine callXNB [0] [] (spec_l4Raw (anyS s) h3) (by decide) (by simp -implicitDefEqProofs only [go_sem]) (by simp -implicitDefEqProofs only [go_sem]) ?_
    simp -implicitDefEqProofs only [go_sem, invOf]
  · rw [anyF_1 k0 k1]
    refine callXNB [0] [] (spec_l4Raw (anyS s) h3) (by decide) (by simp -implicitDefEqProofs only [go_sem]) (by simp -implicitDefEqProofs only [go_sem]) ?_
    simp -implicitDefEqProofs only [go_sem, invOf]
  · rw [anyF_2 k0 k1 k2]
    refine ⟨some [999999, 0], by decide +kernel, ?_⟩
    simp -implicitDefEqProofs only [go_sem]
    refine callXNQ [0] [1368] (by decide) (spec_l1Int (anyS s) [-1, 2, 3] h3 (by simp) (by simp)) (by decide) (by simp -implicitDefEqProofs only [go_sem]) (by simp -implicitDefEqProofs only [go_sem]) ?_
    simp -implicitDefEqProofs only [go_sem, invOf]
    refine ⟨by omega, by simp; omega, ?_⟩
    generalize (landF s).1.cells = L
    cases L <;> simp [intRow]
  · rw [anyF_3 k0 k1 k2 k3]
    exact ⟨by omega, ⟨rfl, rfl, by simp⟩, rfl, by simp only [show Int.toNat 1 = 1 from rfl]; rw [List.take_of_length_le (by simp), List.map_drop]⟩
  · rw [anyF_4 k0 k1 k2 k3]
    exact ⟨⟨rfl, rfl, rfl⟩, rfl, rfl⟩
/-! ### A past -/
noncomputable def pastF (r : DRule) : Nat → DCur → List Bool → List Bool × DCur
  | 0, s, l => (l, s)
  | n + 1, s, l => if mayP r l then pastF r n (belowS s 2) (l ++ [onceV s 2]) else pastF r n s (l ++ [false])
theorem pastF_ok {r : DRule} : ∀ (n : Nat) (s : DCur) (l : List Bool), s.Ok → (pastF r n s l).2.Ok ∧ (pastF r n s l).1.length = l.length + n := by
  intro n
  induction n with
  | zero => intro s l h; exact ⟨h, rfl⟩
  | succ n ih =>
    intro s l h
    rw [pastF]
    split
    · have := ih (belowS s 2) (l ++ [onceV s 2]) (belowS_ok h 2)
      exact ⟨this.1, by rw [this.2]; simp; omega⟩
    · have := ih s (l ++ [false]) h
      exact ⟨this.1, by rw [this.2]; simp; omega⟩
theorem boolS {l : List Bool} {v : Bool} : l.map boolRow ++ [[.bool v]] = (l ++ [v]).map boolRow := by simp [boolRow]
theorem spec_l6Past (s : DCur) (r : DRule) (n : Nat) (h : s.Ok) (hn : n ≤ 100) : SC Tryz.prog 205 [.at (.bx 0 0 0), .ag r.ats, .at (.v (.int .i64 (n : Nat)))] [.box 0 s.ats] (.at (.fr 1 ((pastF r n s []).1.map boolRow))) [.box 0 (pastF r n s []).2.ats] := by
  refine SC.of_M mixed Tryz.func205 (by kernel_rfl) rfl Tryz.results205 _ Tryz.ntmps205 (by simp) (by simp) ?_
  simp -implicitDefEqProofs only [go_sem, invOf]
  generalize hA : pastF r n s [] = A
  refine T.loopN mixed (show 1 ≤ 100 by decide) [0, 2, 4, 7, 8] (fun mm vs ex es => ∃ (y : DCur) (l : List Bool) (i : Nat), vs = [.at (.bx 0 0 0), .at (.v (.int .i64 (n : Nat))), .at (.bx 100 0 0), .at (.ow 101 0 1 l.length), .at (.v (.int .i64 (i : Nat)))] ∧ ex = [.box 0 y.ats] ∧ es = [.box 0 r.ats, .arr 0 1 (l.map boolRow)] ∧ mm + i = n ∧ y.Ok ∧ pastF r mm y l = A ∧ l.length = i) n ?_ ?_
  · simp -implicitDefEqProofs only [go_sem, invOf]
    exact ⟨s, [], 0, ⟨rfl, rfl⟩, rfl, rfl, rfl, h, hA, rfl⟩
  rintro q _ _ _ ⟨y, l, i, rfl, rfl, rfl, hq, hy, hA2, hl⟩ -
  simp -implicitDefEqProofs only [go_sem, invOf]
  refine ⟨fun hi => ?_, fun hi => ?_⟩
  · obtain ⟨k, rfl⟩ : ∃ k, q = k + 1 := ⟨q - 1, by omega⟩
    refine callX [101] (spec_MayStorm r l (by omega)) (by simp -implicitDefEqProofs only [go_sem]) ?_
    simp -implicitDefEqProofs only [go_sem]
    refine ⟨fun hm => ?_, fun hm => ?_⟩
    · rw [pastF, if_pos hm] at hA2
      refine callXNB [0] [] (spec_l1Once y 2 hy) (by decide) (by simp -implicitDefEqProofs only [go_sem]) (by simp -implicitDefEqProofs only [go_sem]) ?_
      simp -implicitDefEqProofs only [go_sem, invOf]
      exact ⟨room_s (by omega) (by decide), k, by omega, _, l ++ [onceV y 2], i + 1, ⟨by simp, by rw [wrap64 (by omega) (by omega)]; rfl⟩, rfl, boolS, by omega, belowS_ok hy 2, hA2, by simp; omega⟩
    · rw [pastF, if_neg hm] at hA2
      simp -implicitDefEqProofs only [go_sem, invOf]
      exact ⟨room_s (by omega) (by decide), k, by omega, y, l ++ [false], i + 1, ⟨by simp, by rw [wrap64 (by omega) (by omega)]; rfl⟩, rfl, boolS, by omega, hy, hA2, by simp; omega⟩
  · obtain rfl : q = 0 := by omega
    rw [pastF] at hA2
    subst hA2
    exact ⟨rfl, rfl, rfl⟩
/-- A row is turned. -/
def updAt {β : Type} (l : List β) (i : Nat) (f : β → β) : List β :=
  match l[i]? with
  | some m => l.set i (f m)
  | none => l
theorem updAt_len {β : Type} {l : List β} {i : Nat} {f : β → β} : (updAt l i f).length = l.length := by
  unfold updAt; split <;> simp
theorem updAt_all {β : Type} {l : List β} {i : Nat} {f : β → β} {p : β → Prop} (h : ∀ m ∈ l, p m) (hf : ∀ m ∈ l, p (f m)) : ∀ m ∈ updAt l i f, p m := by
  unfold updAt
  split
  · rename_i m hm
    intro y hy
    rcases List.mem_or_eq_of_mem_set hy with hy | rfl
    · exact h y hy
    · exact hf m (mem_get hm)
  · exact h
theorem updAt_map {β : Type} {l : List β} {row : β → List Value} {f : β → β} {i : Nat} (g : List Value → List Value) (h : ∀ m, g (row m) = row (f m)) (hi : i < l.length) :
    (l.map row).set i (g ((l.map row).getD i [])) = (updAt l i f).map row := by
  have e : l[i]? = some l[i] := List.getElem?_eq_getElem hi
  rw [updAt, e, List.getD_eq_getElem?_getD, List.getElem?_map, e]
  simp only [Option.map_some, Option.getD_some]
  rw [h, List.map_set]
/-! ### A rule and a past that may be wrong -/
def s6n (s : DCur) : Nat := (belowV (ruleS s) 15).toNat
noncomputable def s6P (s : DCur) : List Bool × DCur := pastF (ruleV s) (s6n s) (belowS (ruleS s) 15) []
noncomputable def s6K (s : DCur) : Int := belowV (s6P s).2 10
noncomputable def s6S (s : DCur) : DCur := belowS (s6P s).2 10
noncomputable def any6 (s : DCur) : (DRule × List Bool) × DCur :=
  if s6K s = 0 then (({ ruleV s with most := intV (s6S s) [-1, 5, 9, 10] }, (s6P s).1), intC (s6S s) [-1, 5, 9, 10])
  else if s6K s = 1 then (({ ruleV s with window := intV (s6S s) [0, 10, 11] }, (s6P s).1), intC (s6S s) [0, 10, 11])
  else if s6K s = 2 then ((ruleV s, (s6P s).1 ++ [true]), s6S s)
  else ((ruleV s, (s6P s).1), s6S s)
theorem ruleS_ok {s : DCur} (h : s.Ok) : (ruleS s).Ok := belowS_ok (belowS_ok h _) _
theorem s6_ok {s : DCur} (h : s.Ok) : (s6S s).Ok ∧ (s6P s).1.length = s6n s ∧ (s6P s).2.Ok ∧ s6n s ≤ 14 ∧ ((s6n s : Nat) : Int) = belowV (ruleS s) 15 := by
  have h1 := pastF_ok (r := ruleV s) (s6n s) (belowS (ruleS s) 15) [] (belowS_ok (ruleS_ok h) _)
  have hb := belowV_bnd (ruleS s) 15
  have hb2 := hb.2.1 (by omega)
  exact ⟨belowS_ok h1.1 _, by rw [s6P, h1.2]; simp, h1.1, by unfold s6n; omega, by unfold s6n; omega⟩
theorem any6_ok {s : DCur} (h : s.Ok) : (any6 s).1.2.length ≤ 15 ∧ (any6 s).2.Ok := by
  have h1 := s6_ok h
  unfold any6
  split
  · exact ⟨by show (s6P s).1.length ≤ 15; omega, intC_ok h1.1 [-1, 5, 9, 10]⟩
  split
  · exact ⟨by show (s6P s).1.length ≤ 15; omega, intC_ok h1.1 [0, 10, 11]⟩
  split
  · exact ⟨by simp; omega, h1.1⟩
  · exact ⟨by show (s6P s).1.length ≤ 15; omega, h1.1⟩
theorem any6_0 {s : DCur} (h : s6K s = 0) : any6 s = (({ ruleV s with most := intV (s6S s) [-1, 5, 9, 10] }, (s6P s).1), intC (s6S s) [-1, 5, 9, 10]) := if_pos h
theorem any6_1 {s : DCur} (h0 : ¬ s6K s = 0) (h : s6K s = 1) : any6 s = (({ ruleV s with window := intV (s6S s) [0, 10, 11] }, (s6P s).1), intC (s6S s) [0, 10, 11]) := by rw [any6, if_neg h0, if_pos h]
theorem any6_2 {s : DCur} (h0 : ¬ s6K s = 0) (h1 : ¬ s6K s = 1) (h : s6K s = 2) : any6 s = ((ruleV s, (s6P s).1 ++ [true]), s6S s) := by rw [any6, if_neg h0, if_neg h1, if_pos h]
theorem any6_3 {s : DCur} (h0 : ¬ s6K s = 0) (h1 : ¬ s6K s = 1) (h : ¬ s6K s = 2) : any6 s = ((ruleV s, (s6P s).1), s6S s) := by rw [any6, if_neg h0, if_neg h1, if_neg h]
theorem spec_l6Any (s : DCur) (h : s.Ok) : SC Tryz.prog 187 [.at (.bx 0 0 0)] [.box 0 s.ats] (.tp [.ag (any6 s).1.1.ats, .at (.fr 1 ((any6 s).1.2.map boolRow))]) [.box 0 (any6 s).2.ats] := by
  have h1 := s6_ok h
  refine SC.of_M mixed Tryz.func187 (by kernel_rfl) rfl Tryz.results187 _ Tryz.ntmps187 (by simp) (by simp) ?_
  simp -implicitDefEqProofs only [go_sem, invOf]
  refine callXNB [0] [] (spec_l6Rule s h) (by decide) (by simp -implicitDefEqProofs only [go_sem]) (by simp -implicitDefEqProofs only [go_sem]) ?_
  simp -implicitDefEqProofs only [go_sem, invOf]
  refine ⟨some [999999, 0], by decide +kernel, ?_⟩
  simp -implicitDefEqProofs only [go_sem]
  refine callXNQ [0] [] (by decide) (spec_l1Below (ruleS s) 15 (ruleS_ok h)) (by decide) (by simp -implicitDefEqProofs only [go_sem]) (by simp -implicitDefEqProofs only [go_sem]) ?_
  simp -implicitDefEqProofs only [go_sem, invOf]
  rw [← h1.2.2.2.2]
  refine callXNQ [0] [] (by decide) (spec_l6Past (belowS (ruleS s) 15) (ruleV s) (s6n s) (belowS_ok (ruleS_ok h) _) (by omega)) (by decide) (by simp -implicitDefEqProofs only [go_sem]) (by simp -implicitDefEqProofs only [go_sem]) ?_
  simp -implicitDefEqProofs only [go_sem, invOf]
  rw [show pastF (ruleV s) (s6n s) (belowS (ruleS s) 15) [] = s6P s from rfl]
  refine callXNB [0] [] (spec_l1Below (s6P s).2 10 h1.2.2.1) (by decide) (by simp -implicitDefEqProofs only [go_sem]) (by simp -implicitDefEqProofs only [go_sem]) ?_
  simp -implicitDefEqProofs only [go_sem, invOf]
  rw [show belowS (s6P s).2 10 = s6S s from rfl]
  refine ⟨fun k0 => ?_, fun k0 => ⟨fun k1 => ?_, fun k1 => ⟨fun k2 => ?_, fun k2 => ?_⟩⟩⟩
  · rw [any6_0 k0]
    refine callXNB [0] [1288] (spec_l1Int (s6S s) [-1, 5, 9, 10] h1.1 (by simp) (by simp)) (by decide) (by simp -implicitDefEqProofs only [go_sem]) (by simp -implicitDefEqProofs only [go_sem]) ?_
    simp -implicitDefEqProofs only [go_sem, invOf]
  · rw [any6_1 k0 k1]
    refine callXNB [0] [1384] (spec_l1Int (s6S s) [0, 10, 11] h1.1 (by simp) (by simp)) (by decide) (by simp -implicitDefEqProofs only [go_sem]) (by simp -implicitDefEqProofs only [go_sem]) ?_
    simp -implicitDefEqProofs only [go_sem, invOf]
  · rw [any6_2 k0 k1 k2]
    exact ⟨room_s (by omega) (by decide), ⟨⟨rfl, rfl⟩, by simp⟩, rfl, boolS⟩
  · rw [any6_3 k0 k1 k2]
    exact ⟨⟨⟨rfl, rfl⟩, rfl⟩, rfl, rfl⟩
/-! ### A crew that may be wrong -/
def c7 (s : DCur) : List DMember × DCur := crew7F 5 s 1 []
def c7i (s : DCur) : Nat := (belowV (c7 s).2 (c7 s).1.length).toNat
def c7a (s : DCur) : DCur := belowS (c7 s).2 (c7 s).1.length
def c7K (s : DCur) : Int := belowV (c7a s) 12
def c7S (s : DCur) : DCur := belowS (c7a s) 12
def any7 (s : DCur) : List DMember × DCur :=
  if c7K s = 0 then (updAt (c7 s).1 (c7i s) (fun m => { m with id := intV (c7S s) [0, 2, 99, 100] }), intC (c7S s) [0, 2, 99, 100])
  else if c7K s = 1 then (updAt (c7 s).1 (c7i s) (fun m => { m with strength := intV (c7S s) [-1, 100, 101] }), intC (c7S s) [-1, 100, 101])
  else if c7K s = 2 then (updAt (c7 s).1 (c7i s) (fun m => { m with need := intV (c7S s) [0, 10, 11] }), intC (c7S s) [0, 10, 11])
  else if c7K s = 3 then ([], c7S s)
  else ((c7 s).1, c7S s)
theorem crew7_grow : ∀ (k : Nat) (s : DCur) (i : Int) (l : List DMember), l.length ≤ (crew7F k s i l).1.length ∧ (crew7F k s i l).1.length ≤ l.length + k := by
  intro k
  induction k with
  | zero => intro s i l; exact ⟨Nat.le_refl _, Nat.le_refl _⟩
  | succ k ih =>
    intro s i l
    rw [crew7F]
    split
    · have := ih (crew7S s) (i + 1) (l ++ [crew7 s i])
      simp only [List.length_append, List.length_cons, List.length_nil] at this
      omega
    · simp
theorem crew7_ok : ∀ (k : Nat) (s : DCur) (i : Int) (l : List DMember), s.Ok → (crew7F k s i l).2.Ok := by
  intro k
  induction k with
  | zero => intro s i l h; exact h
  | succ k ih =>
    intro s i l h
    rw [crew7F]
    split
    · exact ih _ _ _ (belowS_ok (belowS_ok (belowS_ok (belowS_ok h _) _) _) _)
    · exact belowS_ok h 4
theorem c7_ok {s : DCur} (h : s.Ok) : (1 ≤ (c7 s).1.length ∧ (c7 s).1.length ≤ 5) ∧ (c7 s).2.Ok ∧ (c7S s).Ok ∧ c7i s < (c7 s).1.length ∧ ((c7i s : Nat) : Int) = belowV (c7 s).2 (c7 s).1.length := by
  have h0 : (c7 s).2.Ok := crew7_ok 5 s 1 [] h
  have hl : 1 ≤ (c7 s).1.length ∧ (c7 s).1.length ≤ 5 := by
    have := crew7_grow 4 (crew7S s) (1 + 1) ([] ++ [crew7 s 1])
    have hb := belowV_bnd s 4
    unfold c7
    rw [crew7F, if_pos (by omega)]
    simp only [List.length_append, List.length_cons, List.length_nil] at this
    omega
  have hb := belowV_bnd (c7 s).2 (c7 s).1.length
  have hb2 := hb.2.1 (by omega)
  exact ⟨hl, h0, belowS_ok (belowS_ok h0 _) _, by unfold c7i; omega, by unfold c7i; omega⟩
theorem any7_0 {s : DCur} (h : c7K s = 0) : any7 s = (updAt (c7 s).1 (c7i s) (fun m => { m with id := intV (c7S s) [0, 2, 99, 100] }), intC (c7S s) [0, 2, 99, 100]) := if_pos h
theorem any7_1 {s : DCur} (h0 : ¬ c7K s = 0) (h : c7K s = 1) : any7 s = (updAt (c7 s).1 (c7i s) (fun m => { m with strength := intV (c7S s) [-1, 100, 101] }), intC (c7S s) [-1, 100, 101]) := by rw [any7, if_neg h0, if_pos h]
theorem any7_2 {s : DCur} (h0 : ¬ c7K s = 0) (h1 : ¬ c7K s = 1) (h : c7K s = 2) : any7 s = (updAt (c7 s).1 (c7i s) (fun m => { m with need := intV (c7S s) [0, 10, 11] }), intC (c7S s) [0, 10, 11]) := by rw [any7, if_neg h0, if_neg h1, if_pos h]
theorem any7_3 {s : DCur} (h0 : ¬ c7K s = 0) (h1 : ¬ c7K s = 1) (h2 : ¬ c7K s = 2) (h : c7K s = 3) : any7 s = ([], c7S s) := by rw [any7, if_neg h0, if_neg h1, if_neg h2, if_pos h]
theorem any7_4 {s : DCur} (h0 : ¬ c7K s = 0) (h1 : ¬ c7K s = 1) (h2 : ¬ c7K s = 2) (h : ¬ c7K s = 3) : any7 s = ((c7 s).1, c7S s) := by rw [any7, if_neg h0, if_neg h1, if_neg h2, if_neg h]
theorem any7_ok {s : DCur} (h : s.Ok) : (any7 s).1.length ≤ 5 ∧ (any7 s).2.Ok := by
  have h1 := c7_ok h
  unfold any7
  split
  · exact ⟨by simp only [updAt_len]; omega, intC_ok h1.2.2.1 [0, 2, 99, 100]⟩
  split
  · exact ⟨by simp only [updAt_len]; omega, intC_ok h1.2.2.1 [-1, 100, 101]⟩
  split
  · exact ⟨by simp only [updAt_len]; omega, intC_ok h1.2.2.1 [0, 10, 11]⟩
  split
  · exact ⟨by simp, h1.2.2.1⟩
  · exact ⟨h1.1.2, h1.2.2.1⟩
end Go.Abs

namespace Go.Abs
open Go.RowKit Go.Proofs
set_option linter.unusedVariables false
set_option linter.unusedSimpArgs false
set_option maxRecDepth 100000
set_option maxHeartbeats 4000000

theorem updAt_mapx {β : Type} {l : List β} {row : β → List Value} {f : β → β} {i : Nat} {x : β} (g : List Value → List Value) (e : l[i]? = some x) (h : g (row x) = row (f x)) :
    (l.map row).set i (g ((l.map row).getD i [])) = (updAt l i f).map row := by
  rw [updAt, e, List.getD_eq_getElem?_getD, List.getElem?_map, e]
  simp only [Option.map_some, Option.getD_some]
  rw [h, List.map_set]
/-! ### A journal that may be wrong -/
noncomputable def pageF : Nat → DCur → Int → List DPage → List DPage × DCur
  | 0, s, _, l => (l, s)
  | n + 1, s, d, l => pageF n (belowS (belowS (belowS s 30) 60) 3) (d + 1 + belowV (belowS (belowS s 30) 60) 3) (writeL l d (belowV s 30) (belowV (belowS s 30) 60))
theorem pageF_ok : ∀ (n : Nat) (s : DCur) (d : Int) (l : List DPage), s.Ok → (0 ≤ d ∧ d + 4 * n ≤ 100) → (∀ p ∈ l, p.wf) → (pageF n s d l).2.Ok ∧ (∀ p ∈ (pageF n s d l).1, p.wf) ∧ (pageF n s d l).1.length ≤ l.length + n := by
  intro n
  induction n with
  | zero => intro s d l h _ hl; exact ⟨h, hl, Nat.le_refl _⟩
  | succ n ih =>
    intro s d l h hd hl
    have h1 := belowV_bnd s 30
    have h1b := h1.2.1 (by omega)
    have h2 := belowV_bnd (belowS s 30) 60
    have h2b := h2.2.1 (by omega)
    have h3 := belowV_bnd (belowS (belowS s 30) 60) 3
    have h3b := h3.2.1 (by omega)
    have := ih (belowS (belowS (belowS s 30) 60) 3) (d + 1 + belowV (belowS (belowS s 30) 60) 3) (writeL l d (belowV s 30) (belowV (belowS s 30) 60)) (belowS_ok (belowS_ok (belowS_ok h _) _) _) (by omega)
      (writeL_wf hl (by unfold I64; omega) (by unfold I64; omega) (by unfold I64; omega))
    rw [pageF]
    refine ⟨this.1, this.2.1, Nat.le_trans this.2.2 ?_⟩
    have := writeL_len (l := l) (day := d) (cell := belowV s 30) (food := belowV (belowS s 30) 60)
    omega
def p21a (s : DCur) : DCur := belowS s 3
def p21n (s : DCur) : Nat := (belowV (p21a s) 8).toNat
noncomputable def p21 (s : DCur) : List DPage × DCur := pageF (p21n s) (belowS (p21a s) 8) (belowV s 3) []
noncomputable def p21i (s : DCur) : Nat := (belowV (p21 s).2 (p21 s).1.length).toNat
noncomputable def p21b (s : DCur) : DCur := belowS (p21 s).2 (p21 s).1.length
noncomputable def p21K (s : DCur) : Int := belowV (p21b s) 10
noncomputable def p21S (s : DCur) : DCur := belowS (p21b s) 10
noncomputable def any21 (s : DCur) : List DPage × DCur :=
  if (p21 s).1.length = 0 then p21 s
  else if p21K s = 0 then (updAt (p21 s).1 (p21i s) (fun m => { m with day := intV (p21S s) [-1, 10000, 10001] }), intC (p21S s) [-1, 10000, 10001])
  else if p21K s = 1 then (updAt (p21 s).1 (p21i s) (fun m => { m with cell := intV (p21S s) [-1, 63, 64] }), intC (p21S s) [-1, 63, 64])
  else if p21K s = 2 then (updAt (p21 s).1 (p21i s) (fun m => { m with mark := IntKind.i64.wrap (m.mark + 1) }), p21S s)
  else ((p21 s).1, p21S s)
theorem p21_ok {s : DCur} (h : s.Ok) : (p21 s).2.Ok ∧ (∀ p ∈ (p21 s).1, p.wf) ∧ (p21 s).1.length ≤ 7 ∧ (p21S s).Ok ∧ ((p21n s : Nat) : Int) = belowV (p21a s) 8 ∧ ((p21i s : Nat) : Int) = belowV (p21 s).2 (p21 s).1.length ∧ ((p21 s).1.length ≠ 0 → p21i s < (p21 s).1.length) := by
  have h1 := belowV_bnd s 3
  have h1b := h1.2.1 (by omega)
  have h2 := belowV_bnd (p21a s) 8
  have h2b := h2.2.1 (by omega)
  have hn : ((p21n s : Nat) : Int) = belowV (p21a s) 8 := by unfold p21n; omega
  have h3 := pageF_ok (p21n s) (belowS (p21a s) 8) (belowV s 3) [] (belowS_ok (belowS_ok h _) _) (by omega) (by intro p hp; cases hp)
  have h4 := belowV_bnd (p21 s).2 (p21 s).1.length
  refine ⟨h3.1, h3.2.1, ?_, belowS_ok (belowS_ok h3.1 _) _, hn, by unfold p21i; omega, fun h0 => ?_⟩
  · have := h3.2.2; simp only [List.length_nil] at this; unfold p21; omega
  · have := h4.2.1 (by omega); unfold p21i; omega
theorem any21_ok {s : DCur} (h : s.Ok) : (any21 s).1.length ≤ 7 ∧ (∀ p ∈ (any21 s).1, p.wf) ∧ (any21 s).2.Ok := by
  have h1 := p21_ok h
  unfold any21
  split
  · exact ⟨h1.2.2.1, h1.2.1, h1.1⟩
  split
  · refine ⟨by simp only [updAt_len]; omega, updAt_all h1.2.1 fun m hm => ?_, intC_ok h1.2.2.2.1 [-1, 10000, 10001]⟩
    have hv := intV_mem (p21S s) (l := [-1, 10000, 10001]) (by simp)
    simp only [List.mem_cons, List.not_mem_nil, or_false] at hv
    have hw := h1.2.1 m hm
    exact ⟨by unfold I64; simp only []; omega, hw.2.1, hw.2.2.1, hw.2.2.2⟩
  split
  · refine ⟨by simp only [updAt_len]; omega, updAt_all h1.2.1 fun m hm => ?_, intC_ok h1.2.2.2.1 [-1, 63, 64]⟩
    have hv := intV_mem (p21S s) (l := [-1, 63, 64]) (by simp)
    simp only [List.mem_cons, List.not_mem_nil, or_false] at hv
    have hw := h1.2.1 m hm
    exact ⟨hw.1, by unfold I64; simp only []; omega, hw.2.2.1, hw.2.2.2⟩
  split
  · refine ⟨by simp only [updAt_len]; omega, updAt_all h1.2.1 fun m hm => ?_, h1.2.2.2.1⟩
    have hw := h1.2.1 m hm
    refine ⟨hw.1, hw.2.1, hw.2.2.1, ?_⟩
    unfold I64 IntKind.wrap
    simp [IntKind.bits, IntKind.signed]
    omega
  · exact ⟨h1.2.2.1, h1.2.1, h1.2.2.2.1⟩
theorem any21_z {s : DCur} (h : (p21 s).1.length = 0) : any21 s = p21 s := if_pos h
theorem any21_0 {s : DCur} (hz : ¬ (p21 s).1.length = 0) (h : p21K s = 0) : any21 s = (updAt (p21 s).1 (p21i s) (fun m => { m with day := intV (p21S s) [-1, 10000, 10001] }), intC (p21S s) [-1, 10000, 10001]) := by rw [any21, if_neg hz, if_pos h]
theorem any21_1 {s : DCur} (hz : ¬ (p21 s).1.length = 0) (h0 : ¬ p21K s = 0) (h : p21K s = 1) : any21 s = (updAt (p21 s).1 (p21i s) (fun m => { m with cell := intV (p21S s) [-1, 63, 64] }), intC (p21S s) [-1, 63, 64]) := by rw [any21, if_neg hz, if_neg h0, if_pos h]
theorem any21_2 {s : DCur} (hz : ¬ (p21 s).1.length = 0) (h0 : ¬ p21K s = 0) (h1 : ¬ p21K s = 1) (h : p21K s = 2) : any21 s = (updAt (p21 s).1 (p21i s) (fun m => { m with mark := IntKind.i64.wrap (m.mark + 1) }), p21S s) := by rw [any21, if_neg hz, if_neg h0, if_neg h1, if_pos h]
theorem any21_3 {s : DCur} (hz : ¬ (p21 s).1.length = 0) (h0 : ¬ p21K s = 0) (h1 : ¬ p21K s = 1) (h : ¬ p21K s = 2) : any21 s = ((p21 s).1, p21S s) := by rw [any21, if_neg hz, if_neg h0, if_neg h1, if_neg h]
theorem spec_l21Any (s : DCur) (h : s.Ok) : SC Tryz.prog 104 [.at (.bx 0 0 0)] [.box 0 s.ats] (.at (.fr 4 ((any21 s).1.map DPage.row))) [.box 0 (any21 s).2.ats] := by
  have h1 := p21_ok h
  refine SC.of_M mixed Tryz.func104 (by kernel_rfl) rfl Tryz.results104 _ Tryz.ntmps104 (by simp) (by simp) ?_
  simp -implicitDefEqProofs only [go_sem, invOf]
  refine callXNB [0] [] (spec_l1Below s 3 h) (by decide) (by simp -implicitDefEqProofs only [go_sem]) (by simp -implicitDefEqProofs only [go_sem]) ?_
  simp -implicitDefEqProofs only [go_sem, invOf]
  rw [show belowS s 3 = p21a s from rfl]
  have ha : (p21a s).Ok := belowS_ok h _
  refine callXNB [0] [] (spec_l1Below (p21a s) 8 ha) (by decide) (by simp -implicitDefEqProofs only [go_sem]) (by simp -implicitDefEqProofs only [go_sem]) ?_
  simp -implicitDefEqProofs only [go_sem, invOf]
  rw [← h1.2.2.2.2.1]
  have hP : pageF (p21n s) (belowS (p21a s) 8) (belowV s 3) [] = p21 s := rfl
  have hb1 := belowV_bnd s 3
  have hb1b := hb1.2.1 (by omega)
  have hb2 := belowV_bnd (p21a s) 8
  have hb2b := hb2.2.1 (by omega)
  refine T.loopN mixed (show 1 ≤ 100 by decide) [0, 3, 4, 5] (fun mm vs ex es => ∃ (y : DCur) (l : List DPage) (d : Int) (i : Nat), vs = [.at (.bx 0 0 0), .at (.ow 100 0 4 l.length), .at (.v (.int .i64 d)), .at (.v (.int .i64 (i : Nat)))] ∧ ex = [.box 0 y.ats] ∧ es = [.arr 0 4 (l.map DPage.row)] ∧ mm = i ∧ y.Ok ∧ pageF i y d l = p21 s ∧ l.length + i ≤ 7 ∧ (∀ p ∈ l, p.wf) ∧ (0 ≤ d ∧ d + 4 * i ≤ 100)) (p21n s) ?_ ?_
  · simp -implicitDefEqProofs only [go_sem, invOf]
    exact ⟨_, [], _, p21n s, ⟨rfl, rfl, rfl⟩, rfl, rfl, rfl, belowS_ok ha 8, hP, by simp; omega, by (intro p hp; cases hp), by omega⟩
  rintro q _ _ _ ⟨y, l, d, i, rfl, rfl, rfl, rfl, hy, hA, hl, hw, hd⟩ -
  simp -implicitDefEqProofs only [go_sem, invOf]
  refine ⟨fun hi => ?_, fun hi => ?_⟩
  · obtain ⟨k, rfl⟩ : ∃ k, q = k + 1 := ⟨q - 1, by omega⟩
    rw [pageF] at hA
    have o1 := belowS_ok hy 30
    have o2 := belowS_ok o1 60
    have v1 := belowV_bnd y 30
    have v1b := v1.2.1 (by omega)
    have v2 := belowV_bnd (belowS y 30) 60
    have v2b := v2.2.1 (by omega)
    have v3 := belowV_bnd (belowS (belowS y 30) 60) 3
    have v3b := v3.2.1 (by omega)
    refine callXNB [0] [] (spec_l1Below y 30 hy) (by decide) (by simp -implicitDefEqProofs only [go_sem]) (by simp -implicitDefEqProofs only [go_sem]) ?_
    simp -implicitDefEqProofs only [go_sem, invOf]
    refine callXNB [0] [] (spec_l1Below (belowS y 30) 60 o1) (by decide) (by simp -implicitDefEqProofs only [go_sem]) (by simp -implicitDefEqProofs only [go_sem]) ?_
    simp -implicitDefEqProofs only [go_sem, invOf]
    refine callX [100] (spec_WritePage l d (belowV y 30) (belowV (belowS y 30) 60) (by omega) hw (by unfold I64; omega) (by unfold I64; omega) (by unfold I64; omega)) (by simp -implicitDefEqProofs only [go_sem]) ?_
    simp -implicitDefEqProofs only [go_sem]
    refine callXNB [0] [] (spec_l1Below (belowS (belowS y 30) 60) 3 o2) (by decide) (by simp -implicitDefEqProofs only [go_sem]) (by simp -implicitDefEqProofs only [go_sem]) ?_
    simp -implicitDefEqProofs only [go_sem, invOf]
    have hlen := writeL_len (l := l) (day := d) (cell := belowV y 30) (food := belowV (belowS y 30) 60)
    rw [wrap64 (x := d + 1) (by omega) (by omega), wrap64 (x := d + 1 + belowV (belowS (belowS y 30) 60) 3) (by omega) (by omega), wrap64 (by omega) (by omega)]
    exact ⟨k, by omega, _, writeL l d (belowV y 30) (belowV (belowS y 30) 60), _, k, ⟨rfl, rfl, by omega⟩, rfl, rfl, rfl, belowS_ok o2 3, hA, by omega, writeL_wf hw (by unfold I64; omega) (by unfold I64; omega) (by unfold I64; omega), by omega⟩
  · obtain rfl : q = 0 := by omega
    rw [pageF] at hA
    rw [show l = (p21 s).1 by rw [← hA], show y = (p21 s).2 by rw [← hA]]
    refine ⟨fun h0 => ?_, fun h0 => ?_⟩
    · refine callXNB [0] [] (spec_l1Below (p21 s).2 (p21 s).1.length h1.1) (by decide) (by simp -implicitDefEqProofs only [go_sem]) (by simp -implicitDefEqProofs only [go_sem]) ?_
      simp -implicitDefEqProofs only [go_sem, invOf]
      rw [show belowS (p21 s).2 (p21 s).1.length = p21b s from rfl]
      refine callXNB [0] [] (spec_l1Below (p21b s) 10 (belowS_ok h1.1 _)) (by decide) (by simp -implicitDefEqProofs only [go_sem]) (by simp -implicitDefEqProofs only [go_sem]) ?_
      simp -implicitDefEqProofs only [go_sem, invOf]
      rw [show belowS (p21b s) 10 = p21S s from rfl]
      have hz : ¬ (p21 s).1.length = 0 := by omega
      have hi2 := h1.2.2.2.2.2.2 hz
      refine ⟨fun k0 => ?_, fun k0 => ⟨fun k1 => ?_, fun k1 => ⟨fun k2 => ?_, fun k2 => ?_⟩⟩⟩
      · rw [any21_0 hz k0]
        refine callXNB [0] [1720] (spec_l1Int (p21S s) [-1, 10000, 10001] h1.2.2.2.1 (by simp) (by simp)) (by decide) (by simp -implicitDefEqProofs only [go_sem]) (by simp -implicitDefEqProofs only [go_sem]) ?_
        simp -implicitDefEqProofs only [go_sem, invOf]
        exact ⟨by omega, hi2, updAt_len.symm, updAt_map (fun r => .int .i64 (intV (p21S s) [-1, 10000, 10001]) :: r.drop 1) (fun m => rfl) hi2⟩
      · rw [any21_1 hz k0 k1]
        refine callXNB [0] [1864] (spec_l1Int (p21S s) [-1, 63, 64] h1.2.2.2.1 (by simp) (by simp)) (by decide) (by simp -implicitDefEqProofs only [go_sem]) (by simp -implicitDefEqProofs only [go_sem]) ?_
        simp -implicitDefEqProofs only [go_sem, invOf]
        exact ⟨by omega, hi2, updAt_len.symm, updAt_map (fun r => r.take 1 ++ [.int .i64 (intV (p21S s) [-1, 63, 64])] ++ r.drop 2) (fun m => rfl) hi2⟩
      · rw [any21_2 hz k0 k1 k2]
        refine ⟨by omega, hi2, fun x hx => ⟨by omega, hi2, updAt_len.symm, rfl, ?_⟩⟩
        exact updAt_mapx (row := DPage.row) (f := fun m => { m with mark := IntKind.i64.wrap (m.mark + 1) }) (fun r => r.take 3 ++ [.int .i64 (IntKind.i64.wrap (x.mark + 1))] ++ r.drop 4) hx rfl
      · rw [any21_3 hz k0 k1 k2]
        exact ⟨rfl, rfl, rfl⟩
    · have hz : (p21 s).1.length = 0 := by omega
      rw [any21_z hz]
      exact ⟨rfl, rfl, rfl⟩
/-! ### An expedition at its begin -/
noncomputable def start33 (s : DCur) : DTrek × DCur :=
  (newTrekZ (landF s).1 0 (ruleV (landF s).2) (crewF 4 (ruleS (landF s).2) 1 []).1, (crewF 4 (ruleS (landF s).2) 1 []).2)
theorem crewF_ok : ∀ (k : Nat) (s : DCur) (i : Int) (l : List DMember), s.Ok → (crewF k s i l).2.Ok ∧ (crewF k s i l).1.length ≤ l.length + k := by
  intro k
  induction k with
  | zero => intro s i l h; exact ⟨h, Nat.le_refl _⟩
  | succ k ih =>
    intro s i l h
    rw [crewF]
    split
    · have := ih (belowS (belowS (belowS s 3) 20) 2) (i + 1) (l ++ [⟨i, 10 + belowV (belowS s 3) 20, 1 + belowV (belowS (belowS s 3) 20) 2, false⟩]) (belowS_ok (belowS_ok (belowS_ok h _) _) _)
      refine ⟨this.1, Nat.le_trans this.2 ?_⟩
      simp; omega
    · exact ⟨belowS_ok h 3, by simp⟩
theorem newTrekZ_party {x : DLand} {base : Int} {r : DRule} {crew : List DMember} : ((newTrekZ x base r crew).party.at_ = base ∨ (newTrekZ x base r crew).party.at_ = 0) ∧ (newTrekZ x base r crew).party.food = 0 ∧ (newTrekZ x base r crew).journal = [] ∧ (newTrekZ x base r crew).depots = [] ∧ (newTrekZ x base r crew).party.past = [] ∧ (newTrekZ x base r crew).day = 0 ∧ (newTrekZ x base r crew).given = 0 ∧ (newTrekZ x base r crew).eaten = 0 := by
  unfold newTrekZ
  split
  · exact ⟨.inl rfl, rfl, rfl, rfl, rfl, rfl, rfl, rfl⟩
  · exact ⟨.inr rfl, rfl, rfl, rfl, rfl, rfl, rfl, rfl⟩
/-- A small expedition. -/
structure Small (t : DTrek) : Prop where
  cells : t.land.cells.length ≤ 30
  depots : t.depots.length ≤ 1000
  crew : t.party.crew.length ≤ 10
  past : t.party.past.length ≤ 1000
  journal : t.journal.length ≤ 1000
  pages : ∀ p ∈ t.journal, p.wf
  at_ : I64 t.party.at_
  food : I64 t.party.food
theorem Small.fit {t : DTrek} (h : Small t) : t.Fit := ⟨Nat.le_trans h.cells (by decide), Nat.le_trans h.depots (by decide), Nat.le_trans h.crew (by decide), Nat.le_trans h.past (by decide), Nat.le_trans h.journal (by decide), h.pages⟩
theorem start33_ok {s : DCur} (h : s.Ok) : Small (start33 s).1 ∧ (start33 s).2.Ok := by
  have h1 := landF_ok h
  have h2 := h1.1.cnt
  have h3 := crewF_ok 4 (ruleS (landF s).2) 1 [] (ruleS_ok h1.2)
  have hp := newTrekZ_party (x := (landF s).1) (base := 0) (r := ruleV (landF s).2) (crew := (crewF 4 (ruleS (landF s).2) 1 []).1)
  refine ⟨⟨newTrekZ_cells h2.2, by rw [start33, hp.2.2.2.1]; simp, newTrekZ_crew (by have := h3.2; simp at this; omega), by rw [start33, hp.2.2.2.2.1]; simp, by rw [start33, hp.2.2.1]; simp, by (rw [start33, hp.2.2.1]; intro p hp; cases hp), ?_, by rw [start33, hp.2.1]; unfold I64; simp⟩, h3.1⟩
  show I64 (newTrekZ (landF s).1 0 (ruleV (landF s).2) (crewF 4 (ruleS (landF s).2) 1 []).1).party.at_
  rcases hp.1 with e | e <;> rw [e] <;> unfold I64 <;> simp
theorem spec_l33Start (s : DCur) (h : s.Ok) : SC Tryz.prog 71 [.at (.bx 0 0 0)] [.box 0 s.ats] (.ag (start33 s).1.frs) [.box 0 (start33 s).2.ats] := by
  have h1 := landF_ok h
  have h2 := h1.1.cnt
  have h3 := crewF_ok 4 (ruleS (landF s).2) 1 [] (ruleS_ok h1.2)
  refine SC.of_M mixed Tryz.func71 (by kernel_rfl) rfl Tryz.results71 _ Tryz.ntmps71 (by simp) (by simp) ?_
  simp -implicitDefEqProofs only [go_sem, invOf]
  refine callXNB [0] [] (spec_l4Draw s h) (by decide) (by simp -implicitDefEqProofs only [go_sem]) (by simp -implicitDefEqProofs only [go_sem]) ?_
  simp -implicitDefEqProofs only [go_sem, invOf]
  refine callXNB [0] [] (spec_l6Rule (landF s).2 h1.2) (by decide) (by simp -implicitDefEqProofs only [go_sem]) (by simp -implicitDefEqProofs only [go_sem]) ?_
  simp -implicitDefEqProofs only [go_sem, invOf]
  refine callXNB [0] [] (spec_l33Crew (ruleS (landF s).2) (ruleS_ok h1.2)) (by decide) (by simp -implicitDefEqProofs only [go_sem]) (by simp -implicitDefEqProofs only [go_sem]) ?_
  simp -implicitDefEqProofs only [go_sem, invOf]
  refine callX [1112, 1176] (spec_NewTrek (landF s).1 0 (ruleV (landF s).2) (crewF 4 (ruleS (landF s).2) 1 []).1 (by omega) (by have := h3.2; simp at this; omega)) (by simp -implicitDefEqProofs only [go_sem]) ?_
  simp -implicitDefEqProofs only [go_sem]
  rw [show newTrekZ (landF s).1 0 (ruleV (landF s).2) (crewF 4 (ruleS (landF s).2) 1 []).1 = (start33 s).1 from rfl, show (crewF 4 (ruleS (landF s).2) 1 []).2 = (start33 s).2 from rfl]
  simp -implicitDefEqProofs only [go_sem, invOf]
/-! ### An expedition that may be wrong -/
noncomputable def t33 (s : DCur) : DTrek := (start33 s).1
noncomputable def k33 (s : DCur) : Int := belowV (start33 s).2 14
noncomputable def s33 (s : DCur) : DCur := belowS (start33 s).2 14
noncomputable def any33 (s : DCur) : DTrek × DCur :=
  if k33 s = 0 then ({ t33 s with base := belowV (s33 s) 9 }, belowS (s33 s) 9)
  else if k33 s = 1 then ({ t33 s with rule := { (t33 s).rule with most := (t33 s).rule.window } }, s33 s)
  else if k33 s = 2 then ({ t33 s with depots := [⟨0, 3⟩] }, s33 s)
  else if k33 s = 3 then ({ t33 s with party := { (t33 s).party with food := 4 }, given := 4 }, s33 s)
  else if k33 s = 4 then ({ t33 s with day := intV (s33 s) [-1, 5000, 5001] }, intC (s33 s) [-1, 5000, 5001])
  else if k33 s = 5 then ({ t33 s with given := 3, eaten := 3 }, s33 s)
  else if k33 s = 6 then ({ t33 s with journal := (any21 (s33 s)).1 }, (any21 (s33 s)).2)
  else if k33 s = 7 then ({ t33 s with party := { (t33 s).party with past := [true, true, true] } }, s33 s)
  else if k33 s = 8 then ({ t33 s with given := 5 }, s33 s)
  else (t33 s, s33 s)
theorem any33_ok {s : DCur} (h : s.Ok) : Small (any33 s).1 ∧ (any33 s).2.Ok := by
  have h0 := start33_ok h
  have h1 : Small (t33 s) := h0.1
  have h2 : (s33 s).Ok := belowS_ok h0.2 14
  have h3 := any21_ok h2
  unfold any33
  split
  · exact ⟨⟨h1.cells, h1.depots, h1.crew, h1.past, h1.journal, h1.pages, h1.at_, h1.food⟩, belowS_ok h2 9⟩
  split
  · exact ⟨⟨h1.cells, h1.depots, h1.crew, h1.past, h1.journal, h1.pages, h1.at_, h1.food⟩, h2⟩
  split
  · exact ⟨⟨h1.cells, by simp, h1.crew, h1.past, h1.journal, h1.pages, h1.at_, h1.food⟩, h2⟩
  split
  · exact ⟨⟨h1.cells, h1.depots, h1.crew, h1.past, h1.journal, h1.pages, h1.at_, by unfold I64; simp⟩, h2⟩
  split
  · exact ⟨⟨h1.cells, h1.depots, h1.crew, h1.past, h1.journal, h1.pages, h1.at_, h1.food⟩, intC_ok h2 [-1, 5000, 5001]⟩
  split
  · exact ⟨⟨h1.cells, h1.depots, h1.crew, h1.past, h1.journal, h1.pages, h1.at_, h1.food⟩, h2⟩
  split
  · exact ⟨⟨h1.cells, h1.depots, h1.crew, h1.past, Nat.le_trans h3.1 (by decide), h3.2.1, h1.at_, h1.food⟩, h3.2.2⟩
  split
  · exact ⟨⟨h1.cells, h1.depots, h1.crew, by simp, h1.journal, h1.pages, h1.at_, h1.food⟩, h2⟩
  split
  · exact ⟨⟨h1.cells, h1.depots, h1.crew, h1.past, h1.journal, h1.pages, h1.at_, h1.food⟩, h2⟩
  · exact ⟨h1, h2⟩
section
variable {s : DCur}
theorem any33_0 (h : k33 s = 0) : any33 s = ({ t33 s with base := belowV (s33 s) 9 }, belowS (s33 s) 9) := if_pos h
theorem any33_1 (h0 : ¬ k33 s = 0) (h : k33 s = 1) : any33 s = ({ t33 s with rule := { (t33 s).rule with most := (t33 s).rule.window } }, s33 s) := by rw [any33, if_neg h0, if_pos h]
theorem any33_2 (h0 : ¬ k33 s = 0) (h1 : ¬ k33 s = 1) (h : k33 s = 2) : any33 s = ({ t33 s with depots := [⟨0, 3⟩] }, s33 s) := by rw [any33, if_neg h0, if_neg h1, if_pos h]
theorem any33_3 (h0 : ¬ k33 s = 0) (h1 : ¬ k33 s = 1) (h2 : ¬ k33 s = 2) (h : k33 s = 3) : any33 s = ({ t33 s with party := { (t33 s).party with food := 4 }, given := 4 }, s33 s) := by rw [any33, if_neg h0, if_neg h1, if_neg h2, if_pos h]
theorem any33_4 (h0 : ¬ k33 s = 0) (h1 : ¬ k33 s = 1) (h2 : ¬ k33 s = 2) (h3 : ¬ k33 s = 3) (h : k33 s = 4) : any33 s = ({ t33 s with day := intV (s33 s) [-1, 5000, 5001] }, intC (s33 s) [-1, 5000, 5001]) := by rw [any33, if_neg h0, if_neg h1, if_neg h2, if_neg h3, if_pos h]
theorem any33_5 (h0 : ¬ k33 s = 0) (h1 : ¬ k33 s = 1) (h2 : ¬ k33 s = 2) (h3 : ¬ k33 s = 3) (h4 : ¬ k33 s = 4) (h : k33 s = 5) : any33 s = ({ t33 s with given := 3, eaten := 3 }, s33 s) := by rw [any33, if_neg h0, if_neg h1, if_neg h2, if_neg h3, if_neg h4, if_pos h]
theorem any33_6 (h0 : ¬ k33 s = 0) (h1 : ¬ k33 s = 1) (h2 : ¬ k33 s = 2) (h3 : ¬ k33 s = 3) (h4 : ¬ k33 s = 4) (h5 : ¬ k33 s = 5) (h : k33 s = 6) : any33 s = ({ t33 s with journal := (any21 (s33 s)).1 }, (any21 (s33 s)).2) := by rw [any33, if_neg h0, if_neg h1, if_neg h2, if_neg h3, if_neg h4, if_neg h5, if_pos h]
theorem any33_7 (h0 : ¬ k33 s = 0) (h1 : ¬ k33 s = 1) (h2 : ¬ k33 s = 2) (h3 : ¬ k33 s = 3) (h4 : ¬ k33 s = 4) (h5 : ¬ k33 s = 5) (h6 : ¬ k33 s = 6) (h : k33 s = 7) : any33 s = ({ t33 s with party := { (t33 s).party with past := [true, true, true] } }, s33 s) := by rw [any33, if_neg h0, if_neg h1, if_neg h2, if_neg h3, if_neg h4, if_neg h5, if_neg h6, if_pos h]
theorem any33_8 (h0 : ¬ k33 s = 0) (h1 : ¬ k33 s = 1) (h2 : ¬ k33 s = 2) (h3 : ¬ k33 s = 3) (h4 : ¬ k33 s = 4) (h5 : ¬ k33 s = 5) (h6 : ¬ k33 s = 6) (h7 : ¬ k33 s = 7) (h : k33 s = 8) : any33 s = ({ t33 s with given := 5 }, s33 s) := by rw [any33, if_neg h0, if_neg h1, if_neg h2, if_neg h3, if_neg h4, if_neg h5, if_neg h6, if_neg h7, if_pos h]
theorem any33_9 (h0 : ¬ k33 s = 0) (h1 : ¬ k33 s = 1) (h2 : ¬ k33 s = 2) (h3 : ¬ k33 s = 3) (h4 : ¬ k33 s = 4) (h5 : ¬ k33 s = 5) (h6 : ¬ k33 s = 6) (h7 : ¬ k33 s = 7) (h : ¬ k33 s = 8) : any33 s = (t33 s, s33 s) := by rw [any33, if_neg h0, if_neg h1, if_neg h2, if_neg h3, if_neg h4, if_neg h5, if_neg h6, if_neg h7, if_neg h]
end
end Go.Abs

namespace Go.Abs
open Go.RowKit Go.Proofs
set_option linter.unusedVariables false
set_option linter.unusedSimpArgs false

theorem SC.frozenX {P : Program} {f : FuncId} {args : List AV} {res : AV} {ext ext' : List Ent} (h : SC P f args ext res ext') (hx : ext.length ≤ 900) (hpl : ∀ e ∈ ext', e.plain = true) : SC P f args ext (zV res) ext' := by
  refine ⟨h.1, fun w F lam us hF hM hl hv => (h.2 w F lam us hF hM hl hv).mono ?_⟩
  rintro e w' ⟨v, F', lam', rfl, p1, p2, p3, p4, p5, p6, p7⟩
  have hfr : ∀ (j : Nat) e, (freshes res)[j]? = some e → ofM ext.length 1000 ext' (freshes res) (1000 + j) = e := by
    intro j e hj
    rw [ofM_fresh (by omega), List.getD_eq_getElem?_getD, hj]; rfl
  have hent : ∀ (j : Nat) e, (freshes res)[j]? = some e → ∀ b o, lam' (1000 + j) = some (b, o) → w.heap.size ≤ b ∧ b < w'.heap.size := by
    intro j e hj b o hb
    rcases freshes_arr res e (List.mem_of_getElem? hj) with ⟨sz, rows, rfl⟩ | ⟨cs, rfl, _⟩
    · have := p6.ent (1000 + j)
      rw [hfr j _ hj] at this
      rcases this.2 with ⟨h, _⟩ | ⟨b', o', cur, ty, h3, h4, h5, h6, h7⟩
      · rw [hb] at h; cases h
      · rw [hb] at h3; simp only [Option.some.injEq, Prod.mk.injEq] at h3; obtain ⟨rfl, rfl⟩ := h3
        exact ⟨h6.2 (by show ext.length ≤ _; omega), (Array.getElem?_eq_some_iff.1 h4).1⟩
    · have := p6.ent (1000 + j)
      rw [hfr j _ hj] at this
      obtain ⟨b', cur, ty, h3, h4, h5, h6, h7⟩ := this
      rw [hb] at h3; simp only [Option.some.injEq, Prod.mk.injEq] at h3; obtain ⟨rfl, rfl⟩ := h3
      exact ⟨h6.2 (by show ext.length ≤ _; omega), (Array.getElem?_eq_some_iff.1 h4).1⟩
  let F2 : Nat → Prop := fun b => F' b ∨ ∃ j e o, (freshes res)[j]? = some e ∧ lam' (1000 + j) = some (b, o)
  have he : ∀ (j : Nat) e, (freshes res)[j]? = some e → ofM ext.length 1000 ext' (freshes res) (1000 + j) = e ∧ freA lam' F2 (1000 + j) :=
    fun j e hj => ⟨hfr j e hj, fun b o hb => .inr ⟨j, e, o, hj, hb⟩⟩
  have hlive : ∀ (j : Nat) e, (freshes res)[j]? = some e → (ofM ext.length 1000 ext' (freshes res) (1000 + j)).live := by
    intro j e hj
    rw [hfr j e hj]
    rcases freshes_arr res e (List.mem_of_getElem? hj) with ⟨sz, rows, rfl⟩ | ⟨cs, rfl, _⟩ <;> trivial
  have hold : ∀ k b o, k < ext.length → (ofM ext.length 1000 ext' (freshes res) k).live → lam' k = some (b, o) → ¬ F' b → ¬ F2 b := by
    rintro k b o hk hkl hlk hnF (h | ⟨j, e, o', hj, ho⟩)
    · exact hnF h
    · have := p6.inj k (1000 + j) b o o' hkl (hlive j e hj) hlk ho
      omega
  refine ⟨v, F2, lam', rfl, fun b hb => .inl (p1 b hb), ?_, ?_, p4, p5, ?_, ?_⟩
  · rintro b hb (h | ⟨j, e, o, hj, ho⟩)
    · exact p2 b hb h
    · have := (hent j e hj b o ho).1; omega
  · rintro b (h | ⟨j, e, o, hj, ho⟩)
    · exact p3 b h
    · exact (hent j e hj b o ho).2
  · rw [freshes_zV]
    have hg : ∀ k, ¬ k < ext.length → ofM ext.length 1000 ext' [] k = Ent.gone := by
      intro k hk
      simp only [ofM, if_neg hk]
      split <;> simp
    have hs : ∀ k, k < ext.length → ofM ext.length 1000 ext' [] k = ofM ext.length 1000 ext' (freshes res) k := by
      intro k hk
      rw [ofM_ext hk, ofM_ext hk]
    refine ⟨fun k => ?_, fun k k' b o o' h1 h2 h3 h4 => ?_⟩
    · by_cases hk : k < ext.length
      · have he0 := p6.ent k
        rw [← hs k hk] at he0
        have hh : ∀ b o, (ofM ext.length 1000 ext' [] k).live → lam' k = some (b, o) → ¬ F' b → ¬ F2 b := fun b o hl2 => hold k b o hk (by rw [← hs k hk]; exact hl2)
        have hmem : ofM ext.length 1000 ext' [] k = .gone ∨ ofM ext.length 1000 ext' [] k ∈ ext' := by
          rw [ofM_ext hk]
          by_cases hk2 : k < ext'.length
          · right; rw [List.getD_eq_getElem?_getD, List.getElem?_eq_getElem hk2]; exact List.getElem_mem hk2
          · left; rw [List.getD_eq_getElem?_getD, List.getElem?_eq_none (by omega)]; rfl
        have hpk : ofM ext.length 1000 ext' [] k = .gone ∨ (ofM ext.length 1000 ext' [] k).plain = true := hmem.imp id (hpl _)
        generalize ofM ext.length 1000 ext' [] k = en at he0 hh hpk
        cases en with
        | gone => trivial
        | arr ver sz rows =>
          obtain ⟨hw, h0⟩ := he0
          refine ⟨hw, ?_⟩
          rcases h0 with h0 | ⟨b, o, cur, ty, h3, h4, h5, h6, h7⟩
          · exact .inl h0
          · exact .inr ⟨b, o, cur, ty, h3, h4, hh b o trivial h3 h5, h6, h7⟩
        | ice ver sz rows => rcases hpk with h | h <;> simp [Ent.plain] at h
        | box ver cells =>
          obtain ⟨b, cur, ty, h3, h4, h5, h6, h7⟩ := he0
          refine ⟨b, cur, ty, h3, h4, hh b 0 trivial h3 h5, h6, h7.1, fun j A0 u hA hu => ?_⟩
          have hp := h7.2 j A0 u hA hu
          have hpc : cells.all A.plain = true := by rcases hpk with h | h; cases h; exact h
          exact ⟨RA_plain (fun b hb => .inl hb) (List.all_eq_true.1 hpc A0 (List.mem_of_getElem? hA)) hp.1, hp.2⟩
      · rw [hg k hk]; trivial
    · have lt : ∀ k, (ofM ext.length 1000 ext' [] k).live → k < ext.length := fun k hl2 => Decidable.byContradiction fun hk => by rw [hg k hk] at hl2; exact hl2
      have k1 := lt k h1
      have k2 := lt k' h2
      rw [hs k k1] at h1
      rw [hs k' k2] at h2
      exact p6.inj k k' b o o' h1 h2 h3 h4
  · rw [instV_zV]
    cases res with
    | «at» a => exact frozV1 (x := .at a) (fun b hb => .inl hb) p6.ent p7 he
    | ag cs => exact frozV1 (x := .ag cs) (fun b hb => .inl hb) p6.ent p7 he
    | tp xs =>
      obtain ⟨us, h1, h2, h3⟩ := p7
      obtain ⟨h4, h5⟩ := frozT (m2 := ofM ext.length 1000 ext' (freshes (zV (.tp xs)))) (fun b hb => Or.inl hb) p6.ent h2 h3 he
      exact ⟨us, h1, h4, h5⟩
theorem farA_im {s : Nat} {r : List (List Value)} : farA (.im s r) = true := rfl
attribute [go_sem] farA_im
end Go.Abs

namespace Go.Abs
open Go.RowKit Go.Proofs
set_option linter.unusedVariables false
set_option linter.unusedSimpArgs false
set_option maxRecDepth 100000
set_option maxHeartbeats 4000000

theorem cur_plainS {y : DCur} : ∀ e ∈ [Ent.box 0 y.ats], e.plain = true := by simp [Ent.plain, DCur.ats, A.plain]
/-! ### Where to go -/
noncomputable def to11 (s : DCur) (x : DLand) (p : DParty) : Int × DCur :=
  if (nearZ x p.at_).length = 0 then (belowV s 20, belowS s 20)
  else if onceV s 6 = true then (belowV (belowS s 6) 20, belowS (belowS s 6) 20)
  else ((nearZ x p.at_).getD (belowV (belowS s 6) (nearZ x p.at_).length).toNat 0, belowS (belowS s 6) (nearZ x p.at_).length)
theorem to11_0 {s : DCur} {x : DLand} {p : DParty} (h : (nearZ x p.at_).length = 0) : to11 s x p = (belowV s 20, belowS s 20) := if_pos h
theorem to11_1 {s : DCur} {x : DLand} {p : DParty} (h0 : ¬ (nearZ x p.at_).length = 0) (h : onceV s 6 = true) : to11 s x p = (belowV (belowS s 6) 20, belowS (belowS s 6) 20) := by rw [to11, if_neg h0, if_pos h]
theorem to11_2 {s : DCur} {x : DLand} {p : DParty} (h0 : ¬ (nearZ x p.at_).length = 0) (h : ¬ onceV s 6 = true) : to11 s x p = ((nearZ x p.at_).getD (belowV (belowS s 6) (nearZ x p.at_).length).toNat 0, belowS (belowS s 6) (nearZ x p.at_).length) := by rw [to11, if_neg h0, if_neg h]
theorem to11_ok {s : DCur} {x : DLand} {p : DParty} (h : s.Ok) : (0 ≤ (to11 s x p).1 ∧ (to11 s x p).1 ≤ 63) ∧ (to11 s x p).2.Ok := by
  by_cases h0 : (nearZ x p.at_).length = 0
  · rw [to11_0 h0]
    have hb := belowV_bnd s 20
    have hb2 := hb.2.1 (by omega)
    exact ⟨by simp only []; omega, belowS_ok h 20⟩
  by_cases h1 : onceV s 6 = true
  · rw [to11_1 h0 h1]
    have hb := belowV_bnd (belowS s 6) 20
    have hb2 := hb.2.1 (by omega)
    exact ⟨by simp only []; omega, belowS_ok (belowS_ok h 6) 20⟩
  · rw [to11_2 h0 h1]
    have hb := belowV_bnd (belowS s 6) (nearZ x p.at_).length
    have hb2 := hb.2.1 (by omega)
    refine ⟨?_, belowS_ok (belowS_ok h 6) _⟩
    have hi : (belowV (belowS s 6) (nearZ x p.at_).length).toNat < (nearZ x p.at_).length := by omega
    simp only []
    rw [List.getD_eq_getElem?_getD, List.getElem?_eq_getElem hi]
    have hm := List.getElem_mem hi
    simp only [Option.getD_some]
    generalize (nearZ x p.at_)[(belowV (belowS s 6) (nearZ x p.at_).length).toNat] = e at hm
    unfold nearZ at hm
    split at hm
    · rename_i hc
      have ho := DLand.near_open hc hm
      exact cell_bnd ho.1
    · cases hm
theorem spec_l11To (s : DCur) (x : DLand) (p : DParty) (h : s.Ok) (hx : x.cells.length ≤ 1048576) : SC Tryz.prog 78 [.at (.bx 0 0 0), .ag x.ats, .ag p.ats] [.box 0 s.ats] (.at (.v (.int .i64 ((to11 s x p).1)))) [.box 0 (to11 s x p).2.ats] := by
  refine SC.of_M mixed Tryz.func78 (by kernel_rfl) rfl Tryz.results78 _ Tryz.ntmps78 (by simp) (by simp) ?_
  simp -implicitDefEqProofs only [go_sem, invOf]
  refine callX [] ((spec_Near x p.at_ hx).frozen) (by simp -implicitDefEqProofs only [go_sem]) ?_
  simp -implicitDefEqProofs only [go_sem]
  have hnl := nearZ_len x p.at_
  refine ⟨fun h0 => ?_, fun h0 => ?_⟩
  · refine callXNB [0] [] (spec_l1Once s 6 h) (by decide) (by simp -implicitDefEqProofs only [go_sem]) (by simp -implicitDefEqProofs only [go_sem]) ?_
    simp -implicitDefEqProofs only [go_sem, invOf]
    have hb := belowV_bnd (belowS s 6) (nearZ x p.at_).length
    have hb2 := hb.2.1 (by omega)
    refine ⟨fun h1 => ?_, fun h1 => ?_⟩
    · rw [to11_1 (by omega) h1]
      refine callXNB [0] [] (spec_l1Below (belowS s 6) 20 (belowS_ok h 6)) (by decide) (by simp -implicitDefEqProofs only [go_sem]) (by simp -implicitDefEqProofs only [go_sem]) ?_
      simp -implicitDefEqProofs only [go_sem, invOf]
    · rw [to11_2 (by omega) (by rw [h1]; decide)]
      refine callXNB [0] [] (spec_l1Below (belowS s 6) (nearZ x p.at_).length (belowS_ok h 6)) (by decide) (by simp -implicitDefEqProofs only [go_sem]) (by simp -implicitDefEqProofs only [go_sem]) ?_
      simp -implicitDefEqProofs only [go_sem, invOf]
      refine ⟨by omega, fun c hc => ?_⟩
      rw [List.getD_eq_getElem?_getD, hc]; rfl
  · rw [to11_0 (by omega)]
    refine callXNB [0] [] (spec_l1Below s 20 h) (by decide) (by simp -implicitDefEqProofs only [go_sem]) (by simp -implicitDefEqProofs only [go_sem]) ?_
    simp -implicitDefEqProofs only [go_sem, invOf]
/-! ### One step -/
noncomputable def st34B (t : DTrek) (s : DCur) : Bool := decide (mayP t.rule t.party.past) && onceV s 3
noncomputable def st34S (t : DTrek) (s : DCur) : DCur := if mayP t.rule t.party.past then belowS s 3 else s
noncomputable def ev34 (t : DTrek) (s : DCur) : DEvent × DCur :=
  if belowV (st34S t s) 7 = 0 then (⟨5, 1 + belowV (belowS (st34S t s) 7) 9, false⟩, belowS (belowS (st34S t s) 7) 9)
  else if belowV (st34S t s) 7 = 1 then (⟨4, 0, st34B t s⟩, belowS (st34S t s) 7)
  else if belowV (st34S t s) 7 = 2 then (⟨3, 0, st34B t s⟩, belowS (st34S t s) 7)
  else (⟨2, (to11 (belowS (st34S t s) 7) t.land t.party).1, st34B t s⟩, (to11 (belowS (st34S t s) 7) t.land t.party).2)
theorem st34S_ok {t : DTrek} {s : DCur} (h : s.Ok) : (st34S t s).Ok := by
  unfold st34S; split
  · exact belowS_ok h 3
  · exact h
section
variable {t : DTrek} {s : DCur}
theorem ev34_0 (h : belowV (st34S t s) 7 = 0) : ev34 t s = (⟨5, 1 + belowV (belowS (st34S t s) 7) 9, false⟩, belowS (belowS (st34S t s) 7) 9) := if_pos h
theorem ev34_1 (h0 : ¬ belowV (st34S t s) 7 = 0) (h : belowV (st34S t s) 7 = 1) : ev34 t s = (⟨4, 0, st34B t s⟩, belowS (st34S t s) 7) := by rw [ev34, if_neg h0, if_pos h]
theorem ev34_2 (h0 : ¬ belowV (st34S t s) 7 = 0) (h1 : ¬ belowV (st34S t s) 7 = 1) (h : belowV (st34S t s) 7 = 2) : ev34 t s = (⟨3, 0, st34B t s⟩, belowS (st34S t s) 7) := by rw [ev34, if_neg h0, if_neg h1, if_pos h]
theorem ev34_3 (h0 : ¬ belowV (st34S t s) 7 = 0) (h1 : ¬ belowV (st34S t s) 7 = 1) (h : ¬ belowV (st34S t s) 7 = 2) : ev34 t s = (⟨2, (to11 (belowS (st34S t s) 7) t.land t.party).1, st34B t s⟩, (to11 (belowS (st34S t s) 7) t.land t.party).2) := by rw [ev34, if_neg h0, if_neg h1, if_neg h]
theorem ev34_ok (h : s.Ok) : I64 (ev34 t s).1.n ∧ (ev34 t s).2.Ok := by
  have hS := st34S_ok (t := t) h
  have hb := belowV_bnd (belowS (st34S t s) 7) 9
  have hb2 := hb.2.1 (by omega)
  have ht := to11_ok (x := t.land) (p := t.party) (belowS_ok hS 7)
  unfold ev34
  split
  · exact ⟨by unfold I64; simp only []; omega, belowS_ok (belowS_ok hS 7) 9⟩
  split
  · exact ⟨by unfold I64; simp, belowS_ok hS 7⟩
  split
  · exact ⟨by unfold I64; simp, belowS_ok hS 7⟩
  · exact ⟨by unfold I64; simp only []; omega, ht.2⟩
end
noncomputable def it34 : Nat → DTrek → DCur → DTrek × DCur
  | 0, t, s => (t, s)
  | n + 1, t, s => it34 n (applyZ t (ev34 t s).1) (ev34 t s).2
noncomputable def a34 (s : DCur) : DTrek := giveZ (start33 s).1 (roomZ (start33 s).1.party)
noncomputable def n34 (s : DCur) : Nat := (belowV (start33 s).2 9).toNat
noncomputable def draw34 (s : DCur) : DTrek × DCur := it34 (n34 s) (a34 s) (belowS (start33 s).2 9)
theorem Small.sane {t : DTrek} (h : Small t) : t.Sane := ⟨h.fit, h.at_, h.food⟩
theorem giveZ_sane {t : DTrek} {n : Int} (h : t.Sane) : (giveZ t n).Sane := by
  unfold giveZ; split
  · exact ⟨giveT_fit h.fit, h.at_, I64_wrap _⟩
  · exact h
theorem it34_ok : ∀ (n : Nat) (t : DTrek) (s : DCur), t.Sane → s.Ok → (it34 n t s).1.Sane ∧ (it34 n t s).2.Ok := by
  intro n
  induction n with
  | zero => intro t s h1 h2; exact ⟨h1, h2⟩
  | succ n ih => intro t s h1 h2; exact ih _ _ (applyZ_sane h1 (ev34_ok h2).1) (ev34_ok h2).2
theorem n34_ok (s : DCur) : ((n34 s : Nat) : Int) = belowV (start33 s).2 9 ∧ n34 s ≤ 8 := by
  have hb := belowV_bnd (start33 s).2 9
  have hb2 := hb.2.1 (by omega)
  unfold n34; omega
theorem draw34_ok {s : DCur} (h : s.Ok) : (draw34 s).1.Sane ∧ (draw34 s).2.Ok := by
  have h1 := start33_ok h
  exact it34_ok _ _ _ (giveZ_sane h1.1.sane) (belowS_ok h1.2 9)
theorem spec_l34Draw (s : DCur) (h : s.Ok) : SC Tryz.prog 69 [.at (.bx 0 0 0)] [.box 0 s.ats] (.ag (draw34 s).1.ats) [.box 0 (draw34 s).2.ats] := by
  have h1 := start33_ok h
  have hn := n34_ok s
  refine SC.of_M mixed Tryz.func69 (by kernel_rfl) rfl Tryz.results69 _ Tryz.ntmps69 (by simp) (by simp) ?_
  simp -implicitDefEqProofs only [go_sem, invOf]
  refine callXNB [0] [] ((spec_l33Start s h).frozenX (by simp) cur_plainS) (by decide) (by simp -implicitDefEqProofs only [go_sem]) (by simp -implicitDefEqProofs only [go_sem]) ?_
  simp -implicitDefEqProofs only [go_sem, invOf]
  refine ⟨some [], by decide +kernel, ?_⟩
  simp -implicitDefEqProofs only [go_sem]
  refine callXQ [] (spec_RoomFor (start33 s).1.party h1.1.fit.crew) (by simp -implicitDefEqProofs only [go_sem]) ?_
  simp -implicitDefEqProofs only [go_sem]
  refine callXQ [] ((spec_StepGive (start33 s).1 (roomZ (start33 s).1.party) h1.1.fit).frozen) (by simp -implicitDefEqProofs only [go_sem]) ?_
  simp -implicitDefEqProofs only [go_sem]
  rw [show giveZ (start33 s).1 (roomZ (start33 s).1.party) = a34 s from rfl]
  refine callXNB [0] [] (spec_l1Below (start33 s).2 9 h1.2) (by decide) (by simp -implicitDefEqProofs only [go_sem]) (by simp -implicitDefEqProofs only [go_sem]) ?_
  simp -implicitDefEqProofs only [go_sem, invOf]
  rw [← hn.1]
  have hd := draw34_ok h
  unfold draw34
  generalize hA : it34 (n34 s) (a34 s) (belowS (start33 s).2 9) = A
  refine T.loopN mixed (show 1 ≤ 100 by decide) [0, 2, 3, 4] (fun mm vs ex es => ∃ (y : DCur) (t : DTrek) (i : Nat), vs = [.at (.bx 0 0 0), .at (.bx 100 0 0), .at (.bx 101 0 0), .at (.v (.int .i64 (i : Nat)))] ∧ ex = [.box 0 y.ats] ∧ es = [.box 0 zeroT, .box 0 t.ats] ∧ mm = i ∧ i ≤ 8 ∧ y.Ok ∧ t.Sane ∧ it34 i t y = A) (n34 s) ?_ ?_
  · simp -implicitDefEqProofs only [go_sem, invOf]
    exact ⟨belowS (start33 s).2 9, a34 s, n34 s, rfl, rfl, rfl, rfl, hn.2, belowS_ok h1.2 9, giveZ_sane h1.1.sane, hA⟩
  rintro q _ _ _ ⟨y, t, i, rfl, rfl, rfl, rfl, hi8, hy, ht, hA2⟩ -
  simp -implicitDefEqProofs only [go_sem, invOf]
  refine ⟨fun hi => ?_, fun hi => ?_⟩
  · obtain ⟨k, rfl⟩ : ∃ k, q = k + 1 := ⟨q - 1, by omega⟩
    rw [it34] at hA2
    have hE := applyZ_sane ht (ev34_ok (t := t) hy).1
    refine callX [] (spec_MayStorm t.rule t.party.past ht.fit.past) (by simp -implicitDefEqProofs only [go_sem]) ?_
    simp -implicitDefEqProofs only [go_sem]
    refine ⟨fun hm => ?_, fun hm => ?_⟩
    · refine callXNB [0] [] (spec_l1Once y 3 hy) (by decide) (by simp -implicitDefEqProofs only [go_sem]) (by simp -implicitDefEqProofs only [go_sem]) ?_
      simp -implicitDefEqProofs only [go_sem, invOf]
      have eS : st34S t y = belowS y 3 := if_pos hm
      have eB : st34B t y = onceV y 3 := by unfold st34B; rw [decide_eq_true hm, Bool.true_and]
      have hS : (belowS y 3).Ok := belowS_ok hy 3
      refine callXNB [0] [] (spec_l1Below (belowS y 3) 7 hS) (by decide) (by simp -implicitDefEqProofs only [go_sem]) (by simp -implicitDefEqProofs only [go_sem]) ?_
      simp -implicitDefEqProofs only [go_sem, invOf]
      have h7 : (belowS (belowS y 3) 7).Ok := belowS_ok hS 7
      have v9 := belowV_bnd (belowS (belowS y 3) 7) 9
      have v9b := v9.2.1 (by omega)
      have vt := to11_ok (x := t.land) (p := t.party) h7
      refine ⟨fun k0 => ?_, fun k0 => ⟨fun k1 => ?_, fun k1 => ⟨fun k2 => ?_, fun k2 => ?_⟩⟩⟩
      · skip
        have ee : ev34 t y = (⟨5, 1 + belowV (belowS (belowS y 3) 7) 9, false⟩, belowS (belowS (belowS y 3) 7) 9) := by rw [ev34_0 (by rw [eS]; exact k0), eS]
        rw [ee] at hA2 hE
        rw [(apply_5 rfl).1] at hA2 hE
        refine ⟨some [999999, 0], by decide +kernel, ?_⟩
        simp -implicitDefEqProofs only [go_sem, invOf]
        refine callXNQ [0] [] (by decide) (spec_l1Below (belowS (belowS y 3) 7) 9 h7) (by decide) (by simp -implicitDefEqProofs only [go_sem]) (by simp -implicitDefEqProofs only [go_sem]) ?_
        simp -implicitDefEqProofs only [go_sem, invOf]
        rw [wrap64 (x := 1 + belowV (belowS (belowS y 3) 7) 9) (by omega) (by omega)]
        refine callXQ [] ((spec_StepLay t (1 + belowV (belowS (belowS y 3) 7) 9) ht.fit).frozen) (by simp -implicitDefEqProofs only [go_sem]) ?_
        simp -implicitDefEqProofs only [go_sem]
        simp -implicitDefEqProofs only [go_sem, invOf]
        exact ⟨k, by omega, belowS (belowS (belowS y 3) 7) 9, _, k, wrapH (by omega) (by omega) (by omega), rfl, rfl, rfl, by omega, belowS_ok h7 9, hE, hA2⟩
      · skip
        have ee : ev34 t y = (⟨4, 0, (onceV y 3)⟩, (belowS (belowS y 3) 7)) := by rw [ev34_1 (by rw [eS]; exact k0) (by rw [eS]; exact k1), eS, eB]
        rw [ee] at hA2 hE
        rw [(apply_4 rfl).1] at hA2 hE
        refine callX [] ((spec_StepHome t (onceV y 3) ht).frozen) (by simp -implicitDefEqProofs only [go_sem]) ?_
        simp -implicitDefEqProofs only [go_sem]
        simp -implicitDefEqProofs only [go_sem, invOf]
        exact ⟨k, by omega, (belowS (belowS y 3) 7), _, k, wrapH (by omega) (by omega) (by omega), rfl, rfl, rfl, by omega, h7, hE, hA2⟩
      · skip
        have ee : ev34 t y = (⟨3, 0, (onceV y 3)⟩, (belowS (belowS y 3) 7)) := by rw [ev34_2 (by rw [eS]; exact k0) (by rw [eS]; exact k1) (by rw [eS]; exact k2), eS, eB]
        rw [ee] at hA2 hE
        rw [(apply_3 rfl).1] at hA2 hE
        refine callX [] ((spec_StepWait t (onceV y 3) ht).frozen) (by simp -implicitDefEqProofs only [go_sem]) ?_
        simp -implicitDefEqProofs only [go_sem]
        simp -implicitDefEqProofs only [go_sem, invOf]
        exact ⟨k, by omega, (belowS (belowS y 3) 7), _, k, wrapH (by omega) (by omega) (by omega), rfl, rfl, rfl, by omega, h7, hE, hA2⟩
      · skip
        have ee : ev34 t y = (⟨2, (to11 (belowS (belowS y 3) 7) t.land t.party).1, (onceV y 3)⟩, (to11 (belowS (belowS y 3) 7) t.land t.party).2) := by rw [ev34_3 (by rw [eS]; exact k0) (by rw [eS]; exact k1) (by rw [eS]; exact k2), eS, eB]
        rw [ee] at hA2 hE
        rw [(apply_2 rfl).1] at hA2 hE
        refine ⟨some [999999, 0], by decide +kernel, ?_⟩
        simp -implicitDefEqProofs only [go_sem, invOf]
        refine callXNQ [0] [] (by decide) (spec_l11To (belowS (belowS y 3) 7) t.land t.party h7 ht.fit.cells) (by decide) (by simp -implicitDefEqProofs only [go_sem]) (by simp -implicitDefEqProofs only [go_sem]) ?_
        simp -implicitDefEqProofs only [go_sem, invOf]
        refine callXQ [] ((spec_StepGo t (to11 (belowS (belowS y 3) 7) t.land t.party).1 (onceV y 3) ht (by unfold I64; omega)).frozen) (by simp -implicitDefEqProofs only [go_sem]) ?_
        simp -implicitDefEqProofs only [go_sem]
        simp -implicitDefEqProofs only [go_sem, invOf]
        exact ⟨k, by omega, (to11 (belowS (belowS y 3) 7) t.land t.party).2, _, k, wrapH (by omega) (by omega) (by omega), rfl, rfl, rfl, by omega, vt.2, hE, hA2⟩
    · have eS : st34S t y = y := if_neg hm
      have eB : st34B t y = false := by unfold st34B; rw [decide_eq_false hm, Bool.false_and]
      have hS : y.Ok := hy
      refine callXNB [0] [] (spec_l1Below y 7 hS) (by decide) (by simp -implicitDefEqProofs only [go_sem]) (by simp -implicitDefEqProofs only [go_sem]) ?_
      simp -implicitDefEqProofs only [go_sem, invOf]
      have h7 : (belowS y 7).Ok := belowS_ok hS 7
      have v9 := belowV_bnd (belowS y 7) 9
      have v9b := v9.2.1 (by omega)
      have vt := to11_ok (x := t.land) (p := t.party) h7
      refine ⟨fun k0 => ?_, fun k0 => ⟨fun k1 => ?_, fun k1 => ⟨fun k2 => ?_, fun k2 => ?_⟩⟩⟩
      · skip
        have ee : ev34 t y = (⟨5, 1 + belowV (belowS y 7) 9, false⟩, belowS (belowS y 7) 9) := by rw [ev34_0 (by rw [eS]; exact k0), eS]
        rw [ee] at hA2 hE
        rw [(apply_5 rfl).1] at hA2 hE
        refine ⟨some [999999, 0], by decide +kernel, ?_⟩
        simp -implicitDefEqProofs only [go_sem, invOf]
        refine callXNQ [0] [] (by decide) (spec_l1Below (belowS y 7) 9 h7) (by decide) (by simp -implicitDefEqProofs only [go_sem]) (by simp -implicitDefEqProofs only [go_sem]) ?_
        simp -implicitDefEqProofs only [go_sem, invOf]
        rw [wrap64 (x := 1 + belowV (belowS y 7) 9) (by omega) (by omega)]
        refine callXQ [] ((spec_StepLay t (1 + belowV (belowS y 7) 9) ht.fit).frozen) (by simp -implicitDefEqProofs only [go_sem]) ?_
        simp -implicitDefEqProofs only [go_sem]
        simp -implicitDefEqProofs only [go_sem, invOf]
        exact ⟨k, by omega, belowS (belowS y 7) 9, _, k, wrapH (by omega) (by omega) (by omega), rfl, rfl, rfl, by omega, belowS_ok h7 9, hE, hA2⟩
      · skip
        have ee : ev34 t y = (⟨4, 0, false⟩, (belowS y 7)) := by rw [ev34_1 (by rw [eS]; exact k0) (by rw [eS]; exact k1), eS, eB]
        rw [ee] at hA2 hE
        rw [(apply_4 rfl).1] at hA2 hE
        refine callX [] ((spec_StepHome t false ht).frozen) (by simp -implicitDefEqProofs only [go_sem]) ?_
        simp -implicitDefEqProofs only [go_sem]
        simp -implicitDefEqProofs only [go_sem, invOf]
        exact ⟨k, by omega, (belowS y 7), _, k, wrapH (by omega) (by omega) (by omega), rfl, rfl, rfl, by omega, h7, hE, hA2⟩
      · skip
        have ee : ev34 t y = (⟨3, 0, false⟩, (belowS y 7)) := by rw [ev34_2 (by rw [eS]; exact k0) (by rw [eS]; exact k1) (by rw [eS]; exact k2), eS, eB]
        rw [ee] at hA2 hE
        rw [(apply_3 rfl).1] at hA2 hE
        refine callX [] ((spec_StepWait t false ht).frozen) (by simp -implicitDefEqProofs only [go_sem]) ?_
        simp -implicitDefEqProofs only [go_sem]
        simp -implicitDefEqProofs only [go_sem, invOf]
        exact ⟨k, by omega, (belowS y 7), _, k, wrapH (by omega) (by omega) (by omega), rfl, rfl, rfl, by omega, h7, hE, hA2⟩
      · skip
        have ee : ev34 t y = (⟨2, (to11 (belowS y 7) t.land t.party).1, false⟩, (to11 (belowS y 7) t.land t.party).2) := by rw [ev34_3 (by rw [eS]; exact k0) (by rw [eS]; exact k1) (by rw [eS]; exact k2), eS, eB]
        rw [ee] at hA2 hE
        rw [(apply_2 rfl).1] at hA2 hE
        refine ⟨some [999999, 0], by decide +kernel, ?_⟩
        simp -implicitDefEqProofs only [go_sem, invOf]
        refine callXNQ [0] [] (by decide) (spec_l11To (belowS y 7) t.land t.party h7 ht.fit.cells) (by decide) (by simp -implicitDefEqProofs only [go_sem]) (by simp -implicitDefEqProofs only [go_sem]) ?_
        simp -implicitDefEqProofs only [go_sem, invOf]
        refine callXQ [] ((spec_StepGo t (to11 (belowS y 7) t.land t.party).1 false ht (by unfold I64; omega)).frozen) (by simp -implicitDefEqProofs only [go_sem]) ?_
        simp -implicitDefEqProofs only [go_sem]
        simp -implicitDefEqProofs only [go_sem, invOf]
        exact ⟨k, by omega, (to11 (belowS y 7) t.land t.party).2, _, k, wrapH (by omega) (by omega) (by omega), rfl, rfl, rfl, by omega, vt.2, hE, hA2⟩
  · obtain rfl : q = 0 := by omega
    rw [it34] at hA2
    subst hA2
    simp -implicitDefEqProofs only [go_sem, invOf]
/-! ### The laws' draws -/
noncomputable def d34 (code : List Int) : DTrek × DCur := draw34 (newCur code)
theorem d34_ok {code : List Int} (h : code.length ≤ 1099511627776) : (d34 code).1.Sane ∧ (d34 code).2.Ok := draw34_ok (newCur_ok h)
noncomputable def sg (code : List Int) : DTrek × DCur :=
  if onceV (d34 code).2 2 = true then start33 (belowS (d34 code).2 2) else ((d34 code).1, belowS (d34 code).2 2)
theorem sg_1 {code : List Int} (h : onceV (d34 code).2 2 = true) : sg code = start33 (belowS (d34 code).2 2) := if_pos h
theorem sg_0 {code : List Int} (h : onceV (d34 code).2 2 = false) : sg code = ((d34 code).1, belowS (d34 code).2 2) := if_neg (by rw [h]; decide)
theorem sg_ok {code : List Int} (h : code.length ≤ 1099511627776) : (sg code).1.Sane ∧ (sg code).2.Ok := by
  have h1 := d34_ok h
  have h2 : (belowS (d34 code).2 2).Ok := belowS_ok h1.2 2
  unfold sg
  split
  · exact ⟨(start33_ok h2).1.sane, (start33_ok h2).2⟩
  · exact ⟨h1.1, h2⟩
noncomputable def sgN (code : List Int) : Int := intV (sg code).2 [1, 5, roomZ (sg code).1.party, IntKind.i64.wrap (roomZ (sg code).1.party + 1), 0]
theorem spec_DrawStepGive (code : List Int) (hl : code.length ≤ 1099511627776) : SC Tryz.prog 10 [.at (.im 1 (code.map byteRow))] [] (.tp [.ag (sg code).1.ats, .at (.v (.int .i64 (sgN code)))]) [] := by
  have h1 := d34_ok hl
  have h2 := sg_ok hl
  have h3 : (belowS (d34 code).2 2).Ok := belowS_ok h1.2 2
  refine SC.of_W mixed Tryz.func10 (by kernel_rfl) rfl Tryz.results10 _ Tryz.ntmps10 (by simp) ?_
  simp -implicitDefEqProofs only [go_sem]
  refine callX [] (spec_l1New code hl) (by simp -implicitDefEqProofs only [go_sem]) ?_
  simp -implicitDefEqProofs only [go_sem]
  refine callXNB [1112] [] (spec_l34Draw (newCur code) (newCur_ok hl)) (by decide) (by simp -implicitDefEqProofs only [go_sem]) (by simp -implicitDefEqProofs only [go_sem]) ?_
  simp -implicitDefEqProofs only [go_sem]
  rw [show draw34 (newCur code) = d34 code from rfl]
  refine callXNB [1112] [] (spec_l1Once (d34 code).2 2 h1.2) (by decide) (by simp -implicitDefEqProofs only [go_sem]) (by simp -implicitDefEqProofs only [go_sem]) ?_
  simp -implicitDefEqProofs only [go_sem]
  refine ⟨fun k => ?_, fun k => ?_⟩
  · refine callXNB [1112] [] ((spec_l33Start (belowS (d34 code).2 2) h3).frozenX (by simp) cur_plainS) (by decide) (by simp -implicitDefEqProofs only [go_sem]) (by simp -implicitDefEqProofs only [go_sem]) ?_
    simp -implicitDefEqProofs only [go_sem]
    rw [← sg_1 k]
    refine ⟨some [999999, 1112], by decide +kernel, ?_⟩
    simp -implicitDefEqProofs only [go_sem]
    refine callXQ [] (spec_RoomFor (sg code).1.party h2.1.fit.crew) (by simp -implicitDefEqProofs only [go_sem]) ?_
    simp -implicitDefEqProofs only [go_sem]
    refine callXQ [] (spec_RoomFor (sg code).1.party h2.1.fit.crew) (by simp -implicitDefEqProofs only [go_sem]) ?_
    simp -implicitDefEqProofs only [go_sem]
    refine callXNQ [1112] [1368] (by decide) (spec_l1Int (sg code).2 [1, 5, roomZ (sg code).1.party, IntKind.i64.wrap (roomZ (sg code).1.party + 1), 0] h2.2 (by simp) (by simp)) (by decide) (by simp -implicitDefEqProofs only [go_sem]) (by simp -implicitDefEqProofs only [go_sem]) ?_
    simp -implicitDefEqProofs only [go_sem]
    rfl
  · have e := sg_0 k
    rw [show (d34 code).1 = (sg code).1 by rw [e], show belowS (d34 code).2 2 = (sg code).2 by rw [e]]
    refine ⟨some [999999, 1112], by decide +kernel, ?_⟩
    simp -implicitDefEqProofs only [go_sem]
    refine callXQ [] (spec_RoomFor (sg code).1.party h2.1.fit.crew) (by simp -implicitDefEqProofs only [go_sem]) ?_
    simp -implicitDefEqProofs only [go_sem]
    refine callXQ [] (spec_RoomFor (sg code).1.party h2.1.fit.crew) (by simp -implicitDefEqProofs only [go_sem]) ?_
    simp -implicitDefEqProofs only [go_sem]
    refine callXNQ [1112] [1368] (by decide) (spec_l1Int (sg code).2 [1, 5, roomZ (sg code).1.party, IntKind.i64.wrap (roomZ (sg code).1.party + 1), 0] h2.2 (by simp) (by simp)) (by decide) (by simp -implicitDefEqProofs only [go_sem]) (by simp -implicitDefEqProofs only [go_sem]) ?_
    simp -implicitDefEqProofs only [go_sem]
    rfl
noncomputable def so (code : List Int) : Int × DCur := to11 (d34 code).2 (d34 code).1.land (d34 code).1.party
theorem so_ok {code : List Int} (h : code.length ≤ 1099511627776) : I64 (so code).1 ∧ (so code).2.Ok := by
  have := to11_ok (x := (d34 code).1.land) (p := (d34 code).1.party) (d34_ok h).2
  exact ⟨by unfold I64 so; omega, this.2⟩
theorem spec_DrawStepGo (code : List Int) (hl : code.length ≤ 1099511627776) : SC Tryz.prog 12 [.at (.im 1 (code.map byteRow))] [] (.tp [.ag (d34 code).1.ats, .at (.v (.int .i64 ((so code).1))), .at (.v (.bool (onceV (so code).2 3)))]) [] := by
  have h1 := d34_ok hl
  have h2 := so_ok hl
  refine SC.of_W mixed Tryz.func12 (by kernel_rfl) rfl Tryz.results12 _ Tryz.ntmps12 (by simp) ?_
  simp -implicitDefEqProofs only [go_sem]
  refine callX [] (spec_l1New code hl) (by simp -implicitDefEqProofs only [go_sem]) ?_
  simp -implicitDefEqProofs only [go_sem]
  refine callXNB [1144] [] (spec_l34Draw (newCur code) (newCur_ok hl)) (by decide) (by simp -implicitDefEqProofs only [go_sem]) (by simp -implicitDefEqProofs only [go_sem]) ?_
  simp -implicitDefEqProofs only [go_sem]
  rw [show draw34 (newCur code) = d34 code from rfl]
  refine callXNB [1144] [] (spec_l11To (d34 code).2 (d34 code).1.land (d34 code).1.party h1.2 h1.1.fit.cells) (by decide) (by simp -implicitDefEqProofs only [go_sem]) (by simp -implicitDefEqProofs only [go_sem]) ?_
  simp -implicitDefEqProofs only [go_sem]
  rw [show to11 (d34 code).2 (d34 code).1.land (d34 code).1.party = so code from rfl]
  refine ⟨some [999999, 1144], by decide +kernel, ?_⟩
  simp -implicitDefEqProofs only [go_sem]
  refine callXNQ [1144] [] (by decide) (spec_l1Once (so code).2 3 h2.2) (by decide) (by simp -implicitDefEqProofs only [go_sem]) (by simp -implicitDefEqProofs only [go_sem]) ?_
  simp -implicitDefEqProofs only [go_sem]
theorem spec_DrawStepWait (code : List Int) (hl : code.length ≤ 1099511627776) : SC Tryz.prog 14 [.at (.im 1 (code.map byteRow))] [] (.tp [.ag (d34 code).1.ats, .at (.v (.bool (onceV (d34 code).2 3)))]) [] := by
  have h1 := d34_ok hl
  refine SC.of_W mixed Tryz.func14 (by kernel_rfl) rfl Tryz.results14 _ Tryz.ntmps14 (by simp) ?_
  simp -implicitDefEqProofs only [go_sem]
  refine callX [] (spec_l1New code hl) (by simp -implicitDefEqProofs only [go_sem]) ?_
  simp -implicitDefEqProofs only [go_sem]
  refine callXNB [1112] [] (spec_l34Draw (newCur code) (newCur_ok hl)) (by decide) (by simp -implicitDefEqProofs only [go_sem]) (by simp -implicitDefEqProofs only [go_sem]) ?_
  simp -implicitDefEqProofs only [go_sem]
  rw [show draw34 (newCur code) = d34 code from rfl]
  refine ⟨some [999999, 1112], by decide +kernel, ?_⟩
  simp -implicitDefEqProofs only [go_sem]
  refine callXNQ [1112] [] (by decide) (spec_l1Once (d34 code).2 3 h1.2) (by decide) (by simp -implicitDefEqProofs only [go_sem]) (by simp -implicitDefEqProofs only [go_sem]) ?_
  simp -implicitDefEqProofs only [go_sem]
noncomputable def slN (code : List Int) : Int := intV (d34 code).2 [1, 3, 9, (d34 code).1.party.food, IntKind.i64.wrap ((d34 code).1.party.food + 1), 0]
theorem spec_DrawStepLay (code : List Int) (hl : code.length ≤ 1099511627776) : SC Tryz.prog 17 [.at (.im 1 (code.map byteRow))] [] (.tp [.ag (d34 code).1.ats, .at (.v (.int .i64 (slN code)))]) [] := by
  have h1 := d34_ok hl
  refine SC.of_W mixed Tryz.func17 (by kernel_rfl) rfl Tryz.results17 _ Tryz.ntmps17 (by simp) ?_
  simp -implicitDefEqProofs only [go_sem]
  refine callX [] (spec_l1New code hl) (by simp -implicitDefEqProofs only [go_sem]) ?_
  simp -implicitDefEqProofs only [go_sem]
  refine callXNB [1112] [] (spec_l34Draw (newCur code) (newCur_ok hl)) (by decide) (by simp -implicitDefEqProofs only [go_sem]) (by simp -implicitDefEqProofs only [go_sem]) ?_
  simp -implicitDefEqProofs only [go_sem]
  rw [show draw34 (newCur code) = d34 code from rfl]
  refine ⟨some [999999, 1112], by decide +kernel, ?_⟩
  simp -implicitDefEqProofs only [go_sem]
  refine callXNQ [1112] [1304] (by decide) (spec_l1Int (d34 code).2 [1, 3, 9, (d34 code).1.party.food, IntKind.i64.wrap ((d34 code).1.party.food + 1), 0] h1.2 (by simp) (by simp)) (by decide) (by simp -implicitDefEqProofs only [go_sem]) (by simp -implicitDefEqProofs only [go_sem]) ?_
  simp -implicitDefEqProofs only [go_sem]
  rfl
noncomputable def stN (code : List Int) : Int := intV (d34 code).2 [1, 3, foodAt (d34 code).1.party.at_ (d34 code).1.depots, roomZ (d34 code).1.party, 0]
theorem spec_DrawStepTake (code : List Int) (hl : code.length ≤ 1099511627776) : SC Tryz.prog 19 [.at (.im 1 (code.map byteRow))] [] (.tp [.ag (d34 code).1.ats, .at (.v (.int .i64 (stN code)))]) [] := by
  have h1 := d34_ok hl
  refine SC.of_W mixed Tryz.func19 (by kernel_rfl) rfl Tryz.results19 _ Tryz.ntmps19 (by simp) ?_
  simp -implicitDefEqProofs only [go_sem]
  refine callX [] (spec_l1New code hl) (by simp -implicitDefEqProofs only [go_sem]) ?_
  simp -implicitDefEqProofs only [go_sem]
  refine callXNB [1112] [] (spec_l34Draw (newCur code) (newCur_ok hl)) (by decide) (by simp -implicitDefEqProofs only [go_sem]) (by simp -implicitDefEqProofs only [go_sem]) ?_
  simp -implicitDefEqProofs only [go_sem]
  rw [show draw34 (newCur code) = d34 code from rfl]
  refine ⟨some [999999, 1112], by decide +kernel, ?_⟩
  simp -implicitDefEqProofs only [go_sem]
  refine callXQ [] (spec_FoodAt (d34 code).1.depots (d34 code).1.party.at_ h1.1.fit.depots) (by simp -implicitDefEqProofs only [go_sem]) ?_
  simp -implicitDefEqProofs only [go_sem]
  refine callXQ [] (spec_RoomFor (d34 code).1.party h1.1.fit.crew) (by simp -implicitDefEqProofs only [go_sem]) ?_
  simp -implicitDefEqProofs only [go_sem]
  refine callXNQ [1112] [1336] (by decide) (spec_l1Int (d34 code).2 [1, 3, foodAt (d34 code).1.party.at_ (d34 code).1.depots, roomZ (d34 code).1.party, 0] h1.2 (by simp) (by simp)) (by decide) (by simp -implicitDefEqProofs only [go_sem]) (by simp -implicitDefEqProofs only [go_sem]) ?_
  simp -implicitDefEqProofs only [go_sem]
  rfl
end Go.Abs

namespace Go.Abs
open Go.RowKit Go.Proofs
set_option linter.unusedVariables false
set_option linter.unusedSimpArgs false
set_option maxRecDepth 100000
set_option maxHeartbeats 4000000

/-! ### One event -/
def kinds35 : List Int := [1, 2, 2, 2, 2, 3, 4, 5, 5, 6]
def one35K (s : DCur) : Int := intV s [1, 2, 2, 2, 2, 3, 4, 5, 5, 6]
def one35a (s : DCur) : DCur := intC s [1, 2, 2, 2, 2, 3, 4, 5, 5, 6]
def one35N (s : DCur) : Int := 1 + belowV (one35a s) 12
def one35b (s : DCur) : DCur := belowS (one35a s) 12
def one35 (s : DCur) (n : Int) : DEvent × DCur :=
  if one35K s = 2 then (⟨one35K s, belowV (belowS (one35b s) 4) n, onceV (one35b s) 4⟩, belowS (belowS (one35b s) 4) n)
  else (⟨one35K s, one35N s, onceV (one35b s) 4⟩, belowS (one35b s) 4)
theorem one35_2 {s : DCur} {n : Int} (h : one35K s = 2) : one35 s n = (⟨one35K s, belowV (belowS (one35b s) 4) n, onceV (one35b s) 4⟩, belowS (belowS (one35b s) 4) n) := if_pos h
theorem one35_0 {s : DCur} {n : Int} (h : ¬ one35K s = 2) : one35 s n = (⟨one35K s, one35N s, onceV (one35b s) 4⟩, belowS (one35b s) 4) := if_neg h
def EvOk (e : DEvent) : Prop := 0 ≤ e.kind ∧ e.kind ≤ 8 ∧ 0 ≤ e.n ∧ e.n ≤ 1048576
theorem EvOk.i64 {e : DEvent} (h : EvOk e) : I64 e.n := by
  have := h.2.2; unfold I64; omega
theorem one35_ok {s : DCur} {n : Int} (h : s.Ok) (hn : n ≤ 1048576) : (EvOk (one35 s n).1 ∧ 1 ≤ (one35 s n).1.kind ∧ (one35 s n).1.kind ≤ 6 ∧ ((one35 s n).1.kind = 1 → (one35 s n).1.n ≤ 12)) ∧ (one35 s n).2.Ok := by
  have hk : 1 ≤ one35K s ∧ one35K s ≤ 6 := by
    have := intV_mem s (l := [1, 2, 2, 2, 2, 3, 4, 5, 5, 6]) (by simp)
    simp only [List.mem_cons, List.not_mem_nil, or_false] at this
    unfold one35K; omega
  have ha : (one35a s).Ok := intC_ok h _
  have hb : (one35b s).Ok := belowS_ok ha 12
  have h1 := belowV_bnd (one35a s) 12
  have h1b := h1.2.1 (by omega)
  have h2 := belowV_bnd (belowS (one35b s) 4) n
  by_cases k : one35K s = 2
  · rw [one35_2 k]
    refine ⟨⟨⟨by simp only []; omega, by simp only []; omega, ?_, ?_⟩, by simp only []; omega, by simp only []; omega, fun e => ?_⟩, belowS_ok (belowS_ok hb 4) n⟩
    · simp only []; omega
    · simp only []
      by_cases hn0 : 0 < n
      · have := h2.2.1 hn0; omega
      · have := h2.2.2; omega
    · simp only [] at e; omega
  · rw [one35_0 k]
    unfold one35N
    exact ⟨⟨⟨by simp only []; omega, by simp only []; omega, by simp only []; omega, by simp only []; omega⟩, by simp only []; omega, by simp only []; omega, fun _ => by simp only []; omega⟩, belowS_ok hb 4⟩
theorem spec_l35One (s : DCur) (x : DLand) (h : s.Ok) (hx : x.cells.length ≤ 1048576) : SC Tryz.prog 97 [.at (.bx 0 0 0), .ag x.ats] [.box 0 s.ats] (.ag (one35 s x.cells.length).1.ats) [.box 0 (one35 s x.cells.length).2.ats] := by
  have ha : (one35a s).Ok := intC_ok h _
  have hb : (one35b s).Ok := belowS_ok ha 12
  have h1 := belowV_bnd (one35a s) 12
  have h1b := h1.2.1 (by omega)
  refine SC.of_M mixed Tryz.func97 (by kernel_rfl) rfl Tryz.results97 _ Tryz.ntmps97 (by simp) (by simp) ?_
  simp -implicitDefEqProofs only [go_sem, invOf]
  refine callXNB [0] [1112] (spec_l1Int s [1, 2, 2, 2, 2, 3, 4, 5, 5, 6] h (by simp) (by simp)) (by decide) (by simp -implicitDefEqProofs only [go_sem]) (by simp -implicitDefEqProofs only [go_sem]) ?_
  simp -implicitDefEqProofs only [go_sem, invOf]
  rw [show intV s [1, 2, 2, 2, 2, 3, 4, 5, 5, 6] = one35K s from rfl, show intC s [1, 2, 2, 2, 2, 3, 4, 5, 5, 6] = one35a s from rfl]
  refine callXNB [0] [] (spec_l1Below (one35a s) 12 ha) (by decide) (by simp -implicitDefEqProofs only [go_sem]) (by simp -implicitDefEqProofs only [go_sem]) ?_
  simp -implicitDefEqProofs only [go_sem, invOf]
  rw [show belowS (one35a s) 12 = one35b s from rfl]
  refine callXNB [0] [] (spec_l1Once (one35b s) 4 hb) (by decide) (by simp -implicitDefEqProofs only [go_sem]) (by simp -implicitDefEqProofs only [go_sem]) ?_
  simp -implicitDefEqProofs only [go_sem, invOf]
  rw [wrap64 (x := 1 + belowV (one35a s) 12) (by omega) (by omega), show 1 + belowV (one35a s) 12 = one35N s from rfl]
  refine ⟨fun k => ?_, fun k => ?_⟩
  · rw [one35_2 k]
    refine callXNB [0] [] (spec_l1Below (belowS (one35b s) 4) x.cells.length (belowS_ok hb 4)) (by decide) (by simp -implicitDefEqProofs only [go_sem]) (by simp -implicitDefEqProofs only [go_sem]) ?_
    simp -implicitDefEqProofs only [go_sem, invOf]
    skip
  · rw [one35_0 k]
    simp -implicitDefEqProofs only [go_sem, invOf]
    skip
/-! ### Some events -/
def it35 : Nat → DCur → Int → List DEvent → List DEvent × DCur
  | 0, s, _, l => (l, s)
  | k + 1, s, n, l => it35 k (one35 s n).2 n (l ++ [(one35 s n).1])
def EvFine (e : DEvent) : Prop := EvOk e ∧ 1 ≤ e.kind ∧ e.kind ≤ 6 ∧ (e.kind = 1 → e.n ≤ 12)
theorem it35_ok : ∀ (k : Nat) (s : DCur) (n : Int) (l : List DEvent), s.Ok → n ≤ 1048576 → (∀ e ∈ l, EvFine e) → (it35 k s n l).2.Ok ∧ (∀ e ∈ (it35 k s n l).1, EvFine e) ∧ (it35 k s n l).1.length = l.length + k ∧ (it35 k s n l).1.take l.length = l := by
  intro k
  induction k with
  | zero => intro s n l h hn hl; exact ⟨h, hl, rfl, List.take_length⟩
  | succ k ih =>
    intro s n l h hn hl
    have h1 := one35_ok h hn
    have := ih (one35 s n).2 n (l ++ [(one35 s n).1]) h1.2 hn (by
      intro e he
      rcases List.mem_append.1 he with he | he
      · exact hl e he
      · rw [List.mem_singleton] at he; subst he; exact h1.1)
    rw [it35]
    refine ⟨this.1, this.2.1, by rw [this.2.2.1]; simp; omega, ?_⟩
    have e := this.2.2.2
    have e2 := congrArg (List.take l.length) e
    rw [List.take_take, List.length_append, List.length_singleton, show min l.length (l.length + 1) = l.length by omega, List.take_left] at e2
    exact e2
def n35 (s : DCur) (m : Int) : Nat := (belowV s m).toNat
def list35 (s : DCur) (n m : Int) : List DEvent × DCur := it35 (n35 s m) (belowS s m) n [⟨1, 10, false⟩]
theorem list35_ok {s : DCur} {n m : Int} (h : s.Ok) (hn : n ≤ 1048576) (hm : 1 ≤ m) : (list35 s n m).2.Ok ∧ (∀ e ∈ (list35 s n m).1, EvFine e) ∧ (list35 s n m).1.length ≤ m ∧ (list35 s n m).1.take 1 = [⟨1, 10, false⟩] ∧ 1 ≤ (list35 s n m).1.length ∧ ((n35 s m : Nat) : Int) = belowV s m := by
  have hb := belowV_bnd s m
  have hb2 := hb.2.1 (by omega)
  have := it35_ok (n35 s m) (belowS s m) n [⟨1, 10, false⟩] (belowS_ok h m) hn (by
    intro e he
    rw [List.mem_singleton] at he; subst he
    exact ⟨⟨by decide, by decide, by decide, by decide⟩, by decide, by decide, fun _ => by decide⟩)
  have hl := this.2.2.1
  have en : ((n35 s m : Nat) : Int) = belowV s m := by unfold n35; omega
  simp only [List.length_singleton] at hl
  refine ⟨this.1, this.2.1, ?_, this.2.2.2, ?_, en⟩
  · show (((it35 (n35 s m) (belowS s m) n [⟨1, 10, false⟩]).1.length : Nat) : Int) ≤ m
    rw [hl]; omega
  · show 1 ≤ (it35 (n35 s m) (belowS s m) n [⟨1, 10, false⟩]).1.length
    omega
theorem spec_l35List (s : DCur) (x : DLand) (m : Int) (h : s.Ok) (hx : x.cells.length ≤ 1048576) (hm : 1 ≤ m ∧ m ≤ 100) : SC Tryz.prog 91 [.at (.bx 0 0 0), .ag x.ats, .at (.v (.int .i64 m))] [.box 0 s.ats] (.at (.fr 3 ((list35 s x.cells.length m).1.map DEvent.row))) [.box 0 (list35 s x.cells.length m).2.ats] := by
  have hb := belowV_bnd s m
  have hb2 := hb.2.1 (by omega)
  have en : ((n35 s m : Nat) : Int) = belowV s m := by unfold n35; omega
  refine SC.of_M mixed Tryz.func91 (by kernel_rfl) rfl Tryz.results91 _ Tryz.ntmps91 (by simp) (by simp) ?_
  simp -implicitDefEqProofs only [go_sem, invOf]
  refine callXNB [0] [] (spec_l1Below s m h) (by decide) (by simp -implicitDefEqProofs only [go_sem]) (by simp -implicitDefEqProofs only [go_sem]) ?_
  simp -implicitDefEqProofs only [go_sem, invOf]
  rw [← en]
  unfold list35
  generalize hA : it35 (n35 s m) (belowS s m) x.cells.length [⟨1, 10, false⟩] = A
  refine T.loopN mixed (show 1 ≤ 100 by decide) [0, 4, 7, 8] (fun mm vs ex es => ∃ (y : DCur) (l : List DEvent) (i : Nat), vs = [.at (.bx 0 0 0), .at (.bx 100 0 0), .at (.ow 101 0 3 l.length), .at (.v (.int .i64 (i : Nat)))] ∧ ex = [.box 0 y.ats] ∧ es = [.box 0 x.ats, .arr 0 3 (l.map DEvent.row)] ∧ mm = i ∧ y.Ok ∧ it35 i y x.cells.length l = A ∧ l.length + i ≤ 101) (n35 s m) ?_ ?_
  · simp -implicitDefEqProofs only [go_sem, invOf]
    exact ⟨belowS s m, [⟨1, 10, false⟩], n35 s m, ⟨rfl, rfl⟩, rfl, rfl, rfl, belowS_ok h m, hA, by simp; omega⟩
  rintro q _ _ _ ⟨y, l, i, rfl, rfl, rfl, rfl, hy, hA2, hl⟩ -
  simp -implicitDefEqProofs only [go_sem, invOf]
  refine ⟨fun hi => ?_, fun hi => ?_⟩
  · obtain ⟨k, rfl⟩ : ∃ k, q = k + 1 := ⟨q - 1, by omega⟩
    rw [it35] at hA2
    refine callXNB [0] [] (spec_l35One y x hy hx) (by decide) (by simp -implicitDefEqProofs only [go_sem]) (by simp -implicitDefEqProofs only [go_sem]) ?_
    simp -implicitDefEqProofs only [go_sem, invOf]
    have ho := one35_ok (n := x.cells.length) hy (by omega)
    exact ⟨room_s (by omega) (by decide), k, by omega, (one35 y x.cells.length).2, l ++ [(one35 y x.cells.length).1], k, ⟨by simp, wrapH (by omega) (by omega) (by omega)⟩, rfl, by simp [DEvent.row], rfl, ho.2, hA2, by simp; omega⟩
  · obtain rfl : q = 0 := by omega
    rw [it35] at hA2
    subst hA2
    exact ⟨rfl, rfl, rfl⟩
/-! ### Events that lead on, most of the time -/
noncomputable def ch36 (e : DEvent) (x : DTrek) (s : DCur) : DEvent × DCur :=
  if e.kind = 2 then
    if onceV s 5 = true then (e, belowS s 5) else ({ e with n := (to11 (belowS s 5) x.land x.party).1 }, (to11 (belowS s 5) x.land x.party).2)
  else (e, s)
theorem ch36_0 {e : DEvent} {x : DTrek} {s : DCur} (h : ¬ e.kind = 2) : ch36 e x s = (e, s) := if_neg h
theorem ch36_1 {e : DEvent} {x : DTrek} {s : DCur} (h : e.kind = 2) (h1 : onceV s 5 = true) : ch36 e x s = (e, belowS s 5) := by rw [ch36, if_pos h, if_pos h1]
theorem ch36_2 {e : DEvent} {x : DTrek} {s : DCur} (h : e.kind = 2) (h1 : ¬ onceV s 5 = true) : ch36 e x s = ({ e with n := (to11 (belowS s 5) x.land x.party).1 }, (to11 (belowS s 5) x.land x.party).2) := by rw [ch36, if_pos h, if_neg h1]
theorem ch36_ok {e : DEvent} {x : DTrek} {s : DCur} (he : EvFine e) (h : s.Ok) : EvFine (ch36 e x s).1 ∧ (ch36 e x s).2.Ok ∧ (ch36 e x s).1.kind = e.kind ∧ (¬ e.kind = 2 → (ch36 e x s).1 = e) := by
  have ht := to11_ok (x := x.land) (p := x.party) (belowS_ok h 5)
  by_cases k : e.kind = 2
  · by_cases k1 : onceV s 5 = true
    · rw [ch36_1 k k1]; exact ⟨he, belowS_ok h 5, rfl, fun _ => rfl⟩
    · rw [ch36_2 k k1]
      exact ⟨⟨⟨he.1.1, he.1.2.1, ht.1.1, by simp only []; omega⟩, he.2.1, he.2.2.1, fun h1 => by simp only [] at h1; omega⟩, ht.2, rfl, fun h => absurd k h⟩
  · rw [ch36_0 k]; exact ⟨he, h, rfl, fun _ => rfl⟩
noncomputable def go36 : List DEvent → DTrek → DCur → List DEvent
  | [], _, _ => []
  | e :: l, x, s => (ch36 e x s).1 :: go36 l (applyZ x (ch36 e x s).1) (ch36 e x s).2
theorem go36_ok : ∀ (l : List DEvent) (x : DTrek) (s : DCur), (∀ e ∈ l, EvFine e) → s.Ok → (∀ e ∈ go36 l x s, EvFine e) ∧ (go36 l x s).length = l.length := by
  intro l
  induction l with
  | nil => intro x s _ _; exact ⟨fun e he => (by cases he), rfl⟩
  | cons e l ih =>
    intro x s hl h
    have h1 := ch36_ok (x := x) (hl e (by simp)) h
    have h2 := ih (applyZ x (ch36 e x s).1) (ch36 e x s).2 (fun y hy => hl y (by simp [hy])) h1.2.1
    refine ⟨fun y hy => ?_, by rw [go36, List.length_cons, List.length_cons, h2.2]⟩
    rw [go36] at hy
    rcases List.mem_cons.1 hy with rfl | hy
    · exact h1.1
    · exact h2.1 y hy
noncomputable def runT0 (code : List Int) : DTrek := (start33 (newCur code)).1
noncomputable def runL0 (code : List Int) : List DEvent × DCur := list35 (start33 (newCur code)).2 (runT0 code).land.cells.length 14
noncomputable def runL (code : List Int) : List DEvent := go36 (runL0 code).1 (runT0 code) (runL0 code).2
theorem run36_ok {code : List Int} (h : code.length ≤ 1099511627776) : Small (runT0 code) ∧ (start33 (newCur code)).2.Ok ∧ (runL0 code).2.Ok ∧ (∀ e ∈ (runL0 code).1, EvFine e) ∧ (runL0 code).1.length ≤ 14 ∧ (∀ e ∈ runL code, EvFine e) ∧ (runL code).length ≤ 14 ∧ (runL code).head? = some ⟨1, 10, false⟩ := by
  have h0 := start33_ok (newCur_ok h)
  have hc : ((runT0 code).land.cells.length : Int) ≤ 1048576 := by have := h0.1.cells; show (((start33 (newCur code)).1.land.cells.length : Nat) : Int) ≤ _; omega
  have h1 := list35_ok (n := (runT0 code).land.cells.length) (m := 14) h0.2 hc (by decide)
  have h2 := go36_ok (runL0 code).1 (runT0 code) (runL0 code).2 h1.2.1 h1.1
  have hl : (runL0 code).1.length ≤ 14 := by have := h1.2.2.1; show (list35 _ _ _).1.length ≤ 14; omega
  refine ⟨h0.1, h0.2, h1.1, h1.2.1, hl, h2.1, by show (go36 _ _ _).length ≤ 14; rw [h2.2]; exact hl, ?_⟩
  have e := h1.2.2.2.1
  change (runL0 code).1.take 1 = _ at e
  unfold runL
  cases hr : (runL0 code).1 with
  | nil => rw [hr] at e; cases e
  | cons a r =>
    rw [hr] at e
    simp only [List.take_succ_cons, List.take_zero, List.cons.injEq, and_true] at e
    subst e
    rw [go36, ch36_0 (by decide)]
    rfl
theorem spec_DrawRunEvents (code : List Int) (hl : code.length ≤ 1099511627776) : SC Tryz.prog 24 [.at (.im 1 (code.map byteRow))] [] (.tp [.ag (runT0 code).ats, .at (.fr 3 ((runL code).map DEvent.row))]) [] := by
  have hr := run36_ok hl
  have hcl := hr.1.cells
  have hn := newCur_ok hl
  refine SC.of_W mixed Tryz.func24 (by kernel_rfl) rfl Tryz.results24 _ Tryz.ntmps24 (by simp) ?_
  simp -implicitDefEqProofs only [go_sem]
  refine callX [] (spec_l1New code hl) (by simp -implicitDefEqProofs only [go_sem]) ?_
  simp -implicitDefEqProofs only [go_sem]
  refine callXNB [1160] [] ((spec_l33Start (newCur code) hn).frozenX (by simp) cur_plainS) (by decide) (by simp -implicitDefEqProofs only [go_sem]) (by simp -implicitDefEqProofs only [go_sem]) ?_
  simp -implicitDefEqProofs only [go_sem]
  rw [show (start33 (newCur code)).1 = runT0 code from rfl]
  refine callXNB [1160] [] (spec_l35List (start33 (newCur code)).2 (runT0 code).land 14 hr.2.1 (by omega) (by omega)) (by decide) (by simp -implicitDefEqProofs only [go_sem]) (by simp -implicitDefEqProofs only [go_sem]) ?_
  simp -implicitDefEqProofs only [go_sem]
  rw [show list35 (start33 (newCur code)).2 (runT0 code).land.cells.length 14 = runL0 code from rfl]
  refine callX [] ((spec_l33Copy (runT0 code) hr.1.fit).frozen) (by simp -implicitDefEqProofs only [go_sem]) ?_
  simp -implicitDefEqProofs only [go_sem]
  refine T.loopW mixed [2, 4, 5, 6, 7, 8] (fun mm vs es => ∃ (y : DCur) (x : DTrek) (dn rs : List DEvent), vs = [.at (.bx 100 0 0), .at (.bx 101 0 0), .at (.bx 102 0 0), .at (.ow 103 0 3 ((dn ++ rs).length)), .at (.bx 104 0 0), .at (.v (.int .i64 (dn.length : Nat)))] ∧ es = [.box 0 zeroT, .box 0 y.ats, .box 0 (runT0 code).ats, .arr 0 3 ((dn ++ rs).map DEvent.row), .box 0 x.ats] ∧ mm = rs.length ∧ y.Ok ∧ x.Sane ∧ (∀ e ∈ rs, EvFine e) ∧ dn ++ go36 rs x y = runL code ∧ dn.length + rs.length ≤ 14) ((runL0 code).1.length) ?_ ?_
  · simp -implicitDefEqProofs only [go_sem]
    exact ⟨(runL0 code).2, runT0 code, [], (runL0 code).1, ⟨by simp, rfl⟩, ⟨rfl, rfl, rfl⟩, rfl, hr.2.2.1, hr.1.sane, hr.2.2.2.1, rfl, by simp; omega⟩
  rintro q _ _ ⟨y, x, dn, rs, rfl, rfl, rfl, hy, hx, hf, hA, hlen⟩
  simp -implicitDefEqProofs only [go_sem]
  refine ⟨fun h1 => ?_, fun h1 => ?_⟩
  · cases rs with
    | nil => simp at h1
    | cons e r =>
      have he := hf e (by simp)
      have hc := ch36_ok (x := x) he hy
      have hfr : ∀ e ∈ r, EvFine e := fun e he => hf e (by simp [he])
      rw [go36] at hA
      refine ⟨by omega, by simp, fun v hv => ?_⟩
      have ev : v = e := by simpa using hv.symm
      subst ev
      refine ⟨fun k => ?_, fun k => ?_⟩
      · refine callXNB [101] [] (spec_l1Once y 5 hy) (by decide) (by simp -implicitDefEqProofs only [go_sem]) (by simp -implicitDefEqProofs only [go_sem]) ?_
        simp -implicitDefEqProofs only [go_sem]
        refine ⟨fun k1 => ?_, fun k1 => ?_⟩
        · have eC := ch36_2 (x := x) (s := y) k (by rw [k1]; decide)
          rw [eC] at hc hA
          refine callXNB [101] [] (spec_l11To (belowS y 5) x.land x.party (belowS_ok hy 5) hx.fit.cells) (by decide) (by simp -implicitDefEqProofs only [go_sem]) (by simp -implicitDefEqProofs only [go_sem]) ?_
          simp -implicitDefEqProofs only [go_sem]
          refine ⟨by omega, by omega, ?_⟩
          have eset : (List.map DEvent.row (dn ++ v :: r)).set dn.length (List.take 1 ((List.map DEvent.row (dn ++ v :: r)).getD dn.length []) ++ [Value.int IntKind.i64 (to11 (belowS y 5) x.land x.party).fst] ++ List.drop 2 ((List.map DEvent.row (dn ++ v :: r)).getD dn.length [])) = List.map DEvent.row (dn ++ { v with n := (to11 (belowS y 5) x.land x.party).1 } :: r) := by
            rw [List.map_append, List.map_append, List.set_append_right _ _ (by simp)]
            simp [List.getD_eq_getElem?_getD, DEvent.row]
          rw [eset]
          refine ⟨some [], by decide +kernel, ?_⟩
          simp -implicitDefEqProofs only [go_sem]
          refine ⟨by omega, by omega, fun e1 he1 => ?_⟩
          have ev1 : e1 = { v with n := (to11 (belowS y 5) x.land x.party).1 } := by simpa using he1.symm
          rw [ev1]
          refine callXQ [] ((spec_ApplyEvent x { v with n := (to11 (belowS y 5) x.land x.party).1 } hx hc.1.1.i64).frozen) (by simp -implicitDefEqProofs only [go_sem]) ?_
          simp -implicitDefEqProofs only [go_sem]
          exact ⟨r.length, by simp, (to11 (belowS y 5) x.land x.party).2, applyZ x { v with n := (to11 (belowS y 5) x.land x.party).1 }, dn ++ [{ v with n := (to11 (belowS y 5) x.land x.party).1 }], r, ⟨by simp; try omega, wrapH (by simp) (by omega) (by omega)⟩, ⟨rfl, by simp, rfl⟩, rfl, hc.2.1, applyZ_sane hx hc.1.1.i64, hfr, by simpa using hA, by simp at hlen ⊢; omega⟩
        · have eC := ch36_1 (x := x) (s := y) k k1
          rw [eC] at hc hA
          refine ⟨some [], by decide +kernel, ?_⟩
          simp -implicitDefEqProofs only [go_sem]
          refine ⟨by omega, by omega, fun e1 he1 => ?_⟩
          have ev1 : e1 = v := by simpa using he1.symm
          rw [ev1]
          refine callXQ [] ((spec_ApplyEvent x v hx hc.1.1.i64).frozen) (by simp -implicitDefEqProofs only [go_sem]) ?_
          simp -implicitDefEqProofs only [go_sem]
          exact ⟨r.length, by simp, belowS y 5, applyZ x v, dn ++ [v], r, ⟨by simp; try omega, wrapH (by simp) (by omega) (by omega)⟩, ⟨rfl, by simp, rfl⟩, rfl, hc.2.1, applyZ_sane hx hc.1.1.i64, hfr, by simpa using hA, by simp at hlen ⊢; omega⟩
      · have eC := ch36_0 (x := x) (s := y) k
        rw [eC] at hc hA
        refine ⟨some [], by decide +kernel, ?_⟩
        simp -implicitDefEqProofs only [go_sem]
        refine ⟨by omega, by omega, fun e1 he1 => ?_⟩
        have ev1 : e1 = v := by simpa using he1.symm
        rw [ev1]
        refine callXQ [] ((spec_ApplyEvent x v hx hc.1.1.i64).frozen) (by simp -implicitDefEqProofs only [go_sem]) ?_
        simp -implicitDefEqProofs only [go_sem]
        exact ⟨r.length, by simp, y, applyZ x v, dn ++ [v], r, ⟨by simp; try omega, wrapH (by simp) (by omega) (by omega)⟩, ⟨rfl, by simp, rfl⟩, rfl, hc.2.1, applyZ_sane hx hc.1.1.i64, hfr, by simpa using hA, by simp at hlen ⊢; omega⟩
  · cases rs with
    | nil =>
      rw [← hA, go36]
      exact ⟨by simp, rfl⟩
    | cons e r => simp at h1; omega
end Go.Abs

namespace Go.Abs
open Go.RowKit Go.Proofs
set_option linter.unusedVariables false
set_option linter.unusedSimpArgs false
set_option maxRecDepth 100000

/-! ### Food so far out -/
def regZ (D : Int → Int) (k : Int) : List DDepot → Int
  | [] => 0
  | d :: l => (if k ≤ D d.cell then d.food else 0) + regZ D k l
section
variable {D : Int → Int} {k : Int}
abbrev Foods (l : List DDepot) : Prop := ∀ d ∈ l, 1 ≤ d.food ∧ d.food ≤ 10000
theorem Foods.tl {d : DDepot} {l : List DDepot} (h : Foods (d :: l)) : Foods l := fun y hy => h y (by simp [hy])
theorem reg_pos : ∀ {l : List DDepot}, Foods l → 0 ≤ regZ D k l := by
  intro l
  induction l with
  | nil => intro _; exact Int.le_refl _
  | cons d l ih =>
    intro h
    have h1 := ih h.tl
    have h2 := h d (by simp)
    rw [regZ]; split <;> omega
theorem reg_mono {j : Int} (hjk : k ≤ j) : ∀ {l : List DDepot}, Foods l → regZ D j l ≤ regZ D k l := by
  intro l
  induction l with
  | nil => intro _; exact Int.le_refl _
  | cons d l ih =>
    intro h
    have h1 := ih h.tl
    have h2 := h d (by simp)
    rw [regZ, regZ]; split <;> split <;> omega
theorem reg_total : ∀ {l : List DDepot}, Foods l → regZ D k l ≤ foodZ l := by
  intro l
  induction l with
  | nil => intro _; exact Int.le_refl _
  | cons d l ih =>
    intro h
    have h1 := ih h.tl
    have h2 := h d (by simp)
    have h3 : foodOf d = d.food := by unfold foodOf; omega
    rw [regZ, foodZ_cons, h3]; split <;> omega
theorem reg_take {c n : Int} : ∀ {l : List DDepot}, Asc l → Foods l → 0 ≤ n → n ≤ foodAt c l → regZ D k (takeL c n l) = regZ D k l - (if k ≤ D c then n else 0) := by
  intro l
  induction l with
  | nil => intro _ _ h1 h2; simp [foodAt] at h2; have : n = 0 := by omega
           subst this; show (0 : Int) = 0 - _; split <;> omega
  | cons d l ih =>
    intro ha hf h1 h2
    have hd := hf d (by simp)
    obtain ⟨hlt, ha2⟩ := List.pairwise_cons.1 ha
    have hf2 := hf.tl
    show regZ D k ((d :: l).filterMap (tk c n)) = _
    rw [List.filterMap_cons]
    by_cases hc : d.cell = c
    · have hid : l.filterMap (tk c n) = l := takeL_id (fun e he => by have := hlt e he; omega) hf2
      have hk : tk c n d = if 0 < d.food - n then some ⟨d.cell, d.food - n⟩ else none := if_pos hc
      rw [foodAt, if_pos hc] at h2
      rw [hk, hid]
      by_cases hp : 0 < d.food - n
      · rw [if_pos hp]
        show regZ D k (⟨d.cell, d.food - n⟩ :: l) = _
        rw [regZ, regZ, ← hc]
        simp only []
        split <;> omega
      · rw [if_neg hp]
        show regZ D k l = _
        rw [regZ, ← hc]
        split <;> omega
    · have hk : tk c n d = some d := by unfold tk; rw [if_neg hc, if_pos (by omega)]
      rw [foodAt, if_neg hc] at h2
      rw [hk]
      show regZ D k (d :: l.filterMap (tk c n)) = _
      rw [regZ, regZ]
      have : regZ D k (l.filterMap (tk c n)) = regZ D k l - (if k ≤ D c then n else 0) := ih ha2 hf2 h1 h2
      omega
theorem reg_set {c v : Int} : ∀ {l : List DDepot}, Asc l → Foods l → regZ D k (setT c v l false) = regZ D k l + (if k ≤ D c then v - foodAt c l else 0) := by
  intro l
  induction l with
  | nil =>
    intro _ _
    show (if k ≤ D c then v else 0) + 0 = 0 + (if k ≤ D c then v - 0 else 0)
    split <;> omega
  | cons d l ih =>
    intro ha hf
    obtain ⟨hlt, ha2⟩ := List.pairwise_cons.1 ha
    by_cases h1 : d.cell < c
    · have e : setT c v (d :: l) false = d :: setT c v l false := by
        rw [setT, if_neg (show ¬ (false = false ∧ c ≤ d.cell) from fun h => by have := h.2; omega), if_pos (show d.cell ≠ c by omega), decide_eq_false (show ¬ c ≤ d.cell by omega)]; rfl
      rw [e, regZ, regZ, ih ha2 hf.tl, foodAt, if_neg (show ¬ d.cell = c by omega)]
      omega
    · by_cases h2 : d.cell = c
      · have e : setT c v (d :: l) false = ⟨c, v⟩ :: l := by
          rw [setT, if_pos ⟨rfl, by omega⟩, if_neg (by omega), decide_eq_true (by omega), Bool.or_true, setT_done (fun y hy => by have := hlt y hy; omega)]; rfl
        rw [e, regZ, regZ, foodAt, if_pos h2, ← h2]
        simp only []
        split <;> omega
      · have e : setT c v (d :: l) false = ⟨c, v⟩ :: d :: l := by
          rw [setT, if_pos ⟨rfl, by omega⟩, if_pos h2, decide_eq_true (by omega), Bool.or_true, setT_done (fun y hy => by have := hlt y hy; omega)]; rfl
        have hz : foodAt c (d :: l) = 0 := foodAt_none fun y hy => by
          rcases List.mem_cons.1 hy with rfl | hy
          · omega
          · have := hlt y hy; omega
        rw [e, regZ, hz]
        simp only []
        split <;> omega
theorem heap_zero : ∀ (cs : List Int), heap [] cs = 0 := by
  intro cs
  induction cs with
  | nil => rfl
  | cons c cs ih => rw [heap, ih]; rfl
theorem heap_cons {d : DDepot} {l : List DDepot} (hl : ∀ c, 0 ≤ foodAt c l) : ∀ (cs : List Int), cs.Nodup → heap (d :: l) cs ≤ (if d.cell ∈ cs then d.food else 0) + heap l cs := by
  intro cs
  induction cs with
  | nil => intro _; simp [heap]
  | cons c cs ih =>
    intro hn
    obtain ⟨h1, h2⟩ := List.nodup_cons.1 hn
    have h3 := ih h2
    have h4 := hl c
    rw [heap, heap, foodAt]
    by_cases hc : d.cell = c
    · rw [if_pos hc, if_pos (by rw [hc]; simp)]
      rw [if_neg (by rw [hc]; exact h1)] at h3
      omega
    · rw [if_neg hc]
      by_cases hm : d.cell ∈ cs
      · rw [if_pos hm] at h3
        rw [if_pos (by simp [hm])]; omega
      · rw [if_neg hm] at h3
        rw [if_neg (by simp [hm, hc])]; omega
theorem heap_reg {cs : List Int} (hn : cs.Nodup) (hD : ∀ c ∈ cs, k ≤ D c) : ∀ {l : List DDepot}, Foods l → heap l cs ≤ regZ D k l := by
  intro l
  induction l with
  | nil => intro _; rw [heap_zero]; exact Int.le_refl _
  | cons d l ih =>
    intro h
    have h1 := ih h.tl
    have h2 := h d (by simp)
    have h3 := heap_cons (d := d) (l := l) (foodAt_0 h.tl) cs hn
    rw [regZ]
    by_cases hm : d.cell ∈ cs
    · rw [if_pos hm] at h3
      rw [if_pos (hD _ hm)]; omega
    · rw [if_neg hm] at h3
      split <;> omega
theorem at_reg {c : Int} (hc : D c = k) : ∀ {l : List DDepot}, Foods l → foodAt c l ≤ regZ D k l - regZ D (k + 1) l := by
  intro l
  induction l with
  | nil => intro _; exact Int.le_refl _
  | cons d l ih =>
    intro h
    have h1 := ih h.tl
    have h2 := h d (by simp)
    have h3 := reg_mono (D := D) (k := k) (j := k + 1) (by omega) h.tl
    rw [foodAt, regZ, regZ]
    by_cases e : d.cell = c
    · rw [if_pos e, e, if_pos (by omega), if_neg (by omega)]; omega
    · rw [if_neg e]; split <;> split <;> omega
end
/-! ### The way's cells -/
theorem wayF_dist {x : DLand} {b : Int} (hb : x.Open b) : ∀ (k : Nat) (a : Int), x.Open a → dist (stepsZ x [b]) a = k → ∀ (i : Nat) c, (wayF x (stepsZ x [b]) k a)[i]? = some c → dist (stepsZ x [b]) c = k - i := by
  intro k
  induction k with
  | zero =>
    intro a ha h i c hi
    cases i with
    | zero => simp [wayF] at hi; subst hi; omega
    | succ i => simp [wayF] at hi
  | succ k ih =>
    intro a ha h i c hi
    cases i with
    | zero => rw [wayF] at hi; simp at hi; subst hi; omega
    | succ i =>
      rw [wayF, List.getElem?_cons_succ] at hi
      have hn := next_in hb ha (by omega)
      have := ih (nextZ x (stepsZ x [b]) a) (next_open hb ha (by omega)) (by omega) i c hi
      omega
theorem way_dist {x : DLand} {a b : Int} (h : wayZ x a b ≠ []) : 0 ≤ dist (stepsZ x [b]) a ∧ ((wayZ x a b).length : Int) = dist (stepsZ x [b]) a + 1 ∧ ∀ (i : Nat) c, (wayZ x a b)[i]? = some c → dist (stepsZ x [b]) c = dist (stepsZ x [b]) a - i := by
  obtain ⟨h1, h2, h3, h4⟩ := way_cases h
  refine ⟨h3, ?_, fun i c hi => ?_⟩
  · rw [h4, wayF_len]; omega
  · rw [h4] at hi
    have := wayF_dist h2 _ a h1 (by omega) i c hi
    omega
/-! ### Where the party has been -/
noncomputable def DTrek.far (t : DTrek) (c : Int) : Int := dist (stepsZ t.land [t.base]) c
noncomputable abbrev gT (t : DTrek) (k : Int) : Int := regZ t.far k t.depots
def CT (t : DTrek) (e : Int) : Prop := trekP t ∧ ∃ o1 o2 o3 o4 Dy a b1 b2 tk, CI (capZ t.party.crew) (needZ t.party.crew) (t.far t.party.at_) t.party.food (gT t 1) (gT t 2) (gT t 3) (gT t 4) t.given t.eaten e o1 o2 o3 o4 Dy a b1 b2 tk
/-- Nothing of the expedition's ground has changed. -/
structure Same (t u : DTrek) : Prop where
  land : u.land = t.land
  base : u.base = t.base
  rule : u.rule = t.rule
  crew : u.party.crew = t.party.crew
theorem Same.refl (t : DTrek) : Same t t := ⟨rfl, rfl, rfl, rfl⟩
theorem Same.trans {t u v : DTrek} (h : Same t u) (h' : Same u v) : Same t v := ⟨h'.land.trans h.land, h'.base.trans h.base, h'.rule.trans h.rule, h'.crew.trans h.crew⟩
theorem Same.far {t u : DTrek} (h : Same t u) : u.far = t.far := by funext c; unfold DTrek.far; rw [h.land, h.base]
theorem trek_foods {t : DTrek} (h : trekP t) : Foods t.depots := h.1.1.1.2.1.food
theorem ct_skip {t : DTrek} {e : Int} (h : CT t e) : CT t (e + 1) := by
  obtain ⟨ht, o1, o2, o3, o4, Dy, a, b1, b2, tk, hc⟩ := h
  exact ⟨ht, o1, o2, o3, o4, Dy, a, b1, b2, tk, hc.skip⟩
/-- A day. -/
theorem ct_day {t : DTrek} {e q : Int} {p : DParty} {l : List DDepot} (h : CT t e) (hu : trekP (dayT t p l)) (hcr : p.crew = t.party.crew) (hq : 0 ≤ q ∧ q ≤ foodAt t.party.at_ t.depots) (hfull : t.party.food + q ≤ capZ t.party.crew) (heat : needZ t.party.crew ≤ t.party.food + q) (hf : p.food = t.party.food + q - needZ t.party.crew)
    (hl : ∀ k, regZ t.far k l = regZ t.far k t.depots - (if k ≤ t.far t.party.at_ then q else 0)) (hm : 0 ≤ t.far p.at_ ∧ t.far p.at_ ≤ t.far t.party.at_ + 1 ∧ t.far t.party.at_ ≤ t.far p.at_ + 1) (hup : t.far t.party.at_ < t.far p.at_ → q = 0) : CT (dayT t p l) (e + 1) ∧ Same t (dayT t p l) := by
  have hs : Same t (dayT t p l) := ⟨rfl, rfl, rfl, hcr⟩
  refine ⟨⟨hu, ?_⟩, hs⟩
  obtain ⟨ht, o1, o2, o3, o4, Dy, a, b1, b2, tk, hc⟩ := h
  have hn := needZ_bnd t.party.crew
  have he : (dayT t p l).eaten = t.eaten + needZ t.party.crew := wrap64 (by have := ht.2.2.2.2.2.2.1; omega) (by have := ht.2.2.2.2.2.2.1; omega)
  have hfd := trek_foods hu
  have hfd0 := trek_foods ht
  have hfar := hs.far
  have hg : ∀ k, gT (dayT t p l) k = gT t k - (if k ≤ t.far t.party.at_ then q else 0) := fun k => by
    show regZ (dayT t p l).far k l = _
    rw [hfar]; exact hl k
  have hp : ∀ k, 0 ≤ gT (dayT t p l) k := fun k => reg_pos hfd
  have hq1 : t.far t.party.at_ = 1 → b1 = 0 → q = 0 := by
    intro h1 h2
    have h3 := hc.no1 h2
    have h4 := at_reg (D := t.far) (k := 1) h1 hfd0
    have : gT t 1 = regZ t.far 1 t.depots := rfl
    have : gT t 2 = regZ t.far (1 + 1) t.depots := rfl
    omega
  have hday : Day (capZ t.party.crew) (needZ t.party.crew) (t.far t.party.at_) (t.far p.at_) t.party.food p.food q :=
    ⟨hc.n1, hc.fC, hq.1, heat, hfull, hf, hm.1, ⟨hm.2.1, hm.2.2⟩, hup⟩
  obtain ⟨o1', o2', o3', o4', D', hc'⟩ := hc.day (e := e) (et' := (dayT t p l).eaten) hday he (hg 1) (hg 2) (hg 3) (hg 4) (hp 1) (hp 2) (hp 3) (hp 4) ⟨reg_mono (by omega) hfd, reg_mono (by omega) hfd, reg_mono (by omega) hfd⟩ hq1
  refine ⟨o1', o2', o3', o4', D', a, b1, b2, tk, ?_⟩
  show CI (capZ p.crew) (needZ p.crew) ((dayT t p l).far p.at_) p.food _ _ _ _ t.given _ _ _ _ _ _ _ _ _ _ _
  rw [hcr, hfar]
  exact hc'
/-- Food is laid or taken. -/
theorem ct_put {t : DTrek} {e m : Int} {p : DParty} {l : List DDepot} (h : CT t e) (hu : trekP (putT t p l)) (hcr : p.crew = t.party.crew) (hat : p.at_ = t.party.at_) (hf : p.food = t.party.food - m) (hC : p.food ≤ capZ t.party.crew)
    (hl : ∀ k, regZ t.far k l = regZ t.far k t.depots + (if k ≤ t.far t.party.at_ then m else 0)) : CT (putT t p l) (e + 1) ∧ Same t (putT t p l) := by
  have hs : Same t (putT t p l) := ⟨rfl, rfl, rfl, hcr⟩
  refine ⟨⟨hu, ?_⟩, hs⟩
  obtain ⟨ht, o1, o2, o3, o4, Dy, a, b1, b2, tk, hc⟩ := h
  have hfd := trek_foods hu
  have hfar := hs.far
  have hg : ∀ k, gT (putT t p l) k = gT t k + (if k ≤ t.far t.party.at_ then m else 0) := fun k => by
    show regZ (putT t p l).far k l = _
    rw [hfar]; exact hl k
  have hp : ∀ k, 0 ≤ gT (putT t p l) k := fun k => reg_pos hfd
  have hf0 : 0 ≤ p.food := hu.1.food.1
  obtain ⟨b1', b2', tk', hc'⟩ := hc.put hf hf0 hC (hg 1) (hg 2) (hg 3) (hg 4) (hp 1) (hp 2) (hp 3) (hp 4) ⟨reg_mono (by omega) hfd, reg_mono (by omega) hfd, reg_mono (by omega) hfd⟩
  refine ⟨o1, o2, o3, o4, Dy, a, b1', b2', tk', ?_⟩
  show CI (capZ p.crew) (needZ p.crew) ((putT t p l).far p.at_) p.food _ _ _ _ t.given _ _ _ _ _ _ _ _ _ _ _
  rw [hcr, hfar, hat]
  exact hc'
theorem trek_way {t : DTrek} (h : trekP t) : t.land.Open t.party.at_ ∧ t.land.Open t.base ∧ 0 ≤ t.far t.party.at_ := by
  obtain ⟨h1, h2, h3, h4⟩ := way_cases h.1.1.2
  exact ⟨h1, h2, h3⟩
theorem ct_cap {t : DTrek} {e : Int} (h : CT t e) : t.party.food ≤ capZ t.party.crew := by
  obtain ⟨ht, o1, o2, o3, o4, Dy, a, b1, b2, tk, hc⟩ := h
  exact hc.fC
theorem day_eats {p : DParty} (h : eatP p) (to : Int) (s : Bool) : (dayZ p to s).food = p.food - needZ p.crew := (eat_food h).1
theorem ct_stay {t : DTrek} {e : Int} {to : Int} {s : Bool} (h : CT t e) (he : eatP t.party) (hu : trekP (dayT t (dayZ t.party to s) t.depots)) (hm : 0 ≤ t.far to ∧ t.far to ≤ t.far t.party.at_ + 1 ∧ t.far t.party.at_ ≤ t.far to + 1) : CT (dayT t (dayZ t.party to s) t.depots) (e + 1) ∧ Same t (dayT t (dayZ t.party to s) t.depots) := by
  have hcap := ct_cap h
  have hfd := trek_foods h.1
  have h0 := foodAt_0 hfd t.party.at_
  have e1 := eat_food he
  refine ct_day (q := 0) h hu (dayZ_crew _ _ _) ⟨Int.le_refl _, h0⟩ (by omega) (by omega) (by rw [day_eats he]; omega) (fun k => by split <;> omega) hm (fun _ => rfl)
theorem ct_apply {t : DTrek} {ev : DEvent} {e : Int} (h : CT t e) (hev : EvFine ev) : CT (applyZ t ev) (e + 1) ∧ Same t (applyZ t ev) := by
  obtain ⟨ho, hb, hd0⟩ := trek_way h.1
  have no : CT t (e + 1) ∧ Same t t := ⟨ct_skip h, Same.refl t⟩
  have hself : 0 ≤ t.far t.party.at_ ∧ t.far t.party.at_ ≤ t.far t.party.at_ + 1 ∧ t.far t.party.at_ ≤ t.far t.party.at_ + 1 := ⟨hd0, by omega, by omega⟩
  have hcap := ct_cap h
  have hfd := trek_foods h.1
  have hasc := h.1.1.1.1.2.1.asc
  by_cases h1 : ev.kind = 1
  · rw [(apply_1 h1).1, giveZ]
    split
    · rename_i hp
      obtain ⟨⟨k1, k2⟩, k3, k4, k5⟩ := hp
      obtain ⟨ht, o1, o2, o3, o4, Dy, a, b1, b2, tk, hc⟩ := h
      have hs : Same t (giveT t ev.n) := ⟨rfl, rfl, rfl, rfl⟩
      have hn12 := hev.2.2.2 h1
      have hfood := ht.1.food
      have hgv := ht.2.2.2.2.2.1
      have ef : (giveT t ev.n).party.food = t.party.food + ev.n := wrap64 (by omega) (by omega)
      have eg : (giveT t ev.n).given = t.given + ev.n := wrap64 (by omega) (by omega)
      have hd : t.far t.party.at_ = 0 := by rw [k3]; exact steps_0 hb
      have hC : (giveT t ev.n).party.food ≤ capZ t.party.crew := by
        rw [ef]
        unfold roomZ at k2
        split at k2 <;> omega
      rw [hd] at hc
      have := hc.give (m := ev.n) ⟨by omega, hn12⟩ ef hC eg
      refine ⟨⟨k5, o1, o2, o3, o4, Dy, a + 1, b1, b2, tk, ?_⟩, hs⟩
      show CI (capZ t.party.crew) (needZ t.party.crew) ((giveT t ev.n).far t.party.at_) _ (regZ (giveT t ev.n).far 1 t.depots) (regZ (giveT t ev.n).far 2 t.depots) (regZ (giveT t ev.n).far 3 t.depots) (regZ (giveT t ev.n).far 4 t.depots) _ t.eaten _ _ _ _ _ _ _ _ _ _
      rw [hs.far, hd]
      exact this
    · exact no
  by_cases h2 : ev.kind = 2
  · rw [(apply_2 h2).1, dayR]
    split
    · rename_i hp
      have hg := hp.1
      have hu := hp.2.2
      rw [goStepZ, if_pos hg] at hu ⊢
      have he : eatP t.party := hg.1.2.1.1
      refine ct_stay h he hu ?_
      split
      · exact hself
      · have hn := hg.1.1.1
        rw [nearZ, if_pos ho.1] at hn
        exact steps_near hb ho hd0 hn
    · exact no
  by_cases h3 : ev.kind = 3
  · rw [(apply_3 h3).1, dayR]
    split
    · rename_i hp
      have hg := hp.1
      have hu := hp.2.2
      rw [waitStepZ, if_pos hg] at hu ⊢
      exact ct_stay h hg.1.2.1.1 hu hself
    · exact no
  by_cases h4 : ev.kind = 4
  · rw [(apply_4 h4).1, dayR]
    split
    · rename_i hp
      have hg := hp.1
      have hu := hp.2.2
      have hl : ∀ k, regZ t.far k (retL t.land t.base t.rule t.depots t.party ev.storm) = regZ t.far k t.depots - (if k ≤ t.far t.party.at_ then pickN t.party (foodAt t.party.at_ t.depots) else 0) := by
        intro k
        have hn := pickN_bnd t.party (foodAt t.party.at_ t.depots)
        have hle := pick_le (p := t.party) (foodAt_0 hfd t.party.at_)
        rw [retL, if_pos hg]
        split
        · exact reg_take hasc hfd hn.1 hle
        · have : pickN t.party (foodAt t.party.at_ t.depots) = 0 := by omega
          rw [this]; split <;> omega
      have hcr : (retZ t.land t.base t.rule t.depots t.party ev.storm).crew = t.party.crew := retZ_crew
      have hok := hg.1.2
      obtain ⟨c, rest, hw, hwc, hoc, hfar⟩ := way_next hg.1.1.2 hg.2.1
      unfold homeOf at hok
      rw [hw, List.drop_succ_cons, List.drop_zero] at hok
      have he := homeW_eat hok
      have e1 := eat_food he
      have hn := pickN_bnd t.party (foodAt t.party.at_ t.depots)
      have hle := pick_le (p := t.party) (foodAt_0 hfd t.party.at_)
      have hp0 := h.1.1.food
      have hpc := pick_cap (p := t.party) (n := foodAt t.party.at_ t.depots) hp0.1 hcap
      have hwd := way_dist hg.1.1.2
      have hdc : t.far c = t.far t.party.at_ - 1 := hwd.2.2 1 c (by rw [hw]; rfl)
      have hlen : 1 ≤ t.far t.party.at_ := by
        have := hwd.2.1
        rw [hw, List.length_cons, List.length_cons] at this
        show 1 ≤ dist (stepsZ t.land [t.base]) t.party.at_
        omega
      have hfood : (retZ t.land t.base t.rule t.depots t.party ev.storm).food = t.party.food + pickN t.party (foodAt t.party.at_ t.depots) - needZ t.party.crew := by
        rw [retZ, if_pos hg]
        exact day_eats he _ _
      have hcell : homeCell t.land t.base t.party = c := by rw [homeCell, hw]; rfl
      have hat : (retZ t.land t.base t.rule t.depots t.party ev.storm).at_ = if ev.storm = true then t.party.at_ else c := by rw [retZ, if_pos hg, hcell]; rfl
      have e2 : needZ t.party.crew ≤ t.party.food + pickN t.party (foodAt t.party.at_ t.depots) := e1.2.2
      refine ct_day (q := pickN t.party (foodAt t.party.at_ t.depots)) h hu hcr ⟨hn.1, hle⟩ hpc e2 hfood hl ?_ ?_
      · rw [hat]; split
        · exact hself
        · omega
      · rw [hat]; split
        · intro k; omega
        · intro k; omega
    · exact no
  by_cases h5 : ev.kind = 5
  · rw [(apply_5 h5).1, putR]
    split
    · rename_i hp
      have hg := hp.1
      have hu := hp.2.2
      have hcr : (layStepZ t.land t.base t.rule t.depots t.party ev.n).crew = t.party.crew := layStepZ_crew.1
      have ez : layStepZ t.land t.base t.rule t.depots t.party ev.n = { t.party with food := t.party.food - ev.n } := if_pos hg
      have el : layStepL t.land t.base t.rule t.depots t.party ev.n = layT t.party.at_ ev.n t.depots := by rw [layStepL, if_pos hg, layL, if_pos hg.2.1]
      refine ct_put (m := ev.n) h hu hcr (by rw [ez]) (by rw [ez]) (by rw [ez]; simp only []; have := hg.1.2; omega) (fun k => ?_)
      rw [el, layT, reg_set hasc hfd]
      split <;> omega
    · exact no
  by_cases h6 : ev.kind = 6
  · rw [(apply_6 h6).1, putR]
    split
    · rename_i hp
      have hg := hp.1
      have hu := hp.2.2
      have ez : takeStepZ t.land t.base t.rule t.depots t.party ev.n = { t.party with food := t.party.food + ev.n } := if_pos hg
      have el : takeStepL t.land t.base t.rule t.depots t.party ev.n = takeL t.party.at_ ev.n t.depots := if_pos hg
      have hroom := hg.2.2
      have hn := hg.1.2
      refine ct_put (m := -ev.n) h hu (by rw [ez]) (by rw [ez]) (by rw [ez]; simp only []; omega) (by rw [ez]; simp only []; unfold roomZ at hroom; split at hroom <;> omega) (fun k => ?_)
      rw [el, reg_take hasc hfd (by omega) hn.2]
      split <;> omega
    · exact no
  · rw [(apply_0 h1 h2 h3 h4 h5 h6).1]; exact no
theorem ct_run : ∀ (l : List DEvent) (t : DTrek) (e : Int), CT t e → (∀ ev ∈ l, EvFine ev) → CT (runZ t l) (e + l.length) ∧ Same t (runZ t l) := by
  intro l
  induction l with
  | nil => intro t e h _; exact ⟨by simpa [runZ] using h, Same.refl t⟩
  | cons ev l ih =>
    intro t e h hl
    have h1 := ct_apply h (hl ev (by simp))
    have h2 := ih (applyZ t ev) (e + 1) h1.1 fun y hy => hl y (by simp [hy])
    refine ⟨?_, h1.2.trans h2.2⟩
    rw [List.length_cons, show e + ((l.length + 1 : Nat) : Int) = e + 1 + l.length by omega]
    exact h2.1
/-! ### So any weather leads home -/
theorem ct_open {t : DTrek} {e : Int} (h : CT t e) (he : e ≤ 13) (hC : 10 ≤ capZ t.party.crew ∧ 5 * needZ t.party.crew ≤ capZ t.party.crew) (hw : t.rule.window ≤ 6) : Open' t.land t.base t.rule t.depots t.party := by
  refine ⟨ct_cap h, fun pre c post hsp hpost => ?_⟩
  obtain ⟨ht, o1, o2, o3, o4, Dy, a, b1, b2, tk, hc⟩ := h
  have hr : t.rule.Ok := ht.2.1.1
  have hfd := trek_foods ht
  have hwd := way_dist ht.1.1.2
  have hne := ht.1.1.2
  -- the way's cells
  obtain ⟨rest, hway⟩ : ∃ rest, wayZ t.land t.party.at_ t.base = t.party.at_ :: rest := by
    obtain ⟨w1, w2, w3, w4⟩ := way_cases hne
    rw [w4]
    cases (dist (stepsZ t.land [t.base]) t.party.at_).toNat with
    | zero => exact ⟨[], rfl⟩
    | succ k => exact ⟨_, rfl⟩
  rw [hway, List.drop_succ_cons, List.drop_zero] at hsp
  have hlen : t.far t.party.at_ = pre.length + 1 + post.length := by
    have := hwd.2.1
    rw [hway, hsp, List.length_cons, List.length_append, List.length_cons] at this
    show dist (stepsZ t.land [t.base]) t.party.at_ = _
    omega
  have hcell : ∀ (i : Nat) d, (t.party.at_ :: (pre ++ c :: post))[i]? = some d → t.far d = t.far t.party.at_ - i := fun i d hi => hwd.2.2 i d (by rw [hway, hsp]; exact hi)
  have hcs : ∀ (i : Nat) d, (t.party.at_ :: (pre ++ [c]))[i]? = some d → t.far d = t.far t.party.at_ - i ∧ i ≤ pre.length + 1 := by
    intro i d hi
    have hlt := (List.getElem?_eq_some_iff.1 hi).1
    rw [List.length_cons, List.length_append, List.length_singleton] at hlt
    refine ⟨hcell i d ?_, by omega⟩
    rw [← hi]
    rw [show t.party.at_ :: (pre ++ c :: post) = (t.party.at_ :: (pre ++ [c])) ++ post by simp]
    rw [List.getElem?_append_left (by simp; omega)]
  have hnd : (t.party.at_ :: (pre ++ [c])).Nodup := by
    unfold List.Nodup
    rw [List.pairwise_iff_getElem]
    intro i j hi hj hij heq
    have h2 := hcs j _ (List.getElem?_eq_getElem hj)
    have h3 := hcs i _ (List.getElem?_eq_getElem hi)
    rw [heq] at h3
    omega
  have hDk : ∀ d ∈ t.party.at_ :: (pre ++ [c]), (post.length : Int) ≤ t.far d := by
    intro d hd
    obtain ⟨i, hi⟩ := List.getElem?_of_mem hd
    have := hcs i d hi
    omega
  have hheap := heap_reg (D := t.far) (k := (post.length : Int)) hnd hDk hfd
  rw [heap] at hheap
  by_cases hone : t.rule.window = t.rule.most + 1
  · exact .inr (.inr hone)
  have hm := hr.2
  have hfew := fun (past : List Bool) (hp : past.length ≤ 10) => cal_few hr hw (by omega) hp
  have hpl : 1 ≤ post.length := by
    have := List.length_pos_iff.2 hpost; omega
  by_cases hR : t.party.food + regZ t.far post.length t.depots ≤ capZ t.party.crew + needZ t.party.crew * ((pre.length + 1 : Nat) : Int)
  · left; omega
  right
  left
  have hn1 := hc.n1
  have hmul : needZ t.party.crew ≤ needZ t.party.crew * ((pre.length + 1 : Nat) : Int) := by
    rw [mul_S]
    have := Int.mul_nonneg (show 0 ≤ needZ t.party.crew by omega) (show (0 : Int) ≤ (pre.length : Nat) by omega)
    omega
  have hgz := ht.2.2.2.2.2.2.2.2
  have htot := reg_total (D := t.far) (k := 1) hfd
  have hcore := hc.core he hC (by
    have : gT t 1 = regZ t.far 1 t.depots := rfl
    omega)
  intro past hp
  have hf := hfew past hp
  rcases (show post.length = 1 ∨ post.length = 2 ∨ post.length = 3 ∨ 4 ≤ post.length by omega) with hk | hk | hk | hk
  · exact ⟨5, by rw [hk]; omega, by omega⟩
  · rw [hk] at hR
    have := hcore.1 (by omega) (by rw [farR_1 (by omega)]; show _ < regZ t.far 2 t.depots + _; have e2 : ((2 : Nat) : Int) = 2 := rfl; rw [e2] at hR; omega)
    exact ⟨6, by rw [hk]; omega, by omega⟩
  · rw [hk] at hR
    have := hcore.2.1 (by omega) (by rw [farR_1 (by omega)]; show _ < regZ t.far 3 t.depots + _; have e2 : ((3 : Nat) : Int) = 3 := rfl; rw [e2] at hR; omega)
    exact ⟨11, by rw [hk]; omega, by omega⟩
  · exfalso
    have hmono := reg_mono (D := t.far) (k := 4) (j := (post.length : Int)) (by omega) hfd
    exact hcore.2.2 (by omega) (by rw [farR_1 (by omega)]; show _ < regZ t.far 4 t.depots + _; omega)
end Go.Abs

namespace Go.Abs
open Go.RowKit Go.Proofs
set_option linter.unusedVariables false
set_option linter.unusedSimpArgs false
set_option maxRecDepth 100000

def walkP (x : DLand) (l : List DPage) (i : Nat) (p : DPage) : Prop :=
  x.Open p.cell ∧ (0 < i → 0 ≤ daysZ x (prevP l i).cell p.cell ∧ daysZ x (prevP l i).cell p.cell ≤ IntKind.i64.wrap (p.day - (prevP l i).day))
def TraceL (x : DLand) (l : List DPage) : Prop := Each (walkP x l) l ∧ Journal l
noncomputable instance (x : DLand) (l : List DPage) : Decidable (TraceL x l) := Classical.propDecidable _
theorem impl_IsTrace (x : DLand) (l : List DPage) (hx : x.cells.length ≤ 1048576) (hl : l.length ≤ 1048576) (hw : ∀ p ∈ l, p.wf) : SC Tryz.prog 56 [.ag x.ats, .at (.im 4 (l.map DPage.row))] [] (.at (.v (.bool (decide (TraceL x l))))) [] := by
  refine SC.of_V mixed Tryz.func56 (by kernel_rfl) rfl Tryz.results56 _ Tryz.ntmps56 (by simp) ?_
  simp -implicitDefEqProofs only [go_sem]
  refine T.loopW mixed [1, 2, 8, 9, 10] (fun mm vs es => ∃ (i : Nat), vs = [.at (.im 4 (l.map DPage.row)), .at (.bx 100 0 0), .at (.im 4 (l.map DPage.row)), .at (.v (.int .i64 l.length)), .at (.v (.int .i64 i))] ∧ es = [.box 0 x.ats] ∧ mm + i = l.length ∧ EachTo (walkP x l) l i) l.length ?_ ?_
  · simp -implicitDefEqProofs only [go_sem]; exact ⟨0, by simp, by omega, each0⟩
  rintro n _ _ ⟨i, rfl, rfl, hn, hi⟩
  simp -implicitDefEqProofs only [go_sem]
  refine ⟨fun h => ?_, fun h => ?_⟩
  · skip
    refine ⟨by omega, fun p hp => ?_⟩
    have no : (walkP x l i p → False) → false = decide (TraceL x l) := fun hk => dec_f fun hj => eachNot hp hk hj.1
    have next : walkP x l i p → ∃ n', n' < n ∧ ∃ i1 : Nat, IntKind.i64.wrap (i + 1) = i1 ∧ n' + i1 = l.length ∧ EachTo (walkP x l) l i1 := fun hk =>
      ⟨n - 1, by omega, i + 1, by rw [wrap64 (by omega) (by omega)]; rfl, by omega, eachS hi hp hk⟩
    refine callX [] (impl_IsOpen x p.cell hx) (by simp -implicitDefEqProofs only [go_sem]) ?_
    simp -implicitDefEqProofs only [go_sem]
    refine ⟨fun k1 => no fun h => k1 h.1, fun k1 => ?_⟩
    refine ⟨fun h0 => ?_, fun h0 => next ⟨k1, fun h => absurd h (by omega)⟩⟩
    refine ⟨some [], by decide +kernel, ?_⟩
    simp -implicitDefEqProofs only [go_sem]
    rw [wrap64 (x := (i : Int) - 1) (by omega) (by omega), show ((i : Int) - 1).toNat = i - 1 by omega]
    refine ⟨by omega, fun q hq => ?_⟩
    have e := prevP_get hq (by omega)
    refine callXQ [] (impl_Days x q.cell p.cell hx) (by simp -implicitDefEqProofs only [go_sem]) ?_
    simp -implicitDefEqProofs only [go_sem]
    refine ⟨some [], by decide +kernel, ?_⟩
    simp -implicitDefEqProofs only [go_sem]
    rw [wrap64 (x := (i : Int) - 1) (by omega) (by omega), show ((i : Int) - 1).toNat = i - 1 by omega]
    refine ⟨fun k2 => ?_, fun k2 => no fun h => by have := h.2 (by omega); rw [e] at this; omega⟩
    refine ⟨by omega, fun q2 hq2 => ?_⟩
    have e3 : q2 = q := by rw [hq] at hq2; exact (Option.some.inj hq2).symm
    subst e3
    exact ⟨fun k3 => no fun h => by have := h.2 (by omega); rw [e] at this; omega, fun k3 => next ⟨k1, fun _ => by rw [e]; omega⟩⟩
  · skip
    refine callX [] (impl_IsJournal l hl hw) (by simp -implicitDefEqProofs only [go_sem]) ?_
    simp -implicitDefEqProofs only [go_sem]
    exact decide_eq_decide.2 ⟨fun h2 => ⟨eachEnd hi h, h2⟩, fun h2 => h2.2⟩
end Go.Abs

namespace Go.Abs
open Go.RowKit Go.Proofs
set_option linter.unusedVariables false
set_option linter.unusedSimpArgs false
set_option maxRecDepth 100000

def DayInv (t : DTrek) : Prop := trekP t ∧ TraceL t.land t.journal ∧ (t.journal.length : Int) = t.day ∧ (0 < t.journal.length → (prevP t.journal t.journal.length).cell = t.party.at_ ∧ (prevP t.journal t.journal.length).day = t.day)
theorem days_self {x : DLand} {a : Int} (h : x.Open a) : daysZ x a a = 0 := by rw [daysZ, if_pos ⟨h, h⟩, steps_0 h]
theorem days_near {x : DLand} {a c : Int} (h : x.Open a) (hc : c ∈ x.near a) : 0 ≤ daysZ x a c ∧ daysZ x a c ≤ 1 := by
  have ho := DLand.near_open h.1 hc
  have h0 := steps_0 h
  have := steps_near h h (by omega) hc
  rw [daysZ, if_pos ⟨h, ho⟩]
  omega
theorem inv_day {t : DTrek} {p : DParty} {l : List DDepot} (h : DayInv t) (hd : t.day < 100) (hp : trekP (dayT t p l)) (hm : 0 ≤ daysZ t.land t.party.at_ p.at_ ∧ daysZ t.land t.party.at_ p.at_ ≤ 1) : DayInv (dayT t p l) := by
  obtain ⟨ht, htr, hlen, hlast⟩ := h
  have hw := writeP_of ht hp
  have hd0 := ht.2.2.2.2.1
  have ed : IntKind.i64.wrap (t.day + 1) = t.day + 1 := wrap64 (by omega) (by omega)
  have epg : pagesOf t = t.journal := if_neg (by omega)
  rw [ed, epg] at hw
  have ej : (dayT t p l).journal = t.journal ++ [mkPage t.journal (t.day + 1) p.at_ p.food] := by
    show writeL (pagesOf t) (IntKind.i64.wrap (t.day + 1)) _ _ = _
    rw [ed, epg, writeL, if_pos hw]
  have elast : prevP (t.journal ++ [mkPage t.journal (t.day + 1) p.at_ p.food]) (t.journal.length + 1) = mkPage t.journal (t.day + 1) p.at_ p.food := prevP_S (by simp)
  have hop : t.land.Open p.at_ := hp.1.1.1.2.2.1
  refine ⟨hp, ⟨?_, by rw [ej]; exact hw⟩, ?_, fun _ => ?_⟩
  · show Each (walkP t.land (dayT t p l).journal) (dayT t p l).journal
    rw [ej]
    intro i q hi
    by_cases hlt : i < t.journal.length
    · rw [List.getElem?_append_left hlt] at hi
      have := htr.1 i q hi
      unfold walkP at this ⊢
      rw [prevP_app (by omega)]; exact this
    · have hlt2 := (List.getElem?_eq_some_iff.1 hi).1
      have hie : i = t.journal.length := by simp at hlt2; omega
      subst hie
      rw [List.getElem?_append_right (Nat.le_refl _), Nat.sub_self] at hi
      simp only [List.getElem?_cons_zero, Option.some.injEq] at hi
      subst hi
      unfold walkP
      rw [prevP_app (Nat.le_refl _)]
      refine ⟨hop, fun h0 => ?_⟩
      have h1 := hlast h0
      rw [h1.1, h1.2]
      show 0 ≤ daysZ t.land t.party.at_ p.at_ ∧ daysZ t.land t.party.at_ p.at_ ≤ IntKind.i64.wrap (t.day + 1 - t.day)
      rw [wrap64 (by omega) (by omega)]
      omega
  · rw [ej, List.length_append, List.length_singleton]
    show _ = IntKind.i64.wrap (t.day + 1)
    rw [ed]; omega
  · rw [ej, List.length_append, List.length_singleton, elast]
    exact ⟨rfl, ed.symm⟩
theorem inv_apply {t : DTrek} {e : DEvent} (h : DayInv t) (hd : t.day < 100) : DayInv (applyZ t e) := by
  have ho : t.land.Open t.party.at_ := h.1.1.1.1.2.2.1
  have hself : 0 ≤ daysZ t.land t.party.at_ t.party.at_ ∧ daysZ t.land t.party.at_ t.party.at_ ≤ 1 := by rw [days_self ho]; decide
  have hput : ∀ (p : DParty) (l : List DDepot) (Q : Prop), (Q → p.at_ = t.party.at_) → DayInv (putR t p l Q) := by
    intro p l Q hp
    unfold putR
    split
    · rename_i k
      refine ⟨k.2.2, h.2.1, h.2.2.1, fun h0 => ?_⟩
      have := h.2.2.2 h0
      exact ⟨this.1.trans (hp k.1).symm, this.2⟩
    · exact h
  have hday : ∀ (p : DParty) (l : List DDepot) (Q : Prop), (Q → 0 ≤ daysZ t.land t.party.at_ p.at_ ∧ daysZ t.land t.party.at_ p.at_ ≤ 1) → DayInv (dayR t p l Q) := by
    intro p l Q hp
    unfold dayR
    split
    · rename_i k; exact inv_day h hd k.2.2 (hp k.1)
    · exact h
  by_cases h1 : e.kind = 1
  · rw [(apply_1 h1).1, giveZ]
    split
    · rename_i k; exact ⟨k.2.2.2, h.2.1, h.2.2.1, h.2.2.2⟩
    · exact h
  by_cases h2 : e.kind = 2
  · rw [(apply_2 h2).1]
    refine hday _ _ _ fun k => ?_
    rw [goStepZ, if_pos k]
    show 0 ≤ daysZ t.land t.party.at_ (if e.storm = true then t.party.at_ else e.n) ∧ daysZ t.land t.party.at_ (if e.storm = true then t.party.at_ else e.n) ≤ 1
    split
    · exact hself
    · have hn := k.1.1.1
      rw [nearZ, if_pos ho.1] at hn
      exact days_near ho hn
  by_cases h3 : e.kind = 3
  · rw [(apply_3 h3).1]
    refine hday _ _ _ fun k => ?_
    rw [waitStepZ, if_pos k]
    exact hself
  by_cases h4 : e.kind = 4
  · rw [(apply_4 h4).1]
    refine hday _ _ _ fun k => ?_
    rw [retZ, if_pos k]
    show 0 ≤ daysZ t.land t.party.at_ (if e.storm = true then t.party.at_ else homeCell t.land t.base t.party) ∧ daysZ t.land t.party.at_ (if e.storm = true then t.party.at_ else homeCell t.land t.base t.party) ≤ 1
    split
    · exact hself
    · obtain ⟨w1, w2, w3, w4⟩ := way_cases k.1.1.2
      have hpos : dist (stepsZ t.land [t.base]) t.party.at_ ≠ 0 := fun h0 => k.2.1 (steps_zero w2 w1 h0)
      have hn := next_in w2 w1 (by omega)
      obtain ⟨j, hj⟩ : ∃ j : Nat, (dist (stepsZ t.land [t.base]) t.party.at_).toNat = j + 1 := ⟨(dist (stepsZ t.land [t.base]) t.party.at_).toNat - 1, by omega⟩
      have hc : homeCell t.land t.base t.party = nextZ t.land (stepsZ t.land [t.base]) t.party.at_ := by
        rw [homeCell, w4, hj, wayF, List.getD_cons_succ, wayF_head]
      rw [hc]
      exact days_near ho hn.1
  by_cases h5 : e.kind = 5
  · rw [(apply_5 h5).1]
    refine hput _ _ _ fun k => ?_
    unfold layStepZ; split <;> rfl
  by_cases h6 : e.kind = 6
  · rw [(apply_6 h6).1]
    refine hput _ _ _ fun k => ?_
    unfold takeStepZ; split <;> rfl
  · rw [(apply_0 h1 h2 h3 h4 h5 h6).1]; exact h
theorem inv_run : ∀ (l : List DEvent) (t : DTrek), DayInv t → t.day + l.length ≤ 100 → DayInv (runZ t l) := by
  intro l
  induction l with
  | nil => intro t h _; exact h
  | cons e l ih =>
    intro t h hd
    rw [List.length_cons] at hd
    have h1 := apply_day t e
    exact ih (applyZ t e) (inv_apply h (by omega)) (by omega)
end Go.Abs

namespace Go.Abs
open Go.RowKit Go.Proofs
set_option linter.unusedVariables false
set_option linter.unusedSimpArgs false
set_option maxRecDepth 100000
set_option maxHeartbeats 4000000

noncomputable def runX (code : List Int) : DTrek := runZ (runT0 code) (runL code)
theorem runX_ok {code : List Int} (h : code.length ≤ 1099511627776) : (runX code).Sane ∧ 0 ≤ (runX code).day ∧ (runX code).day ≤ 14 := by
  have h1 := run36_ok h
  have h2 := run_day (runL code) (runT0 code)
  have h3 : (runT0 code).day = 0 := newTrekZ_party.2.2.2.2.2.1
  have h4 := h1.2.2.2.2.2.2.1
  refine ⟨run_sane _ _ h1.1.sane fun e he => (h1.2.2.2.2.2.1 e he).1.i64, ?_, ?_⟩
  · show 0 ≤ (runZ (runT0 code) (runL code)).day; omega
  · show (runZ (runT0 code) (runL code)).day ≤ 14; omega
noncomputable def k36 (code : List Int) : Int := belowV (newCur code) 9
noncomputable def x36 (code : List Int) : DTrek :=
  if k36 code = 0 then { runX code with given := IntKind.i64.wrap ((runX code).given + 1) }
  else if k36 code = 1 then { runX code with party := { (runX code).party with past := (runX code).party.past ++ [true, true] } }
  else if k36 code = 2 then { runX code with day := IntKind.i64.wrap ((runX code).day + 1) }
  else if k36 code = 3 then { runX code with party := { (runX code).party with food := 0 }, eaten := IntKind.i64.wrap ((runX code).given - foodZ (runX code).depots) }
  else runX code
section
variable {code : List Int}
theorem x36_0 (h : k36 code = 0) : x36 code = { runX code with given := IntKind.i64.wrap ((runX code).given + 1) } := if_pos h
theorem x36_1 (h0 : ¬ k36 code = 0) (h : k36 code = 1) : x36 code = { runX code with party := { (runX code).party with past := (runX code).party.past ++ [true, true] } } := by rw [x36, if_neg h0, if_pos h]
theorem x36_2 (h0 : ¬ k36 code = 0) (h1 : ¬ k36 code = 1) (h : k36 code = 2) : x36 code = { runX code with day := IntKind.i64.wrap ((runX code).day + 1) } := by rw [x36, if_neg h0, if_neg h1, if_pos h]
theorem x36_3 (h0 : ¬ k36 code = 0) (h1 : ¬ k36 code = 1) (h2 : ¬ k36 code = 2) (h : k36 code = 3) : x36 code = { runX code with party := { (runX code).party with food := 0 }, eaten := IntKind.i64.wrap ((runX code).given - foodZ (runX code).depots) } := by rw [x36, if_neg h0, if_neg h1, if_neg h2, if_pos h]
theorem x36_4 (h0 : ¬ k36 code = 0) (h1 : ¬ k36 code = 1) (h2 : ¬ k36 code = 2) (h : ¬ k36 code = 3) : x36 code = runX code := by rw [x36, if_neg h0, if_neg h1, if_neg h2, if_neg h]
end
theorem apply_past {t : DTrek} {e : DEvent} (h : t.party.past.length ≤ 10) : (applyZ t e).party.past.length ≤ 10 := by
  have hd : ∀ (p : DParty) (l : List DDepot) (Q : Prop), p.past.length ≤ 10 → (dayR t p l Q).party.past.length ≤ 10 := by
    intro p l Q hp
    unfold dayR
    split
    · exact hp
    · exact h
  have hq : ∀ (p : DParty) (l : List DDepot) (Q : Prop), p.past.length ≤ 10 → (putR t p l Q).party.past.length ≤ 10 := by
    intro p l Q hp
    unfold putR
    split
    · exact hp
    · exact h
  by_cases h1 : e.kind = 1
  · rw [(apply_1 h1).1, giveZ]; split <;> exact h
  by_cases h2 : e.kind = 2
  · rw [(apply_2 h2).1]
    refine hd _ _ _ ?_
    rw [goStepZ]; split
    · exact addDay_len _ _
    · exact h
  by_cases h3 : e.kind = 3
  · rw [(apply_3 h3).1]
    refine hd _ _ _ ?_
    rw [waitStepZ]; split
    · exact addDay_len _ _
    · exact h
  by_cases h4 : e.kind = 4
  · rw [(apply_4 h4).1]
    refine hd _ _ _ ?_
    rw [retZ]; split
    · exact addDay_len _ _
    · exact h
  by_cases h5 : e.kind = 5
  · rw [(apply_5 h5).1]
    refine hq _ _ _ ?_
    rw [layStepZ]; split <;> exact h
  by_cases h6 : e.kind = 6
  · rw [(apply_6 h6).1]
    refine hq _ _ _ ?_
    rw [takeStepZ]; split <;> exact h
  · rw [(apply_0 h1 h2 h3 h4 h5 h6).1]; exact h
theorem run_past : ∀ (l : List DEvent) (t : DTrek), t.party.past.length ≤ 10 → (runZ t l).party.past.length ≤ 10 := by
  intro l
  induction l with
  | nil => intro t h; exact h
  | cons e l ih => intro t h; exact ih (applyZ t e) (apply_past h)
theorem runX_past (code : List Int) : (runX code).party.past.length ≤ 10 := by
  refine run_past _ _ ?_
  have h : (runT0 code).party.past = [] := newTrekZ_party.2.2.2.2.1
  rw [h]; exact Nat.zero_le _
theorem x36_ok {code : List Int} (h : code.length ≤ 1099511627776) : (x36 code).Sane ∧ (x36 code).day ≤ 15 := by
  have hx := runX_ok h
  have hp := runX_past code
  have hf := hx.1.fit
  unfold x36
  split
  · exact ⟨⟨⟨hf.cells, hf.depots, hf.crew, hf.past, hf.journal, hf.pages⟩, hx.1.at_, hx.1.food⟩, by simp only []; omega⟩
  split
  · exact ⟨⟨⟨hf.cells, hf.depots, hf.crew, by simp; omega, hf.journal, hf.pages⟩, hx.1.at_, hx.1.food⟩, by simp only []; omega⟩
  split
  · exact ⟨⟨⟨hf.cells, hf.depots, hf.crew, hf.past, hf.journal, hf.pages⟩, hx.1.at_, hx.1.food⟩, by simp only []; rw [wrap64 (by omega) (by omega)]; omega⟩
  split
  · exact ⟨⟨⟨hf.cells, hf.depots, hf.crew, hf.past, hf.journal, hf.pages⟩, hx.1.at_, by unfold I64; simp⟩, by simp only []; omega⟩
  · exact ⟨hx.1, by omega⟩
theorem spec_l36Draw (code : List Int) (hl : code.length ≤ 1099511627776) : SC Tryz.prog 99 [.at (.im 1 (code.map byteRow))] [] (.ag (x36 code).frs) [] := by
  have hr := run36_ok hl
  have hx := runX_ok hl
  have hn := newCur_ok hl
  have hf := hx.1.fit
  refine SC.of_W mixed Tryz.func99 (by kernel_rfl) rfl Tryz.results99 _ Tryz.ntmps99 (by simp) ?_
  simp -implicitDefEqProofs only [go_sem]
  refine callX [] ((spec_DrawRunEvents code hl).frozen) (by simp -implicitDefEqProofs only [go_sem]) ?_
  simp -implicitDefEqProofs only [go_sem]
  refine callX [] (spec_RunEvents (runT0 code) (runL code) hr.1.sane (by omega) (fun e he => (hr.2.2.2.2.2.1 e he).1.i64)) (by simp -implicitDefEqProofs only [go_sem]) ?_
  simp -implicitDefEqProofs only [go_sem]
  rw [show runZ (runT0 code) (runL code) = runX code from rfl]
  refine callX [] (spec_l1New code hl) (by simp -implicitDefEqProofs only [go_sem]) ?_
  simp -implicitDefEqProofs only [go_sem]
  refine callXNB [1256] [] (spec_l1Below (newCur code) 9 hn) (by decide) (by simp -implicitDefEqProofs only [go_sem]) (by simp -implicitDefEqProofs only [go_sem]) ?_
  simp -implicitDefEqProofs only [go_sem]
  rw [show belowV (newCur code) 9 = k36 code from rfl]
  refine ⟨fun k0 => ?_, fun k0 => ⟨fun k1 => ?_, fun k1 => ⟨fun k2 => ?_, fun k2 => ⟨fun k3 => ?_, fun k3 => ?_⟩⟩⟩⟩
  · rw [x36_0 k0]
    repeat' (first | apply And.intro | rfl)
  · rw [x36_1 k0 k1]
    have hpp := runX_past code
    refine ⟨room_s (by omega) (by decide), ?_⟩
    repeat' (first | apply And.intro | rfl | simp [boolRow])
  · rw [x36_2 k0 k1 k2]
    repeat' (first | apply And.intro | rfl)
  · rw [x36_3 k0 k1 k2 k3]
    refine ⟨some [], by decide +kernel, ?_⟩
    simp -implicitDefEqProofs only [go_sem]
    refine callXQ [1225] (spec_TotalFood (runX code).depots hf.depots) (by simp -implicitDefEqProofs only [go_sem]) ?_
    simp -implicitDefEqProofs only [go_sem]
    repeat' (first | apply And.intro | rfl)
  · rw [x36_4 k0 k1 k2 k3]
    repeat' (first | apply And.intro | rfl)
/-! ### An expedition and an event -/
noncomputable def ae (code : List Int) : DEvent × DCur := one35 (d34 code).2 (d34 code).1.land.cells.length
noncomputable def aeE (code : List Int) : DEvent := if onceV (ae code).2 9 = true then { (ae code).1 with kind := IntKind.i64.wrap (belowV (belowS (ae code).2 9) 9 - 1) } else (ae code).1
theorem ae_ok {code : List Int} (h : code.length ≤ 1099511627776) : I64 (ae code).1.n ∧ (ae code).2.Ok := by
  have h1 := d34_ok h
  have hc := h1.1.fit.cells
  have := one35_ok (n := (d34 code).1.land.cells.length) h1.2 (by omega)
  exact ⟨this.1.1.i64, this.2⟩
theorem aeE_n {code : List Int} (h : code.length ≤ 1099511627776) : I64 (aeE code).n := by
  have := (ae_ok h).1
  unfold aeE
  split <;> exact this
theorem spec_DrawApplyEvent (code : List Int) (hl : code.length ≤ 1099511627776) : SC Tryz.prog 31 [.at (.im 1 (code.map byteRow))] [] (.tp [.ag (d34 code).1.ats, .ag (aeE code).ats]) [] := by
  have h1 := d34_ok hl
  have h2 := ae_ok hl
  have hc := h1.1.fit.cells
  refine SC.of_W mixed Tryz.func31 (by kernel_rfl) rfl Tryz.results31 _ Tryz.ntmps31 (by simp) ?_
  simp -implicitDefEqProofs only [go_sem]
  refine callX [] (spec_l1New code hl) (by simp -implicitDefEqProofs only [go_sem]) ?_
  simp -implicitDefEqProofs only [go_sem]
  refine callXNB [1128] [] (spec_l34Draw (newCur code) (newCur_ok hl)) (by decide) (by simp -implicitDefEqProofs only [go_sem]) (by simp -implicitDefEqProofs only [go_sem]) ?_
  simp -implicitDefEqProofs only [go_sem]
  rw [show draw34 (newCur code) = d34 code from rfl]
  refine callXNB [1128] [] (spec_l35One (d34 code).2 (d34 code).1.land h1.2 (by omega)) (by decide) (by simp -implicitDefEqProofs only [go_sem]) (by simp -implicitDefEqProofs only [go_sem]) ?_
  simp -implicitDefEqProofs only [go_sem]
  rw [show one35 (d34 code).2 (d34 code).1.land.cells.length = ae code from rfl]
  refine callXNB [1128] [] (spec_l1Once (ae code).2 9 h2.2) (by decide) (by simp -implicitDefEqProofs only [go_sem]) (by simp -implicitDefEqProofs only [go_sem]) ?_
  simp -implicitDefEqProofs only [go_sem]
  refine ⟨fun k => ?_, fun k => ?_⟩
  · have e : aeE code = { (ae code).1 with kind := IntKind.i64.wrap (belowV (belowS (ae code).2 9) 9 - 1) } := if_pos k
    rw [e]
    refine callXNB [1128] [] (spec_l1Below (belowS (ae code).2 9) 9 (belowS_ok h2.2 9)) (by decide) (by simp -implicitDefEqProofs only [go_sem]) (by simp -implicitDefEqProofs only [go_sem]) ?_
    simp -implicitDefEqProofs only [go_sem]
    refine ⟨some [1032, 1048], by decide +kernel, ?_⟩
    simp -implicitDefEqProofs only [go_sem]
    repeat' (first | apply And.intro | rfl)
  · have e : aeE code = (ae code).1 := if_neg (by rw [k]; decide)
    rw [e]
    refine ⟨some [1032, 1048], by decide +kernel, ?_⟩
    simp -implicitDefEqProofs only [go_sem]
noncomputable def heT (code : List Int) : DTrek := if (code.length : Int).tmod 9 = 1 then { runX code with day := -1 } else runX code
theorem heT_ok {code : List Int} (h : code.length ≤ 1099511627776) : (heT code).Sane ∧ (heT code).day ≤ 14 := by
  have hx := runX_ok h
  have hf := hx.1.fit
  unfold heT
  split
  · exact ⟨⟨⟨hf.cells, hf.depots, hf.crew, hf.past, hf.journal, hf.pages⟩, hx.1.at_, hx.1.food⟩, by simp⟩
  · exact ⟨hx.1, hx.2.2⟩
theorem spec_DrawHomeEvents (code : List Int) (hl : code.length ≤ 1099511627776) : SC Tryz.prog 28 [.at (.im 1 (code.map byteRow))] [] (.ag (heT code).ats) [] := by
  have hr := run36_ok hl
  refine SC.of_W mixed Tryz.func28 (by kernel_rfl) rfl Tryz.results28 _ Tryz.ntmps28 (by simp) ?_
  simp -implicitDefEqProofs only [go_sem]
  refine callX [] ((spec_DrawRunEvents code hl).frozen) (by simp -implicitDefEqProofs only [go_sem]) ?_
  simp -implicitDefEqProofs only [go_sem]
  refine callX [] ((spec_RunEvents (runT0 code) (runL code) hr.1.sane (by omega) (fun e he => (hr.2.2.2.2.2.1 e he).1.i64)).frozen) (by simp -implicitDefEqProofs only [go_sem]) ?_
  simp -implicitDefEqProofs only [go_sem]
  rw [show runZ (runT0 code) (runL code) = runX code from rfl]
  refine ⟨fun k => ?_, fun k => ?_⟩
  · have e : heT code = { runX code with day := -1 } := if_pos k
    rw [e]
    repeat' (first | apply And.intro | rfl)
  · have e : heT code = runX code := if_neg k
    rw [e]
    repeat' (first | apply And.intro | rfl)
theorem spec_DrawFaultOf (code : List Int) (hl : code.length ≤ 1099511627776) : SC Tryz.prog 34 [.at (.im 1 (code.map byteRow))] [] (.ag (x36 code).ats) [] := by
  refine SC.of_W mixed Tryz.func34 (by kernel_rfl) rfl Tryz.results34 _ Tryz.ntmps34 (by simp) ?_
  simp -implicitDefEqProofs only [go_sem]
  refine callX [] ((spec_l36Draw code hl).frozen) (by simp -implicitDefEqProofs only [go_sem]) ?_
  simp -implicitDefEqProofs only [go_sem]
theorem spec_DrawFoodLeftShare (code : List Int) (hl : code.length ≤ 1099511627776) : SC Tryz.prog 48 [.at (.im 1 (code.map byteRow))] [] (.ag (x36 code).ats) [] := by
  refine SC.of_W mixed Tryz.func48 (by kernel_rfl) rfl Tryz.results48 _ Tryz.ntmps48 (by simp) ?_
  simp -implicitDefEqProofs only [go_sem]
  refine callX [] ((spec_l36Draw code hl).frozen) (by simp -implicitDefEqProofs only [go_sem]) ?_
  simp -implicitDefEqProofs only [go_sem]
end Go.Abs

namespace Go.Abs
open Go.RowKit Go.Proofs
set_option linter.unusedVariables false
set_option linter.unusedSimpArgs false
set_option maxRecDepth 100000

/-! ### The crew -/
def Strong (m : DMember) : Prop := m.ill = false ∧ 10 ≤ m.strength ∧ m.need ≤ 2
theorem crewF_strong : ∀ (k : Nat) (s : DCur) (i : Int) (l : List DMember), (∀ m ∈ l, Strong m) → ∀ m ∈ (crewF k s i l).1, Strong m := by
  intro k
  induction k with
  | zero => intro s i l h; exact h
  | succ k ih =>
    intro s i l h
    rw [crewF]
    split
    · refine ih _ _ _ fun m hm => ?_
      rcases List.mem_append.1 hm with hm | hm
      · exact h m hm
      · rw [List.mem_singleton] at hm
        subst hm
        have h1 := belowV_bnd (belowS s 3) 20
        have h2 := belowV_bnd (belowS (belowS s 3) 20) 2
        have h2b := h2.2.1 (by omega)
        exact ⟨rfl, by simp only []; omega, by simp only []; omega⟩
    · exact h
theorem strong_sum : ∀ (l : List DMember), (∀ m ∈ l, Strong m) → 10 * (l.length : Int) ≤ sumL loadOf l ∧ sumL DMember.need l ≤ 2 * (l.length : Int) := by
  intro l
  induction l with
  | nil => intro _; simp [sumL]
  | cons m l ih =>
    intro h
    have h1 := ih fun y hy => h y (by simp [hy])
    obtain ⟨a, b, c⟩ := h m (by simp)
    have e : loadOf m = m.strength := by unfold loadOf; rw [if_neg (by rw [a]; decide)]
    simp only [sumL, List.map_cons, List.sum_cons, List.length_cons] at h1 ⊢
    rw [e]
    omega
theorem strong_load {l : List DMember} (hc : CrewP l) (h : ∀ m ∈ l, Strong m) : 10 ≤ capZ l ∧ 5 * needZ l ≤ capZ l := by
  have h1 := strong_sum l h
  have h2 := hc.2.1
  rw [capZ, if_pos hc, needZ, if_pos hc]
  omega
/-! ### The first event -/
theorem lev_zero {C n k f : Int} (hk : 1 ≤ k) : Lev C n k 0 f 0 0 := by
  have a : ¬ k ≤ 0 := by omega
  exact ⟨Int.le_refl _, by rw [farT_0 a]; exact Int.le_refl _, by rw [farT_0 a, farR_0 a]; simp⟩
theorem ci_zero {C n f gv : Int} (hf : 0 ≤ f) (hC : f ≤ C) (hn : 1 ≤ n) (hg : gv ≤ 10) : CI C n 0 f 0 0 0 0 gv 0 0 0 0 0 0 0 0 0 0 0 where
  l1 := lev_zero (by omega)
  l2 := lev_zero (by omega)
  l3 := lev_zero (by omega)
  l4 := lev_zero (by omega)
  f0 := hf
  fC := hC
  d0 := Int.le_refl _
  n1 := hn
  gs := by omega
  load := by rw [farR_0 (by omega)]; simp
  days := by rw [farT_0 (by omega), farT_0 (by omega), farT_0 (by omega), farT_0 (by omega)]; omega
  gv1 := by omega
  et1 := by simp
  evs := by omega
  pos := by omega
  no2 := fun _ => rfl
  no1 := fun _ => rfl
  tk1 := fun h => by omega
  tk0 := fun _ => ⟨fun h => by omega, by rw [farR_0 (by omega), farT_0 (by omega)]; simp⟩
theorem ct_start {x : DLand} {r : DRule} {crew : List DMember} (ht : trekP (newT x 0 r crew)) : CT (applyZ (newT x 0 r crew) ⟨1, 10, false⟩) 0 ∧ Same (newT x 0 r crew) (applyZ (newT x 0 r crew) ⟨1, 10, false⟩) := by
  obtain ⟨ho, hb, hd0⟩ := trek_way ht
  have hcr : CrewP crew := ht.1.1.1.2.2.2.1
  have hn1 := needZ_pos hcr
  have hcap := capZ_bnd crew
  rw [(apply_1 rfl).1, giveZ]
  split
  · rename_i hp
    obtain ⟨⟨k1, k2⟩, k3, k4, k5⟩ := hp
    have hs : Same (newT x 0 r crew) (giveT (newT x 0 r crew) 10) := ⟨rfl, rfl, rfl, rfl⟩
    have hroom : (10 : Int) ≤ capZ crew := by
      have k2' : (10 : Int) ≤ roomZ (newT x 0 r crew).party := k2
      unfold roomZ at k2'
      have e0 : (newT x 0 r crew).party.food = 0 := rfl
      have e1 : (newT x 0 r crew).party.crew = crew := rfl
      rw [e0, e1] at k2'
      split at k2' <;> omega
    refine ⟨⟨k5, 0, 0, 0, 0, 0, 0, 0, 0, 0, ?_⟩, hs⟩
    have e1 : (giveT (newT x 0 r crew) 10).party.food = 10 := by
      show IntKind.i64.wrap 10 = 10
      exact wrap64 (by decide) (by decide)
    have e2 : (giveT (newT x 0 r crew) 10).given = 10 := by
      show IntKind.i64.wrap 10 = 10
      exact wrap64 (by decide) (by decide)
    have e3 : (giveT (newT x 0 r crew) 10).far (giveT (newT x 0 r crew) 10).party.at_ = 0 := steps_0 hb
    rw [e1, e2, e3]
    exact ci_zero (by decide) hroom hn1 (by decide)
  · refine ⟨⟨ht, 0, 0, 0, 0, 0, 0, 0, 0, 0, ?_⟩, Same.refl _⟩
    have e3 : (newT x 0 r crew).far (newT x 0 r crew).party.at_ = 0 := steps_0 hb
    rw [e3]
    exact ci_zero (by show (0 : Int) ≤ 0; decide) hcap.1 hn1 (by show (0 : Int) ≤ 10; decide)
/-! ### A day on the way home, in any weather -/
def TopI (t : DTrek) : Prop := Open' t.land t.base t.rule t.depots t.party
theorem any_trek {t : DTrek} (ht : trekP t) (hi : TopI t) (hne : t.party.at_ ≠ t.base) (hd : t.day + 1 ≤ 5000) {s : Bool} (hs : s = true → mayP t.rule t.party.past) :
    dayP t (retZ t.land t.base t.rule t.depots t.party s) (retL t.land t.base t.rule t.depots t.party s) (retP t.land t.base t.rule t.depots t.party s) ∧ TopI (dayT t (retZ t.land t.base t.rule t.depots t.party s) (retL t.land t.base t.rule t.depots t.party s)) ∧ t.eaten + 1 ≤ (dayT t (retZ t.land t.base t.rule t.depots t.party s) (retL t.land t.base t.rule t.depots t.party s)).eaten := by
  obtain ⟨hret, he, hpp, hll, hbk, hopen⟩ := home_any (p := t.party) (l := t.depots) ht.1 hne hi s hs
  have hd0 := ht.2.2.2.2.1
  have ed : IntKind.i64.wrap (t.day + 1) = t.day + 1 := wrap64 (by omega) (by omega)
  have hw := writeP_go (cell := (retZ t.land t.base t.rule t.depots t.party s).at_) (food := (retZ t.land t.base t.rule t.depots t.party s).food) ht hd (cell_bnd hpp.1.1) hpp.2.2.1
  have ej : (dayT t (retZ t.land t.base t.rule t.depots t.party s) (retL t.land t.base t.rule t.depots t.party s)).journal = pagesOf t ++ [mkPage (pagesOf t) (t.day + 1) (retZ t.land t.base t.rule t.depots t.party s).at_ (retZ t.land t.base t.rule t.depots t.party s).food] := by
    show writeL (pagesOf t) (IntKind.i64.wrap (t.day + 1)) _ _ = _
    rw [ed, writeL, if_pos hw]
  have edd : (dayT t (retZ t.land t.base t.rule t.depots t.party s) (retL t.land t.base t.rule t.depots t.party s)).day = t.day + 1 := ed
  obtain ⟨h1, h2, h3, h4⟩ := ht.2.2.2.2.2
  have hv := ht.1.1.1
  have hfd := hv.2.1.food
  have hfa := foodAt_bnd hfd t.party.at_
  have hn := pickN_bnd t.party (foodAt t.party.at_ t.depots)
  have hnl := pick_le (p := t.party) hfa.1
  have hnd := needZ_bnd t.party.crew
  have ef := eat_food he
  have efood : (retZ t.land t.base t.rule t.depots t.party s).food = t.party.food + pickN t.party (foodAt t.party.at_ t.depots) - needZ t.party.crew := by
    rw [retZ, if_pos hret]
    show (eatZ (pickZ t.party (foodAt t.party.at_ t.depots))).food = _
    rw [ef.1]; rfl
  have eZ : foodZ (retL t.land t.base t.rule t.depots t.party s) = foodZ t.depots - pickN t.party (foodAt t.party.at_ t.depots) := by
    rw [retL, if_pos hret]
    split
    · exact take_sum hv.2.1.asc hfd hn.1 hnl
    · omega
  have hfz := foodZ_bnd (retL t.land t.base t.rule t.depots t.party s)
  have hfp : 0 ≤ (retZ t.land t.base t.rule t.depots t.party s).food ∧ (retZ t.land t.base t.rule t.depots t.party s).food ≤ 10000 := hpp.2.2.1
  have ee : (dayT t (retZ t.land t.base t.rule t.depots t.party s) (retL t.land t.base t.rule t.depots t.party s)).eaten = t.eaten + needZ t.party.crew := wrap64 (by omega) (by omega)
  have hn1 : 1 ≤ needZ t.party.crew := ef.2.1
  refine ⟨⟨hret, ht, hbk, ?_, ?_, ?_, by rw [edd]; omega, ?_⟩, hopen, by rw [ee]; omega⟩
  · show KeepsP t.rule (retZ t.land t.base t.rule t.depots t.party s).past
    have : (retZ t.land t.base t.rule t.depots t.party s).past = addDay t.party.past s := by rw [retZ, if_pos hret]; rfl
    rw [this]
    exact keeps_add ht.2.1 hs
  · rw [ej]; exact hw
  · right
    rw [ej, edd, List.length_append, List.length_singleton, prevP_S (p := mkPage (pagesOf t) (t.day + 1) (retZ t.land t.base t.rule t.depots t.party s).at_ (retZ t.land t.base t.rule t.depots t.party s).food) (by simp)]
    exact Int.le_refl _
  · have e1 : (dayT t (retZ t.land t.base t.rule t.depots t.party s) (retL t.land t.base t.rule t.depots t.party s)).party.food = (retZ t.land t.base t.rule t.depots t.party s).food := rfl
    have e2 : (dayT t (retZ t.land t.base t.rule t.depots t.party s) (retL t.land t.base t.rule t.depots t.party s)).depots = retL t.land t.base t.rule t.depots t.party s := rfl
    refine ⟨h1, ?_, hfp, ?_⟩
    · rw [ee]; omega
    · rw [ee, e1, e2, eZ, efood]
      show t.given = _
      omega
/-! ### The drawn expedition -/
theorem run_head {code : List Int} (h : code.length ≤ 1099511627776) : ∃ rest, runL code = ⟨1, 10, false⟩ :: rest ∧ rest.length ≤ 13 ∧ ∀ e ∈ rest, EvFine e := by
  have hr := run36_ok h
  cases he : runL code with
  | nil => rw [he] at hr; exact absurd hr.2.2.2.2.2.2.2 (by simp)
  | cons a rest =>
    have h1 := hr.2.2.2.2.2.2.2
    have h2 := hr.2.2.2.2.2.2.1
    have h3 := hr.2.2.2.2.2.1
    rw [he] at h1 h2 h3
    have : a = ⟨1, 10, false⟩ := Option.some.inj h1
    subst this
    exact ⟨rest, rfl, by simp at h2; omega, fun e hm => h3 e (by simp [hm])⟩
theorem top_open {code : List Int} (h : code.length ≤ 1099511627776) (ht : trekP (runT0 code)) : TopI (runX code) ∧ (runX code).given ≤ 166 := by
  obtain ⟨rest, hr, hrl, hre⟩ := run_head h
  have e0 : runT0 code = newT (landF (newCur code)).1 0 (ruleV (landF (newCur code)).2) (crewF 4 (ruleS (landF (newCur code)).2) 1 []).1 := by
    have e1 : runT0 code = newTrekZ (landF (newCur code)).1 0 (ruleV (landF (newCur code)).2) (crewF 4 (ruleS (landF (newCur code)).2) 1 []).1 := rfl
    rw [e1, newTrekZ]
    split
    · rfl
    · rename_i hn
      rw [e1, newTrekZ, if_neg hn] at ht
      exact absurd ht.2.1.1.1.1 (by decide)
  rw [e0] at ht
  have hs := ct_start ht
  have hrun := ct_run rest _ 0 hs.1 hre
  have hsame := hs.2.trans hrun.2
  have hx : runX code = runZ (applyZ (newT (landF (newCur code)).1 0 (ruleV (landF (newCur code)).2) (crewF 4 (ruleS (landF (newCur code)).2) 1 []).1) ⟨1, 10, false⟩) rest := by
    show runZ (runT0 code) (runL code) = _
    rw [hr, e0]; rfl
  have hct := hrun.1
  rw [← hx] at hct hsame
  have hcrew : (runX code).party.crew = (crewF 4 (ruleS (landF (newCur code)).2) 1 []).1 := hsame.crew
  have hrule : (runX code).rule = ruleV (landF (newCur code)).2 := hsame.rule
  have hcp : CrewP (runX code).party.crew := hct.1.1.1.1.2.2.2.1
  have hst : ∀ m ∈ (runX code).party.crew, Strong m := by
    rw [hcrew]
    exact crewF_strong 4 _ 1 [] fun m hm => by cases hm
  have hw : (runX code).rule.window ≤ 6 := by
    rw [hrule]
    have hb := belowV_bnd (landF (newCur code)).2 6
    have hb2 := hb.2.1 (by omega)
    show 1 + belowV (landF (newCur code)).2 6 ≤ 6
    omega
  refine ⟨ct_open hct (by omega) (strong_load hcp hst) hw, ?_⟩
  obtain ⟨_, o1, o2, o3, o4, Dy, a, b1, b2, tk, hc⟩ := hct
  have h1 := hc.gv1
  have h2 := hc.evs
  have h3 := hc.pos
  omega
end Go.Abs

namespace Go.Abs
open Go.RowKit Go.Proofs
set_option linter.unusedVariables false
set_option linter.unusedSimpArgs false
set_option maxRecDepth 100000
set_option maxHeartbeats 4000000

def onF (d : Int) (n : Int) (p : DPage) : Int := if p.day ≤ d then p.cell else n
def onT (d : Int) (l : List DPage) (i : Nat) : Int := (l.take i).foldl (onF d) (-1)
noncomputable def cellOnZ (l : List DPage) (d : Int) : Int := if Journal l then l.foldl (onF d) (-1) else -1
theorem onT_S {d : Int} {l : List DPage} {i : Nat} {p : DPage} (h : l[i]? = some p) : onT d l (i + 1) = onF d (onT d l i) p := by
  rw [onT, List.take_add_one, h, Option.toList_some, List.foldl_append]; rfl
theorem impl_CellOn (l : List DPage) (d : Int) (hl : l.length ≤ 1048576) (hw : ∀ p ∈ l, p.wf) : SC Tryz.prog 65 [.at (.im 4 (l.map DPage.row)), .at (.v (.int .i64 d))] [] (.at (.v (.int .i64 (cellOnZ l d)))) [] := by
  refine SC.of_V mixed Tryz.func65 (by kernel_rfl) rfl Tryz.results65 _ Tryz.ntmps65 (by simp) ?_
  simp -implicitDefEqProofs only [go_sem]
  refine T.loopW mixed [0, 1, 5, 8, 9, 10] (fun mm vs es => ∃ (i : Nat), vs = [.at (.im 4 (l.map DPage.row)), .at (.v (.int .i64 d)), .at (.v (.int .i64 (if Journal l then onT d l i else -1))), .at (.im 4 (l.map DPage.row)), .at (.v (.int .i64 l.length)), .at (.v (.int .i64 i))] ∧ es = [] ∧ mm + i = l.length) l.length ?_ ?_
  · simp -implicitDefEqProofs only [go_sem]; exact ⟨0, by unfold onT; simp, by omega⟩
  rintro q _ _ ⟨i, rfl, rfl, hn⟩
  simp -implicitDefEqProofs only [go_sem]
  refine ⟨fun h => ⟨by omega, fun p hp => ?_⟩, fun h => ?_⟩
  · refine callX [] (impl_IsJournal l hl hw) (by simp -implicitDefEqProofs only [go_sem]) ?_
    simp -implicitDefEqProofs only [go_sem]
    refine ⟨fun hj => ⟨fun k => ?_, fun k => ?_⟩, fun hj => ?_⟩
    · rw [wrap64 (by omega) (by omega)]
      exact ⟨q - 1, by omega, i + 1, ⟨by rw [if_pos hj, onT_S hp, onF, if_pos k], rfl⟩, by omega⟩
    · rw [wrap64 (by omega) (by omega)]
      exact ⟨q - 1, by omega, i + 1, ⟨by rw [if_pos hj, if_pos hj, onT_S hp, onF, if_neg k], rfl⟩, by omega⟩
    · rw [wrap64 (by omega) (by omega)]
      exact ⟨q - 1, by omega, i + 1, ⟨by rw [if_neg hj, if_neg hj], rfl⟩, by omega⟩
  · unfold cellOnZ
    split
    · rw [onT, List.take_of_length_le (by omega)]
    · rfl
/-! ### The first day at a cell -/
theorem day_step {l : List DPage} (h : Journal l) {i : Nat} {p q : DPage} (hp : l[i]? = some p) (hq : l[i + 1]? = some q) : p.day + 1 ≤ q.day := by
  have := (h.1 (i + 1) q hq).1.1
  rw [prevP_S hp] at this
  exact this
theorem day_asc {l : List DPage} (h : Journal l) : ∀ (k i : Nat) (p q : DPage), l[i]? = some p → l[i + k + 1]? = some q → p.day < q.day := by
  intro k
  induction k with
  | zero => intro i p q hp hq; have := day_step h hp hq; omega
  | succ k ih =>
    intro i p q hp hq
    have hlt : i + k + 1 < l.length := by have := (List.getElem?_eq_some_iff.1 hq).1; omega
    have h1 := ih i p l[i + k + 1] hp (List.getElem?_eq_getElem hlt)
    have h2 := day_step h (List.getElem?_eq_getElem hlt) (by rw [← hq]; congr 1)
    omega
theorem day_pair {l : List DPage} (h : Journal l) : l.Pairwise fun p q => p.day < q.day := by
  rw [List.pairwise_iff_getElem]
  intro i j hi hj hij
  exact day_asc h (j - i - 1) i l[i] l[j] (List.getElem?_eq_getElem hi) (by rw [show i + (j - i - 1) + 1 = j by omega]; exact List.getElem?_eq_getElem hj)
theorem on_late {d : Int} : ∀ (l : List DPage) (n : Int), (∀ p ∈ l, d < p.day) → l.foldl (onF d) n = n := by
  intro l
  induction l with
  | nil => intro n _; rfl
  | cons p l ih =>
    intro n h
    rw [List.foldl_cons, onF, if_neg (by have := h p (by simp); omega)]
    exact ih n fun q hq => h q (by simp [hq])
theorem first_on {c : Int} : ∀ (l : List DPage) (n : Int), l.Pairwise (fun p q => p.day < q.day) → (∀ p ∈ l, 0 ≤ p.day) → 0 ≤ firstTo c l → l.foldl (onF (firstTo c l)) n = c := by
  intro l
  induction l with
  | nil => intro n _ _ h; simp [firstTo] at h
  | cons p l ih =>
    intro n hp h0 h
    obtain ⟨h1, h2⟩ := List.pairwise_cons.1 hp
    rw [List.foldl_cons]
    by_cases e : p.cell = c
    · rw [firstTo, if_pos e, onF, if_pos (Int.le_refl _), on_late l _ h1, e]
    · rw [firstTo, if_neg e] at h ⊢
      exact ih _ h2 (fun q hq => h0 q (by simp [hq])) h
theorem first_cell {l : List DPage} {c : Int} (h : ¬ firstZ l c < 0) : cellOnZ l (firstZ l c) = c := by
  unfold firstZ at h ⊢
  by_cases hj : Journal l
  · rw [if_pos hj] at h ⊢
    rw [cellOnZ, if_pos hj]
    refine first_on l (-1) (day_pair hj) (fun p hp => ?_) (by omega)
    obtain ⟨i, hi⟩ := List.getElem?_of_mem hp
    have h1 := (hj.1 i p hi).1.1
    have h2 := prev_day (i := l.length) (fun j q _ hq => hj.1 j q hq) i (by have := (List.getElem?_eq_some_iff.1 hi).1; omega)
    omega
  · rw [if_neg hj] at h; omega
/-! ### Names of events -/
def nameZ (k : Int) : ByteArray := if k = 1 then ⟨#[103, 105, 118, 101]⟩ else if k = 2 then ⟨#[103, 111]⟩ else if k = 3 then ⟨#[119, 97, 105, 116]⟩ else if k = 4 then ⟨#[104, 111, 109, 101]⟩ else if k = 5 then ⟨#[108, 97, 121]⟩ else ⟨#[116, 97, 107, 101]⟩
theorem nameZ_ne {k : Int} : ((nameZ k).toList == (⟨#[]⟩ : ByteArray).toList) = false := by
  unfold nameZ
  split
  · decide +kernel
  split
  · decide +kernel
  split
  · decide +kernel
  split
  · decide +kernel
  split
  · decide +kernel
  · decide +kernel
theorem impl_EventName (k : Int) (h : 1 ≤ k ∧ k ≤ 6) : SC Tryz.prog 33 [.at (.v (.int .i64 k))] [] (.at (.v (.string (nameZ k)))) [] := by
  refine SC.of_V mixed Tryz.func33 (by kernel_rfl) rfl Tryz.results33 _ Tryz.ntmps33 (by simp) ?_
  simp -implicitDefEqProofs only [go_sem]
  refine callX [] (impl_InRange k 1 6) (by simp -implicitDefEqProofs only [go_sem]) ?_
  simp -implicitDefEqProofs only [go_sem]
  refine ⟨fun h2 => absurd h h2, fun _ => ?_⟩
  rw [wrap64 (by omega) (by omega)]
  refine ⟨by omega, by omega, fun r hr => ?_⟩
  have hk : k = 1 ∨ k = 2 ∨ k = 3 ∨ k = 4 ∨ k = 5 ∨ k = 6 := by omega
  rcases hk with rfl | rfl | rfl | rfl | rfl | rfl
  all_goals
    rw [← Option.some.inj hr]
    rfl
/-! ### A byte of the input -/
theorem laws_at (code : List Int) (i : Nat) (h : code.length ≤ 1048576) (hi : i ≤ 1048576) : SC Tryz.prog 26 [.at (.im 1 (code.map byteRow)), .at (.v (.int .i64 (i : Nat)))] [] (.at (.v (.int .i64 (if i < code.length then IntKind.i64.wrap (code.getD i 0) else ((i : Int) * 31 + (code.length : Int) * 7).tmod 256)))) [] := by
  refine SC.of_V mixed Tryz.func26 (by kernel_rfl) rfl Tryz.results26 _ Tryz.ntmps26 (by simp) ?_
  simp -implicitDefEqProofs only [go_sem]
  refine ⟨fun h1 => ?_, fun h1 => ?_⟩
  · rw [if_pos (by omega)]
    refine ⟨by omega, fun c hc => ?_⟩
    rw [List.getD_eq_getElem?_getD, hc]; rfl
  · rw [if_neg (by omega), wrap64 (x := (i : Int) * 31) (by omega) (by omega), wrap64 (x := (code.length : Int) * 7) (by omega) (by omega), wrap64 (by omega) (by omega)]
end Go.Abs

namespace Go.Abs
open Go.RowKit Go.Proofs
set_option linter.unusedVariables false
set_option linter.unusedSimpArgs false
set_option maxRecDepth 100000
set_option maxHeartbeats 4000000

theorem laws_big (code : List Int) (h : code.length ≤ maxLen) : SC Tryz.prog 9 [.at (.im 1 (code.map byteRow))] [] (.at (.v (.bool (decide ((1048576 : Int) < code.length))))) [] := by
  refine SC.of_V mixed Tryz.func9 (by kernel_rfl) rfl Tryz.results9 _ Tryz.ntmps9 (by simp) ?_
  simp -implicitDefEqProofs only [go_sem]
theorem wrapD {n : Nat} (h1 : (0 : Int) ≤ n) (h2 : (n : Int) < 4611686018427387904) : IntKind.i64.wrap ((n : Int) + 1) = ((n + 1 : Nat) : Int) := by
  rw [wrap64 (by omega) (by omega)]; omega
theorem home_sane {t : DTrek} {s : Bool} (h : t.Sane) : (dayR t (retZ t.land t.base t.rule t.depots t.party s) (retL t.land t.base t.rule t.depots t.party s) (retP t.land t.base t.rule t.depots t.party s)).Sane := dayR_sane h (retZ_fit h.party) (Nat.le_trans (retL_len _ _ _ _ _ _) h.fit.depots)
theorem run_inv {code : List Int} (h : code.length ≤ 1099511627776) (ht : trekP (runT0 code)) (i : Nat) : DayInv (runT (runT0 code) (runL code) i) := by
  have hp : (runT0 code).journal = [] ∧ (runT0 code).day = 0 := ⟨newTrekZ_party.2.2.1, newTrekZ_party.2.2.2.2.2.1⟩
  have h1 := run36_ok h
  have hl := h1.2.2.2.2.2.2.1
  have h0 : DayInv (runT0 code) := by
    refine ⟨ht, ?_, by rw [hp.1, hp.2]; rfl, fun h => by rw [hp.1] at h; simp at h⟩
    rw [hp.1]
    exact ⟨fun i q hi => by simp at hi, fun i q hi => by simp at hi, by simp⟩
  exact inv_run ((runL code).take i) (runT0 code) h0 (by rw [hp.2, List.length_take]; omega)
theorem inv_written {t : DTrek} (h : DayInv t) : writtenP t := by
  refine ⟨h.1.2.2.1, ?_⟩
  by_cases h0 : t.journal.length = 0
  · exact .inl h0
  · have := h.2.2.2 (by omega)
    exact .inr ⟨this.2, this.1⟩
theorem top_step {y : DTrek} (hyt : trekP y) (hyo : TopI y) (hys : y.Sane) (hne : ¬ y.party.at_ = y.base) (hd : y.day + 1 ≤ 5000) (s : Bool) (hs : s = true → mayP y.rule y.party.past) :
    ∃ z : DTrek, (SC Tryz.prog 16 [.ag y.ats, .at (.v (.bool s))] [] (.tp [.ag z.ats, .at (.v (.bool true))]) []) ∧ trekP z ∧ TopI z ∧ z.Sane ∧ y.eaten + 1 ≤ z.eaten ∧ z.given = y.given ∧ z.day = y.day + 1 := by
  obtain ⟨h1, h2, h3⟩ := any_trek hyt hyo hne hd hs
  have e1 : dayR y (retZ y.land y.base y.rule y.depots y.party s) (retL y.land y.base y.rule y.depots y.party s) (retP y.land y.base y.rule y.depots y.party s) = dayT y (retZ y.land y.base y.rule y.depots y.party s) (retL y.land y.base y.rule y.depots y.party s) := if_pos h1
  have hsn := home_sane (s := s) hys
  have hc := (impl_StepHome y s hys).frozen
  rw [e1] at hsn hc
  rw [decide_eq_true h1] at hc
  have hd0 := hyt.2.2.2.2.1
  exact ⟨_, hc, h1.2.2, h2, hsn, h3, rfl, wrap64 (by omega) (by omega)⟩
theorem law_Top (code : List Int) (code_max : code.length ≤ maxLen) : SC Tryz.prog 8 [.at (.im 1 (code.map byteRow))] [] (.at (.v (.bool true))) [] := by
  refine SC.of_VJ mixed Tryz.func8 (by kernel_rfl) rfl Tryz.results8 _ Tryz.ntmps8 (by simp) ?_
  simp -implicitDefEqProofs only [go_sem]
  refine T.stepJ mixed ?_
  simp -implicitDefEqProofs only [go_sem]
  refine callX [] (laws_big code code_max) (by simp -implicitDefEqProofs only [go_sem]) ?_
  simp -implicitDefEqProofs only [go_sem]
  intro hbig
  have hl : code.length ≤ 1099511627776 := by omega
  have hr := run36_ok hl
  have hx := runX_ok hl
  have hev : ∀ e ∈ runL code, I64 e.n := fun e he => (hr.2.2.2.2.2.1 e he).1.i64
  have hll := hr.2.2.2.2.2.2.1
  refine callX [] ((spec_DrawRunEvents code hl).frozen) (by simp -implicitDefEqProofs only [go_sem]) ?_
  simp -implicitDefEqProofs only [go_sem]
  refine T.stepJ mixed ?_
  simp -implicitDefEqProofs only [go_sem]
  refine ⟨some [], by decide +kernel, ?_⟩
  simp -implicitDefEqProofs only [go_sem]
  refine callXQ [] (impl_IsTrek (runT0 code) hr.1.fit) (by simp -implicitDefEqProofs only [go_sem]) ?_
  simp -implicitDefEqProofs only [go_sem]
  refine callXQ [] (spec_IsTrek (runT0 code) hr.1.fit) (by simp -implicitDefEqProofs only [go_sem]) ?_
  simp -implicitDefEqProofs only [go_sem]
  refine T.stepJ mixed ?_
  simp -implicitDefEqProofs only [go_sem]
  refine callX [] (impl_IsTrek (runT0 code) hr.1.fit) (by simp -implicitDefEqProofs only [go_sem]) ?_
  simp -implicitDefEqProofs only [go_sem]
  intro ht
  refine T.loopW mixed [0, 4, 5, 6] (fun mm vs es => ∃ (x : DTrek) (i : Nat), vs = [.at (.im 1 (code.map byteRow)), .at (.im 3 ((runL code).map DEvent.row)), .at (.bx 100 0 0), .at (.v (.int .i64 (i : Nat)))] ∧ es = [.box 0 x.ats] ∧ mm + i = (runL code).length ∧ runT (runT0 code) (runL code) i = x ∧ x.Sane) ((runL code).length) ?_ ?_
  · simp -implicitDefEqProofs only [go_sem]
    exact ⟨runT0 code, 0, rfl, rfl, by omega, rfl, hr.1.sane⟩
  rintro q _ _ ⟨x, i, rfl, rfl, hn, hrx, hxs⟩
  simp -implicitDefEqProofs only [go_sem]
  refine ⟨fun h1 => ?_, fun h1 => ?_⟩
  · refine ⟨some [], by decide +kernel, ?_⟩
    simp -implicitDefEqProofs only [go_sem]
    refine ⟨by omega, fun e he => ?_⟩
    have hxs' := applyZ_sane hxs (hev e (mem_get he))
    have hrx' : runT (runT0 code) (runL code) (i + 1) = applyZ x e := by rw [runT_S he, hrx]
    have hinv := run_inv hl ht (i + 1)
    rw [hrx'] at hinv
    refine callXQ [] ((impl_ApplyEvent x e hxs (hev e (mem_get he))).frozen) (by simp -implicitDefEqProofs only [go_sem]) ?_
    simp -implicitDefEqProofs only [go_sem]
    generalize applyZ x e = y at hxs' hrx' hinv ⊢
    have hyf := hxs'.fit
    have hyt := hinv.1
    refine callX [] (impl_IsTrek y hyf) (by simp -implicitDefEqProofs only [go_sem]) ?_
    simp -implicitDefEqProofs only [go_sem]
    refine ⟨fun _ => ?_, fun k => absurd hyt k⟩
    refine callX [] (impl_CanReturnNow y hyf) (by simp -implicitDefEqProofs only [go_sem]) ?_
    simp -implicitDefEqProofs only [go_sem]
    refine ⟨fun _ => ?_, fun k => absurd hyt.1 k⟩
    refine callX [] (impl_NothingLost y hyf.depots) (by simp -implicitDefEqProofs only [go_sem]) ?_
    simp -implicitDefEqProofs only [go_sem]
    refine ⟨fun _ => ?_, fun k => absurd hyt.2.2.2.2.2 k⟩
    refine callX [] (impl_IsWritten y hyf.journal hyf.pages) (by simp -implicitDefEqProofs only [go_sem]) ?_
    simp -implicitDefEqProofs only [go_sem]
    refine ⟨fun _ => ?_, fun k => absurd (inv_written hinv) k⟩
    refine callX [] (impl_KeepsRule y hyf.past) (by simp -implicitDefEqProofs only [go_sem]) ?_
    simp -implicitDefEqProofs only [go_sem]
    refine ⟨fun _ => ?_, fun k => absurd hyt.2.1 k⟩
    have hyfood := hyt.1.food
    exact ⟨fun k => by omega, fun _ => ⟨q - 1, by omega, y, i + 1, wrapD (by omega) (by omega), rfl, by omega, hrx', hxs'⟩⟩
  · have hX : x = runX code := by rw [← hrx, runT_end h1]; rfl
    subst hX
    have htr := (run_keep (runL code) (runT0 code)).1 ht
    have hto := top_open hl ht
    refine T.stepJ mixed ?_
    simp -implicitDefEqProofs only [go_sem]
    refine callX [] (impl_ComesHome (runX code) hx.1) (by simp -implicitDefEqProofs only [go_sem]) ?_
    simp -implicitDefEqProofs only [go_sem]
    refine ⟨fun k => absurd (home_short htr (by show (runX code).day ≤ 4000; omega)) k, fun _ => ?_⟩
    have hea : 0 ≤ (runX code).eaten := htr.2.2.2.2.2.2.1.1
    refine T.loopW mixed [0, 7, 8] (fun mm vs es => ∃ (y : DTrek) (i : Nat), vs = [.at (.im 1 (code.map byteRow)), .at (.bx 100 0 0), .at (.v (.int .i64 (i : Nat)))] ∧ es = [.box 0 y.ats] ∧ mm + i = 200 ∧ trekP y ∧ TopI y ∧ y.Sane ∧ (i : Int) ≤ y.eaten ∧ y.given ≤ 166 ∧ y.day ≤ 14 + i) 200 ?_ ?_
    · simp -implicitDefEqProofs only [go_sem]
      exact ⟨runX code, 0, rfl, rfl, by omega, htr, hto.1, hx.1, hea, hto.2, by omega⟩
    rintro q2 _ _ ⟨y, i2, rfl, rfl, hn2, hyt, hyo, hys, hye, hyg, hyd⟩
    simp -implicitDefEqProofs only [go_sem]
    have hyl := hyt.2.2.2.2.2
    have hyz := foodZ_bnd y.depots
    refine ⟨fun h2 => ?_, fun h2 => ?_⟩
    · refine callX [] (impl_AtBase y) (by simp -implicitDefEqProofs only [go_sem]) ?_
      simp -implicitDefEqProofs only [go_sem]
      refine ⟨fun hb => ?_, fun hb => ?_⟩
      · refine ⟨some [], by decide +kernel, ?_⟩
        simp -implicitDefEqProofs only [go_sem]
        refine callXQ [] (impl_MayStorm y.rule y.party.past hys.fit.past) (by simp -implicitDefEqProofs only [go_sem]) ?_
        simp -implicitDefEqProofs only [go_sem]
        refine ⟨fun hm => ?_, fun hm => ?_⟩
        · refine callXQ [] (laws_at code i2 (by omega) (by omega)) (by simp -implicitDefEqProofs only [go_sem]) ?_
          simp -implicitDefEqProofs only [go_sem]
          generalize decide ((if i2 < code.length then IntKind.i64.wrap (code.getD i2 0) else ((i2 : Int) * 31 + (code.length : Int) * 7).tmod 256).tmod 2 = 0) = s
          obtain ⟨z, cz, z1, z2, z3, z4, z5, z6⟩ := top_step hyt hyo hys hb (by omega) s (fun _ => hm)
          refine callXQ [] (cz) (by simp -implicitDefEqProofs only [go_sem]) ?_
          simp -implicitDefEqProofs only [go_sem]
          exact ⟨q2 - 1, by omega, z, i2 + 1, wrapD (by omega) (by omega), rfl, by omega, z1, z2, z3, by omega, by omega, by omega⟩
        · obtain ⟨z, cz, z1, z2, z3, z4, z5, z6⟩ := top_step hyt hyo hys hb (by omega) false (fun k => by cases k)
          refine callXQ [] (cz) (by simp -implicitDefEqProofs only [go_sem]) ?_
          simp -implicitDefEqProofs only [go_sem]
          exact ⟨q2 - 1, by omega, z, i2 + 1, wrapD (by omega) (by omega), rfl, by omega, z1, z2, z3, by omega, by omega, by omega⟩
      · refine callX [] (impl_AtBase y) (by simp -implicitDefEqProofs only [go_sem]) ?_
        simp -implicitDefEqProofs only [go_sem]
        exact hb
    · exfalso
      have h5 := hyl.2.2.1
      have h6 := hyl.2.2.2
      omega
end Go.Abs
