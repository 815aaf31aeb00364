/- Events, as they are drawn. -/
import Derived.Test.YtfdkpmbpnppllaaGreatADrawS
import Derived.Test.YtfdkpmbpnppllaaGreatAEvtR
namespace Go.Abs
open Go.RowKit Go.Proofs
set_option linter.unusedVariables false
set_option linter.unusedSimpArgs false
set_option maxRecDepth 100000
set_option maxHeartbeats 4000000

/-! ### One event -/
def kinds35 : List Int := [1, 2, 2, 2, 2, 3, 4, 5, 5, 6]
def one35K (s : DCur) : Int := intV s [1, 2, 2, 2, 2, 3, 4, 5, 5, 6]
def one35a (s : DCur) : DCur := intC s [1, 2, 2, 2, 2, 3, 4, 5, 5, 6]
def one35N (s : DCur) : Int := 1 + belowV (one35a s) 12
def one35b (s : DCur) : DCur := belowS (one35a s) 12
def one35 (s : DCur) (n : Int) : DEvent × DCur :=
  if one35K s = 2 then (⟨one35K s, belowV (belowS (one35b s) 4) n, onceV (one35b s) 4⟩, belowS (belowS (one35b s) 4) n)
  else (⟨one35K s, one35N s, onceV (one35b s) 4⟩, belowS (one35b s) 4)
theorem one35_2 {s : DCur} {n : Int} (h : one35K s = 2) : one35 s n = (⟨one35K s, belowV (belowS (one35b s) 4) n, onceV (one35b s) 4⟩, belowS (belowS (one35b s) 4) n) := if_pos h
theorem one35_0 {s : DCur} {n : Int} (h : ¬ one35K s = 2) : one35 s n = (⟨one35K s, one35N s, onceV (one35b s) 4⟩, belowS (one35b s) 4) := if_neg h
def EvOk (e : DEvent) : Prop := 0 ≤ e.kind ∧ e.kind ≤ 8 ∧ 0 ≤ e.n ∧ e.n ≤ 1048576
theorem EvOk.i64 {e : DEvent} (h : EvOk e) : I64 e.n := by
  have := h.2.2; unfold I64; omega
theorem one35_ok {s : DCur} {n : Int} (h : s.Ok) (hn : n ≤ 1048576) : (EvOk (one35 s n).1 ∧ 1 ≤ (one35 s n).1.kind ∧ (one35 s n).1.kind ≤ 6 ∧ ((one35 s n).1.kind = 1 → (one35 s n).1.n ≤ 12)) ∧ (one35 s n).2.Ok := by
  have hk : 1 ≤ one35K s ∧ one35K s ≤ 6 := by
    have := intV_mem s (l := [1, 2, 2, 2, 2, 3, 4, 5, 5, 6]) (by simp)
    simp only [List.mem_cons, List.not_mem_nil, or_false] at this
    unfold one35K; omega
  have ha : (one35a s).Ok := intC_ok h _
  have hb : (one35b s).Ok := belowS_ok ha 12
  have h1 := belowV_bnd (one35a s) 12
  have h1b := h1.2.1 (by omega)
  have h2 := belowV_bnd (belowS (one35b s) 4) n
  by_cases k : one35K s = 2
  · rw [one35_2 k]
    refine ⟨⟨⟨by simp only []; omega, by simp only []; omega, ?_, ?_⟩, by simp only []; omega, by simp only []; omega, fun e => ?_⟩, belowS_ok (belowS_ok hb 4) n⟩
    · simp only []; omega
    · simp only []
      by_cases hn0 : 0 < n
      · have := h2.2.1 hn0; omega
      · have := h2.2.2; omega
    · simp only [] at e; omega
  · rw [one35_0 k]
    unfold one35N
    exact ⟨⟨⟨by simp only []; omega, by simp only []; omega, by simp only []; omega, by simp only []; omega⟩, by simp only []; omega, by simp only []; omega, fun _ => by simp only []; omega⟩, belowS_ok hb 4⟩
theorem spec_l35One (s : DCur) (x : DLand) (h : s.Ok) (hx : x.cells.length ≤ 1048576) : SC Tryz.prog 97 [.at (.bx 0 0 0), .ag x.ats] [.box 0 s.ats] (.ag (one35 s x.cells.length).1.ats) [.box 0 (one35 s x.cells.length).2.ats] := by
  have ha : (one35a s).Ok := intC_ok h _
  have hb : (one35b s).Ok := belowS_ok ha 12
  have h1 := belowV_bnd (one35a s) 12
  have h1b := h1.2.1 (by omega)
  refine SC.of_M mixed Tryz.func97 (by kernel_rfl) rfl Tryz.results97 _ Tryz.ntmps97 (by simp) (by simp) ?_
  simp -implicitDefEqProofs only [go_sem, invOf]
  refine callXNB [0] [1112] (spec_l1Int s [1, 2, 2, 2, 2, 3, 4, 5, 5, 6] h (by simp) (by simp)) (by decide) (by simp -implicitDefEqProofs only [go_sem]) (by simp -implicitDefEqProofs only [go_sem]) ?_
  simp -implicitDefEqProofs only [go_sem, invOf]
  rw [show intV s [1, 2, 2, 2, 2, 3, 4, 5, 5, 6] = one35K s from rfl, show intC s [1, 2, 2, 2, 2, 3, 4, 5, 5, 6] = one35a s from rfl]
  refine callXNB [0] [] (spec_l1Below (one35a s) 12 ha) (by decide) (by simp -implicitDefEqProofs only [go_sem]) (by simp -implicitDefEqProofs only [go_sem]) ?_
  simp -implicitDefEqProofs only [go_sem, invOf]
  rw [show belowS (one35a s) 12 = one35b s from rfl]
  refine callXNB [0] [] (spec_l1Once (one35b s) 4 hb) (by decide) (by simp -implicitDefEqProofs only [go_sem]) (by simp -implicitDefEqProofs only [go_sem]) ?_
  simp -implicitDefEqProofs only [go_sem, invOf]
  rw [wrap64 (x := 1 + belowV (one35a s) 12) (by omega) (by omega), show 1 + belowV (one35a s) 12 = one35N s from rfl]
  refine ⟨fun k => ?_, fun k => ?_⟩
  · rw [one35_2 k]
    refine callXNB [0] [] (spec_l1Below (belowS (one35b s) 4) x.cells.length (belowS_ok hb 4)) (by decide) (by simp -implicitDefEqProofs only [go_sem]) (by simp -implicitDefEqProofs only [go_sem]) ?_
    simp -implicitDefEqProofs only [go_sem, invOf]
    skip
  · rw [one35_0 k]
    simp -implicitDefEqProofs only [go_sem, invOf]
    skip
/-! ### Some events -/
def it35 : Nat → DCur → Int → List DEvent → List DEvent × DCur
  | 0, s, _, l => (l, s)
  | k + 1, s, n, l => it35 k (one35 s n).2 n (l ++ [(one35 s n).1])
def EvFine (e : DEvent) : Prop := EvOk e ∧ 1 ≤ e.kind ∧ e.kind ≤ 6 ∧ (e.kind = 1 → e.n ≤ 12)
theorem it35_ok : ∀ (k : Nat) (s : DCur) (n : Int) (l : List DEvent), s.Ok → n ≤ 1048576 → (∀ e ∈ l, EvFine e) → (it35 k s n l).2.Ok ∧ (∀ e ∈ (it35 k s n l).1, EvFine e) ∧ (it35 k s n l).1.length = l.length + k ∧ (it35 k s n l).1.take l.length = l := by
  intro k
  induction k with
  | zero => intro s n l h hn hl; exact ⟨h, hl, rfl, List.take_length⟩
  | succ k ih =>
    intro s n l h hn hl
    have h1 := one35_ok h hn
    have := ih (one35 s n).2 n (l ++ [(one35 s n).1]) h1.2 hn (by
      intro e he
      rcases List.mem_append.1 he with he | he
      · exact hl e he
      · rw [List.mem_singleton] at he; subst he; exact h1.1)
    rw [it35]
    refine ⟨this.1, this.2.1, by rw [this.2.2.1]; simp; omega, ?_⟩
    have e := this.2.2.2
    have e2 := congrArg (List.take l.length) e
    rw [List.take_take, List.length_append, List.length_singleton, show min l.length (l.length + 1) = l.length by omega, List.take_left] at e2
    exact e2
def n35 (s : DCur) (m : Int) : Nat := (belowV s m).toNat
def list35 (s : DCur) (n m : Int) : List DEvent × DCur := it35 (n35 s m) (belowS s m) n [⟨1, 10, false⟩]
theorem list35_ok {s : DCur} {n m : Int} (h : s.Ok) (hn : n ≤ 1048576) (hm : 1 ≤ m) : (list35 s n m).2.Ok ∧ (∀ e ∈ (list35 s n m).1, EvFine e) ∧ (list35 s n m).1.length ≤ m ∧ (list35 s n m).1.take 1 = [⟨1, 10, false⟩] ∧ 1 ≤ (list35 s n m).1.length ∧ ((n35 s m : Nat) : Int) = belowV s m := by
  have hb := belowV_bnd s m
  have hb2 := hb.2.1 (by omega)
  have := it35_ok (n35 s m) (belowS s m) n [⟨1, 10, false⟩] (belowS_ok h m) hn (by
    intro e he
    rw [List.mem_singleton] at he; subst he
    exact ⟨⟨by decide, by decide, by decide, by decide⟩, by decide, by decide, fun _ => by decide⟩)
  have hl := this.2.2.1
  have en : ((n35 s m : Nat) : Int) = belowV s m := by unfold n35; omega
  simp only [List.length_singleton] at hl
  refine ⟨this.1, this.2.1, ?_, this.2.2.2, ?_, en⟩
  · show (((it35 (n35 s m) (belowS s m) n [⟨1, 10, false⟩]).1.length : Nat) : Int) ≤ m
    rw [hl]; omega
  · show 1 ≤ (it35 (n35 s m) (belowS s m) n [⟨1, 10, false⟩]).1.length
    omega
theorem spec_l35List (s : DCur) (x : DLand) (m : Int) (h : s.Ok) (hx : x.cells.length ≤ 1048576) (hm : 1 ≤ m ∧ m ≤ 100) : SC Tryz.prog 91 [.at (.bx 0 0 0), .ag x.ats, .at (.v (.int .i64 m))] [.box 0 s.ats] (.at (.fr 3 ((list35 s x.cells.length m).1.map DEvent.row))) [.box 0 (list35 s x.cells.length m).2.ats] := by
  have hb := belowV_bnd s m
  have hb2 := hb.2.1 (by omega)
  have en : ((n35 s m : Nat) : Int) = belowV s m := by unfold n35; omega
  refine SC.of_M mixed Tryz.func91 (by kernel_rfl) rfl Tryz.results91 _ Tryz.ntmps91 (by simp) (by simp) ?_
  simp -implicitDefEqProofs only [go_sem, invOf]
  refine callXNB [0] [] (spec_l1Below s m h) (by decide) (by simp -implicitDefEqProofs only [go_sem]) (by simp -implicitDefEqProofs only [go_sem]) ?_
  simp -implicitDefEqProofs only [go_sem, invOf]
  rw [← en]
  unfold list35
  generalize hA : it35 (n35 s m) (belowS s m) x.cells.length [⟨1, 10, false⟩] = A
  refine T.loopN mixed (show 1 ≤ 100 by decide) [0, 4, 7, 8] (fun mm vs ex es => ∃ (y : DCur) (l : List DEvent) (i : Nat), vs = [.at (.bx 0 0 0), .at (.bx 100 0 0), .at (.ow 101 0 3 l.length), .at (.v (.int .i64 (i : Nat)))] ∧ ex = [.box 0 y.ats] ∧ es = [.box 0 x.ats, .arr 0 3 (l.map DEvent.row)] ∧ mm = i ∧ y.Ok ∧ it35 i y x.cells.length l = A ∧ l.length + i ≤ 101) (n35 s m) ?_ ?_
  · simp -implicitDefEqProofs only [go_sem, invOf]
    exact ⟨belowS s m, [⟨1, 10, false⟩], n35 s m, ⟨rfl, rfl⟩, rfl, rfl, rfl, belowS_ok h m, hA, by simp; omega⟩
  rintro q _ _ _ ⟨y, l, i, rfl, rfl, rfl, rfl, hy, hA2, hl⟩ -
  simp -implicitDefEqProofs only [go_sem, invOf]
  refine ⟨fun hi => ?_, fun hi => ?_⟩
  · obtain ⟨k, rfl⟩ : ∃ k, q = k + 1 := ⟨q - 1, by omega⟩
    rw [it35] at hA2
    refine callXNB [0] [] (spec_l35One y x hy hx) (by decide) (by simp -implicitDefEqProofs only [go_sem]) (by simp -implicitDefEqProofs only [go_sem]) ?_
    simp -implicitDefEqProofs only [go_sem, invOf]
    have ho := one35_ok (n := x.cells.length) hy (by omega)
    exact ⟨room_s (by omega) (by decide), k, by omega, (one35 y x.cells.length).2, l ++ [(one35 y x.cells.length).1], k, ⟨by simp, wrapH (by omega) (by omega) (by omega)⟩, rfl, by simp [DEvent.row], rfl, ho.2, hA2, by simp; omega⟩
  · obtain rfl : q = 0 := by omega
    rw [it35] at hA2
    subst hA2
    exact ⟨rfl, rfl, rfl⟩
/-! ### Events that lead on, most of the time -/
noncomputable def ch36 (e : DEvent) (x : DTrek) (s : DCur) : DEvent × DCur :=
  if e.kind = 2 then
    if onceV s 5 = true then (e, belowS s 5) else ({ e with n := (to11 (belowS s 5) x.land x.party).1 }, (to11 (belowS s 5) x.land x.party).2)
  else (e, s)
theorem ch36_0 {e : DEvent} {x : DTrek} {s : DCur} (h : ¬ e.kind = 2) : ch36 e x s = (e, s) := if_neg h
theorem ch36_1 {e : DEvent} {x : DTrek} {s : DCur} (h : e.kind = 2) (h1 : onceV s 5 = true) : ch36 e x s = (e, belowS s 5) := by rw [ch36, if_pos h, if_pos h1]
theorem ch36_2 {e : DEvent} {x : DTrek} {s : DCur} (h : e.kind = 2) (h1 : ¬ onceV s 5 = true) : ch36 e x s = ({ e with n := (to11 (belowS s 5) x.land x.party).1 }, (to11 (belowS s 5) x.land x.party).2) := by rw [ch36, if_pos h, if_neg h1]
theorem ch36_ok {e : DEvent} {x : DTrek} {s : DCur} (he : EvFine e) (h : s.Ok) : EvFine (ch36 e x s).1 ∧ (ch36 e x s).2.Ok ∧ (ch36 e x s).1.kind = e.kind ∧ (¬ e.kind = 2 → (ch36 e x s).1 = e) := by
  have ht := to11_ok (x := x.land) (p := x.party) (belowS_ok h 5)
  by_cases k : e.kind = 2
  · by_cases k1 : onceV s 5 = true
    · rw [ch36_1 k k1]; exact ⟨he, belowS_ok h 5, rfl, fun _ => rfl⟩
    · rw [ch36_2 k k1]
      exact ⟨⟨⟨he.1.1, he.1.2.1, ht.1.1, by simp only []; omega⟩, he.2.1, he.2.2.1, fun h1 => by simp only [] at h1; omega⟩, ht.2, rfl, fun h => absurd k h⟩
  · rw [ch36_0 k]; exact ⟨he, h, rfl, fun _ => rfl⟩
noncomputable def go36 : List DEvent → DTrek → DCur → List DEvent
  | [], _, _ => []
  | e :: l, x, s => (ch36 e x s).1 :: go36 l (applyZ x (ch36 e x s).1) (ch36 e x s).2
theorem go36_ok : ∀ (l : List DEvent) (x : DTrek) (s : DCur), (∀ e ∈ l, EvFine e) → s.Ok → (∀ e ∈ go36 l x s, EvFine e) ∧ (go36 l x s).length = l.length := by
  intro l
  induction l with
  | nil => intro x s _ _; exact ⟨fun e he => (by cases he), rfl⟩
  | cons e l ih =>
    intro x s hl h
    have h1 := ch36_ok (x := x) (hl e (by simp)) h
    have h2 := ih (applyZ x (ch36 e x s).1) (ch36 e x s).2 (fun y hy => hl y (by simp [hy])) h1.2.1
    refine ⟨fun y hy => ?_, by rw [go36, List.length_cons, List.length_cons, h2.2]⟩
    rw [go36] at hy
    rcases List.mem_cons.1 hy with rfl | hy
    · exact h1.1
    · exact h2.1 y hy
noncomputable def runT0 (code : List Int) : DTrek := (start33 (newCur code)).1
noncomputable def runL0 (code : List Int) : List DEvent × DCur := list35 (start33 (newCur code)).2 (runT0 code).land.cells.length 14
noncomputable def runL (code : List Int) : List DEvent := go36 (runL0 code).1 (runT0 code) (runL0 code).2
theorem run36_ok {code : List Int} (h : code.length ≤ 1099511627776) : Small (runT0 code) ∧ (start33 (newCur code)).2.Ok ∧ (runL0 code).2.Ok ∧ (∀ e ∈ (runL0 code).1, EvFine e) ∧ (runL0 code).1.length ≤ 14 ∧ (∀ e ∈ runL code, EvFine e) ∧ (runL code).length ≤ 14 ∧ (runL code).head? = some ⟨1, 10, false⟩ := by
  have h0 := start33_ok (newCur_ok h)
  have hc : ((runT0 code).land.cells.length : Int) ≤ 1048576 := by have := h0.1.cells; show (((start33 (newCur code)).1.land.cells.length : Nat) : Int) ≤ _; omega
  have h1 := list35_ok (n := (runT0 code).land.cells.length) (m := 14) h0.2 hc (by decide)
  have h2 := go36_ok (runL0 code).1 (runT0 code) (runL0 code).2 h1.2.1 h1.1
  have hl : (runL0 code).1.length ≤ 14 := by have := h1.2.2.1; show (list35 _ _ _).1.length ≤ 14; omega
  refine ⟨h0.1, h0.2, h1.1, h1.2.1, hl, h2.1, by show (go36 _ _ _).length ≤ 14; rw [h2.2]; exact hl, ?_⟩
  have e := h1.2.2.2.1
  change (runL0 code).1.take 1 = _ at e
  unfold runL
  cases hr : (runL0 code).1 with
  | nil => rw [hr] at e; cases e
  | cons a r =>
    rw [hr] at e
    simp only [List.take_succ_cons, List.take_zero, List.cons.injEq, and_true] at e
    subst e
    rw [go36, ch36_0 (by decide)]
    rfl
theorem spec_DrawRunEvents (code : List Int) (hl : code.length ≤ 1099511627776) : SC Tryz.prog 24 [.at (.im 1 (code.map byteRow))] [] (.tp [.ag (runT0 code).ats, .at (.fr 3 ((runL code).map DEvent.row))]) [] := by
  have hr := run36_ok hl
  have hcl := hr.1.cells
  have hn := newCur_ok hl
  refine SC.of_W mixed Tryz.func24 (by kernel_rfl) rfl Tryz.results24 _ Tryz.ntmps24 (by simp) ?_
  simp -implicitDefEqProofs only [go_sem]
  refine callX [] (spec_l1New code hl) (by simp -implicitDefEqProofs only [go_sem]) ?_
  simp -implicitDefEqProofs only [go_sem]
  refine callXNB [1160] [] ((spec_l33Start (newCur code) hn).frozenX (by simp) cur_plainS) (by decide) (by simp -implicitDefEqProofs only [go_sem]) (by simp -implicitDefEqProofs only [go_sem]) ?_
  simp -implicitDefEqProofs only [go_sem]
  rw [show (start33 (newCur code)).1 = runT0 code from rfl]
  refine callXNB [1160] [] (spec_l35List (start33 (newCur code)).2 (runT0 code).land 14 hr.2.1 (by omega) (by omega)) (by decide) (by simp -implicitDefEqProofs only [go_sem]) (by simp -implicitDefEqProofs only [go_sem]) ?_
  simp -implicitDefEqProofs only [go_sem]
  rw [show list35 (start33 (newCur code)).2 (runT0 code).land.cells.length 14 = runL0 code from rfl]
  refine callX [] ((spec_l33Copy (runT0 code) hr.1.fit).frozen) (by simp -implicitDefEqProofs only [go_sem]) ?_
  simp -implicitDefEqProofs only [go_sem]
  refine T.loopW mixed [2, 4, 5, 6, 7, 8] (fun mm vs es => ∃ (y : DCur) (x : DTrek) (dn rs : List DEvent), vs = [.at (.bx 100 0 0), .at (.bx 101 0 0), .at (.bx 102 0 0), .at (.ow 103 0 3 ((dn ++ rs).length)), .at (.bx 104 0 0), .at (.v (.int .i64 (dn.length : Nat)))] ∧ es = [.box 0 zeroT, .box 0 y.ats, .box 0 (runT0 code).ats, .arr 0 3 ((dn ++ rs).map DEvent.row), .box 0 x.ats] ∧ mm = rs.length ∧ y.Ok ∧ x.Sane ∧ (∀ e ∈ rs, EvFine e) ∧ dn ++ go36 rs x y = runL code ∧ dn.length + rs.length ≤ 14) ((runL0 code).1.length) ?_ ?_
  · simp -implicitDefEqProofs only [go_sem]
    exact ⟨(runL0 code).2, runT0 code, [], (runL0 code).1, ⟨by simp, rfl⟩, ⟨rfl, rfl, rfl⟩, rfl, hr.2.2.1, hr.1.sane, hr.2.2.2.1, rfl, by simp; omega⟩
  rintro q _ _ ⟨y, x, dn, rs, rfl, rfl, rfl, hy, hx, hf, hA, hlen⟩
  simp -implicitDefEqProofs only [go_sem]
  refine ⟨fun h1 => ?_, fun h1 => ?_⟩
  · cases rs with
    | nil => simp at h1
    | cons e r =>
      have he := hf e (by simp)
      have hc := ch36_ok (x := x) he hy
      have hfr : ∀ e ∈ r, EvFine e := fun e he => hf e (by simp [he])
      rw [go36] at hA
      refine ⟨by omega, by simp, fun v hv => ?_⟩
      have ev : v = e := by simpa using hv.symm
      subst ev
      refine ⟨fun k => ?_, fun k => ?_⟩
      · refine callXNB [101] [] (spec_l1Once y 5 hy) (by decide) (by simp -implicitDefEqProofs only [go_sem]) (by simp -implicitDefEqProofs only [go_sem]) ?_
        simp -implicitDefEqProofs only [go_sem]
        refine ⟨fun k1 => ?_, fun k1 => ?_⟩
        · have eC := ch36_2 (x := x) (s := y) k (by rw [k1]; decide)
          rw [eC] at hc hA
          refine callXNB [101] [] (spec_l11To (belowS y 5) x.land x.party (belowS_ok hy 5) hx.fit.cells) (by decide) (by simp -implicitDefEqProofs only [go_sem]) (by simp -implicitDefEqProofs only [go_sem]) ?_
          simp -implicitDefEqProofs only [go_sem]
          refine ⟨by omega, by omega, ?_⟩
          have eset : (List.map DEvent.row (dn ++ v :: r)).set dn.length (List.take 1 ((List.map DEvent.row (dn ++ v :: r)).getD dn.length []) ++ [Value.int IntKind.i64 (to11 (belowS y 5) x.land x.party).fst] ++ List.drop 2 ((List.map DEvent.row (dn ++ v :: r)).getD dn.length [])) = List.map DEvent.row (dn ++ { v with n := (to11 (belowS y 5) x.land x.party).1 } :: r) := by
            rw [List.map_append, List.map_append, List.set_append_right _ _ (by simp)]
            simp [List.getD_eq_getElem?_getD, DEvent.row]
          rw [eset]
          refine ⟨some [], by decide +kernel, ?_⟩
          simp -implicitDefEqProofs only [go_sem]
          refine ⟨by omega, by omega, fun e1 he1 => ?_⟩
          have ev1 : e1 = { v with n := (to11 (belowS y 5) x.land x.party).1 } := by simpa using he1.symm
          rw [ev1]
          refine callXQ [] ((spec_ApplyEvent x { v with n := (to11 (belowS y 5) x.land x.party).1 } hx hc.1.1.i64).frozen) (by simp -implicitDefEqProofs only [go_sem]) ?_
          simp -implicitDefEqProofs only [go_sem]
          exact ⟨r.length, by simp, (to11 (belowS y 5) x.land x.party).2, applyZ x { v with n := (to11 (belowS y 5) x.land x.party).1 }, dn ++ [{ v with n := (to11 (belowS y 5) x.land x.party).1 }], r, ⟨by simp; try omega, wrapH (by simp) (by omega) (by omega)⟩, ⟨rfl, by simp, rfl⟩, rfl, hc.2.1, applyZ_sane hx hc.1.1.i64, hfr, by simpa using hA, by simp at hlen ⊢; omega⟩
        · have eC := ch36_1 (x := x) (s := y) k k1
          rw [eC] at hc hA
          refine ⟨some [], by decide +kernel, ?_⟩
          simp -implicitDefEqProofs only [go_sem]
          refine ⟨by omega, by omega, fun e1 he1 => ?_⟩
          have ev1 : e1 = v := by simpa using he1.symm
          rw [ev1]
          refine callXQ [] ((spec_ApplyEvent x v hx hc.1.1.i64).frozen) (by simp -implicitDefEqProofs only [go_sem]) ?_
          simp -implicitDefEqProofs only [go_sem]
          exact ⟨r.length, by simp, belowS y 5, applyZ x v, dn ++ [v], r, ⟨by simp; try omega, wrapH (by simp) (by omega) (by omega)⟩, ⟨rfl, by simp, rfl⟩, rfl, hc.2.1, applyZ_sane hx hc.1.1.i64, hfr, by simpa using hA, by simp at hlen ⊢; omega⟩
      · have eC := ch36_0 (x := x) (s := y) k
        rw [eC] at hc hA
        refine ⟨some [], by decide +kernel, ?_⟩
        simp -implicitDefEqProofs only [go_sem]
        refine ⟨by omega, by omega, fun e1 he1 => ?_⟩
        have ev1 : e1 = v := by simpa using he1.symm
        rw [ev1]
        refine callXQ [] ((spec_ApplyEvent x v hx hc.1.1.i64).frozen) (by simp -implicitDefEqProofs only [go_sem]) ?_
        simp -implicitDefEqProofs only [go_sem]
        exact ⟨r.length, by simp, y, applyZ x v, dn ++ [v], r, ⟨by simp; try omega, wrapH (by simp) (by omega) (by omega)⟩, ⟨rfl, by simp, rfl⟩, rfl, hc.2.1, applyZ_sane hx hc.1.1.i64, hfr, by simpa using hA, by simp at hlen ⊢; omega⟩
  · cases rs with
    | nil =>
      rw [← hA, go36]
      exact ⟨by simp, rfl⟩
    | cons e r => simp at h1; omega
end Go.Abs
