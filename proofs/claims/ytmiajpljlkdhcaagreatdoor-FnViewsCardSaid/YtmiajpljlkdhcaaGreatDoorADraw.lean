/- Lands, rules and crews that are drawn. -/
import Derived.Test.YtmiajpljlkdhcaaGreatDoorACur

namespace Go.Abs
open Go.RowKit Go.Proofs
set_option linter.unusedVariables false
set_option linter.unusedSimpArgs false
set_option maxRecDepth 100000
set_option maxHeartbeats 4000000

theorem intC_ok {s : DCur} (h : s.Ok) (l : List Int) : (intC s l).Ok := belowS_ok h _
/-! ### Cells, lands -/
def cellsF : Nat → DCur → List Int → List Int × DCur
  | 0, s, l => (l, s)
  | n + 1, s, l => cellsF n (intC s [0, 0, 0, 0, 1, 2]) (l ++ [intV s [0, 0, 0, 0, 1, 2]])
theorem cellsF_ok : ∀ (n : Nat) (s : DCur) (l : List Int), s.Ok → (∀ c ∈ l, 0 ≤ c ∧ c ≤ 2) → (cellsF n s l).2.Ok ∧ (∀ c ∈ (cellsF n s l).1, 0 ≤ c ∧ c ≤ 2) ∧ (cellsF n s l).1.length = l.length + n := by
  intro n
  induction n with
  | zero => intro s l h hl; exact ⟨h, hl, rfl⟩
  | succ n ih =>
    intro s l h hl
    have hv : 0 ≤ intV s [0, 0, 0, 0, 1, 2] ∧ intV s [0, 0, 0, 0, 1, 2] ≤ 2 := by
      have := intV_mem s (l := [0, 0, 0, 0, 1, 2]) (by simp)
      simp only [List.mem_cons, List.not_mem_nil, or_false] at this
      omega
    have := ih (intC s [0, 0, 0, 0, 1, 2]) (l ++ [intV s [0, 0, 0, 0, 1, 2]]) (intC_ok h _) (by
      intro c hc
      rcases List.mem_append.1 hc with hc | hc
      · exact hl c hc
      · rw [List.mem_singleton] at hc; subst hc; exact hv)
    rw [cellsF]
    refine ⟨this.1, this.2.1, ?_⟩
    rw [this.2.2]; simp; omega
def landW (s : DCur) : Int := 2 + belowV s 5
def landH (s : DCur) : Int := 2 + belowV (belowS s 5) 4
def landF (s : DCur) : DLand × DCur :=
  (⟨landW s, landH s, (cellsF (landW s * landH s).toNat (belowS (belowS s 5) 4) []).1.set 0 0⟩, (cellsF (landW s * landH s).toNat (belowS (belowS s 5) 4) []).2)
theorem land_wh (s : DCur) : (2 ≤ landW s ∧ landW s ≤ 6) ∧ (2 ≤ landH s ∧ landH s ≤ 5) := by
  have h1 := belowV_bnd s 5
  have h2 := belowV_bnd (belowS s 5) 4
  have h3 := h1.2.1 (by omega)
  have h4 := h2.2.1 (by omega)
  unfold landW landH; omega
/-- A land that is drawn: small, and a land. -/
structure Drawn (x : DLand) : Prop where
  w : 2 ≤ x.w ∧ x.w ≤ 6
  h : 2 ≤ x.h ∧ x.h ≤ 5
  len : (x.cells.length : Int) = x.w * x.h
  cell : ∀ c ∈ x.cells, 0 ≤ c ∧ c ≤ 2
  zero : x.cells[0]? = some 0
theorem Drawn.cnt {x : DLand} (h : Drawn x) : 4 ≤ x.cells.length ∧ x.cells.length ≤ 30 := by
  have h1 := h.w; have h2 := h.h; have h3 := h.len
  have a := Int.mul_le_mul h1.2 h2.2 (by omega) (by omega)
  have b := Int.mul_le_mul h1.1 h2.1 (by omega) (by omega)
  omega
theorem Drawn.ok {x : DLand} (h : Drawn x) : x.Ok := by
  have h1 := h.w; have h2 := h.h
  exact ⟨⟨by omega, by omega⟩, ⟨by omega, by omega⟩, h.len, fun j c hj => h.cell c (mem_get hj)⟩
theorem landF_ok {s : DCur} (h : s.Ok) : Drawn (landF s).1 ∧ (landF s).2.Ok := by
  have hw := land_wh s
  have hm := Int.mul_le_mul hw.1.1 hw.2.1 (by omega) (by omega)
  have := cellsF_ok (landW s * landH s).toNat (belowS (belowS s 5) 4) [] (belowS_ok (belowS_ok h 5) 4) (by intro c hc; cases hc)
  refine ⟨⟨hw.1, hw.2, ?_, fun c hc => ?_, ?_⟩, this.1⟩
  · simp only [landF, List.length_set, this.2.2, List.length_nil, Nat.zero_add]; omega
  · simp only [landF] at hc
    rcases List.mem_or_eq_of_mem_set hc with hc | rfl
    · exact this.2.1 c hc
    · omega
  · simp only [landF]
    rw [List.getElem?_set_self (by rw [this.2.2]; simp; omega)]
/-- The memory of a land that is being drawn: at first it has no cells. -/
def landM (w h : Int) : List Int → List Ent
  | [] => [.box 0 [.v (.int .i64 0), .v (.int .i64 0), .nil], .box 0 [.v (.int .i64 w), .v (.int .i64 h), .nil]]
  | c :: l => [.box 0 [.v (.int .i64 0), .v (.int .i64 0), .nil], .box 0 [.v (.int .i64 w), .v (.int .i64 h), .ow 102 0 1 (l.length + 1)], .arr 0 1 (intRow c :: l.map intRow)]
theorem set_0 {l : List Int} {v : Int} : (l.map intRow).set 0 [.int .i64 v] = (l.set 0 v).map intRow := by cases l <;> rfl
theorem spec_l4Draw (s : DCur) (h : s.Ok) : SC Tryz.prog 55 [.at (.bx 0 0 0)] [.box 0 s.ats] (.ag (landF s).1.frs) [.box 0 (landF s).2.ats] := by
  refine SC.of_M mixed Tryz.func55 (by kernel_rfl) rfl Tryz.results55 _ Tryz.ntmps55 (by simp) (by simp) ?_
  simp -implicitDefEqProofs only [go_sem, invOf]
  refine callXNB [0] [] (spec_l1Below s 5 h) (by decide) (by simp -implicitDefEqProofs only [go_sem]) (by simp -implicitDefEqProofs only [go_sem]) ?_
  simp -implicitDefEqProofs only [go_sem, invOf]
  refine callXNB [0] [] (spec_l1Below (belowS s 5) 4 (belowS_ok h 5)) (by decide) (by simp -implicitDefEqProofs only [go_sem]) (by simp -implicitDefEqProofs only [go_sem]) ?_
  simp -implicitDefEqProofs only [go_sem, invOf]
  have hw := land_wh s
  have hw2 := hw
  unfold landW landH at hw2
  rw [wrapH (show 2 + belowV s 5 = landW s from rfl) (by omega) (by omega), wrapH (show 2 + belowV (belowS s 5) 4 = landH s from rfl) (by omega) (by omega)]
  have hlow := Int.mul_le_mul hw.1.1 hw.2.1 (by omega) (by omega)
  have hhigh := Int.mul_le_mul hw.1.2 hw.2.2 (by omega) (by omega)
  generalize hA : cellsF (landW s * landH s).toNat (belowS (belowS s 5) 4) [] = A
  have hF : landF s = (⟨landW s, landH s, A.1.set 0 0⟩, A.2) := by rw [landF, hA]
  rw [hF]
  clear hF hw2
  generalize landW s = w at *
  generalize landH s = hh at *
  generalize hN : (w * hh).toNat = N at *
  refine T.loopN mixed (show 1 ≤ 100 by decide) [0, 2, 3, 4] (fun mm vs ex es => ∃ (y : DCur) (l : List Int) (i : Nat), vs = [.at (.bx 0 0 0), .at (.bx 100 0 0), .at (.bx 101 0 0), .at (.v (.int .i64 (i : Nat)))] ∧ ex = [.box 0 y.ats] ∧ es = landM w hh l ∧ mm + i = N ∧ i = l.length ∧ y.Ok ∧ cellsF mm y l = A) N ?_ ?_
  · simp -implicitDefEqProofs only [go_sem, invOf]
    exact ⟨_, [], 0, rfl, rfl, rfl, rfl, rfl, belowS_ok (belowS_ok h 5) 4, hA⟩
  rintro q _ _ _ ⟨y, l, i, rfl, rfl, rfl, hn, hi, hy, hA2⟩ -
  subst hi
  cases l with
  | nil =>
    simp only [landM, List.length_nil]
    simp -implicitDefEqProofs only [go_sem, invOf]
    rw [wrap64 (x := w * hh) (by omega) (by omega)]
    refine ⟨fun hi => ?_, fun hi => by simp only [List.length_nil] at hn; omega⟩
    refine ⟨some [999999, 0], by decide +kernel, ?_⟩
    simp -implicitDefEqProofs only [go_sem]
    refine callXNQ [0] [1384] (by decide) (spec_l1Int y [0, 0, 0, 0, 1, 2] hy (by simp) (by simp)) (by decide) (by simp -implicitDefEqProofs only [go_sem]) (by simp -implicitDefEqProofs only [go_sem]) ?_
    simp -implicitDefEqProofs only [go_sem, invOf]
    simp only [List.length_nil, Nat.add_zero] at hn
    obtain ⟨k, rfl⟩ : ∃ k, q = k + 1 := ⟨q - 1, by omega⟩
    exact ⟨room_s (n := 1) (by omega) (by decide), k, by omega, _, [intV y [0, 0, 0, 0, 1, 2]], 1, by rw [wrap64 (by omega) (by omega)]; rfl, rfl, rfl, by omega, rfl, intC_ok hy _, hA2⟩
  | cons c l =>
    simp only [landM]
    simp -implicitDefEqProofs only [go_sem, invOf]
    rw [wrap64 (x := w * hh) (by omega) (by omega)]
    refine ⟨fun hi => ?_, fun hi => ?_⟩
    · refine ⟨some [999999, 0, 102], by decide +kernel, ?_⟩
      simp -implicitDefEqProofs only [go_sem]
      refine callXNQ [0] [1384] (by decide) (spec_l1Int y [0, 0, 0, 0, 1, 2] hy (by simp) (by simp)) (by decide) (by simp -implicitDefEqProofs only [go_sem]) (by simp -implicitDefEqProofs only [go_sem]) ?_
      simp -implicitDefEqProofs only [go_sem, invOf]
      simp only [List.length_cons] at hn
      obtain ⟨k, rfl⟩ : ∃ k, q = k + 1 := ⟨q - 1, by omega⟩
      exact ⟨room_s (by omega) (by decide), k, by omega, _, c :: (l ++ [intV y [0, 0, 0, 0, 1, 2]]), l.length + 2, by rw [wrap64 (by omega) (by omega)]; omega, rfl, by simp [intRow], by omega, by simp, intC_ok hy _, hA2⟩
    · simp only [List.length_cons] at hn
      obtain rfl : q = 0 := by omega
      rw [cellsF] at hA2
      subst hA2
      exact ⟨by omega, by simp, by simp, rfl, by simp [intRow]⟩
end Go.Abs
