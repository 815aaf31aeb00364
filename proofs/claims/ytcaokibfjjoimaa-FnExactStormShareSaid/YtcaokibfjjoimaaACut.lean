/- What one operation does: make, cuts of slices, struct literals; a key's new state. -/
import Derived.Test.YtcaokibfjjoimaaALit
import Derived.Laws.Slices
namespace Go.Abs
open Go.RowKit
set_option linter.unusedVariables false
set_option linter.unusedSimpArgs false

section
variable {g : G} {F : Nat → Prop} {lam : Lam} {σ : St} {a : Act} {w w' : World}

/-- A key's array goes over into its next state. -/
theorem Nx.bump (hI : Inv g F lam σ a w) {κ ver sz : Nat} {rows rows' : List (List Value)} {x : Option (Nat × Nat)} (hm : σ.m κ = .arr ver sz rows) (hnx : g.nx ≤ κ)
    (hF : ∀ b, F b → w'.heap[b]? = w.heap[b]?) (hsz : ∀ b, bsize w b ≤ bsize w' b) (hoth : ∀ k b o, k ≠ κ → (σ.m k).live → lam k = some (b, o) → w'.heap[b]? = w.heap[b]?)
    (hsize : w.heap.size ≤ w'.heap.size) (hchg : Chg g w') (hx : ∀ k b o o', k ≠ κ → (σ.m k).live → lam k = some (b, o) → x = some (b, o') → False)
    (he : EntRel g w' F (upd σ.m κ (.arr (ver + 1) sz rows')) (upd lam κ x) κ (.arr (ver + 1) sz rows')) :
    Nx g F lam σ.m w F (upd lam κ x) (upd σ.m κ (.arr (ver + 1) sz rows')) w' := by
  have L : Le w w' F F σ.m (upd σ.m κ (.arr (ver + 1) sz rows')) lam (upd lam κ x) := by
    refine ⟨fun b hb => ⟨hb, hF b hb⟩, hsz, fun k hk => ?_, fun k hk => ?_, fun k v s r hk hv h => ?_, fun k v cells hk hv h => ?_⟩
    · by_cases hkk : k = κ
      · subst hkk; rw [upd_same]; simp
      · rw [upd_ne _ _ hkk]; exact hk
    · by_cases hkk : k = κ
      · subst hkk; rw [upd_same, hm]; simp [Ent.ver]
      · rw [upd_ne _ _ hkk]; exact Nat.le_refl _
    · by_cases hkk : k = κ
      · subst hkk
        rw [upd_same] at h
        rw [hm] at hv
        simp only [Ent.ver] at hv
        simp only [Ent.arr.injEq, reduceCtorEq, or_false] at h
        omega
      · rw [upd_ne _ _ hkk] at h ⊢
        exact ⟨rfl, r, h, rfl⟩
    · by_cases hkk : k = κ
      · subst hkk; rw [upd_same] at h; cases h
      · rw [upd_ne _ _ hkk] at h ⊢
        exact ⟨rfl, cells, h⟩
  refine ⟨L, hI.mem.turn L κ (fun k hne => ⟨upd_ne _ _ hne, upd_ne _ _ hne⟩) ?_ (by rw [upd_same]; exact he) ?_, hI.f2, fun b hb => Nat.lt_of_lt_of_le (hI.f3 b hb) hsize, fun k hk => ?_, hchg⟩
  · intro k b o hne hl hlk
    exact ⟨hoth k b o hne hl hlk, ((hI.mem.ent k).block' hl hlk).1⟩
  · intro k b o o' hne hl hlk _ h2
    rw [upd_same] at h2
    exact hx k b o o' hne hl hlk h2
  · rw [upd_ne _ _ (by omega)]; exact hI.l0 k hk

theorem good_makeSlice (hI : Inv g F lam σ a w) {t e : TypeId} {sz κ bytes : Nat} {z : List Value} {n : Int} {k k' : IntKind} (ht : g.P.underlying t = some (.slice e))
    (hg : σ.m κ = .gone) (hk : g.nx ≤ κ) (hs : szT g.P e = some (sz + 1)) (hz : zeroVals g.P e = some z) (hb : (g.P.info? e).map (·.bytes) = some bytes) (hzl : z.length = sz + 1) (hz1 : z.all (·.oneCell') = true)
    (h0 : 0 ≤ n) (h1 : n ≤ 4611686018427387904) (h2 : bytes * n ≤ 281474976710656) :
    ∃ u w' F' lam', (Instr.makeSlice t (.int k n) (.int k' n)).run g.P w = .ok u w' ∧ Nx g F lam σ.m w F' lam' (upd σ.m κ (.arr 0 (sz + 1) (List.replicate n.toNat z))) w' ∧
      RV w' F' (upd σ.m κ (.arr 0 (sz + 1) (List.replicate n.toNat z))) lam' (.at (.ow κ 0 (sz + 1) n.toNat)) u := by
  obtain ⟨i, zv, hi, hiz, rfl⟩ := info_zeroVals hz
  have hsi : i.size = sz + 1 := by unfold szT at hs; simpa [hi] using hs
  have hbi : i.bytes = bytes := by simpa [hi] using hb
  have hzs : zv.cells.size = sz + 1 := by simpa using hzl
  have hr := run_make (P := g.P) w t e i zv ht hi hiz k k' n n h0 (Int.le_refl _) (by rw [hbi]; exact h2) (by omega)
  have hw : Wf (sz + 1) (List.replicate n.toNat zv.cells.toList) := Wf_replicate hzl _
  have hfl := flatten_length hw
  have hzc : (madeCells zv.cells (n.toNat * i.size)).toList = (List.replicate n.toNat zv.cells.toList).flatten := by rw [hsi]; exact zero_cells zv.cells n.toNat (sz + 1) hzs (by omega)
  have := good_arr hI (w' := w.alloc (.cells (madeCells zv.cells (n.toNat * i.size)) e)) hg hk (cap := n.toNat) hw (fun u hu => by
    rw [List.all_eq_true] at hz1; exact hz1 _ (mem_replicate_flatten hu)) (by rw [hzc, List.take_length]) (by rw [size_madeCells, hsi]; exact Nat.le_refl _) (by simp) (by simp only [maxLen]; omega) (Pushed.alloc w _)
    (s := Instr.makeSlice t (.int k n) (.int k' n)) (by simpa using hr)
  simpa using this

theorem intOfAV_eval (hI : Inv g F lam σ a w) {o : Operand} {i : Int} (h : intOfAV (σ.ev o) = some i) : ∃ k, a.eval o = .int k i := by
  have := hI.ev o
  unfold intOfAV at h
  split at h
  · rename_i k i' hev
    simp only [Option.some.injEq] at h; subst h
    rw [hev] at this
    exact ⟨k, this.1⟩
  · cases h

theorem run_bounds (hI : Inv g F lam σ a w) {lo hi : Option Operand} {isS : Bool} {len cap : Nat} {l h : Int} (hl : boundS σ lo 0 = some l) (hh : boundS σ hi (len : Int) = some h)
    (h0 : 0 ≤ l) (h1 : l ≤ h) (h2 : h ≤ (cap : Int)) : (Instr.sliceBounds isS len cap (lo.map a.eval) (hi.map a.eval) none).run g.P w = .ok (l.toNat, h.toNat, cap) w := by
  have e1 : ∀ (o : Operand), intOfAV (σ.ev o) = some l → (Instr.sliceBound (a.eval o) h.toNat .sliceB).run g.P w = .ok l.toNat w := by
    intro o ho
    obtain ⟨k, hk⟩ := intOfAV_eval hI ho
    rw [hk]; exact run_sliceBound w k l h.toNat .sliceB h0 (by omega)
  have e2 : ∀ (o : Operand) (c : BoundsCode), intOfAV (σ.ev o) = some h → (Instr.sliceBound (a.eval o) cap c).run g.P w = .ok h.toNat w := by
    intro o c ho
    obtain ⟨k, hk⟩ := intOfAV_eval hI ho
    rw [hk]; exact run_sliceBound w k h cap c (by omega) h2
  unfold boundS at hl hh
  cases lo with
  | none =>
    simp only [Option.some.injEq] at hl; subst hl
    cases hi with
    | none => simp only [Option.some.injEq] at hh; subst hh; simp [Instr.sliceBounds]
    | some oh => simp [Instr.sliceBounds, e2 oh _ hh]
  | some ol =>
    cases hi with
    | none =>
      simp only [Option.some.injEq] at hh; subst hh
      have := e1 ol hl
      simp only [Int.toNat_natCast] at this
      simp [Instr.sliceBounds, this]
    | some oh => simp [Instr.sliceBounds, e2 oh _ hh, e1 ol hl]

theorem run_sliceAt_of {P : Program} {t e : TypeId} {sz len cap l h m : Nat} {A0 : Option Addr} {lo hi : Option Value} (ht : P.underlying t = some (.slice e)) (hs : szT P e = some sz)
    (hb : (Instr.sliceBounds true len cap lo hi none).run P w = .ok (l, h, m) w) :
    (Instr.sliceAt t (.slice A0 len cap) lo hi none).run P w = .ok (.slice (if m = l then A0 else A0.map (·.add (l * sz))) (h - l) (m - l)) w := by
  simp only [Instr.sliceAt, Sem.run_bind, run_underlying ht, Result.andThen_ok, Instr.slice, hb, run_szT hs, Sem.run_pure]

theorem run_sliceS (hI : Inv g F lam σ a w) {nx : Nat} (hnx : nx = g.nx) {quiet : Bool} {t : TypeId} {x : Operand} {lo hi mx : Option Operand} {X : AV} {m' : Mem} {c : Prop}
    (h : sliceS g.P nx quiet t σ (σ.ev x) lo hi mx = some (X, m', c)) (hc : c) :
    ∃ u F' lam', (Instr.sliceAt t (a.eval x) (lo.map a.eval) (hi.map a.eval) (mx.map a.eval)).run g.P w = .ok u w ∧ Nx g F lam σ.m w F' lam' m' w ∧ RV w F' m' lam' X u := by
  subst hnx
  have hX := hI.ev x
  unfold sliceS at h
  split at h
  · cases h
  simp only [Option.map_none]
  split at h
  · rename_i s ht hev
    rw [hev] at hX
    obtain ⟨hu, _⟩ := hX
    split at h
    · rename_i l hh hl1 hl2
      simp only [Option.some.injEq, Prod.mk.injEq] at h
      obtain ⟨rfl, rfl, rfl⟩ := h
      refine ⟨_, F, lam, ?_, hI.same, rfl, rfl⟩
      have hb := run_bounds hI (isS := false) (cap := s.size) hl1 hl2 hc.1 hc.2.1 hc.2.2
      rw [hu]
      simp only [Instr.sliceAt, Sem.run_bind, run_underlying ht, Result.andThen_ok, Instr.slice, hb, Sem.run_pure, Option.isSome_none, Bool.false_eq_true, if_false, Sem.run_ite]
    · cases h
  · rename_i e sz rows ht hev
    rw [hev] at hX
    obtain ⟨hw, A0, cap, hu, hcap, hcm, hor⟩ := hX
    split at h
    · rename_i hs
      split at h
      · rename_i l hh hl1 hl2
        simp only [Option.some.injEq, Prod.mk.injEq] at h
        obtain ⟨rfl, rfl, rfl⟩ := h
        obtain ⟨c0, c1, c2⟩ := hc
        have hb := run_bounds hI (isS := true) (cap := cap) hl1 hl2 c0 c1 (by omega)
        refine ⟨_, F, lam, by rw [hu]; exact run_sliceAt_of ht hs hb, hI.same, ?_⟩
        have hln : ((rows.drop l.toNat).take (hh.toNat - l.toNat)).length = hh.toNat - l.toNat := by simp; omega
        refine ⟨(hw.drop _).take _, _, cap - l.toNat, by rw [hln], by rw [hln]; omega, by omega, ?_⟩
        by_cases hcl : cap = l.toNat
        · left
          apply List.eq_nil_of_length_eq_zero
          rw [hln]; omega
        · rw [if_neg hcl]
          rcases hor with rfl | ⟨b, o, rfl, hF, hr⟩
          · left; simp
          · right
            refine ⟨b, o + l.toNat * sz, by simp only [Option.map_some, Addr.add_lit], hF, ?_⟩
            rw [flatten_take (hw.drop _), flatten_drop hw]
            exact (hr.drop _).take _
      · cases h
    · cases h
  · rename_i e ht hev
    rw [hev] at hX
    have hu : a.eval x = .slice none 0 0 := hX
    split at h
    · rename_i l hh s0 hl1 hl2 hs
      simp only [Option.some.injEq, Prod.mk.injEq] at h
      obtain ⟨rfl, rfl, rfl⟩ := h
      obtain ⟨rfl, rfl⟩ := hc
      have hb := run_bounds hI (isS := true) (len := 0) (cap := 0) hl1 hl2 (Int.le_refl _) (Int.le_refl _) (Int.le_refl _)
      refine ⟨.slice none 0 0, F, lam, ?_, hI.same, rfl⟩
      rw [hu]
      have := run_sliceAt_of (A0 := none) ht hs hb
      simpa using this
    · cases h
  · rename_i e k ver sz n ht hev
    rw [hev] at hX
    obtain ⟨_, hu0, hX⟩ := hX
    split at h
    · rename_i hq
      obtain ⟨hs, _, hnx⟩ := hq
      split at h
      · rename_i l hh ver' sz' rows hl1 hl2 hm
        split at h
        · rename_i hvs
          obtain ⟨rfl, rfl⟩ := hvs
          simp only [Option.some.injEq, Prod.mk.injEq] at h
          obtain ⟨rfl, rfl, rfl⟩ := h
          obtain ⟨c0, c1, c2⟩ := hc
          obtain ⟨_, rfl, hX⟩ := hX _ _ (.inl hm)
          have he := hI.mem.ent k
          rw [hm] at he
          obtain ⟨hw, he⟩ := he
          have hln : ((rows.drop l.toNat).take (hh.toNat - l.toNat)).length = hh.toNat - l.toNat := by simp; omega
          have hw' := (hw.drop l.toNat).take (hh.toNat - l.toNat)
          rcases hX with ⟨hlk, hu⟩ | ⟨b, o, cap, hlk, hu, hcap, hcm, hbs⟩
          · have hr0 : rows = [] := by
              rcases he with ⟨_, h⟩ | ⟨b, o, cur, ty, h, _⟩
              · exact h
              · rw [hlk] at h; cases h
            subst hr0
            have hl0 : l = 0 := by simp at c2; omega
            have hh0 : hh = 0 := by simp at c2; omega
            subst hl0; subst hh0
            have hb := run_bounds hI (isS := true) (len := 0) (cap := 0) hl1 hl2 (Int.le_refl _) (Int.le_refl _) (Int.le_refl _)
            refine ⟨.slice none 0 0, F, upd lam k none, ?_, Nx.bump hI hm hnx (fun _ _ => rfl) (fun _ => Nat.le_refl _) (fun _ _ _ _ _ _ => rfl) (Nat.le_refl _) hI.chg (fun _ _ _ _ _ _ _ h => by cases h) ?_, ?_⟩
            · rw [hu]
              have := run_sliceAt_of (A0 := none) ht hs hb
              simpa using this
            · exact ⟨by simpa using hw', .inl ⟨upd_same _ _ _, by simp⟩⟩
            · refine ⟨by rw [upd_same]; simp [Ent.ver], .inl ⟨rfl, rfl⟩, fun s' r' h' => ?_⟩
              rw [upd_same] at h'
              simp only [Ent.arr.injEq, true_and, reduceCtorEq, or_false] at h'
              obtain ⟨rfl, rfl⟩ := h'
              exact ⟨rfl, by simp, .inl ⟨upd_same _ _ _, rfl⟩⟩
          · have hb := run_bounds hI (isS := true) (cap := cap) hl1 hl2 c0 c1 (by omega)
            rcases he with ⟨h', _⟩ | ⟨b', o', cur, ty, hlk', hgb, hF, hh', ho, hcur, h1⟩
            · rw [hlk] at h'; cases h'
            rw [hlk] at hlk'
            simp only [Option.some.injEq, Prod.mk.injEq] at hlk'
            obtain ⟨rfl, rfl⟩ := hlk'
            rw [bsize_eq hgb] at hbs
            by_cases hcl : cap = l.toNat
            · have hz : hh.toNat - l.toNat = 0 := by omega
              refine ⟨.slice (some ⟨b, o, none⟩) (hh.toNat - l.toNat) (cap - l.toNat), F, upd lam k (some (b, o)), ?_, Nx.bump hI hm hnx (fun _ _ => rfl) (fun _ => Nat.le_refl _) (fun _ _ _ _ _ _ => rfl) (Nat.le_refl _) hI.chg ?_ ?_, ?_⟩
              · rw [hu]
                have := run_sliceAt_of (A0 := some ⟨b, o, none⟩) ht hs hb
                rwa [if_pos hcl] at this
              · rintro k' b' o1 o2 hne hl' hlk' h
                simp only [Option.some.injEq, Prod.mk.injEq] at h
                obtain ⟨rfl, rfl⟩ := h
                exact hne (hI.mem.inj _ _ _ _ _ hl' (by rw [hm]; trivial) hlk' hlk)
              · have hnil : ((rows.drop l.toNat).take (hh.toNat - l.toNat)) = [] := List.eq_nil_of_length_eq_zero (by rw [hln]; exact hz)
                rw [hnil]
                exact ⟨(by intro r hr; cases hr), .inr ⟨b, o, cur, ty, upd_same _ _ _, hgb, hF, hh', ho, by simp, by simp⟩⟩
              · refine ⟨by rw [upd_same]; simp [Ent.ver], .inr ⟨_, _, _, rfl⟩, fun s' r' h' => ?_⟩
                rw [upd_same] at h'
                simp only [Ent.arr.injEq, true_and, reduceCtorEq, or_false] at h'
                obtain ⟨rfl, rfl⟩ := h'
                exact ⟨rfl, hln.symm, .inr ⟨b, o, _, upd_same _ _ _, rfl, by omega, by omega, by rw [bsize_eq hgb]; have : (cap - l.toNat) * sz ≤ cap * sz := Nat.mul_le_mul_right _ (by omega); omega⟩⟩
            · refine ⟨.slice (some ⟨b, o + l.toNat * sz, none⟩) (hh.toNat - l.toNat) (cap - l.toNat), F, upd lam k (some (b, o + l.toNat * sz)), ?_, Nx.bump hI hm hnx (fun _ _ => rfl) (fun _ => Nat.le_refl _) (fun _ _ _ _ _ _ => rfl) (Nat.le_refl _) hI.chg ?_ ?_, ?_⟩
              · rw [hu]
                have := run_sliceAt_of (A0 := some ⟨b, o, none⟩) ht hs hb
                rw [if_neg hcl] at this
                simpa only [Option.map_some, Addr.add_lit] using this
              · rintro k' b' o1 o2 hne hl' hlk' h
                simp only [Option.some.injEq, Prod.mk.injEq] at h
                obtain ⟨rfl, rfl⟩ := h
                exact hne (hI.mem.inj _ _ _ _ _ hl' (by rw [hm]; trivial) hlk' hlk)
              · have hfl := flatten_length hw
                have hlc : l.toNat * sz ≤ cap * sz := Nat.mul_le_mul_right _ (by omega)
                refine ⟨hw', .inr ⟨b, _, cur, ty, upd_same _ _ _, hgb, hF, hh', by omega, ?_, ?_⟩⟩
                · rw [flatten_take (hw.drop _), flatten_drop hw, List.length_take, List.length_drop]
                  have hd : (cur.toList.drop (o + l.toNat * sz)).take (rows.flatten.length - l.toNat * sz) = rows.flatten.drop (l.toNat * sz) := by
                    have := congrArg (List.drop (l.toNat * sz)) hcur
                    rwa [List.drop_take, List.drop_drop] at this
                  rw [← hd, List.take_take]
                · intro u hu'
                  rw [flatten_take (hw.drop _), flatten_drop hw] at hu'
                  exact h1 u (List.mem_of_mem_drop (List.mem_of_mem_take hu'))
              · refine ⟨by rw [upd_same]; simp [Ent.ver], .inr ⟨_, _, _, rfl⟩, fun s' r' h' => ?_⟩
                rw [upd_same] at h'
                simp only [Ent.arr.injEq, true_and, reduceCtorEq, or_false] at h'
                obtain ⟨rfl, rfl⟩ := h'
                refine ⟨rfl, hln.symm, .inr ⟨b, _, _, upd_same _ _ _, rfl, by omega, by omega, ?_⟩⟩
                rw [bsize_eq hgb, Nat.sub_mul]
                have : l.toNat * sz ≤ cap * sz := Nat.mul_le_mul_right _ (by omega)
                omega
        · cases h
      · cases h
    · cases h
  · cases h

end
end Go.Abs
