/- What one operation does: append, copy, struct literals. -/
import Derived.Test.YtfkciaogihemiaaACut
namespace Go.Abs
open Go.RowKit
set_option linter.unusedVariables false
set_option linter.unusedSimpArgs false

section
variable {P : Program} {w w' : World}

/-- What stands behind an append or a copy can be read, as rows. -/
structure Src (P : Program) (w : World) (size : Nat) (x : Value) (rows : List (List Value)) : Prop where
  len : ∀ w', (Builtin.lenOf x).run P w' = .ok rows.length w'
  cells : ∀ (w' : World) (k : Nat), w'.heap = w.heap → k ≤ rows.length → (Builtin.firstCells size k x).run P w' = .ok (rows.take k).flatten.toArray w'
  one : ∀ u ∈ rows.flatten, u.oneCell' = true
  wf : Wf size rows

theorem RowsAt.heap {b o : Nat} {cs : List Value} (h : RowsAt w b o cs) (hh : w'.heap = w.heap) : RowsAt w' b o cs := h.keep (by rw [hh])

theorem Src.of_rows {b o n cap sz : Nat} {rows : List (List Value)} (hw : Wf sz rows) (hr : RowsAt w b o rows.flatten) (hn : n = rows.length) : Src P w sz (.slice (some ⟨b, o, none⟩) n cap) rows where
  len w' := by rw [hn]; rfl
  cells w' k hh hk := by
    have hr' := (hr.heap hh).take (k * sz)
    have hfl := flatten_length (hw.take k)
    rw [List.length_take, Nat.min_eq_left hk] at hfl
    refine run_firstCells_some w' sz k ⟨b, o, none⟩ n cap _ hfl fun j v hj => ?_
    rw [Addr.add_lit]
    rw [flatten_take hw] at hj
    exact (hr' j v hj).1
  one u hu := by
    obtain ⟨j, hj⟩ := List.mem_iff_getElem?.1 hu
    exact (hr j u hj).2
  wf := hw

theorem Src.nil (sz cap : Nat) (A0 : Option Addr) : Src P w sz (.slice A0 0 cap) [] where
  len w' := rfl
  cells w' k hh hk := by
    have : k = 0 := by simpa using hk
    subst this
    cases A0 <;> simp [Builtin.firstCells, loadCells, loadCellsFrom]
  one u hu := by simp at hu
  wf := by intro r hr; cases hr

theorem flatten_singles (l : List Value) : (l.map fun x => [x]).flatten = l := by
  induction l with
  | nil => rfl
  | cons x l ih => simpa using ih

theorem bytes_flatten (l : List UInt8) : (l.map fun (b : UInt8) => [Value.int .u8 (b.toNat : Int)]).flatten = l.map fun (b : UInt8) => Value.int .u8 (b.toNat : Int) := by
  induction l with
  | nil => rfl
  | cons x l ih => simpa using ih

theorem Src.string (s : ByteArray) : Src P w 1 (.string s) (s.data.toList.map fun (b : UInt8) => [Value.int .u8 (b.toNat : Int)]) where
  len w' := by
    show Result.ok s.size w' = _
    congr 1
    rw [List.length_map, Array.length_toList]
    rfl
  cells w' k hh hk := by
    show Result.ok (Array.map (fun (b : UInt8) => Value.int .u8 (b.toNat : Int)) (s.extract 0 k).data) w' = _
    congr 1
    apply Array.ext'
    rw [← List.map_take, bytes_flatten, Array.toList_map, ByteArray.data_extract, Array.toList_extract]
    simp
  one u hu := by
    simp only [List.mem_flatten, List.mem_map] at hu
    obtain ⟨l, ⟨b, _, rfl⟩, hu⟩ := hu
    simp at hu; subst hu; rfl
  wf := by
    intro r hr
    simp only [List.mem_map] at hr
    obtain ⟨b, _, rfl⟩ := hr
    rfl

section
variable {t t2 ty e : TypeId} {i : TypeInfo} {z : Value} {d2 : TypeDesc} {x : Value} {news : List (List Value)}

theorem run_append_in (ht : P.underlying t = some (.slice e)) (hi : P.info? e = some i) (h2 : P.underlying t2 = some d2) (hd2 : ∀ k, d2 ≠ .int k)
    (hs : Src P w i.size x news) {b o sLen sCap : Nat} {cur : Array Value} {ty' : TypeId} (hg : w.heap[b]? = some (.cells cur ty' (0, 0))) (hneed : sLen + news.length ≤ sCap) (hfit : o + sLen * i.size + news.flatten.length ≤ cur.size) :
    (Builtin.append_ #[t, t2] ty #[.slice (some ⟨b, o, none⟩) sLen sCap, x]).run P w =
      .ok (.slice (some ⟨b, o, none⟩) (sLen + news.length) sCap) (w.setRow b (splice cur.toList (o + sLen * i.size) news.flatten).toArray) := by
  have hst := run_storeCells_at P b (o + sLen * i.size) ty' news.flatten 0 cur w hg (by omega) hs.one
  simp only [Nat.add_zero] at hst
  have hc := hs.cells w news.length rfl (Nat.le_refl _)
  rw [List.take_length] at hc
  have hz2 : (d2 matches .int _) = false := by cases d2 <;> first | rfl | exact absurd rfl (hd2 _)
  simp [Builtin.append_, run_underlying ht, run_underlying h2, hz2, sizeOf, typeInfo, hi, hs.len, hneed, hc, Addr.add_lit, hst, splice]

theorem run_append_out (ht : P.underlying t = some (.slice e)) (hi : P.info? e = some i) (hz : i.zero = some z) (h2 : P.underlying t2 = some d2) (hd2 : ∀ k, d2 ≠ .int k)
    (hs : Src P w i.size x news) {A0 : Option Addr} {sLen sCap : Nat} {olds : List (List Value)} (ho : Src P w i.size (.slice A0 sLen sCap) olds) (hneed : sCap < sLen + news.length)
    (h63 : sLen + news.length ≤ 4611686018427387904) (hb : (sLen + news.length) * i.bytes ≤ 140737488355328) (hol : olds.length = sLen) :
    (Builtin.append_ #[t, t2] ty #[.slice A0 sLen sCap, x]).run P w =
      .ok (.slice (some ⟨w.heap.size, 0, none⟩) (sLen + news.length) (grownCap w (sLen + news.length) sCap e))
        (w.drew.alloc (.cells (olds.flatten.toArray ++ news.flatten.toArray ++ Builtin.zeroCells z.cells (grownCap w (sLen + news.length) sCap e - (sLen + news.length))) e)) := by
  have hc := hs.cells w.drew news.length rfl (Nat.le_refl _)
  rw [List.take_length] at hc
  have hoc := ho.cells w.drew sLen rfl (by omega)
  rw [← hol, List.take_length, hol] at hoc
  have hz2 : (d2 matches .int _) = false := by cases d2 <;> first | rfl | exact absurd rfl (hd2 _)
  have h63' : ¬ (9223372036854775807 < ((sLen : Int) + (news.length : Int))) := by omega
  have hgf := growslice_fits (bytes := i.bytes) hneed hb
  have h48' : ¬ (281474976710656 < Builtin.nextslicecap (sLen + news.length) sCap * i.bytes) := by omega
  have hn : ¬ (sLen + news.length ≤ sCap) := by omega
  simp [Builtin.append_, run_underlying ht, run_underlying h2, hz2, sizeOf, typeInfo, zeroValue, hi, hz, hs.len, hn, h63', h48', Question.forced, hc, hoc, newRow, grownCap]
  congr 2
  apply Array.ext'
  simp [List.append_assoc]

end
end

section
variable {g : G} {F : Nat → Prop} {lam : Lam} {σ : St} {a : Act} {w : World}

theorem Src.of_AV (hI : Inv g F lam σ a w) {X : AV} {u : Value} {sz : Nat} {rows : List (List Value)} (h : srcRows σ.m X = some (sz, rows)) (hX : RV w F σ.m lam X u) : Src g.P w sz u rows := by
  unfold srcRows at h
  split at h
  · simp only [Option.some.injEq, Prod.mk.injEq] at h
    obtain ⟨rfl, rfl⟩ := h
    obtain ⟨hw, A0, cap, rfl, h1, h2, h3⟩ := hX
    rcases h3 with rfl | ⟨b, o, rfl, hF, hr⟩
    · exact Src.nil _ _ _
    · exact Src.of_rows hw hr rfl
  · rename_i k ver sz' n
    obtain ⟨_, _, hX⟩ := hX
    have fin : ∀ v' s' r', (σ.m k = .arr v' s' r' ∨ σ.m k = .ice v' s' r') → (if ver = v' ∧ sz' = s' then some (sz', r') else none) = some (sz, rows) → Src g.P w sz u rows := by
      intro v' s' r' hm h
      split at h
      · rename_i hvs
        obtain ⟨rfl, rfl⟩ := hvs
        simp only [Option.some.injEq, Prod.mk.injEq] at h
        obtain ⟨rfl, rfl⟩ := h
        obtain ⟨_, rfl, hX⟩ := hX _ _ hm
        have he := hI.mem.ent k
        rcases hm with hm | hm <;> rw [hm] at he <;> obtain ⟨hw, he⟩ := he
        · rcases he with ⟨hn, rfl⟩ | ⟨b, o, cur, ty, hl, hg, hF, hh, ho, hc, h1⟩
          · rcases hX with ⟨_, rfl⟩ | ⟨b, o, cap, hl, rfl, _⟩
            · exact Src.nil _ _ _
            · exact Src.nil _ _ _
          · rcases hX with ⟨hn, _⟩ | ⟨b', o', cap, hl', rfl, _⟩
            · rw [hn] at hl; cases hl
            · rw [hl] at hl'
              simp only [Option.some.injEq, Prod.mk.injEq] at hl'
              obtain ⟨rfl, rfl⟩ := hl'
              exact Src.of_rows hw (cells_of_arr hg hc h1) rfl
        · rcases he with ⟨hn, rfl⟩ | ⟨b, o, hl, hF, hr⟩
          · rcases hX with ⟨_, rfl⟩ | ⟨b, o, cap, hl, rfl, _⟩
            · exact Src.nil _ _ _
            · exact Src.nil _ _ _
          · rcases hX with ⟨hn, _⟩ | ⟨b', o', cap, hl', rfl, _⟩
            · rw [hn] at hl; cases hl
            · rw [hl] at hl'
              simp only [Option.some.injEq, Prod.mk.injEq] at hl'
              obtain ⟨rfl, rfl⟩ := hl'
              exact Src.of_rows hw hr rfl
      · cases h
    split at h
    · rename_i v' s' r' hm; exact fin v' s' r' (.inl hm) h
    · rename_i v' s' r' hm; exact fin v' s' r' (.inr hm) h
    · cases h
  · cases h

/-- Behind an append that found no room: the new block's cells. -/
theorem grown_cells {olds news : List (List Value)} {z : Array Value} {k : Nat} : ((olds.flatten.toArray ++ news.flatten.toArray ++ Builtin.zeroCells z k).toList).take (olds ++ news).flatten.length = (olds ++ news).flatten := by
  simp only [Array.toList_append, List.flatten_append]
  rw [List.take_left]

set_option maxHeartbeats 1000000 in
theorem good_append (hI : Inv g F lam σ a w) {κ : Nat} {t t2 ty e : TypeId} {i : TypeInfo} {zv : Value} {d2 : TypeDesc} {sz : Nat} {X : AV} {u x : Value} {news : List (List Value)} {Y : AV} {m' : Mem} {c : Prop}
    (ht : g.P.underlying t = some (.slice e)) (hi : g.P.info? e = some i) (hz : i.zero = some zv) (h2 : g.P.underlying t2 = some d2) (hd2 : ∀ k, d2 ≠ .int k) (hsi : i.size = sz + 1) (hzl : zv.cells.size = sz + 1)
    (hs : Src g.P w (sz + 1) x news)
    (h : (match X with
        | .at .nil =>
          match σ.m κ with
          | .gone => some (AV.at (.ow κ 0 (sz + 1) news.length), upd σ.m κ (.arr 0 (sz + 1) news), g.nx ≤ κ ∧ news.length * i.bytes ≤ 140737488355328 ∧ news.length ≤ 4611686018427387904)
          | _ => none
        | .at (.ow k ver sz' n) =>
          match σ.m k with
          | .arr ver' sz'' rows =>
            if ver = ver' ∧ sz' = sz'' ∧ sz' = sz + 1 ∧ g.nx ≤ k then
              some (AV.at (.ow k (ver + 1) (sz + 1) (rows.length + news.length)), upd σ.m k (.arr (ver + 1) (sz + 1) (rows ++ news)), (rows.length + news.length) * i.bytes ≤ 140737488355328 ∧ rows.length + news.length ≤ 4611686018427387904)
            else none
          | _ => none
        | _ => none) = some (Y, m', c)) (hc : c) (hX : RV w F σ.m lam X u) :
    ∃ u' w' F' lam', (Builtin.append_ #[t, t2] ty #[u, x]).run g.P w = .ok u' w' ∧ Nx g F lam σ.m w F' lam' m' w' ∧ RV w' F' m' lam' Y u' := by
  have hzsz : ∀ n, (Builtin.zeroCells zv.cells n).size = n * (sz + 1) := fun n => by rw [size_zeroCells, hzl]
  split at h
  · have hu : u = .slice none 0 0 := hX
    subst hu
    split at h
    · rename_i hg
      simp only [Option.some.injEq, Prod.mk.injEq] at h
      obtain ⟨rfl, rfl, rfl⟩ := h
      obtain ⟨hnx, hb, hn⟩ := hc
      by_cases h0 : news.length = 0
      · have : news = [] := List.eq_nil_of_length_eq_zero h0
        subst this
        have hcl := hs.cells w 0 rfl (Nat.le_refl _)
        have hll := hs.len w
        have hz2 : (d2 matches .int _) = false := by cases d2 <;> first | rfl | exact absurd rfl (hd2 _)
        have hr : (Builtin.append_ #[t, t2] ty #[.slice none 0 0, x]).run g.P w = .ok (.slice none 0 0) w := by
          simp [Builtin.append_, run_underlying ht, run_underlying h2, hz2, sizeOf, typeInfo, hi, hll, hsi, hcl]
        have L : Le w w F F σ.m (upd σ.m κ (.arr 0 (sz + 1) [])) lam (upd lam κ none) := by
          refine ⟨fun b hb => ⟨hb, rfl⟩, fun _ => Nat.le_refl _, fun k hk => ?_, fun k hk => ?_, fun k v s r hk _ h => ?_, fun k v cs hk _ h => ?_⟩ <;>
            have hne : k ≠ κ := (fun e => by subst e; exact hk hg)
          · rw [upd_ne _ _ hne]; exact hk
          · rw [upd_ne _ _ hne]; exact Nat.le_refl _
          · rw [upd_ne _ _ hne] at h ⊢; exact ⟨rfl, r, h, rfl⟩
          · rw [upd_ne _ _ hne] at h ⊢; exact ⟨rfl, cs, h⟩
        refine ⟨_, w, F, upd lam κ none, hr, ⟨L, hI.mem.turn L κ (fun k hne => ⟨upd_ne _ _ hne, upd_ne _ _ hne⟩) (fun k b o hne hl hlk => ⟨rfl, ((hI.mem.ent k).block' hl hlk).1⟩) ?_ ?_, hI.f2, hI.f3, fun k hk' => ?_, hI.chg⟩, ?_⟩
        · rw [upd_same]; exact ⟨(by intro r hr; cases hr), .inl ⟨upd_same _ _ _, rfl⟩⟩
        · intro k b o o' _ _ _ _ h; rw [upd_same] at h; cases h
        · rw [upd_ne _ _ (by omega)]; exact hI.l0 k hk'
        · refine ⟨by rw [upd_same]; simp [Ent.ver], .inl ⟨rfl, rfl⟩, fun s' r' h' => ?_⟩
          rw [upd_same] at h'
          simp only [Ent.arr.injEq, true_and, reduceCtorEq, or_false] at h'
          obtain ⟨rfl, rfl⟩ := h'
          exact ⟨rfl, rfl, .inl ⟨upd_same _ _ _, rfl⟩⟩
      · have hr := run_append_out (P := g.P) (w := w) (ty := ty) ht hi hz h2 hd2 (by rw [hsi]; exact hs) (A0 := none) (sLen := 0) (sCap := 0) (olds := []) (Src.nil _ _ _) (by omega) (by omega) (by simpa using hb) rfl
        have hge := grownCap_ge w (0 + news.length) 0 e
        have hle := grownCap_le_maxLen w (0 + news.length) 0 e (by simp only [maxLen]; omega)
        have hfl := flatten_length hs.wf
        simp only [Nat.zero_add, List.flatten_nil] at hr hge hle
        refine good_arr hI hg hnx (cap := grownCap w news.length 0 e) hs.wf hs.one ?_ ?_ hge hle (Pushed.drew_alloc w _) hr
        · have := @grown_cells [] news zv.cells (grownCap w news.length 0 e - news.length)
          simp only [List.nil_append, List.flatten_nil] at this
          exact this
        · simp only [Array.size_append, List.size_toArray, hzsz, hfl, ← Nat.add_mul, List.length_nil, Nat.zero_add]
          exact Nat.mul_le_mul_right _ (by omega)
    · cases h
  · rename_i k ver sz' n
    obtain ⟨_, hu0, hX⟩ := hX
    split at h
    · rename_i ver' sz'' rows hm
      split at h
      · rename_i hvs
        obtain ⟨rfl, rfl, rfl, hnx⟩ := hvs
        simp only [Option.some.injEq, Prod.mk.injEq] at h
        obtain ⟨rfl, rfl, rfl⟩ := h
        obtain ⟨hb, hn⟩ := hc
        obtain ⟨_, rfl, hX⟩ := hX _ _ (.inl hm)
        have he := hI.mem.ent k
        rw [hm] at he
        obtain ⟨hw, he⟩ := he
        have hww : Wf (sz + 1) (rows ++ news) := by
          intro r hr
          rcases List.mem_append.1 hr with h | h
          · exact hw r h
          · exact hs.wf r h
        have grown : ∀ (A0 : Option Addr) (sCap : Nat), u = .slice A0 rows.length sCap → Src g.P w (sz + 1) u rows → sCap < rows.length + news.length → (∀ v ∈ rows.flatten, v.oneCell' = true) →
            ∃ u' w' F' lam', (Builtin.append_ #[t, t2] ty #[u, x]).run g.P w = .ok u' w' ∧ Nx g F lam σ.m w F' lam' (upd σ.m k (.arr (ver + 1) (sz + 1) (rows ++ news))) w' ∧ RV w' F' (upd σ.m k (.arr (ver + 1) (sz + 1) (rows ++ news))) lam' (.at (.ow k (ver + 1) (sz + 1) (rows.length + news.length))) u' := by
          intro A0 sCap hu ho hneed h1
          subst hu
          have hr := run_append_out (P := g.P) (w := w) (ty := ty) ht hi hz h2 hd2 (by rw [hsi]; exact hs) (by rw [hsi]; exact ho) hneed (by omega) hb rfl
          have hge := grownCap_ge w (rows.length + news.length) sCap e
          have hle := grownCap_le_maxLen w (rows.length + news.length) sCap e (by simp only [maxLen]; omega)
          have hp := Pushed.drew_alloc w (.cells (rows.flatten.toArray ++ news.flatten.toArray ++ Builtin.zeroCells zv.cells (grownCap w (rows.length + news.length) sCap e - (rows.length + news.length))) e)
          refine ⟨_, _, F, upd lam k (some (w.heap.size, 0)), hr, Nx.bump hI hm hnx (fun b hb => hp.old (hI.f3 b hb)) hp.bsize (fun k' b o hne hl hlk => hp.old ((hI.mem.ent k').block' hl hlk).2) (by rw [hp.size]; omega) (hI.chg.pushed hp) ?_ ?_, ?_⟩
          · intro k' b o o' hne hl hlk h
            have := ((hI.mem.ent k').block' hl hlk).2
            simp only [Option.some.injEq, Prod.mk.injEq] at h
            omega
          · refine ⟨hww, .inr ⟨w.heap.size, 0, _, _, upd_same _ _ _, hp.new, fun h => by have := hI.f3 _ h; omega, ⟨fun h => by omega, fun _ => hI.chg.size⟩, Nat.zero_le _, ?_, ?_⟩⟩
            · rw [List.drop_zero]; exact grown_cells
            · intro v hv
              rw [List.flatten_append] at hv
              rcases List.mem_append.1 hv with h | h
              · exact h1 v h
              · exact hs.one v h
          · refine ⟨by rw [upd_same]; simp [Ent.ver], .inr ⟨_, _, _, rfl⟩, fun s' r' h' => ?_⟩
            rw [upd_same] at h'
            simp only [Ent.arr.injEq, true_and, reduceCtorEq, or_false] at h'
            obtain ⟨rfl, rfl⟩ := h'
            refine ⟨rfl, by simp, .inr ⟨_, _, _, upd_same _ _ _, rfl, hge, hle, ?_⟩⟩
            rw [bsize_eq hp.new]
            have hfl := flatten_length hs.wf
            have hfr := flatten_length hw
            simp only [Array.size_append, List.size_toArray, hzsz, hfl, hfr, ← Nat.add_mul, Nat.zero_add]
            exact Nat.mul_le_mul_right _ (by omega)
        rcases hX with ⟨hlk, hu⟩ | ⟨b, o, cap, hlk, hu, hcap, hcm, hbs⟩
        · have hr0 : rows = [] := by
            rcases he with ⟨_, h⟩ | ⟨b, o, cur, ty, h, _⟩
            · exact h
            · rw [hlk] at h; cases h
          subst hr0
          by_cases h0 : news.length = 0
          · have : news = [] := List.eq_nil_of_length_eq_zero h0
            subst this
            have hcl := hs.cells w 0 rfl (Nat.le_refl _)
            have hll := hs.len w
            have hz2 : (d2 matches .int _) = false := by cases d2 <;> first | rfl | exact absurd rfl (hd2 _)
            subst hu
            have hr : (Builtin.append_ #[t, t2] ty #[.slice none 0 0, x]).run g.P w = .ok (.slice none 0 0) w := by
              simp [Builtin.append_, run_underlying ht, run_underlying h2, hz2, sizeOf, typeInfo, hi, hll, hsi, hcl]
            refine ⟨_, w, F, upd lam k none, hr, Nx.bump hI hm hnx (fun _ _ => rfl) (fun _ => Nat.le_refl _) (fun _ _ _ _ _ _ => rfl) (Nat.le_refl _) hI.chg (fun _ _ _ _ _ _ _ h => by cases h) ?_, ?_⟩
            · exact ⟨(by intro r hr; cases hr), .inl ⟨upd_same _ _ _, rfl⟩⟩
            · refine ⟨by rw [upd_same]; simp [Ent.ver], .inl ⟨rfl, rfl⟩, fun s' r' h' => ?_⟩
              rw [upd_same] at h'
              simp only [Ent.arr.injEq, true_and, reduceCtorEq, or_false] at h'
              obtain ⟨rfl, rfl⟩ := h'
              exact ⟨rfl, rfl, .inl ⟨upd_same _ _ _, rfl⟩⟩
          · exact grown none 0 hu (by rw [hu]; exact Src.nil _ _ _) (by simp; omega) (by simp)
        · rcases he with ⟨h', _⟩ | ⟨b', o', cur, ty', hlk', hgb, hF, hh', ho, hcur, h1⟩
          · rw [hlk] at h'; cases h'
          rw [hlk] at hlk'
          simp only [Option.some.injEq, Prod.mk.injEq] at hlk'
          obtain ⟨rfl, rfl⟩ := hlk'
          have hsrc : Src g.P w (sz + 1) u rows := by rw [hu]; exact Src.of_rows hw (cells_of_arr hgb hcur h1) rfl
          by_cases hroom : rows.length + news.length ≤ cap
          · rw [bsize_eq hgb] at hbs
            have hfl := flatten_length hs.wf
            have hfr := flatten_length hw
            have hm1 : (rows.length + news.length) * (sz + 1) ≤ cap * (sz + 1) := Nat.mul_le_mul_right _ hroom
            rw [Nat.add_mul] at hm1
            have hr := run_append_in (P := g.P) (w := w) (ty := ty) (o := o) ht hi h2 hd2 (by rw [hsi]; exact hs) hgb hroom (by rw [hsi]; omega)
            rw [hsi] at hr
            have hcl : cur.toList.length = cur.size := by simp
            have hfa : (rows ++ news).flatten.length = rows.flatten.length + news.flatten.length := by rw [List.flatten_append, List.length_append]
            have hlen : o + rows.length * (sz + 1) + news.flatten.length ≤ cur.toList.length := by omega
            have hsl : (splice cur.toList (o + rows.length * (sz + 1)) news.flatten).toArray.size = cur.size := by
              rw [List.size_toArray, splice_length hlen, hcl]
            have hcont : ((splice cur.toList (o + rows.length * (sz + 1)) news.flatten).toArray.toList.drop o).take (rows ++ news).flatten.length = (rows ++ news).flatten := by
              show ((splice cur.toList (o + rows.length * (sz + 1)) news.flatten).drop o).take _ = _
              rw [splice_drop hlen, hfa, splice_take (by omega) (by rw [List.length_drop]; omega), ← hfr]
              unfold splice
              rw [List.take_take, Nat.min_eq_left (by omega), hcur, List.drop_eq_nil_of_le (by rw [List.length_take, List.length_drop]; omega), List.append_nil, List.flatten_append]
            generalize (splice cur.toList (o + rows.length * (sz + 1)) news.flatten).toArray = cur' at hr hsl hcont
            have hset := setRow_heap w b cur cur' ty' _ hgb
            refine ⟨_, _, F, upd lam k (some (b, o)), by rw [hu]; exact hr, Nx.bump hI hm hnx (fun b' hb' => setRow_other w b b' cur' fun e => hF (e ▸ hb')) (fun b' => ?_) (fun k' b' o' hne hl hlk' => setRow_other w b b' cur' fun e => ?_) (by rw [size_setRow]; exact Nat.le_refl _) ?_ ?_ ?_, ?_⟩
            · by_cases hbb : b' = b
              · subst hbb; rw [bsize_eq hgb, bsize_eq hset, hsl]; exact Nat.le_refl _
              · unfold bsize; rw [setRow_other w b b' cur' hbb]; exact Nat.le_refl _
            · subst e
              exact hne (hI.mem.inj _ _ _ _ _ hl (by rw [hm]; trivial) hlk' hlk)
            · refine ⟨hI.chg.os, hI.chg.tape, hI.chg.output, by rw [size_setRow]; exact hI.chg.size, fun b' hb' hx => ?_, fun b' => ?_⟩
              rw [setRow_other w b b' cur' ?_]
              · exact hI.chg.block b' hb' hx
              · rintro rfl
                have := hh'.2 hnx; omega
              · refine Nat.le_trans (hI.chg.bs b') ?_
                by_cases hbb : b' = b
                · subst hbb; rw [bsize_eq hgb, bsize_eq hset, hsl]; exact Nat.le_refl _
                · unfold bsize; rw [setRow_other w b b' cur' hbb]; exact Nat.le_refl _
            · intro k' b' o1 o2 hne hl hlk' h
              simp only [Option.some.injEq, Prod.mk.injEq] at h
              obtain ⟨rfl, rfl⟩ := h
              exact hne (hI.mem.inj _ _ _ _ _ hl (by rw [hm]; trivial) hlk' hlk)
            · refine ⟨hww, .inr ⟨b, o, cur', ty', upd_same _ _ _, hset, hF, hh', by rw [hsl]; exact ho, hcont, ?_⟩⟩
              intro v hv
              rw [List.flatten_append] at hv
              rcases List.mem_append.1 hv with h | h
              · exact h1 v h
              · exact hs.one v h
            · refine ⟨by rw [upd_same]; simp [Ent.ver], .inr ⟨_, _, _, rfl⟩, fun s' r' h' => ?_⟩
              rw [upd_same] at h'
              simp only [Ent.arr.injEq, true_and, reduceCtorEq, or_false] at h'
              obtain ⟨rfl, rfl⟩ := h'
              exact ⟨rfl, by simp, .inr ⟨b, o, cap, upd_same _ _ _, rfl, hroom, hcm, by rw [bsize_eq hset, hsl]; exact hbs⟩⟩
          · exact grown _ cap hu hsrc (by omega) h1
      · cases h
    · cases h
  · cases h

end
end Go.Abs
