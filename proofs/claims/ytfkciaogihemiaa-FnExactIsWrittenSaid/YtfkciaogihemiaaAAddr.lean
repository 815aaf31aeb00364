/- What one operation does: addresses of fields and elements, indices, parts of structs. -/
import Derived.Test.YtfkciaogihemiaaALoad
namespace Go.Abs
open Go.RowKit
set_option linter.unusedVariables false
set_option linter.unusedSimpArgs false

section
variable {P : Program} {w : World} {F : Nat → Prop} {m : Mem} {lam : Lam}

theorem run_fieldAt {s : TypeId} {fs : Array Field} {fd : Field} {f n b o : Nat} (hs : P.underlying s = some (.struct fs)) (hf : fs[f]? = some fd) (hn : szT P fd.type = some (n + 1)) :
    (Instr.fieldAt s (.pointer (some ⟨b, o, none⟩)) f).run P w = .ok (.pointer (some ⟨b, o + fd.offset, none⟩)) w := by
  simp only [Instr.fieldAt, Instr.sureAddr, Sem.run_bind, run_underlying hs, Result.andThen_ok, hf, Sem.run_pure, fieldPlace, run_szT hn, Sem.run_ite, Nat.add_one_ne_zero, if_false, Addr.add_lit]

theorem run_fieldAddrS {s : TypeId} {f : Nat} {X Y : AV} {u : Value} (h : fieldAddrS P s f X = some Y) (hX : RV w F m lam X u) :
    ∃ v, (Instr.fieldAt s u f).run P w = .ok v w ∧ RV w F m lam Y v := by
  unfold fieldAddrS at h
  split at h
  · rename_i fs hs
    split at h
    · rename_i fd hf
      split at h
      · rename_i n hn
        split at h
        · rename_i k ver off
          simp only [Option.some.injEq] at h; subst h
          obtain ⟨h1, ⟨b, o, rfl⟩, h2⟩ := hX
          refine ⟨_, run_fieldAt hs hf hn, h1, ⟨_, _, rfl⟩, fun cells hm => ?_⟩
          obtain ⟨b', h3, h4⟩ := h2 cells hm
          simp only [Value.pointer.injEq, Option.some.injEq, Addr.mk.injEq, and_true] at h4
          obtain ⟨rfl, rfl⟩ := h4
          exact ⟨_, h3, rfl⟩
        · rename_i k ver sz i off
          simp only [Option.some.injEq] at h; subst h
          obtain ⟨h1, ⟨b, o, rfl⟩, h2⟩ := hX
          refine ⟨_, run_fieldAt hs hf hn, h1, ⟨_, _, rfl⟩, fun sz' rows hm => ?_⟩
          obtain ⟨h0, h3⟩ := h2 sz' rows hm
          refine ⟨h0, ?_⟩
          rcases h3 with h3 | ⟨b', o', h3, h4⟩
          · exact .inl h3
          · simp only [Value.pointer.injEq, Option.some.injEq, Addr.mk.injEq, and_true] at h4
            obtain ⟨rfl, rfl⟩ := h4
            exact .inr ⟨_, _, h3, by rw [Nat.add_assoc]⟩
        · rename_i cs
          simp only [Option.some.injEq] at h; subst h
          obtain ⟨b, o, rfl, h1, h2⟩ := hX
          exact ⟨_, run_fieldAt hs hf hn, b, o + fd.offset, rfl, h1, h2.drop _⟩
        · cases h
      · cases h
    · cases h
  · cases h

theorem run_part_one {t : TypeId} {us : List Value} {off : Nat} {v : Value} (h : aggT P t = some false) (hv : us[off]? = some v) : (part t us.toArray off).run P w = .ok v w := by
  simp only [part, Sem.run_bind, run_isAgg h, Result.andThen_ok, Sem.run_ite, Bool.false_eq_true, if_false, List.getElem?_toArray, hv, Sem.run_pure]

theorem run_part_agg {t : TypeId} {us : List Value} {off n : Nat} (h : aggT P t = some true) (hn : szT P t = some n) : (part t us.toArray off).run P w = .ok (.agg ((us.drop off).take n).toArray) w := by
  simp only [part, Sem.run_bind, run_isAgg h, Result.andThen_ok, Sem.run_ite, if_true, run_szT hn, Sem.run_pure]
  congr 2
  apply Array.ext'
  simp [List.take_drop]

theorem run_fieldS {s : TypeId} {f : Nat} {X Y : AV} {c : Prop} {u : Value} (h : fieldS P s f X = some (Y, c)) (hc : c) (hX : RV w F m lam X u) :
    ∃ v, (Instr.field s u f).run P w = .ok v w ∧ RV w F m lam Y v := by
  unfold fieldS at h
  split at h
  · rename_i cs
    obtain ⟨us, rfl, hR⟩ := hX
    split at h
    · rename_i fs hs
      split at h
      · rename_i fd hf
        split at h
        · rename_i n h1 h2
          simp only [Option.some.injEq, Prod.mk.injEq] at h
          obtain ⟨rfl, rfl⟩ := h
          refine ⟨.agg ((us.drop fd.offset).take n).toArray, ?_, _, rfl, (hR.drop _).take _⟩
          simp only [Instr.field, Sem.run_bind, run_underlying hs, Result.andThen_ok, hf, asAgg, Sem.run_pure, run_part_agg h1 h2]
        · rename_i h1
          split at h
          · rename_i A0 hA
            simp only [Option.some.injEq, Prod.mk.injEq] at h
            obtain ⟨rfl, rfl⟩ := h
            obtain ⟨v, hv, hr⟩ := hR.at hA
            refine ⟨v, ?_, hr.1⟩
            simp only [Instr.field, Sem.run_bind, run_underlying hs, Result.andThen_ok, hf, asAgg, Sem.run_pure, run_part_one h1 hv]
          · cases h
        · cases h
      · cases h
    · cases h
  · cases h

theorem run_indexAt {t e : TypeId} {sz n cap b o : Nat} {i : Int} {k : IntKind} (ht : P.underlying t = some (.slice e)) (hs : szT P e = some sz) (hi : 0 ≤ i ∧ i < (n : Int)) :
    (Instr.indexAt t (.slice (some ⟨b, o, none⟩) n cap) (.int k i)).run P w = .ok (.pointer (some ⟨b, o + i.toNat * sz, none⟩)) w := by
  simp only [Instr.indexAt, asIntOf, Sem.run_bind, Sem.run_pure, Result.andThen_ok, run_underlying ht, hi, and_self, Sem.run_ite, if_true, run_szT hs, Addr.add_lit]

theorem run_indexAddrS {t : TypeId} {X I Y : AV} {c : Prop} {u i : Value} (h : indexAddrS P t X I = some (Y, c)) (hc : c) (hX : RV w F m lam X u) (hI : RV w F m lam I i) :
    ∃ v, (Instr.indexAt t u i).run P w = .ok v w ∧ RV w F m lam Y v := by
  unfold indexAddrS at h
  split at h
  · rename_i sz rows k j
    obtain ⟨hw, a, cap, rfl, h1, h2, h3⟩ := hX
    obtain ⟨rfl, _⟩ := hI
    split at h
    · rename_i e ht
      split at h
      · rename_i hs
        simp only [Option.some.injEq, Prod.mk.injEq] at h
        obtain ⟨rfl, rfl⟩ := h
        rcases h3 with rfl | ⟨b, o, rfl, hF, hr⟩
        · have := hc.1; have := hc.2; simp at *; omega
        · exact ⟨_, run_indexAt ht hs hc, b, _, rfl, hF, hr.row hw (by have := hc.1; have := hc.2; omega)⟩
      · cases h
    · cases h
  · rename_i k ver sz n k' j
    obtain ⟨hg, hn, h2⟩ := hX
    obtain ⟨rfl, _⟩ := hI
    split at h
    · rename_i e ht
      split at h
      · rename_i hs
        simp only [Option.some.injEq, Prod.mk.injEq] at h
        obtain ⟨rfl, rfl⟩ := h
        rcases hn with ⟨rfl, rfl⟩ | ⟨b, o, cap, rfl⟩
        · have := hc.1; have := hc.2; omega
        · refine ⟨_, run_indexAt ht hs hc, hg, ⟨_, _, rfl⟩, fun sz' rows hm => ?_⟩
          obtain ⟨rfl, hn, h3⟩ := h2 sz' rows hm
          refine ⟨rfl, ?_⟩
          rcases h3 with ⟨_, h4⟩ | ⟨b', o', cap', h4, h5, _⟩
          · cases h4
          · simp only [Value.slice.injEq, Option.some.injEq, Addr.mk.injEq, and_true, true_and] at h5
            obtain ⟨⟨rfl, rfl⟩, _⟩ := h5
            exact .inr ⟨_, _, h4, rfl⟩
      · cases h
    · cases h
  · cases h

theorem run_indexS {t : TypeId} {X I Y : AV} {c : Prop} {u i : Value} (h : indexS P t X I = some (Y, c)) (hc : c) (hX : RV w F m lam X u) (hI : RV w F m lam I i) :
    ∃ v, (Instr.index t u i).run P w = .ok v w ∧ RV w F m lam Y v := by
  unfold indexS at h
  split at h
  · rename_i s k j
    obtain ⟨rfl, _⟩ := hX
    obtain ⟨rfl, _⟩ := hI
    split at h
    · rename_i ht
      simp only [Option.some.injEq, Prod.mk.injEq] at h
      obtain ⟨rfl, rfl⟩ := h
      have hlt : j.toNat < s.size := by have := hc.1; have := hc.2; omega
      refine ⟨_, ?_, rfl, rfl⟩
      simp only [Instr.index, asIntOf, Sem.run_bind, Sem.run_pure, Result.andThen_ok, run_underlying ht, hc.1, if_true, getElem?_pos s j.toNat hlt, Option.getD_some]
    · cases h
  · cases h
end
end Go.Abs
