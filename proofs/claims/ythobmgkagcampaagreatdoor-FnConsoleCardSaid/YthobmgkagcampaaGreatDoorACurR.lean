/- The law's one argument, the code: its bytes as data. -/
import Derived.Test.YthobmgkagcampaaGreatDoorAData
import Derived.Test.YthobmgkagcampaaGreatDoorRows
import Derived.Test.YthobmgkagcampaaGreatDoorAShelf
import Derived.ProofKit
import Derived.LaidMore
import Derived.LaidSub
import Derived.MakeChecks
import Derived.Stop.Joined
import Derived.Lay
import Derived.Handed
import Derived.HandedShaped
import Derived.JoinedOf
import Derived.KernelRfl
import Derived.Test.YthobmgkagcampaaGreatDoorACur
namespace Go.Abs
open Go.RowKit Go.Proofs
set_option linter.all false
set_option maxRecDepth 100000
def RLo (w : World) (F : Nat -> Prop) (ats : List A) (us : List Value) : Prop := RL (fun a u => RA w F (ofM 0 1000 [] []) (fun _ => none) a u /\ u.oneCell' = true) ats us
theorem RLo.nil {w : World} {F : Nat -> Prop} : RLo w F [] [] := ⟨rfl, by simp⟩
theorem RLo.cons {w : World} {F : Nat -> Prop} {a : A} {ats : List A} {u : Value} {us : List Value} (h1 : RA w F (ofM 0 1000 [] []) (fun _ => none) a u) (h2 : u.oneCell' = true) (h3 : RLo w F ats us) : RLo w F (a :: ats) (u :: us) := RL_cons.2 ⟨⟨h1, h2⟩, h3⟩
theorem RLo.one {w : World} {F : Nat -> Prop} {a : A} {ats : List A} {u : Value} {us : List Value} (h : RLo w F (a :: ats) (u :: us)) : u.oneCell' = true := (RL_cons.1 h).1.2
section
variable {H : Type} {enc : TypeId × Value -> H} {w : World} {fuel : Nat} {cs : List Value} {x : DataW H × List MemPlace} {F : Nat -> Prop}
end
end Go.Abs
namespace Go.Abs
open Go.RowKit Go.Proofs Go.Proofs.YthobmgkagcampaaGreatDoor
set_option linter.all false
set_option maxRecDepth 100000
def laidL : List (String × DataW Unit) := Rows.fnConsoleRow.laid
theorem z_of {W : World} (hL : laidMetH Tryz.prog laidL W) (hS : W.ShapedOpen Tryz.prog) : Z Tryz.prog W (fun b => b < W.heap.size) (fun _ => False) := by
 have lt : ∀ b u, W.cell? ⟨b, 0, none⟩ = some u -> b < W.heap.size := fun b u h => by
  simp only [World.cell?] at h
  cases hg : W.heap[b]? with
  | none => rw [hg] at h; cases h
  | some o => exact (Array.getElem?_eq_some_iff.1 hg).1
 refine ⟨fun b hb => ?_, fun b hb => ?_, fun b hb => ?_⟩
 ·have h := hL.filter (fun x => x.1 == tabName)
  rw [MakeChecks.laidMetH_plain _ _ _ (by kernel_rfl)] at h
  have e : (laidL.filter fun x => x.1 == tabName) = [(tabName, Lib.tabData .u64 Lib.pow10Tab)] := by kernel_rfl
  rw [e] at h
  have hg : Tryz.prog.globalNamed tabName = some (Tryz.laysM171_ren.g 17) := Tryz.laysM171.m17
  have htab := Lib.tabIs_of_head (n := 20) (t := 270) (e := 249) hg (by kernel_rfl) (by kernel_rfl) (by kernel_rfl) (by kernel_rfl) (by kernel_rfl) h
  refine ⟨?_, id, htab⟩
  simp only [Lib.TabIs, World.var?, hb, Option.bind_some] at htab
  split at htab
  ·rename_i hg; exact (Array.getElem?_eq_some_iff.1 hg).1
  ·cases htab
 ·have hg : Tryz.prog.globalNamed maxLenName = some (Tryz.laysM146_ren.g 1) := by kernel_rfl
  obtain rfl := Option.some.inj (hg.symm.trans hb)
  obtain ⟨m, hm⟩ := Tryz.laysM146.s1_3 W hS
  exact ⟨lt _ _ hm, id, _, hm, m, rfl⟩
 ·have h := hL.filter (fun x => x.1 == errName)
  rw [MakeChecks.laidMetH_plain _ _ _ (by kernel_rfl)] at h
  have e : (laidL.filter fun x => x.1 == errName) = [(errName, Rows.laid_strconv_ErrSyntax)] := by kernel_rfl
  rw [e] at h
  have hg : Tryz.prog.globalNamed errName = some (Tryz.laysC172_ren.g 15) := by kernel_rfl
  obtain ⟨ps, ⟨g, t, cs, fuel, p, q, hg', ht, hvar, hd, _⟩, _⟩ := h
  obtain rfl := Option.some.inj (hg.symm.trans hg')
  obtain rfl := Option.some.inj (hg.symm.trans hb)
  have ht' : (Tryz.prog.globals[Tryz.laysC172_ren.g 15]?).map (·.type) = some 202 := by kernel_rfl
  obtain rfl := Option.some.inj (ht'.symm.trans ht)
  obtain ⟨_, u, v, hcs, _⟩ := iface_of_trod Tryz.underlying202 hd
  have hc : W.cell? ⟨Tryz.laysC172_ren.g 15, 0, none⟩ = some (.iface u v) := by
   rw [World.var?_cell hg hvar 0, <- Array.getElem?_toList, hcs]; rfl
  exact ⟨lt _ _ hc, id, _, hc, .inr ⟨u, v, rfl⟩⟩
theorem door_met (os : Os) (args : Array Value) : laidMetH Tryz.prog laidL ((World.laidAll Tryz.prog os laidL).forCall (fun _ _ => 0) ⟨#[], args, []⟩).memory := by
 rw [MakeChecks.laidMetH_plain _ _ _ (by kernel_rfl)]
 exact laidMet_laidAll _ (by kernel_rfl) (by kernel_rfl)
theorem handed_shaped {H : Type} {enc : TypeId × Value -> H} {a : Assume} {C : Checked} {os : Os} {f : FuncId} {fn : Func} {s : ChangeSpec} {conds : List PathCond} {apart fresh handsOn again : Bool} {X : World -> Array Value -> Prop}
  (hX : ∀ (w w' : World) (args : Array Value), w.heap = w'.heap -> X w args -> X w' args)
  (own : ownKnob C.prog.godebug = none) (started : os.Started) (noInit : C.prog.inits.idxOf? f = none) (hfn : C.prog.funcs[f]? = some fn)
  (witness : ∃ (w : World) (tape : Tape) (i : Input), w.os = os /\ (w.forCall tape i).Shaped C.prog /\ i.vars = [] /\ Input.okWide C.prog (w.forCall tape i) .any w.heap.size f i /\
   ((s.pre enc C.prog fn conds apart (w.forCall tape i).memory i.args /\ X (w.forCall tape i).memory i.args) /\ sizedMet enc C.prog fn (OpenSpec.ofChange s) apart (w.forCall tape i).memory i.args) /\ a.holds C.prog (lone (Frame.enter C.prog f i.args .normal) [] (w.forCall tape i)))
  (walk : ∀ (W : World) (base : Nat) (args : Array Value) (ds gs : List (DataW H)) (before : List MemPlace),
   (∀ (j : Nat) t v, fn.params[j]? = some t -> args[j]? = some v -> Value.okWide C.prog W .any base t v) ->
   DataW.Whole enc C.prog fn.params.toList s.vars apart W args.toList ds gs before ->
   X W args -> W.ShapedOpen C.prog ->
   Calls C.prog f args W fun e W' => ∃ v, e = .returned v /\ s.post enc C.prog fn apart fresh handsOn again W args v W') :
  ReturnsInHanded a C os f .any (fun w args => (s.pre enc C.prog fn conds apart w args /\ X w args) /\ sizedMet enc C.prog fn (OpenSpec.ofChange s) apart w args) (s.post enc C.prog fn apart fresh handsOn again) := by
 refine returnsInHanded_of_calls own started noInit witness fun w tape i _ hS _ hok hpre _ => ?_
 obtain ⟨_, _, _, fn2, hfn2, _, _, _, _, hval⟩ := hok
 obtain rfl : fn2 = fn := Option.some.inj (hfn2.symm.trans hfn)
 obtain ⟨⟨⟨ds, gs, before, hw, _⟩, hx⟩, _⟩ := hpre
 refine (walk (w.forCall tape i) w.heap.size i.args ds gs before hval (DataW.Whole.of_heap (w' := w.forCall tape i) (by rfl) hw) (hX _ _ _ (by rfl) hx) hS).mono fun e W' ⟨v, he, hp⟩ => ?_
 subst he
 exact ChangeSpec.post_blind hp
end Go.Abs
namespace Go.Abs
open Go
theorem closureVia_rank {P : Program} {r : Nat -> Nat} {K : Nat} (hr : ∀ (g : Nat) (fn : Func), P.funcs[g]? = some fn -> ∀ h ∈ P.leadsTo fn, r h < r g) :
  ∀ (n : Nat) (todo seen : List FuncId), (∀ x ∈ todo, r x <= K) -> (∀ x ∈ seen, r x <= K) -> ∀ x ∈ P.closureVia n todo seen, r x <= K := by
 intro n
 induction n with
 | zero => intro todo seen h1 h2 x hx; rw [Program.closureVia] at hx; exact h2 x (by simpa using hx)
 | succ n ih =>
  intro todo seen h1 h2 x hx
  cases todo with
  | nil => rw [Program.closureVia] at hx; exact h2 x (by simpa using hx); all_goals simp
  | cons f todo =>
   rw [Program.closureVia] at hx
   split at hx
   ·exact ih todo seen (fun y hy => h1 y (by simp [hy])) h2 x hx
   ·refine ih _ _ (fun y hy => ?_) (fun y hy => ?_) x hx
    ·rcases List.mem_append.1 hy with hy | hy
     ·cases hf : P.funcs[f]? with
      | none => rw [hf] at hy; simp at hy
      | some fn =>
       rw [hf] at hy
       have := hr f fn hf y hy
       have := h1 f (by simp)
       omega
     ·exact h1 y (by simp [hy])
    ·rcases List.mem_cons.1 hy with rfl | hy
     ·exact h1 y (by simp)
     ·exact h2 y hy
def rankOk (P : Program) (l : List Nat) : Bool := (List.range P.funcs.size).all fun g => ((P.funcs[g]?).elim [] P.leadsTo).all fun h => decide (l.getD h 0 < l.getD g 0)
theorem recurses_rank {P : Program} {f : FuncId} (l : List Nat) (hu : P.unfollowed f = false) (h : rankOk P l = true) : P.recurses f = false := by
 unfold Program.recurses
 rw [hu, Bool.false_or]
 rw [List.any_eq_false]
 intro g _
 rw [Bool.not_eq_true, List.any_eq_false]
 intro h' hh'
 have hr : ∀ (g : Nat) (fn : Func), P.funcs[g]? = some fn -> ∀ h ∈ P.leadsTo fn, l.getD h 0 < l.getD g 0 := by
  intro g fn hg h hh
  unfold rankOk at *
  rw [List.all_eq_true] at *
  have hlt : g < P.funcs.size := (Array.getElem?_eq_some_iff.1 hg).1
  have := ‹∀ x ∈ List.range P.funcs.size, _› g (by simpa using hlt)
  rw [hg] at this
  simp only [Option.elim, List.all_eq_true, decide_eq_true_eq] at this
  exact this h hh
 cases hg : P.funcs[g]? with
 | none => rw [hg] at hh'; simp at hh'
 | some fn =>
  rw [hg] at hh'
  have h1 := hr g fn hg h' hh'
  rw [Bool.not_eq_true, List.contains_eq_any_beq, List.any_eq_false]
  intro x hx
  have := closureVia_rank (r := fun k => l.getD k 0) (K := l.getD h' 0) hr _ [h'] [] (by simp) (by simp) x hx
  simp only [beq_iff_eq]
  rintro rfl
  omega
theorem eq_idb {a b : Bool} (h : a = b) : a = b := h
end Go.Abs
namespace Go.Proofs.YthobmgkagcampaaGreatDoor
open Go Go.Abs
theorem pf_rank : rankOk Tryz.pinned.checked.prog [0, 0, 1, 24, 24, 23, 0, 13, 22, 1, 3, 4, 4, 23, 18, 0, 1, 1, 2, 17, 3, 3, 2, 2, 0, 12, 2, 3, 7, 2, 21, 10, 17, 0, 0, 2, 3, 1, 6, 0, 1, 0, 1, 0, 0, 1, 2, 10, 0, 2, 5, 12, 16, 1, 0, 1, 2, 1, 1, 0, 1, 2, 1, 1, 0, 1, 0, 1, 0, 1, 0, 11, 11, 3, 2, 11, 11, 11, 11, 4, 2, 1, 0, 1, 9, 14, 17, 6, 16, 10, 12, 8, 8, 8, 9, 9, 8, 20, 9, 8, 14, 15, 16, 16, 16, 15, 15, 0, 1, 2, 0, 0, 0, 0, 5, 0, 0, 0, 0, 1, 9, 4, 0, 11, 5, 10, 12, 0, 12, 7, 9, 4, 5, 0, 2, 5, 5, 5, 2, 15, 0, 0, 1, 0, 0, 0, 0, 1, 0, 0, 0, 0, 0, 0, 0, 0, 3, 2, 2, 0, 10, 2, 1, 0, 0, 9, 8, 6, 10, 10, 3, 0, 0, 8, 4, 5, 13, 11, 6, 16, 5, 15, 9, 5, 6, 2, 3, 7, 3, 7, 5, 7, 2, 2, 0, 7, 0, 1, 3, 5, 19, 13, 8, 14, 3, 0, 14, 15, 14, 12, 13, 12, 1, 2, 4, 3, 8, 2, 4, 1, 1, 3, 8, 4, 0, 9, 7, 4, 11, 11, 6, 8, 2, 1, 0, 4, 2, 0, 1, 2, 3, 5, 14, 0, 0, 2, 1, 5, 4, 0, 5, 3, 1, 5, 9, 4, 4, 4, 0, 1, 12, 2, 15, 4, 1, 5, 4, 0, 3, 1, 2, 2, 0, 1, 2, 4, 18, 14, 12, 4, 7, 4, 5, 13, 6, 12, 0, 0, 1, 0, 2, 3, 0, 8, 3, 4, 13, 10, 0, 0, 0, 0, 0, 3, 1, 1, 3, 17, 3, 1, 1, 6, 6, 0, 1, 2, 0, 1, 0, 2, 0, 0, 2, 2, 0, 0, 0, 1, 0, 0, 0, 0, 1, 1, 0, 1, 0, 0, 0, 0, 0, 0, 0, 0, 0, 0, 0, 0, 0, 0, 0, 0, 0, 0, 0, 0, 0, 0, 0, 0, 0, 0, 0, 0, 0, 0, 0, 1] = true := by kernel_rfl
theorem pf_laid : laidOutB Tryz.pinned.checked.prog = true := by kernel_rfl
theorem pf_stops : Tryz.pinned.checked.prog.stops = [] := by kernel_rfl
theorem pf_knobs : Tryz.pinned.checked.prog.stopKnobs = [] := by kernel_rfl
theorem pf_lifts : Tryz.pinned.checked.prog.liftsFinal = false := by kernel_rfl
theorem pf_plain : Tryz.pinned.checked.prog.plainKeys = true := by kernel_rfl
theorem pf_heard : Tryz.pinned.checked.prog.stopsHeard = true := by kernel_rfl
theorem pf_enter : Tryz.pinned.checked.prog.mayEnter = true := by kernel_rfl
theorem pf_make : Tryz.pinned.checked.prog.make = some .cut := by kernel_rfl
end Go.Proofs.YthobmgkagcampaaGreatDoor
namespace Go.Abs
open Go.RowKit Go.Proofs
set_option linter.all false
set_option maxRecDepth 100000
section
variable {H : Type} {enc : TypeId × Value -> H} {w : World} {fuel : Nat} {cs : List Value} {x : DataW H × List MemPlace} {F : Nat -> Prop}
theorem und_uint8 : Tryz.prog.underlying 5 = some (.int .u8) := Tryz.underlying5
theorem cl_uint8 : Tryz.prog.cellsOf 5 = 1 := by kernel_rfl
theorem opS_uint8 (hF : ∀ b, b < w.heap.size -> F b) (h : DataW.trod enc Tryz.prog w 0 (fun _ => true) true fuel 22 cs = some x) :
  ∃ (v : Value) (l : List Int), cs = [v] /\ v.oneCell' = true /\ RA w F (ofM 0 1000 [] []) (fun _ => none) (.im 1 (l.map byteRow)) v /\ l.length <= maxLen /\ ∀ p ∈ l, (fun _ => True) p :=
 opn_rows (f := byteRow) (q := fun _ => True) (m := ofM 0 1000 [] []) (lam := fun _ => none) und_uint8S cl_uint8 (by omega) hF (fun fu r y hy => by obtain ⟨n, e, h⟩ := opn_int und_uint8 hy; exact ⟨n, e, trivial⟩) (fun p u hu => by
  simp only [byteRow, List.mem_cons, List.not_mem_nil, or_false] at hu
  rcases hu with rfl <;> rfl) h
end
end Go.Abs
