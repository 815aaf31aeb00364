/- The law FnConsole: for every input it returns true, and each argument reads afterwards as before. No condition. -/
import Derived.Test.YthobmgkagcampaaGreatDoorRows
import Derived.Test.YthobmgkagcampaaGreatDoorCards
import Derived.Test.YthobmgkagcampaaGreatDoorTie
import Derived.Test.YthobmgkagcampaaGreatDoorACurR
import Derived.SevenTiedAt
import Derived.LaidMore
import Derived.Handed
import Derived.Test.YthobmgkagcampaaGreatDoorALConsole
import Derived.WalkKit
import Derived.ProofKit
import Derived.OpenShut
import Derived.ShutString
import Derived.ChangeOld
import Derived.Below
import Derived.SizedLaws
import Derived.Carry
namespace Go.Proofs.YthobmgkagcampaaGreatDoor.fnConsole
open Go.ChangeShapes Go.WideShapes Go.ChangeAt Go.RowKit Go.Abs
set_option linter.all false
theorem own : ownKnob Tryz.prog.godebug = none := by kernel_rfl
theorem laid : laidOutB Tryz.prog = true := by kernel_rfl
set_option maxRecDepth 100000 in
theorem lifted (os : Os) (started : os.Started) (H : Type) (enc : TypeId × Value -> H) :
  ReturnsInHanded {} Tryz.checked os 3 .any (fun w args => (Rows.fnConsoleSpec.pre enc Tryz.prog Tryz.f3 [] false w args /\ laidMetH Tryz.prog Rows.fnConsoleRow.laid w) /\ sizedMet enc Tryz.prog Tryz.f3 (OpenSpec.ofChange Rows.fnConsoleSpec) false w args)
   (Rows.fnConsoleSpec.post enc Tryz.prog Tryz.f3 false true false false) := by
 refine handed_shaped (C := Tryz.checked) (X := fun w _ => laidMetH Tryz.prog Rows.fnConsoleRow.laid w) (fun _ _ _ hh h => h.of_heap hh) own started (by kernel_rfl) Tryz.func3
  (ChangeSpec.witness_shaped (enc := enc) (C := Tryz.checked) (os := os) (X := fun w _ => laidMetH Tryz.prog Rows.fnConsoleRow.laid w) false (World.laidAll Tryz.prog os laidL) #[.slice none 0 0] 8 (World.laidAll_os _ _ _) (World.shaped_of_ZipB (by kernel_rfl) (by kernel_rfl)) (by kernel_rfl) (by kernel_rfl) (by kernel_rfl) (door_met os _)) ?_
 intro W base args ds gs before hval0 hW hL hS
 have hval : ∀ (j : Nat) t v, Tryz.f3.params[j]? = some t -> args[j]? = some v -> Value.okWide Tryz.prog W .any base t v := hval0
 have hW' := hW
 obtain ⟨p, q, hA0, hV, rfl, hfz, hnd⟩ := hW
 have hA : DataW.TrodAll enc Tryz.prog W 0 (fun _ => true) true Tryz.f3.params.toList args.toList ds p := hA0
 rw [Tryz.params3] at hA hval
 obtain ⟨v0, vs0, d0, ds0, p0, q0, hargs0, rfl, rfl, h0, r0⟩ := trodAll_cons hA
 obtain ⟨rfl, rfl, rfl⟩ := trodAll_nil r0
 obtain rfl : args = #[v0] := by cases args; simp_all
 obtain ⟨rfl, rfl⟩ := trodVars_none hV
 have hv0 := hval 0 22 v0 rfl rfl
 obtain ⟨fu0, hfu0⟩ := id h0
 have hc0 : v0.cells.toList = [v0] := by cases v0 <;> first | rfl | (simp [Value.okWide, Tryz.underlying22, Cell.okWide, Cell.ok] at hv0)
 rw [hc0] at hfu0
 obtain ⟨u0, code, he0, _, hr0, hm0, hw0⟩ := opS_uint8 (F := fun b => b < W.heap.size) (fun b hb => hb) hfu0
 obtain rfl := List.head_eq_of_cons_eq he0
 have hlt0 : ∀ x ∈ p0, x.block < W.heap.size := fun x hx => hW'.lt x (by simp [hx])
 refine (law_calls (law_Console code hm0) (z_of hL hS) rfl ?_).mono fun e W' ⟨he, bel⟩ => ?_
 ·intro i x u hx hu
  rcases i with _ | i
  ·simp only [List.getElem?_cons_zero, List.getElem?_cons_succ, Option.some.injEq] at hx hu
   subst hx; subst hu; exact hr0
  simp at hx
 subst he
 exact ⟨_, rfl, _, _, _, [], _, [], hW', trodAll_mk1 (shut_bool Tryz.underlying4 _), (trodAll_cons_mk (Below.trod laid (by kernel_rfl) (of_decide_eq_true (by kernel_rfl)) h0 bel hlt0) trodAll_mk0), rfl, bel.frame _, fun h => by cases h⟩
theorem unf : Tryz.pinned.checked.prog.unfollowed 3 = false := by kernel_rfl
theorem inp : Tryz.pinned.checked.prog.inPlace 3 = Rows.fnConsoleRow.inPlace := by kernel_rfl
theorem vars : Tryz.pinned.checked.prog.varsNamed 3 = Rows.fnConsoleRow.named := by kernel_rfl
theorem closed : joinedFacts Tryz.pinned.checked.prog 3 Tryz.f3 Rows.fnConsoleSpec Rows.fnConsoleRow = true := by
 have hr : Tryz.pinned.checked.prog.recurses 3 = false := recurses_rank _ unf pf_rank
 unfold joinedFacts
 rw [unf, inp, vars, hr, pf_laid, pf_stops, pf_knobs, pf_lifts, pf_plain, pf_heard, pf_enter, pf_make]
 refine eq_idb ?_
 kernel_rfl
theorem over : Rows.fnConsoleRow.holds Tryz.pinned (OpenSpec.ofChange Rows.fnConsoleSpec) :=
 OpenClaim.holds_of_wide 3 Tryz.f3 rfl rfl rfl rfl rfl rfl rfl ⟨rfl, rfl, rfl, rfl, rfl⟩ rfl rfl rfl rfl rfl (by kernel_rfl) Tryz.func3 closed
  (of_decide_eq_true (by kernel_rfl)) (by unfold Func.isWrapper; first | (rw [if_pos (by decide +kernel)]; kernel_rfl) | (rw [if_neg (by decide +kernel)]; exact ⟨rfl, rfl⟩))
  (fun os started H enc _ => lifted os started H enc)
theorem named : Tryz.prog.funcNamed Rows.fnConsoleRow.func = some 3 := by kernel_rfl
theorem proved : Rows.FnConsoleCardSaid :=
 Claim7.holds_tied_plain_at .later [] [.data, .data, .data, .data, .sentinel, .sentinel, .pinned] true (true, "91552fcd96932d627fb6484fb012efe086d758a48482dc2cae9e2dbe2220c508") true
  over (fun _ h => by cases h) (by kernel_rfl) (fun _ h => by cases h) fnConsole_row_tie rfl ⟨rfl, rfl⟩ (by kernel_rfl) rfl
  (fun f fn hf hfn => by
   obtain rfl : f = 3 := Option.some.inj (named.symm.trans hf) |>.symm
   obtain rfl : fn = Tryz.f3 := (Option.some.inj (Tryz.func3.symm.trans hfn)).symm
   exact ⟨by kernel_rfl, fun j t ht => by
    rw [Tryz.params3] at ht
    have hm : t ∈ ([22] : List Nat) := by simpa using Array.mem_of_getElem? ht
    have hall : (([22] : List Nat).all fun u => !Tryz.prog.wantsStandIn u) = true := by kernel_rfl
    exact (show Tryz.prog.wantsStandIn t = false by simpa using List.all_eq_true.1 hall t hm)⟩)
  (by kernel_rfl)
#print axioms proved
end Go.Proofs.YthobmgkagcampaaGreatDoor.fnConsole
namespace Go.Proofs.YthobmgkagcampaaGreatDoor
theorem fnConsole_holds : Rows.FnConsoleCardSaid := fnConsole.proved
end Go.Proofs.YthobmgkagcampaaGreatDoor
