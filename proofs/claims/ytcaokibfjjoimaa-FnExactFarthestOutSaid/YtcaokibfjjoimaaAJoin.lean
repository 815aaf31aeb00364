/- Walks that halt at each 'if': what comes after it is shown once. -/
import Derived.Test.YtcaokibfjjoimaaAOwn
namespace Go.Abs
open Go.RowKit
set_option linter.unusedVariables false
set_option linter.unusedSimpArgs false

def isIf : Code → Bool
  | .seq _ (.cond ..) => true
  | _ => false

/-- What is left to show of code; at an 'if' the walk halts. -/
def V (P : Program) (nx nt : Nat) : Code → Post → St → Prop
  | .skip, Q, σ => Q .normal σ
  | .exit id, Q, σ => Q (.exit id) σ
  | .ret, Q, σ => Q .ret σ
  | .seq x y, Q, σ => (isIf x = true ∧ T P nx nt (.seq x y) Q σ) ∨ (isIf x = false ∧ V P nx nt x (thenS (V P nx nt y Q) Q) σ)
  | .block id x, Q, σ => V P nx nt x (blockS id Q) σ
  | .cond c x y, Q, σ => condK (σ.ev c) (V P nx nt x Q σ) (V P nx nt y Q σ)
  | .region _ ops false, Q, σ => runU P nx nt ops ops.toList (Q .normal) σ
  | .region _ ops true, Q, σ => drawnK ops fun q => runG P nx nt q ops ops.toList (Q .normal) σ
  | c, Q, σ => T P nx nt c Q σ

section
variable {P : Program} {nx nt : Nat} {ops : Array Oper} {σ : St} {Q : Post} {x y a b : Code} {id : Nat} {c : Operand} {dr : Bool}
theorem V_skip : V P nx nt .skip Q σ = Q .normal σ := by rw [V]
theorem V_exit : V P nx nt (.exit id) Q σ = Q (.exit id) σ := by rw [V]
theorem V_ret : V P nx nt .ret Q σ = Q .ret σ := by rw [V]
theorem V_seq (h : isIf x = false) : V P nx nt (.seq x y) Q σ = V P nx nt x (thenS (V P nx nt y Q) Q) σ := by rw [V]; simp [h]
theorem V_if : V P nx nt (.seq (.seq a (.cond c x b)) y) Q σ = T P nx (todo nt) (.seq (.seq a (.cond c x b)) y) Q σ := by rw [V]; simp [isIf, todo]
theorem V_seq_region : V P nx nt (.seq (.region id ops dr) y) Q σ = V P nx nt (.region id ops dr) (thenS (V P nx nt y Q) Q) σ := V_seq rfl
theorem V_seq_block : V P nx nt (.seq (.block id x) y) Q σ = V P nx nt (.block id x) (thenS (V P nx nt y Q) Q) σ := V_seq rfl
theorem V_seq_loop : V P nx nt (.seq (.loop x) y) Q σ = V P nx nt (.loop x) (thenS (V P nx nt y Q) Q) σ := V_seq rfl
theorem V_seq_skip : V P nx nt (.seq .skip y) Q σ = V P nx nt .skip (thenS (V P nx nt y Q) Q) σ := V_seq rfl
theorem V_seq_cond : V P nx nt (.seq (.cond c a b) y) Q σ = V P nx nt (.cond c a b) (thenS (V P nx nt y Q) Q) σ := V_seq rfl
theorem V_seq_seq_region : V P nx nt (.seq (.seq a (.region id ops dr)) y) Q σ = V P nx nt (.seq a (.region id ops dr)) (thenS (V P nx nt y Q) Q) σ := V_seq rfl
theorem V_seq_seq_seq : V P nx nt (.seq (.seq a (.seq x b)) y) Q σ = V P nx nt (.seq a (.seq x b)) (thenS (V P nx nt y Q) Q) σ := V_seq rfl
theorem V_seq_seq_block : V P nx nt (.seq (.seq a (.block id x)) y) Q σ = V P nx nt (.seq a (.block id x)) (thenS (V P nx nt y Q) Q) σ := V_seq rfl
theorem V_seq_seq_loop : V P nx nt (.seq (.seq a (.loop x)) y) Q σ = V P nx nt (.seq a (.loop x)) (thenS (V P nx nt y Q) Q) σ := V_seq rfl
theorem V_seq_seq_skip : V P nx nt (.seq (.seq a .skip) y) Q σ = V P nx nt (.seq a .skip) (thenS (V P nx nt y Q) Q) σ := V_seq rfl
theorem V_seq_seq_ret : V P nx nt (.seq (.seq a .ret) y) Q σ = V P nx nt (.seq a .ret) (thenS (V P nx nt y Q) Q) σ := V_seq rfl
theorem V_seq_seq_exit : V P nx nt (.seq (.seq a (.exit id)) y) Q σ = V P nx nt (.seq a (.exit id)) (thenS (V P nx nt y Q) Q) σ := V_seq rfl
theorem V_block : V P nx nt (.block id x) Q σ = V P nx nt x (blockS id Q) σ := by rw [V]
theorem V_cond : V P nx nt (.cond c x y) Q σ = condK (todo (σ.ev c)) (V P nx nt x Q σ) (V P nx nt y Q σ) := by rw [V]; rfl
theorem V_region : V P nx nt (.region id ops false) Q σ = W P nx nt (.region id ops false) Q σ := by rw [V, W]
theorem V_drawn : V P nx nt (.region id ops true) Q σ = W P nx nt (.region id ops true) Q σ := by rw [V, W]
theorem V_loop : V P nx nt (.loop x) Q σ = T P nx (todo nt) (.loop x) Q σ := by rw [V] <;> simp [todo]

theorem V.T (hm : P.follows .mixedOrders = true) : ∀ {c : Code} {Q : Post} {σ : St}, V P nx nt c Q σ → T P nx nt c Q σ := by
  intro c
  induction c with
  | skip => intro Q σ h; rw [V_skip] at h; exact T.skip h
  | exit id => intro Q σ h; rw [V_exit] at h; exact T.exit h
  | ret => intro Q σ h; rw [V_ret] at h; exact T.ret h
  | seq x y ihx ihy =>
    intro Q σ h
    rw [V] at h
    rcases h with ⟨_, h⟩ | ⟨_, h⟩
    · exact h
    · refine T.seq (T.mono (ihx h) fun e σ hq => ?_)
      cases e with
      | normal => exact ihy hq
      | _ => exact hq
  | block id x ih => intro Q σ h; rw [V_block] at h; exact T.block (ih h)
  | cond c x y ihx ihy =>
    intro Q σ h
    rw [V] at h
    unfold condK at h
    split at h
    · rename_i b hb
      exact T.cond hb (fun e => ihx (h.1 e)) (fun e => ihy (h.2 e))
    · exact h.elim
  | region id ops drawn =>
    intro Q σ h
    cases drawn with
    | false => rw [V_region] at h; exact W.T hm h
    | true => rw [V_drawn] at h; exact W.T hm h
  | _ => intro Q σ h; simpa only [V] using h
end

section
variable {P : Program} {nt : Nat} {c x y : Code} {Q : Post} {σ : St}
/-- An 'if', walked through with all that comes after it. -/
theorem T.stepJ (hm : P.follows .mixedOrders = true) (h : V P 0 nt x (thenS (V P 0 nt y Q) Q) σ) : T P 0 nt (.seq x y) Q σ :=
  T.seq (T.mono (V.T hm h) fun e σ hq => by
    cases e with
    | normal => exact V.T hm hq
    | _ => exact hq)
/-- An 'if', and then what comes after it: of what it leaves only what lives is kept. -/
theorem T.joinJ (hm : P.follows .mixedOrders = true) (live : List Nat) (I : List AV → List Ent → Prop) (h0 : V P 0 nt x (thenS (fun σ' => headK live σ' I) Q) σ)
    (rest : ∀ vs es, I vs es → V P 0 nt y Q ⟨ofT (live.zip vs), updL M0 100 es⟩) : T P 0 nt (.seq x y) Q σ :=
  T.seq (T.mono (V.T hm h0) fun e σ' hq => by
    cases e with
    | normal =>
      obtain ⟨h1, h2⟩ := hq
      have hc : Weak 0 σ' (Abs.canon 0 100 live (keysV σ'.m (live.map σ'.t)) σ') := Weak.canon live (keysV σ'.m (live.map σ'.t)) σ' (Nat.zero_le _) h1 (fun _ _ => Nat.zero_le _)
      refine T.weak hc ?_
      have := V.T hm (rest _ _ h2)
      rw [zip_map_self, ← ofM_updL] at this
      exact this
    | _ => exact hq)
theorem T.loopJ (hm : P.follows .mixedOrders = true) (live : List Nat) (I : Nat → List AV → List Ent → Prop) (n : Nat) (h0 : headK live σ (I n))
    (round : ∀ n vs es, I n vs es → V P 0 nt c (thenS (fun σ' => ∃ n', n' < n ∧ headK live σ' (I n')) Q) ⟨ofT (live.zip vs), updL M0 100 es⟩) : T P 0 nt (.loop c) Q σ :=
  T.loopV live _ I n (Nat.zero_le _) [] rfl h0.1 (fun _ _ => Nat.zero_le _) rfl h0.2 fun n vs es hI => by
    rw [ofM_updL]
    refine T.mono (Q := thenS (fun σ' => ∃ n', n' < n ∧ headK live σ' (I n')) Q) (V.T hm (round n vs es hI)) ?_
    · intro e σ' hq
      cases e with
      | normal => obtain ⟨n', h1, h2, h3⟩ := hq; exact ⟨n', _, h1, ⟨h2, fun _ _ => Nat.zero_le _, rfl⟩, h3⟩
      | _ => exact hq
end
section
variable {P : Program} {f : FuncId} {fn : Func} {c : Code} {args : List AV}
theorem SC.of_WJ {ext : List Ent} {res : AV} {ext' : List Ent} {rs : List ResultVar} (hm : P.follows .mixedOrders = true) (hf : P.funcs[f]? = some fn) (hn : (fn.name == "runtime.NumGoroutine") = false) (hb : fn.body = some c)
    (hr : fn.results = rs.toArray) (n : Nat) (hnt : fn.ntmps = n) (hsz : args.length ≤ n) (h : V P ext.length n c (finW P ext.length rs res ext') ⟨ofT (slotsOf 0 args), ofM ext.length 1000 ext []⟩) : SC P f args ext res ext' := by
  subst hnt
  exact SC.of_T hf hn hb hsz (T.mono (V.T hm h) (finW_S (by rw [hr])))
theorem SC.of_VJ {x : Value} {t : Nat} (hm : P.follows .mixedOrders = true) (hf : P.funcs[f]? = some fn) (hn : (fn.name == "runtime.NumGoroutine") = false) (hb : fn.body = some c)
    (hr : fn.results = #[.tmp t]) (n : Nat) (hnt : fn.ntmps = n) (hsz : args.length ≤ n) (h : V P 0 n c (finV t x) ⟨ofT (slotsOf 0 args), M0⟩) : SC P f args [] (.at (.v x)) [] := by
  subst hnt
  rw [← ofM_M0] at h
  exact SC.of_T hf hn hb hsz (T.mono (V.T hm h) (finV_S hr))
end
attribute [go_sem ↓] V_skip V_exit V_ret V_if V_seq_region V_seq_block V_seq_loop V_seq_skip V_seq_cond V_seq_seq_region V_seq_seq_seq V_seq_seq_block V_seq_seq_loop V_seq_seq_skip V_seq_seq_ret V_seq_seq_exit V_block V_cond V_region V_drawn V_loop
end Go.Abs
