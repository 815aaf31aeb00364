/- Code as a step from frame to frame. -/
import Derived.Test.YtcaokibfjjoimaaAAny
namespace Go.Abs
open Go.RowKit
set_option linter.unusedVariables false
set_option linter.unusedSimpArgs false

abbrev Post := Exit → St → Prop

/-- From every frame that is as told, the code comes to one that is as told. -/
def T (P : Program) (nx nt : Nat) (c : Code) (Q : Post) (σ : St) : Prop :=
  ∀ (g : G) (F : Nat → Prop) (lam : Lam) (a : Act) (w : World), g.P = P → g.nx = nx → g.nt = nt → Inv g F lam σ a w →
    c.wp P (fun e a' w' => ∃ σ' F' lam', Q e σ' ∧ Inv g F' lam' σ' a' w') a w

def thenS (K : St → Prop) (Q : Post) : Post
  | .normal, σ => K σ
  | e, σ => Q e σ
def blockS (id : Nat) (Q : Post) : Post
  | .exit id', σ => if id' = id then Q .normal σ else Q (.exit id') σ
  | e, σ => Q e σ

section
variable {P : Program} {nx nt : Nat} {Q Q' : Post} {σ σ' : St} {x y : Code} {id : Nat}

theorem T.mono (h : T P nx nt x Q σ) (hq : ∀ e σ, Q e σ → Q' e σ) : T P nx nt x Q' σ := fun g F lam a w h1 h2 h3 hI =>
  wp_mono (h g F lam a w h1 h2 h3 hI) fun e a w ⟨σ', F', lam', q, hI'⟩ => ⟨σ', F', lam', hq _ _ q, hI'⟩

theorem T.weak (hw : Weak nx σ σ') (h : T P nx nt x Q σ') : T P nx nt x Q σ := fun g F lam a w h1 h2 h3 hI =>
  let ⟨F', lam', hI'⟩ := hw g F lam a w h2 hI
  h g F' lam' a w h1 h2 h3 hI'

theorem T.skip (h : Q .normal σ) : T P nx nt .skip Q σ := fun g F lam a w _ _ _ hI => wp_skip ⟨σ, F, lam, h, hI⟩
theorem T.exit (h : Q (.exit id) σ) : T P nx nt (.exit id) Q σ := fun g F lam a w _ _ _ hI => wp_exit ⟨σ, F, lam, h, hI⟩
theorem T.ret (h : Q .ret σ) : T P nx nt .ret Q σ := fun g F lam a w _ _ _ hI => wp_ret ⟨σ, F, lam, h, hI⟩

theorem T.seq (h : T P nx nt x (thenS (T P nx nt y Q) Q) σ) : T P nx nt (.seq x y) Q σ := fun g F lam a w h1 h2 h3 hI =>
  wp_seq (wp_mono (h g F lam a w h1 h2 h3 hI) fun e a w ⟨σ', F', lam', q, hI'⟩ => by
    cases e with
    | normal => exact q g F' lam' a w h1 h2 h3 hI'
    | _ => exact ⟨σ', F', lam', q, hI'⟩)

theorem T.block (h : T P nx nt x (blockS id Q) σ) : T P nx nt (.block id x) Q σ := fun g F lam a w h1 h2 h3 hI =>
  wp_block (wp_mono (h g F lam a w h1 h2 h3 hI) fun e a w ⟨σ', F', lam', q, hI'⟩ => by
    cases e with
    | exit id' =>
      simp only [blockS] at q
      simp only [Exit.inBlock]
      split at q
      · rename_i he; rw [if_pos he]; exact ⟨σ', F', lam', q, hI'⟩
      · rename_i he; rw [if_neg he]; exact ⟨σ', F', lam', q, hI'⟩
    | _ => exact ⟨σ', F', lam', q, hI'⟩)

theorem T.cond {c : Operand} {b : Bool} (hc : σ.ev c = .at (.v (.bool b))) (ht : b = true → T P nx nt x Q σ) (hf : b = false → T P nx nt y Q σ) : T P nx nt (.cond c x y) Q σ := fun g F lam a w h1 h2 h3 hI => by
  have hv := hI.ev c
  rw [hc] at hv
  exact wp_cond_split hv.1 (fun h => ht h g F lam a w h1 h2 h3 hI) (fun h => hf h g F lam a w h1 h2 h3 hI)

theorem wp_rounds {c : Code} {R : Exit → Act → World → Prop} (I : Nat → Act → World → Prop) (round : ∀ n a w, I n a w → c.wp P (Exit.then (fun a' w' => ∃ n', n' < n ∧ I n' a' w') R) a w) {n : Nat} {a : Act} {w : World} (h0 : I n a w) : (Code.loop c).wp P R a w := by
  intro b k cs
  have key : ∀ n a w, I n a w → ∃ e a' w', R e a' w' ∧ Arrives P (lone (b.at a (.code c :: .inLoop c :: k)) cs w) b k cs e a' w' := by
    intro n
    induction n using Nat.strongRecOn with
    | _ n ih =>
      intro a w hI
      obtain ⟨e, a1, w1, hq, harr⟩ := round n a w hI b (.inLoop c :: k) cs
      cases e with
      | normal =>
        obtain ⟨n', hlt, hI1⟩ := hq
        obtain ⟨e2, a2, w2, hq2, harr2⟩ := ih n' hlt a1 w1 hI1
        exact ⟨e2, a2, w2, hq2, .of_steps (Steps.trans harr (.one step_inLoop)) harr2⟩
      | exit id => exact ⟨_, a1, w1, hq, .pass (x := .inLoop c) rfl (fun _ _ => .inl (by simp)) harr⟩
      | goto l => exact ⟨_, a1, w1, hq, .pass (x := .inLoop c) rfl (fun _ _ => .inl (by simp)) harr⟩
      | ret => exact ⟨_, a1, w1, hq, .pass (x := .inLoop c) rfl (fun _ _ => .inl (by simp)) harr⟩
      | panic ch => exact ⟨_, a1, w1, hq, .pass (x := .inLoop c) rfl (fun _ _ => .inl (by simp)) harr⟩
      | outgrown => exact ⟨_, a1, w1, hq, .pass (x := .inLoop c) rfl (fun _ _ => .inl (by simp)) harr⟩
  obtain ⟨e, a', w', hq, harr⟩ := key _ a w h0
  exact ⟨e, a', w', hq, .of_steps (.one step_loop) harr⟩

theorem T.loop (I : Nat → St → Prop) (n : Nat) (h0 : I n σ) (round : ∀ n σ, I n σ → T P nx nt x (thenS (fun σ' => ∃ n', n' < n ∧ I n' σ') Q) σ) : T P nx nt (.loop x) Q σ := fun g F lam a w h1 h2 h3 hI =>
  wp_rounds (I := fun n a w => ∃ σ F lam, I n σ ∧ Inv g F lam σ a w) (fun n a w ⟨σ, F, lam, hn, hI⟩ => wp_mono (round n σ hn g F lam a w h1 h2 h3 hI) fun e a w ⟨σ', F', lam', q, hI'⟩ => by
    cases e with
    | normal => obtain ⟨n', hlt, hn'⟩ := q; exact ⟨n', hlt, σ', F', lam', hn', hI'⟩
    | _ => exact ⟨σ', F', lam', q, hI'⟩) (n := n) ⟨σ, F, lam, h0, hI⟩

/-- The steps of a region, one by one. -/
def callC (P : Program) (nx : Nat) (f : FuncId) (avs : List AV) (d : Option Nat) (K : St → Prop) (σ : St) : Prop := ∃ σ', CallStp P nx σ f avs d σ' ∧ K σ'
def callQ (P : Program) (nx : Nat) (f : FuncId) (avs : List AV) (d : Option Nat) (K : St → Prop) (σ : St) : Prop :=
  ∃ σ', (∃ keys bor fz args res ext', keys = [] ∧ CallOk nx σ.m keys bor fz (siteOf d) ∧ BackOk σ.m keys bor fz ext' (freshes res) res ∧ subT (avs.map (passV keys bor σ.m)) args ∧
      SC P f args (exts keys σ.m) res ext' ∧ σ' = ⟨putD σ.t d (backV σ.m keys (siteOf d) (instV 1000 res)), backM σ.m keys bor fz (siteOf d) ext' (freshes res)⟩) ∧ K σ'
def opC (P : Program) (nx : Nat) (quiet : Bool) (o : Oper) (K : St → Prop) (σ : St) : Prop :=
  match opS P nx quiet o σ with
  | some (x, m', c) => c ∧ K ⟨putD σ.t o.dst x, m'⟩
  | none => False
def actC (P : Program) (nx : Nat) (quiet : Bool) (o : Oper) (K : St → Prop) (σ : St) : Prop :=
  match o.op with
  | .call c => match c.callee with
    | .value (.func f) => if quiet then callQ P nx f (c.args.toList.map σ.ev) o.dst K σ else callC P nx f (c.args.toList.map σ.ev) o.dst K σ
    | _ => opC P nx quiet o K σ
  | _ => opC P nx quiet o K σ
def dstOk (nt : Nat) : Option Nat → Bool
  | none => true
  | some d => decide (d < nt)
/-- A guard: what each outcome must show; the third: the guard's own step was passed over. -/
def guardK (x : AV) (want : Bool) (K1 K2 K3 : Prop) : Prop :=
  match x with
  | .at (.v (.bool b)) => (b = want → K1) ∧ (b = (!want) → K2)
  | .tp [] => K3
  | _ => False
def stepC (P : Program) (nx nt : Nat) (quiet : Bool) (ops : Array Oper) (o : Oper) (K : St → Prop) (σ : St) : Prop :=
  dstOk nt o.dst = true ∧
  match o.guard with
  | none => actC P nx quiet o K σ
  | some p =>
    match (ops[p.1]?).bind (·.dst) with
    | some d => guardK (σ.t d) p.2 (actC P nx quiet o K σ) (K ⟨putD σ.t o.dst (.tp []), σ.m⟩) (K ⟨putD σ.t o.dst (.tp []), σ.m⟩)
    | none => False
def runC (P : Program) (nx nt : Nat) (quiet : Bool) (ops : Array Oper) : List Oper → (St → Prop) → St → Prop
  | [], K, σ => K σ
  | o :: L, K, σ => stepC P nx nt quiet ops o (runC P nx nt quiet ops L K) σ

theorem CallStp.ofQ {f : FuncId} {avs : List AV} {d : Option Nat} {K : St → Prop} (h : callQ P nx f avs d K σ) : callC P nx f avs d K σ := by
  obtain ⟨σ', ⟨keys, bor, fz, args, res, ext', _, h1, h2, h3, h4, h5⟩, hk⟩ := h
  exact ⟨σ', ⟨keys, bor, fz, args, res, ext', h1, h2, h3, h4, h5⟩, hk⟩

theorem actC_sound {quiet : Bool} {o : Oper} {K : St → Prop} (h : actC P nx quiet o K σ) : ∃ σ', ActStp P nx quiet o σ σ' ∧ K σ' := by
  have op : opC P nx quiet o K σ → ∃ σ', ActStp P nx quiet o σ σ' ∧ K σ' := by
    intro h
    unfold opC at h
    split at h
    · rename_i x m' c hx
      exact ⟨_, .op x m' c hx h.1 rfl, h.2⟩
    · exact h.elim
  unfold actC at h
  split at h
  · rename_i cl ho
    split at h
    · rename_i f hf
      cases quiet with
      | true =>
        simp only [if_true] at h
        obtain ⟨σ', ⟨keys, bor, fz, args, res, ext', h0, h1, h2, h3, h4, h5⟩, hk⟩ := h
        exact ⟨σ', .call cl f ho hf ⟨keys, bor, fz, args, res, ext', h1, h2, h3, h4, h5⟩ (fun _ => ⟨keys, bor, fz, args, res, ext', h0, h1, h2, h3, h4, h5⟩), hk⟩
      | false =>
        simp only [Bool.false_eq_true, if_false] at h
        obtain ⟨σ', h1, hk⟩ := h
        exact ⟨σ', .call cl f ho hf h1 (fun h => by cases h), hk⟩
    · exact op h
  · exact op h

theorem stepC_sound {quiet : Bool} {ops : Array Oper} {o : Oper} {K : St → Prop} (h : stepC P nx nt quiet ops o K σ) : ∃ σ', Stp P nx nt quiet ops o σ σ' ∧ K σ' := by
  obtain ⟨hd, h⟩ := h
  have hd' : ∀ d, o.dst = some d → d < nt := fun d e => by rw [e] at hd; simpa [dstOk] using hd
  cases hg : o.guard with
  | none =>
    rw [hg] at h
    obtain ⟨σ', h1, h2⟩ := actC_sound h
    exact ⟨σ', .act (.inl (by simp [guardOf, hg])) hd' h1, h2⟩
  | some p =>
    rw [hg] at h
    dsimp only at h
    cases hp : (ops[p.1]?).bind (·.dst) with
    | none => rw [hp] at h; exact h.elim
    | some d =>
      rw [hp] at h
      dsimp only at h
      have hgo : guardOf ops o = some (some d, p.2) := by simp [guardOf, hg, hp]
      unfold guardK at h
      split at h
      · rename_i b hb
        by_cases hbp : b = p.2
        · obtain ⟨σ', h3, h4⟩ := actC_sound (h.1 hbp)
          exact ⟨σ', .act (.inr ⟨d, p.2, hgo, by rw [hb, hbp]⟩) hd' h3, h4⟩
        · exact ⟨_, .skip d p.2 hgo (by rw [hb]; exact hbp) hd' rfl, h.2 (by cases b <;> cases hp2 : p.2 <;> simp_all)⟩
      · rename_i hb
        exact ⟨_, .skip d p.2 hgo (by rw [hb]; trivial) hd' rfl, h⟩
      · exact h.elim

theorem runC_sound {quiet : Bool} {ops : Array Oper} {K : St → Prop} : ∀ (L : List Oper) (k : Nat) (σ : St), ops.toList.drop k = L → runC P nx nt quiet ops L K σ → ∃ σ', Run P nx nt quiet ops (List.range' k L.length) σ σ' ∧ K σ' := by
  intro L
  induction L with
  | nil => intro k σ _ h; exact ⟨σ, .nil σ, h⟩
  | cons o L ih =>
    intro k σ hL h
    obtain ⟨σ1, h1, h2⟩ := stepC_sound h
    have hk : ops.toList[k]? = some o := by
      have := congrArg (·[0]?) hL
      simpa using this
    obtain ⟨σ2, h3, h4⟩ := ih (k + 1) σ1 (by rw [← List.drop_drop, hL]; rfl) h2
    refine ⟨σ2, ?_, h4⟩
    rw [List.length_cons, List.range'_succ]
    exact .cons (by simpa using hk) h1 h3

theorem T.region {ops : Array Oper} (h : runC P nx nt false ops ops.toList (Q .normal) σ) : T P nx nt (.region id ops false) Q σ := fun g F lam a w h1 h2 h3 hI => by
  obtain ⟨σ', hr, hq⟩ := runC_sound ops.toList 0 σ rfl h
  subst h1; subst h2; subst h3
  exact region_plain (quiet := false) (by rw [List.range_eq_range']; simpa using hr) hI fun F' lam' a' w' hI' => ⟨σ', F', lam', hq, hI'⟩

theorem T.drawn {ops : Array Oper} (quiet : Bool) (fuel : Nat) (hm : P.follows .mixedOrders = true) (hok : anyOk quiet fuel ops = true) (h : runC P nx nt quiet ops ops.toList (Q .normal) σ) : T P nx nt (.region id ops true) Q σ := fun g F lam a w h1 h2 h3 hI => by
  obtain ⟨σ', hr, hq⟩ := runC_sound ops.toList 0 σ rfl h
  subst h1; subst h2; subst h3
  exact region_drawn hm hok (by rw [List.range_eq_range']; simpa using hr) hI fun F' lam' a' w' hI' => ⟨σ', F', lam', hq, hI'⟩

end
end Go.Abs
