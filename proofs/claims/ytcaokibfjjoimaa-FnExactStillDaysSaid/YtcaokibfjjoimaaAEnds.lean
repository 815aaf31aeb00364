/- Ends of functions, and calls, told as computing. -/
import Derived.Test.YtcaokibfjjoimaaAWalk
namespace Go.Abs
open Go.RowKit
set_option linter.unusedVariables false
set_option linter.unusedSimpArgs false

/-! ### Ends -/
/-- The arrays of the call's own that a value names. -/
def keysE (k : Nat) : Ent → List Nat
  | .arr .. => [k]
  | _ => []
def keysA (m : Mem) : A → List Nat
  | .ow k _ _ _ => keysE k (m k)
  | _ => []
def keysL (m : Mem) : List A → List Nat
  | [] => []
  | a :: as => keysA m a ++ keysL m as
def keys1 (m : Mem) : AV → List Nat
  | .at a => keysA m a
  | .ag cs => keysL m cs
  | .tp _ => []
def keysT (m : Mem) : List AV → List Nat
  | [] => []
  | x :: xs => keys1 m x ++ keysT m xs

/-- A nil slice that is given where an array of one's own is told. -/
def nilK (x : AV) (a b : Prop) : Prop :=
  match x with
  | .at .nil => a
  | _ => b
theorem nilK_nil {a b : Prop} : nilK (.at .nil) a b = a := rfl
theorem nilK_ow {k v s n : Nat} {a b : Prop} : nilK (.at (.ow k v s n)) a b = b := rfl
def ownNil : List ResultVar → List AV → (St → Prop) → St → Prop
  | .tmp t :: rs, .at (.fr sz _) :: ws, K, σ => nilK (σ.t t) (σ.m (500000 + t) = .gone ∧ ownNil rs ws K ⟨upd σ.t t (.at (.ow (500000 + t) 0 sz 0)), upd σ.m (500000 + t) (.arr 0 sz [])⟩) (ownNil rs ws K σ)
  | _ :: rs, _ :: ws, K, σ => ownNil rs ws K σ
  | _, _, K, σ => K σ
def cellOk : AV → Prop
  | .at (.bx _ _ _) => True
  | _ => False
theorem cellOk_bx {k v o : Nat} : cellOk (.at (.bx k v o)) = True := rfl
def resC (P : Program) (σ : St) : List ResultVar → (List AV → Prop) → Prop
  | [], K => K []
  | .tmp t :: rs, K => resC P σ rs fun xs => K (σ.t t :: xs)
  | .cell a t :: rs, K => cellOk (σ.t a) ∧ onR (loadS P t σ.m (σ.t a)) fun x => resC P σ rs fun xs => K (x :: xs)
def partsOf : AV → List AV
  | .tp xs => xs
  | x => [x]

/-- The frame at a function's end gives what is told. -/
def finX (nx : Nat) (m : Mem) (xs : List AV) (res : AV) (ext' : List Ent) (ks : List Nat) : Prop :=
  ks.Nodup ∧ (∀ k ∈ ks, nx ≤ k) ∧ subR (renV (invOf nx 1000 ks) m (oneOf xs)) (instV 1000 res) ∧ (List.range nx).map (fun k => renE (invOf nx 1000 ks) m (m k)) = ext' ∧ (ks.map fun k => renE (invOf nx 1000 ks) m (m k)) = freshes res
def finW (P : Program) (nx : Nat) (rs : List ResultVar) (res : AV) (ext' : List Ent) : Post
  | .ret, σ => nx ≤ 1000 ∧ ownNil rs (partsOf res) (fun σ => resC P σ rs fun xs => finX nx σ.m xs res ext' (keysT σ.m xs)) σ
  | _, _ => False
/-- .. that gives one plain value. -/
def finV (t : Nat) (x : Value) : Post
  | .ret, σ => σ.t t = .at (.v x)
  | _, _ => False

section
variable {P : Program} {nx : Nat} {σ : St}
theorem ownNil_weak {K : St → Prop} {hx : nx ≤ 500000} : ∀ {rs : List ResultVar} {ws : List AV} {σ : St}, ownNil rs ws K σ → ∃ σ1, Weak nx σ σ1 ∧ K σ1 := by
  intro rs
  induction rs with
  | nil => intro ws σ h; cases ws <;> exact ⟨σ, Weak.refl _ _, h⟩
  | cons r rs ih =>
    intro ws σ h
    cases ws with
    | nil => cases r <;> exact ⟨σ, Weak.refl _ _, h⟩
    | cons x ws =>
      cases r with
      | tmp t =>
        cases x with
        | «at» a =>
          cases a with
          | fr sz rows =>
            simp only [ownNil] at h
            unfold nilK at h
            split at h
            · rename_i hn
              obtain ⟨σ1, h1, h2⟩ := ih h.2
              exact ⟨σ1, Weak.trans (Weak.own σ hn h.1 (by omega)) h1, h2⟩
            · exact ih h
          | _ => exact ih h
        | _ => exact ih h
      | _ => exact ih h

theorem resC_at {σ : St} : ∀ {rs : List ResultVar} {K : List AV → Prop}, resC P σ rs K → ∃ xs, resAt P σ rs xs ∧ K xs := by
  intro rs
  induction rs with
  | nil => intro K h; exact ⟨[], trivial, h⟩
  | cons r rs ih =>
    intro K h
    cases r with
    | tmp t =>
      obtain ⟨xs, h1, h2⟩ := ih h
      exact ⟨σ.t t :: xs, (⟨rfl, h1⟩ : _ ∧ _), h2⟩
    | cell a t =>
      obtain ⟨hc, h⟩ := h
      unfold cellOk at hc
      split at hc
      · rename_i k v o hb
        cases hl : loadS P t σ.m (σ.t a) with
        | none => rw [hl] at h; exact h.elim
        | some r =>
          obtain ⟨x, c⟩ := r
          rw [hl] at h
          obtain ⟨hcc, h⟩ := h
          obtain ⟨xs, h1, h2⟩ := ih h
          exact ⟨x :: xs, (⟨⟨k, v, o, c, hb, hl, hcc⟩, h1⟩ : _ ∧ _), h2⟩
      · exact hc.elim

theorem finW_S {fn : Func} {rs : List ResultVar} {res : AV} {ext' : List Ent} (hr : fn.results.toList = rs) : ∀ e σ, finW P nx rs res ext' e σ → finS P nx fn res ext' e σ := by
  intro e σ h
  cases e with
  | ret =>
    obtain ⟨hnx, h⟩ := h
    obtain ⟨σ1, hw, h⟩ := ownNil_weak (nx := nx) (hx := by omega) h
    obtain ⟨xs, h1, h2, h3, h4, h5, h6⟩ := resC_at h
    exact ⟨σ1, xs, _, hw, by rw [hr]; exact h1, hnx, h2, h3, h4, h5, h6⟩
  | _ => exact h.elim

theorem finV_S {fn : Func} {t : Nat} {x : Value} (hr : fn.results = #[.tmp t]) : ∀ e σ, finV t x e σ → finS P 0 fn (.at (.v x)) [] e σ := by
  intro e σ h
  cases e with
  | ret => exact fin_plain hr h
  | _ => exact h.elim

theorem SC.of_W {f : FuncId} {fn : Func} {c : Code} {args : List AV} {ext : List Ent} {res : AV} {ext' : List Ent} {rs : List ResultVar} (hm : P.follows .mixedOrders = true) (hf : P.funcs[f]? = some fn) (hn : (fn.name == "runtime.NumGoroutine") = false) (hb : fn.body = some c)
    (hr : fn.results = rs.toArray) (n : Nat) (hnt : fn.ntmps = n) (hsz : args.length ≤ n) (h : W P ext.length n c (finW P ext.length rs res ext') ⟨ofT (slotsOf 0 args), ofM ext.length 1000 ext []⟩) : SC P f args ext res ext' := by
  subst hnt
  exact SC.of_T hf hn hb hsz (T.mono (W.T hm h) (finW_S (by rw [hr])))
theorem SC.of_V {f : FuncId} {fn : Func} {c : Code} {args : List AV} {x : Value} {t : Nat} (hm : P.follows .mixedOrders = true) (hf : P.funcs[f]? = some fn) (hn : (fn.name == "runtime.NumGoroutine") = false) (hb : fn.body = some c)
    (hr : fn.results = #[.tmp t]) (n : Nat) (hnt : fn.ntmps = n) (hsz : args.length ≤ n) (h : W P 0 n c (finV t x) ⟨ofT (slotsOf 0 args), M0⟩) : SC P f args [] (.at (.v x)) [] := by
  subst hnt
  rw [← ofM_M0] at h
  exact SC.of_T hf hn hb hsz (T.mono (W.T hm h) (finV_S hr))
end

/-! ### Loops -/
def boxKeys (m : Mem) : Ent → List Nat
  | .box _ cells => keysL m cells
  | _ => []
def keysB (m : Mem) : A → List Nat
  | .ow k _ _ _ => keysE k (m k)
  | .bx k _ _ => k :: boxKeys m (m k)
  | _ => []
def keysV (m : Mem) : List AV → List Nat
  | [] => []
  | .at a :: xs => keysB m a ++ keysV m xs
  | .ag cs :: xs => keysL m cs ++ keysV m xs
  | .tp _ :: xs => keysV m xs
theorem keysV_nil {m : Mem} : keysV m [] = [] := rfl
theorem keysV_at {m : Mem} {a : A} {xs : List AV} : keysV m (.at a :: xs) = keysB m a ++ keysV m xs := rfl
theorem keysV_ag {m : Mem} {cs : List A} {xs : List AV} : keysV m (.ag cs :: xs) = keysL m cs ++ keysV m xs := rfl

/-- What a loop's head keeps: the slots that live, and the memory that they name, in their order. -/
def headK (live : List Nat) (σ : St) (I : List AV → List Ent → Prop) : Prop :=
  (keysV σ.m (live.map σ.t)).Nodup ∧ I (live.map fun t => renV (invOf 0 100 (keysV σ.m (live.map σ.t))) σ.m (σ.t t)) ((keysV σ.m (live.map σ.t)).map fun k => renE (invOf 0 100 (keysV σ.m (live.map σ.t))) σ.m (σ.m k))
theorem headK_eq {live : List Nat} {t : Nat → AV} {m : Mem} {I : List AV → List Ent → Prop} : headK live ⟨t, m⟩ I =
    ((keysV m (live.map t)).Nodup ∧ I (live.map fun k => renV (invOf 0 100 (keysV m (live.map t))) m (t k)) ((keysV m (live.map t)).map fun k => renE (invOf 0 100 (keysV m (live.map t))) m (m k))) := rfl

theorem T.loopW {P : Program} {nt : Nat} {c : Code} {Q : Post} {σ : St} (hm : P.follows .mixedOrders = true) (live : List Nat) (I : Nat → List AV → List Ent → Prop) (n : Nat) (h0 : headK live σ (I n))
    (round : ∀ n vs es, I n vs es → W P 0 nt c (thenS (fun σ' => ∃ n', n' < n ∧ headK live σ' (I n')) Q) ⟨ofT (live.zip vs), updL M0 100 es⟩) : T P 0 nt (.loop c) Q σ :=
  T.loopV live _ I n (Nat.zero_le _) [] rfl h0.1 (fun _ _ => Nat.zero_le _) rfl h0.2 fun n vs es hI => by
    rw [ofM_updL]
    refine T.mono (Q := thenS (fun σ' => ∃ n', n' < n ∧ headK live σ' (I n')) Q) (W.T hm (round n vs es hI)) ?_
    · intro e σ' hq
      cases e with
      | normal => obtain ⟨n', h1, h2, h3⟩ := hq; exact ⟨n', _, h1, ⟨h2, fun _ _ => Nat.zero_le _, rfl⟩, h3⟩
      | _ => exact hq

/-! ### Calls -/
section
variable {P : Program} {nx : Nat} {f : FuncId} {avs args : List AV} {d : Option Nat} {K : St → Prop} {t : Nat → AV} {m : Mem} {res : AV}

def isArr : Ent → Bool
  | .arr .. => true
  | _ => false
theorem isArr_some {e : Ent} (h : isArr e = true) : ∃ ver sz rows, e = .arr ver sz rows := by
  cases e <;> simp [isArr] at h
  exact ⟨_, _, _, rfl⟩
def borOk (m : Mem) : List Nat → Prop
  | [] => True
  | k :: ks => isArr (m k) = true ∧ borOk m ks
theorem borOk_all {m : Mem} : ∀ {bor : List Nat}, borOk m bor → ∀ k ∈ bor, ∃ ver sz rows, m k = .arr ver sz rows := by
  intro bor
  induction bor with
  | nil => intro _ k hk; cases hk
  | cons b bor ih =>
    intro h k hk
    rcases List.mem_cons.1 hk with rfl | hk
    · exact isArr_some h.1
    · exact ih h.2 k hk
def ownOk (nx : Nat) : List Nat → Prop
  | [] => True
  | k :: ks => nx ≤ k ∧ ownOk nx ks
theorem ownOk_all : ∀ {bor : List Nat}, ownOk nx bor → ∀ k ∈ bor, nx ≤ k := by
  intro bor
  induction bor with
  | nil => intro _ k hk; cases hk
  | cons b bor ih =>
    intro h k hk
    rcases List.mem_cons.1 hk with rfl | hk
    · exact h.1
    · exact ih h.2 k hk

theorem Gone_M0 {B : Nat} : Gone M0 B = True := by apply propext; exact ⟨fun _ => trivial, fun _ j _ => rfl⟩
theorem Gone_up {m : Mem} {k B : Nat} {e : Ent} (h : k < B ∨ B + 16 ≤ k) : Gone (upd m k e) B = Gone m B := Gone_upd (by simpa using h)

/-- What a call must find. -/
def CallX (nx : Nat) (bor : List Nat) (fz : Bool) (avs args : List AV) (m : Mem) (B : Nat) (res : AV) : Prop :=
  subT (avs.map (passV [] bor m)) args ∧ Gone m B ∧ nx ≤ B ∧ (freshes res).length ≤ 16 ∧ borOk m bor ∧ (fz = true ∨ bor = [] ∨ res.noIm = true) ∧ (fz = false ∨ ownOk nx bor)

/-- A call that is lent arrays. -/
theorem callX (bor : List Nat) (h : SC P f args [] res []) (hx : CallX nx bor false avs args m (siteOf d) res) (hK : K ⟨putD t d (backV m [] (siteOf d) (instV 1000 res)), updL m (siteOf d) (freshes res)⟩) : callU P nx f avs d K ⟨t, m⟩ :=
  .inl <| callI bor h hx.1 hx.2.1 hx.2.2.1 hx.2.2.2.1 (borOk_all hx.2.2.2.2.1) (hx.2.2.2.2.2.1.resolve_left (by simp)) hK
theorem callXQ (bor : List Nat) (h : SC P f args [] res []) (hx : CallX nx bor false avs args m (siteOf d) res) (hK : K ⟨putD t d (backV m [] (siteOf d) (instV 1000 res)), updL m (siteOf d) (freshes res)⟩) : callQ P nx f avs d K ⟨t, m⟩ :=
  callIQ bor h hx.1 hx.2.1 hx.2.2.1 hx.2.2.2.1 (borOk_all hx.2.2.2.2.1) (hx.2.2.2.2.2.1.resolve_left (by simp)) hK
/-- .. which nobody writes any more. -/
theorem callXF (bor : List Nat) (h : SC P f args [] res []) (hx : CallX nx bor true avs args m (siteOf d) res) (hK : K ⟨putD t d (backV m [] (siteOf d) (instV 1000 res)), updL (iceL m bor) (siteOf d) (freshes res)⟩) : callU P nx f avs d K ⟨t, m⟩ :=
  .inl <| callF bor h hx.1 hx.2.1 hx.2.2.1 hx.2.2.2.1 (fun k hk => ⟨borOk_all hx.2.2.2.2.1 k hk, ownOk_all (hx.2.2.2.2.2.2.resolve_left (by simp)) k hk⟩) hK
end
end Go.Abs
