/- Functions that are handed arrays to write: their calls, their loops. -/
import Derived.Test.YtcaokibfjjoimaaASem
namespace Go.Abs
open Go.RowKit
set_option linter.unusedVariables false
set_option linter.unusedSimpArgs false

def updK : Mem → List Nat → List Ent → Mem
  | m, k :: ks, e :: es => updK (upd m k (merge (m k) e)) ks es
  | m, _, _ => m
theorem updK_cons {m : Mem} {k : Nat} {ks : List Nat} {e : Ent} {es : List Ent} : updK m (k :: ks) (e :: es) = updK (upd m k (merge (m k) e)) ks es := rfl
theorem updK_nil {m : Mem} {es : List Ent} : updK m [] es = m := by cases es <;> rfl
theorem merge_arr {v s s' v' : Nat} {r r' : List (List Value)} : merge (.arr v s r) (.arr v' s' r') = .arr v s r' := rfl
def plainL (m : Mem) : List Nat → Prop
  | [] => True
  | k :: ks => (m k).plain = true ∧ plainL m ks
def likeL (m : Mem) : List Nat → List Ent → Prop
  | [], [] => True
  | k :: ks, e :: es => (m k).like e = true ∧ likeL m ks es
  | _, _ => False
theorem like_arr {v s s' : Nat} {r r' : List (List Value)} (h : r.length = r'.length) : (Ent.arr v s r).like (.arr 0 s r') = true := by simp [Ent.like, h]
theorem like_arrd {v s : Nat} {r r' : List (List Value)} : (Ent.arr v s r).like (.arr 0 s r') = decide (r.length = r'.length) := by simp only [Ent.like, beq_self_eq_true, Bool.true_and]; exact Bool.eq_iff_iff.2 (by simp)
theorem plain_arr {v s : Nat} {r : List (List Value)} : (Ent.arr v s r).plain = true := rfl
theorem extE_arr {v s : Nat} {r : List (List Value)} : extE (.arr v s r) = .arr 0 s r := rfl
def passK (i : Option Nat) (e : Ent) (ver sz n : Nat) : A :=
  match i, e with
  | some i, .arr ver' _ _ => if ver = ver' then .ow i 0 sz n else .dead
  | _, _ => .dead
theorem passK_arr {i v s s' n : Nat} {r : List (List Value)} : passK (some i) (.arr v s' r) v s n = .ow i 0 s n := by simp [passK]

section
variable {P : Program} {nx nt : Nat} {f : FuncId} {avs args : List AV} {d : Option Nat} {K : St → Prop} {t : Nat → AV} {m : Mem} {keys : List Nat} {ext' : List Ent}
theorem plainL_all : ∀ {ks : List Nat}, plainL m ks → ∀ k ∈ ks, (m k).plain = true := by
  intro ks
  induction ks with
  | nil => intro _ k hk; cases hk
  | cons a ks ih =>
    intro h k hk
    rcases List.mem_cons.1 hk with rfl | hk
    · exact h.1
    · exact ih h.2 k hk
theorem likeL_all : ∀ {ks : List Nat} {es : List Ent}, likeL m ks es → es.length = ks.length ∧ ∀ i k, ks[i]? = some k → (m k).like (es.getD i .gone) = true := by
  intro ks
  induction ks with
  | nil => intro es h; cases es with
    | nil => exact ⟨rfl, by simp⟩
    | cons e es => exact h.elim
  | cons a ks ih =>
    intro es h
    cases es with
    | nil => exact h.elim
    | cons e es =>
      obtain ⟨h1, h2⟩ := ih h.2
      refine ⟨by simp [h1], fun i k hk => ?_⟩
      cases i with
      | zero => simp at hk; subst hk; exact h.1
      | succ i => simpa using h2 i k (by simpa using hk)
theorem updK_at : ∀ {ks : List Nat} {es : List Ent} {m : Mem}, ks.Nodup → es.length = ks.length → ∀ k, updK m ks es k = match ks.idxOf? k with | some i => merge (m k) (es.getD i .gone) | none => m k := by
  intro ks
  induction ks with
  | nil => intro es m _ _ k; simp [updK_nil]
  | cons a ks ih =>
    intro es m hnd hl k
    cases es with
    | nil => simp at hl
    | cons e es =>
      rw [List.nodup_cons] at hnd
      rw [updK_cons, ih hnd.2 (by simpa using hl), List.idxOf?_cons]
      by_cases hk : a = k
      · subst hk
        have : ks.idxOf? a = none := by
          cases h : ks.idxOf? a with
          | none => rfl
          | some i => exact absurd (List.mem_of_getElem? (idxOf?_some h)) hnd.1
        simp [this, upd_same]
      · have hb : (a == k) = false := by simpa using hk
        rw [hb]
        simp only [Bool.false_eq_true, if_false]
        rw [upd_ne _ _ (Ne.symm hk)]
        cases ks.idxOf? k <;> simp

/-- What a call that hands arrays over must find. -/
def CallM (nx : Nat) (keys : List Nat) (avs args : List AV) (m : Mem) (B : Nat) (ext ext' : List Ent) : Prop :=
  keys.Nodup ∧ plainL m keys ∧ likeL m keys ext' ∧ Gone m B ∧ nx ≤ B ∧ exts keys m = ext ∧ subT (avs.map (passV keys [] m)) args

theorem callXM {x : Value} {ext : List Ent} (keys : List Nat) (h : SC P f args ext (.at (.v x)) ext') (hk : keys.length ≤ 900) (hx : CallM nx keys avs args m (siteOf d) ext ext') (hK : K ⟨putD t d (.at (.v x)), updK m keys ext'⟩) : callU P nx f avs d K ⟨t, m⟩ := by
  left
  obtain ⟨h1, h2, h3, h4, h5, rfl, h6⟩ := hx
  obtain ⟨h7, h8⟩ := likeL_all h3
  refine ⟨_, ⟨keys, [], false, args, _, ext', ⟨h1, hk, plainL_all h2, by simp, h4, h5⟩, ⟨h7, h8, by simp [freshes, fresh1, freshA], .inr (.inl rfl)⟩, h6, h, rfl⟩, ?_⟩
  have : backM m keys [] false (siteOf d) ext' (freshes (.at (.v x))) = updK m keys ext' := by
    funext k
    rw [updK_at h1 h7]
    unfold backM
    cases keys.idxOf? k with
    | some i => rfl
    | none =>
      dsimp only
      rw [if_neg (by simp), if_neg (fun h => by have := h.2; simp only [show (freshes (.at (.v x))).length = 0 from rfl] at this; omega)]
  rw [this]; exact hK

theorem ofM_own {n b : Nat} {es : List Ent} (h : es.length = n) (hb : n ≤ b) : ofM n b es [] = updL M0 0 es := by
  subst h
  funext k
  rw [updL_at, M0_at]
  simp only [ofM, Nat.zero_le, true_and, Nat.zero_add, Nat.sub_zero]
  by_cases hk : k < es.length
  · rw [if_pos hk, if_pos hk]
  · rw [if_neg hk, if_neg hk]; split <;> rfl

def headM (nx : Nat) (live : List Nat) (σ : St) (I : List AV → List Ent → Prop) : Prop :=
  I (live.map fun t => renV (invOf nx 100 []) σ.m (σ.t t)) ((List.range nx).map fun k => renE (invOf nx 100 []) σ.m (σ.m k))
theorem headM_eq {live : List Nat} {I : List AV → List Ent → Prop} : headM nx live ⟨t, m⟩ I = I (live.map fun k => renV (invOf nx 100 []) m (t k)) ((List.range nx).map fun k => renE (invOf nx 100 []) m (m k)) := rfl
theorem T.loopM {c : Code} {Q : Post} {σ : St} (hm : P.follows .mixedOrders = true) (live : List Nat) (I : Nat → List AV → List Ent → Prop) (n : Nat) (hnx : nx ≤ 100) (h0 : headM nx live σ (I n))
    (round : ∀ n vs es, I n vs es → es.length = nx → W P nx nt c (thenS (fun σ' => ∃ n', n' < n ∧ headM nx live σ' (I n')) Q) ⟨ofT (live.zip vs), updL M0 0 es⟩) : T P nx nt (.loop c) Q σ := by
  refine T.loopC live [] (fun n σ => ∃ vs es, I n vs es ∧ es.length = nx ∧ σ = ⟨ofT (live.zip vs), ofM nx 100 es []⟩) n hnx (by simp) (by simp) ⟨_, _, h0, by simp, ?_⟩ ?_
  · rw [zip_map_self]; rfl
  · rintro n σ ⟨vs, es, hI, hl, rfl⟩
    rw [ofM_own hl hnx]
    refine T.mono (W.T hm (round n vs es hI hl)) fun e σ' hq => ?_
    cases e with
    | normal =>
      obtain ⟨n', h1, h5⟩ := hq
      refine ⟨n', [], h1, by simp, by simp, _, _, h5, by simp, ?_⟩
      rw [zip_map_self]; rfl
    | _ => exact hq

theorem SC.of_M {f : FuncId} {fn : Func} {c : Code} {args : List AV} {ext : List Ent} {res : AV} {ext' : List Ent} {rs : List ResultVar} (hm : P.follows .mixedOrders = true) (hf : P.funcs[f]? = some fn) (hn : (fn.name == "runtime.NumGoroutine") = false) (hb : fn.body = some c)
    (hr : fn.results = rs.toArray) (n : Nat) (hnt : fn.ntmps = n) (hsz : args.length ≤ n) (hx : ext.length ≤ 1000) (h : W P ext.length n c (finW P ext.length rs res ext') ⟨ofT (slotsOf 0 args), updL M0 0 ext⟩) : SC P f args ext res ext' := by
  refine SC.of_W hm hf hn hb hr n hnt hsz ?_
  rw [ofM_own rfl hx]; exact h
theorem passV_atK {a : A} : passV keys [] m (.at a) = .at (passA keys [] m a) := rfl
theorem passV_agK {cs : List A} : passV keys [] m (.ag cs) = .ag (cs.map (passA keys [] m)) := rfl
theorem passA_vK {v : Value} : passA keys [] m (.v v) = .v v := rfl
theorem passA_owK {k ver sz n : Nat} (h : k ∈ keys) : passA keys [] m (.ow k ver sz n) = passK (keys.idxOf? k) (m k) ver sz n := by
  simp only [passA]
  cases hi : keys.idxOf? k with
  | none => exact absurd h (idxOf?_none hi)
  | some i => simp only [passK]; cases m k <;> rfl
theorem exts_eq : exts keys m = keys.map fun k => extE (m k) := rfl
end

/-! ### Marks -/
def marks (f : Int → List Value) (s : Int) (k : Int) (n : Nat) : List (List Value) := (List.range n).map fun (i : Nat) => f (k + s * (i : Int))
theorem marks_length {f : Int → List Value} {s k : Int} {n : Nat} : (marks f s k n).length = n := by simp [marks]
theorem marks_zero {f : Int → List Value} {s k : Int} : marks f s k 0 = [] := rfl
theorem marks_get {f : Int → List Value} {s k : Int} {n i : Nat} {K : List Value → Prop} (h : i < n) : (∀ r, (marks f s k n)[i]? = some r → K r) = K (f (k + s * i)) := by
  simp [marks, h]
/-- One place more is marked. -/
theorem marks_set {β : Type} {g : β → List Value} {f : Int → List Value} {s k : Int} {l : List β} {i : Nat} {x : β} {r : List Value} (h : l[i]? = some x) (hr : r = f (k + s * i)) :
    (marks f s k i ++ (l.drop i).map g).set i r = marks f s k (i + 1) ++ (l.drop (i + 1)).map g := by
  subst hr
  rw [List.set_append_right _ _ (by rw [marks_length]; omega), marks_length, Nat.sub_self, drop_get h, List.map_cons, List.set_cons_zero]
  simp [marks, List.range_succ]
theorem marks_mid {β : Type} {g : β → List Value} {f : Int → List Value} {s k : Int} {l : List β} {i : Nat} {x : β} (h : l[i]? = some x) : (marks f s k i ++ (l.drop i).map g).getD i [] = g x := by
  rw [List.getD_eq_getElem?_getD, List.getElem?_append_right (by rw [marks_length]; omega), marks_length, Nat.sub_self, drop_get h]; rfl

attribute [go_sem] updK_cons updK_nil merge_arr plainL likeL plain_arr like_arrd extE_arr passK_arr CallM headM_eq passV_atK passV_agK passA_vK passA_owK exts_eq marks_length List.range_succ
end Go.Abs
