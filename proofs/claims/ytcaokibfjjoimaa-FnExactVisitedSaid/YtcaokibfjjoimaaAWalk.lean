/- The walk as computing: code told as what is left to show. -/
import Derived.Test.YtcaokibfjjoimaaAGen
namespace Go.Abs
open Go.RowKit
set_option linter.unusedVariables false
set_option linter.unusedSimpArgs false

/-- No memory of the call's own. -/
def M0 : Mem := fun _ => .gone
theorem M0_at {k : Nat} : M0 k = .gone := rfl
theorem ofM_M0 {b : Nat} : ofM 0 b [] [] = M0 := by funext k; simp [ofM, M0]
theorem updL_nil {m : Mem} {B : Nat} : updL m B [] = m := rfl
theorem updL_cons {m : Mem} {B : Nat} {e : Ent} {es : List Ent} : updL m B (e :: es) = updL (upd m B e) (B + 1) es := rfl
theorem ofM_updL {b : Nat} {es : List Ent} : ofM 0 b [] es = updL M0 b es := by
  funext k
  rw [updL_at, M0_at]
  simp only [ofM, Nat.not_lt_zero, if_false]
  by_cases h : b ≤ k
  · rw [if_pos h]
    by_cases h2 : k < b + es.length
    · rw [if_pos ⟨h, h2⟩]
    · rw [if_neg (by omega), List.getD_eq_getElem?_getD, List.getElem?_eq_none (by omega)]; rfl
  · rw [if_neg h, if_neg (by omega)]

/-- A branch: what each way must show. -/
def condK (x : AV) (K1 K2 : Prop) : Prop :=
  match x with
  | .at (.v (.bool b)) => (b = true → K1) ∧ (b = false → K2)
  | _ => False
theorem condK_bool {b : Bool} {K1 K2 : Prop} : condK (.at (.v (.bool b))) K1 K2 = ((b = true → K1) ∧ (b = false → K2)) := rfl
theorem condK_true {K1 K2 : Prop} : condK (.at (.v (.bool true))) K1 K2 = K1 := by simp [condK]
theorem condK_false {K1 K2 : Prop} : condK (.at (.v (.bool false))) K1 K2 = K2 := by simp [condK]

theorem guardK_t {b : Bool} {K1 K2 K3 : Prop} : guardK (.at (.v (.bool b))) true K1 K2 K3 = ((b = true → K1) ∧ (b = false → K2)) := rfl
theorem guardK_f {b : Bool} {K1 K2 K3 : Prop} : guardK (.at (.v (.bool b))) false K1 K2 K3 = ((b = false → K1) ∧ (b = true → K2)) := rfl
theorem guardK_tt {K1 K2 K3 : Prop} : guardK (.at (.v (.bool true))) true K1 K2 K3 = K1 := by simp [guardK]
theorem guardK_tf {K1 K2 K3 : Prop} : guardK (.at (.v (.bool true))) false K1 K2 K3 = K2 := by simp [guardK]
theorem guardK_ft {K1 K2 K3 : Prop} : guardK (.at (.v (.bool false))) true K1 K2 K3 = K2 := by simp [guardK]
theorem guardK_ff {K1 K2 K3 : Prop} : guardK (.at (.v (.bool false))) false K1 K2 K3 = K1 := by simp [guardK]
theorem guardK_no {want : Bool} {K1 K2 K3 : Prop} : guardK (.tp []) want K1 K2 K3 = K3 := rfl

section
variable {P : Program} {nx nt : Nat} {quiet : Bool} {ops : Array Oper} {K : St → Prop} {t : Nat → AV} {m : Mem} {L : List Oper} {σ : St}

/-- The steps of a region; a guard's slot is told by its outcome from there on. -/
def stepG (P : Program) (nx nt : Nat) (quiet : Bool) (ops : Array Oper) (o : Oper) (K : St → Prop) (σ : St) : Prop :=
  dstOk nt o.dst = true ∧
  match o.guard with
  | none => actW P nx quiet o K σ
  | some p =>
    match (ops[p.1]?).bind (·.dst) with
    | some d => guardK (σ.t d) p.2 (actW P nx quiet o K ⟨upd σ.t d (.at (.v (.bool p.2))), σ.m⟩) (K ⟨putD (upd σ.t d (.at (.v (.bool (!p.2))))) o.dst (.tp []), σ.m⟩) (K ⟨putD σ.t o.dst (.tp []), σ.m⟩)
    | none => False
def runG (P : Program) (nx nt : Nat) (quiet : Bool) (ops : Array Oper) : List Oper → (St → Prop) → St → Prop
  | [], K, σ => K σ
  | o :: L, K, σ => stepG P nx nt quiet ops o (runG P nx nt quiet ops L K) σ

theorem upd_self {β : Type} {f : Nat → β} {d : Nat} {x : β} (h : f d = x) : upd f d x = f := by
  funext i
  by_cases hi : i = d
  · subst hi; rw [upd_same, h]
  · rw [upd_ne _ _ hi]

theorem actC_mono {o : Oper} {K K' : St → Prop} (hk : ∀ σ, K σ → K' σ) (h : actC P nx quiet o K σ) : actC P nx quiet o K' σ := by
  have op : opC P nx quiet o K σ → opC P nx quiet o K' σ := by
    intro h
    unfold opC at h ⊢
    split at h
    · exact ⟨h.1, hk _ h.2⟩
    · exact h.elim
  unfold actC at h ⊢
  split at h
  · rename_i cl ho
    split at h
    · rename_i f hf
      cases quiet with
      | true =>
        simp only [if_true] at h ⊢
        obtain ⟨σ', h1, h2⟩ := h
        exact ⟨σ', h1, hk _ h2⟩
      | false =>
        simp only [Bool.false_eq_true, if_false] at h ⊢
        obtain ⟨σ', h1, h2⟩ := h
        exact ⟨σ', h1, hk _ h2⟩
    · exact op h
  · exact op h

theorem stepG_C {o : Oper} {K K' : St → Prop} (hk : ∀ σ, K σ → K' σ) (h : stepG P nx nt quiet ops o K σ) : stepC P nx nt quiet ops o K' σ := by
  obtain ⟨hd, h⟩ := h
  refine ⟨hd, ?_⟩
  cases hg : o.guard with
  | none => rw [hg] at h; exact actC_mono hk (actW_C h)
  | some p =>
    rw [hg] at h
    dsimp only at h ⊢
    cases hp : (ops[p.1]?).bind (·.dst) with
    | none => rw [hp] at h; exact h.elim
    | some d =>
      rw [hp] at h
      dsimp only at h ⊢
      unfold guardK at h ⊢
      split at h
      · rename_i b hb
        refine ⟨fun e => ?_, fun e => ?_⟩
        · have := h.1 e
          subst e
          rw [upd_self hb] at this
          exact actC_mono hk (actW_C this)
        · have := h.2 e
          rw [← e, upd_self hb] at this
          exact hk _ this
      · exact hk _ h
      · exact h.elim

theorem runG_C {K : St → Prop} : ∀ {L : List Oper} {σ : St}, runG P nx nt quiet ops L K σ → runC P nx nt quiet ops L K σ := by
  intro L
  induction L with
  | nil => intro σ h; exact h
  | cons o L ih => intro σ h; exact stepG_C (fun σ h => ih h) h

theorem runG_nil : runG P nx nt quiet ops [] K σ = K σ := rfl
theorem runG_cons {o : Oper} : runG P nx nt quiet ops (o :: L) K σ = stepG P nx nt quiet ops o (runG P nx nt quiet ops L K) σ := rfl
theorem stepG_plain {d : Option Nat} {op : Op} {ty : TypeId} {pos : String} {af : Array Edge} : stepG P nx nt quiet ops ⟨d, op, ty, pos, af, none⟩ K σ = (dstOk nt d = true ∧ actW P nx quiet ⟨d, op, ty, pos, af, none⟩ K σ) := rfl
theorem stepG_guard {d : Option Nat} {op : Op} {ty : TypeId} {pos : String} {af : Array Edge} {j : Nat} {want : Bool} : stepG P nx nt quiet ops ⟨d, op, ty, pos, af, some (j, want)⟩ K ⟨t, m⟩ =
    (dstOk nt d = true ∧ onO ((ops[j]?).bind (·.dst)) fun s => guardK (t s) want (actW P nx quiet ⟨d, op, ty, pos, af, some (j, want)⟩ K ⟨upd t s (.at (.v (.bool want))), m⟩) (K ⟨putD (upd t s (.at (.v (.bool (!want))))) d (.tp []), m⟩) (K ⟨putD t d (.tp []), m⟩)) := by
  simp only [stepG]
  cases (ops[j]?).bind (·.dst) <;> rfl

/-- .. of a region that has its order. -/
def stepU (P : Program) (nx nt : Nat) (ops : Array Oper) (o : Oper) (K : St → Prop) (σ : St) : Prop :=
  dstOk nt o.dst = true ∧
  match o.guard with
  | none => actU P nx o K σ
  | some p =>
    match (ops[p.1]?).bind (·.dst) with
    | some d => guardK (σ.t d) p.2 (actU P nx o K ⟨upd σ.t d (.at (.v (.bool p.2))), σ.m⟩) (K ⟨putD (upd σ.t d (.at (.v (.bool (!p.2))))) o.dst (.tp []), σ.m⟩) (K ⟨putD σ.t o.dst (.tp []), σ.m⟩)
    | none => False
def runU (P : Program) (nx nt : Nat) (ops : Array Oper) : List Oper → (St → Prop) → St → Prop
  | [], K, σ => K σ
  | o :: L, K, σ => stepU P nx nt ops o (runU P nx nt ops L K) σ
theorem runU_nil : runU P nx nt ops [] K σ = K σ := rfl
theorem runU_cons {o : Oper} : runU P nx nt ops (o :: L) K σ = stepU P nx nt ops o (runU P nx nt ops L K) σ := rfl
theorem stepU_plain {d : Option Nat} {op : Op} {ty : TypeId} {pos : String} {af : Array Edge} : stepU P nx nt ops ⟨d, op, ty, pos, af, none⟩ K σ = (dstOk nt d = true ∧ actU P nx ⟨d, op, ty, pos, af, none⟩ K σ) := rfl
theorem stepU_guard {d : Option Nat} {op : Op} {ty : TypeId} {pos : String} {af : Array Edge} {j : Nat} {want : Bool} : stepU P nx nt ops ⟨d, op, ty, pos, af, some (j, want)⟩ K ⟨t, m⟩ =
    (dstOk nt d = true ∧ onO ((ops[j]?).bind (·.dst)) fun s => guardK (t s) want (actU P nx ⟨d, op, ty, pos, af, some (j, want)⟩ K ⟨upd t s (.at (.v (.bool want))), m⟩) (K ⟨putD (upd t s (.at (.v (.bool (!want))))) d (.tp []), m⟩) (K ⟨putD t d (.tp []), m⟩)) := by
  simp only [stepU]
  cases (ops[j]?).bind (·.dst) <;> rfl

/-- What a step of an ordered region must show, at the machine. -/
theorem stepU_sound {g : G} {F : Nat → Prop} {lam : Lam} {a : Act} {w : World} {o : Oper} (hI : Inv g F lam σ a w) (h : stepU g.P g.nx g.nt ops o K σ) {Q : Exit → Act → World → Prop} {KA : Act → World → Prop}
    (hn : ∀ σ', K σ' → ∀ F' lam' a' w', Inv g F' lam' σ' a' w' → KA a' w') : if Region.wanted o (yielded ops a.tmps) then o.wp g.P a w KA Q ∨ (o.asks g.P a w ∧ LetsOut Q) else KA (a.put o.dst undef) w := by
  have hd : ∀ d, o.dst = some d → d < g.nt := fun d e => by have := h.1; rw [e] at this; simpa [dstOk] using this
  -- a step of the elder kind
  have elder : ∀ {K' : St → Prop}, stepC g.P g.nx g.nt false ops o K σ → if Region.wanted o (yielded ops a.tmps) then o.wp g.P a w KA Q ∨ (o.asks g.P a w ∧ LetsOut Q) else KA (a.put o.dst undef) w := by
    intro _ hc
    obtain ⟨σ', h1, h2⟩ := stepC_sound hc
    exact stp_sound hI rfl h1 fun F' lam' a' w' h => hn σ' h2 F' lam' a' w' h
  obtain ⟨hd0, h⟩ := h
  cases hg : o.guard with
  | none =>
    rw [hg] at h
    rcases actU_C h with h | ⟨c, f, m', x, h1, h2, h3, h4⟩
    · exact elder (K' := K) ⟨hd0, by rw [hg]; exact h⟩
    · rw [wanted_of_none (by simp [guardOf, hg])]
      simp only [if_true]
      exact .inl (gen_sound hI h1 h2 hd h3 fun F' lam' a' w' h => hn _ h4 F' lam' a' w' h)
  | some p =>
    rw [hg] at h
    dsimp only at h
    cases hp : (ops[p.1]?).bind (·.dst) with
    | none => rw [hp] at h; exact h.elim
    | some d =>
      rw [hp] at h
      dsimp only at h
      have hgo : guardOf ops o = some (some d, p.2) := by simp [guardOf, hg, hp]
      unfold guardK at h
      split at h
      · rename_i b hb
        by_cases hbp : b = p.2
        · have h5 := h.1 hbp
          subst hbp
          rw [upd_self hb] at h5
          rcases actU_C h5 with h6 | ⟨c, f, m', x, h1, h2, h3, h4⟩
          · exact elder (K' := K) ⟨hd0, by rw [hg]; dsimp only; rw [hp]; dsimp only; rw [hb]; exact ⟨fun _ => h6, fun e => by cases hp2 : p.2 <;> simp [hp2] at e⟩⟩
          · rw [wanted_of_some hI hgo hb]
            simp only [beq_self_eq_true, if_true]
            exact .inl (gen_sound hI h1 h2 hd h3 fun F' lam' a' w' h => hn _ h4 F' lam' a' w' h)
        · have e' : b = !p.2 := by cases b <;> cases hp2 : p.2 <;> simp_all
          have h5 := h.2 e'
          rw [← e', upd_self hb] at h5
          exact elder (K' := K) ⟨hd0, by rw [hg]; dsimp only; rw [hp]; dsimp only; rw [hb]; exact ⟨fun e => absurd e hbp, fun _ => h5⟩⟩
      · rename_i hb
        exact elder (K' := K) ⟨hd0, by rw [hg]; dsimp only; rw [hp]; dsimp only; rw [hb]; exact h⟩
      · exact h.elim

theorem runU_sound {g : G} {Q : Exit → Act → World → Prop} (hn : ∀ σ', K σ' → ∀ F' lam' a' w', Inv g F' lam' σ' a' w' → Q .normal a' w') :
    ∀ (L : List Oper) (k : Nat) (σ : St) (F : Nat → Prop) (lam : Lam) (a : Act) (w : World), ops.toList.drop k = L → runU g.P g.nx g.nt ops L K σ → Inv g F lam σ a w → wpOps g.P ops Q (List.range' k L.length) a w := by
  intro L
  induction L with
  | nil => intro k σ F lam a w _ h hI; exact hn σ h F lam a w hI
  | cons o L ih =>
    intro k σ F lam a w hL h hI
    have hk : ops.toList[k]? = some o := by
      have := congrArg (·[0]?) hL
      simpa using this
    rw [List.length_cons, List.range'_succ, wpOps_cons]
    unfold wpOp
    rw [show ops[k]? = some o by simpa using hk]
    exact stepU_sound hI h fun σ' hK F' lam' a' w' hI' => ih (k + 1) σ' F' lam' a' w' (by rw [← List.drop_drop, hL]; rfl) hK hI'

theorem T.regionU {Q : Post} {id : Nat} (h : runU P nx nt ops ops.toList (Q .normal) σ) : T P nx nt (.region id ops false) Q σ := fun g F lam a w h1 h2 h3 hI => by
  subst h1; subst h2; subst h3
  refine wp_region ?_
  have := runU_sound (K := Q .normal) (Q := fun e a' w' => ∃ σ' F' lam', Q e σ' ∧ Inv g F' lam' σ' a' w') (fun σ' hK F' lam' a' w' hI' => ⟨σ', F', lam', hK, hI'⟩) ops.toList 0 σ F lam a w rfl h hI
  rw [List.range_eq_range']; simpa using this

def drawnK (ops : Array Oper) (R : Bool → Prop) : Prop := ∃ q, anyB q ops = true ∧ R q

/-- What is left to show of code. -/
def W (P : Program) (nx nt : Nat) : Code → Post → St → Prop
  | .skip, Q, σ => Q .normal σ
  | .exit id, Q, σ => Q (.exit id) σ
  | .ret, Q, σ => Q .ret σ
  | .seq x y, Q, σ => W P nx nt x (thenS (W P nx nt y Q) Q) σ
  | .block id x, Q, σ => W P nx nt x (blockS id Q) σ
  | .cond c x y, Q, σ => condK (σ.ev c) (W P nx nt x Q σ) (W P nx nt y Q σ)
  | .region _ ops false, Q, σ => runU P nx nt ops ops.toList (Q .normal) σ
  | .region _ ops true, Q, σ => drawnK ops fun q => runG P nx nt q ops ops.toList (Q .normal) σ
  | c, Q, σ => T P nx nt c Q σ

variable {Q : Post} {x y : Code} {id : Nat}
theorem W_skip : W P nx nt .skip Q σ = Q .normal σ := by rw [W]
theorem W_exit : W P nx nt (.exit id) Q σ = Q (.exit id) σ := by rw [W]
theorem W_ret : W P nx nt .ret Q σ = Q .ret σ := by rw [W]
theorem W_seq : W P nx nt (.seq x y) Q σ = W P nx nt x (thenS (W P nx nt y Q) Q) σ := by rw [W]
theorem W_block : W P nx nt (.block id x) Q σ = W P nx nt x (blockS id Q) σ := by rw [W]
theorem W_cond {c : Operand} : W P nx nt (.cond c x y) Q σ = condK (σ.ev c) (W P nx nt x Q σ) (W P nx nt y Q σ) := by rw [W]
theorem W_region : W P nx nt (.region id ops false) Q σ = runU P nx nt ops ops.toList (Q .normal) σ := by rw [W]
theorem W_drawn : W P nx nt (.region id ops true) Q σ = drawnK ops fun q => runG P nx nt q ops ops.toList (Q .normal) σ := by rw [W]
theorem W_loop : W P nx nt (.loop x) Q σ = T P nx nt (.loop x) Q σ := by rw [W] <;> simp

theorem W.T (hm : P.follows .mixedOrders = true) : ∀ {c : Code} {Q : Post} {σ : St}, W P nx nt c Q σ → T P nx nt c Q σ := by
  intro c
  induction c with
  | skip => intro Q σ h; rw [W_skip] at h; exact T.skip h
  | exit id => intro Q σ h; rw [W_exit] at h; exact T.exit h
  | ret => intro Q σ h; rw [W_ret] at h; exact T.ret h
  | seq x y ihx ihy =>
    intro Q σ h
    rw [W_seq] at h
    refine T.seq (T.mono (ihx h) fun e σ hq => ?_)
    cases e with
    | normal => exact ihy hq
    | _ => exact hq
  | block id x ih => intro Q σ h; rw [W_block] at h; exact T.block (ih h)
  | cond c x y ihx ihy =>
    intro Q σ h
    rw [W_cond] at h
    unfold condK at h
    split at h
    · rename_i b hb
      exact T.cond hb (fun e => ihx (h.1 e)) (fun e => ihy (h.2 e))
    · exact h.elim
  | region id ops drawn =>
    intro Q σ h
    cases drawn with
    | false => rw [W_region] at h; exact T.regionU h
    | true =>
      rw [W_drawn] at h
      obtain ⟨q, h1, h2⟩ := h
      exact T.drawn q _ hm (anyB_Ok h1) (runG_C h2)
  | _ => intro Q σ h; simpa only [W] using h

theorem zip_map_self {β γ : Type} (l : List β) (f : β → γ) : l.zip (l.map f) = l.map fun t => (t, f t) := by
  induction l with
  | nil => rfl
  | cons a l ih => simp only [List.map_cons, List.zip_cons_cons, ih]

/-- A loop: at its head only what lives is kept, the call's own memory under the names from 100 on. -/
theorem T.loopV {c : Code} (live ks : List Nat) (I : Nat → List AV → List Ent → Prop) (n : Nat) (hnx : nx ≤ 100) (ext : List Ent) (hext : ext.length = nx)
    (hnd : ks.Nodup) (hown : ∀ k ∈ ks, nx ≤ k) (he : (List.range nx).map (fun k => renE (invOf nx 100 ks) σ.m (σ.m k)) = ext)
    (h0 : I n (live.map fun t => renV (invOf nx 100 ks) σ.m (σ.t t)) (ks.map fun k => renE (invOf nx 100 ks) σ.m (σ.m k)))
    (round : ∀ n vs es, I n vs es → T P nx nt c (thenS (fun σ' => ∃ n' ks', n' < n ∧ (ks'.Nodup ∧ (∀ k ∈ ks', nx ≤ k) ∧ (List.range nx).map (fun k => renE (invOf nx 100 ks') σ'.m (σ'.m k)) = ext) ∧
      I n' (live.map fun t => renV (invOf nx 100 ks') σ'.m (σ'.t t)) (ks'.map fun k => renE (invOf nx 100 ks') σ'.m (σ'.m k))) Q) ⟨ofT (live.zip vs), ofM nx 100 ext es⟩) : T P nx nt (.loop c) Q σ := by
  have hz : ∀ f : Nat → AV, live.zip (live.map f) = live.map fun t => (t, f t) := fun f => zip_map_self live f
  refine T.loopC live ks (fun n σ => ∃ vs es, I n vs es ∧ σ = ⟨ofT (live.zip vs), ofM nx 100 ext es⟩) n hnx hnd hown ⟨_, _, h0, ?_⟩ ?_
  · rw [hz]; unfold Abs.canon; rw [he]
  · rintro n σ ⟨vs, es, hI, rfl⟩
    refine T.mono (round n vs es hI) fun e σ' hq => ?_
    cases e with
    | normal =>
      obtain ⟨n', ks', h1, ⟨h2, h3, h4⟩, h5⟩ := hq
      refine ⟨n', ks', h1, h2, h3, _, _, h5, ?_⟩
      rw [hz]; unfold Abs.canon; rw [h4]
    | _ => exact hq
end

/-! ### What comes out of a call, not written any more. -/
def zA : A → A
  | .fr sz rows => .im sz rows
  | .ow .. => .dead
  | .bx .. => .dead
  | .pa .. => .dead
  | a => a
def zV1 : AV → AV
  | .at a => .at (zA a)
  | .ag cs => .ag (cs.map zA)
  | .tp xs => .tp xs
def zV : AV → AV
  | .tp xs => .tp (xs.map zV1)
  | x => zV1 x

section
variable {g : G} {w : World} {F F2 : Nat → Prop} {m m2 : Mem} {lam : Lam}

def freA (lam : Lam) (F2 : Nat → Prop) (n : Nat) : Prop := ∀ b o, lam n = some (b, o) → F2 b

theorem frozA {a : A} {n : Nat} {u : Value} (hF : ∀ b, F b → F2 b) (hM : ∀ k, EntRel g w F m lam k (m k)) (h : RA w F m lam (instA n a).1 u) (he : ∀ sz rows, a = .fr sz rows → m n = .arr 0 sz rows ∧ freA lam F2 n) : RA w F2 m2 lam (zA a) u := by
  cases a with
  | v x => exact h
  | nil => exact h
  | er => exact h
  | dead => trivial
  | ow k ver sz n => trivial
  | bx k ver off => trivial
  | pa k ver sz i off => trivial
  | pi cs =>
    obtain ⟨b, o, h1, h2, h3⟩ := h
    exact ⟨b, o, h1, hF b h2, h3⟩
  | im sz rows =>
    obtain ⟨h1, a, cap, h2, h3, h4, h5⟩ := h
    refine ⟨h1, a, cap, h2, h3, h4, ?_⟩
    rcases h5 with h5 | ⟨b, o, h5, h6, h7⟩
    · exact .inl h5
    · exact .inr ⟨b, o, h5, hF b h6, h7⟩
  | fr sz rows =>
    obtain ⟨hm, hf⟩ := he sz rows rfl
    obtain ⟨_, _, h4⟩ := h
    obtain ⟨_, _, h5⟩ := h4 sz rows (.inl hm)
    have hE := hM n
    rw [hm] at hE
    obtain ⟨hw, hE⟩ := hE
    refine ⟨hw, ?_⟩
    rcases h5 with ⟨hl, rfl⟩ | ⟨b, o, cap, hl, rfl, h6, h7, _⟩
    · rcases hE with ⟨_, rfl⟩ | ⟨b, o, cur, ty, h3, _⟩
      · exact ⟨none, 0, rfl, Nat.le_refl _, Nat.zero_le _, .inl rfl⟩
      · rw [hl] at h3; cases h3
    · refine ⟨_, cap, rfl, h6, h7, ?_⟩
      rcases hE with ⟨_, rfl⟩ | ⟨b', o', cur, ty, h3, hg, _, _, ho, hc, h1⟩
      · exact .inl rfl
      · rw [hl] at h3; simp only [Option.some.injEq, Prod.mk.injEq] at h3; obtain ⟨rfl, rfl⟩ := h3
        exact .inr ⟨b, o, rfl, hf b o hl, cells_of_arr hg hc h1⟩

theorem RL_cons {R : A → Value → Prop} {a : A} {as : List A} {u : Value} {us : List Value} : RL R (a :: as) (u :: us) ↔ R a u ∧ RL R as us := by
  constructor
  · rintro ⟨h1, h2⟩
    refine ⟨h2 0 a u rfl rfl, by simpa using h1, fun i b v hb hv => h2 (i + 1) b v (by simpa using hb) (by simpa using hv)⟩
  · rintro ⟨h1, h2, h3⟩
    refine ⟨by simpa using h2, fun i b v hb hv => ?_⟩
    cases i with
    | zero => simp at hb hv; subst hb; subst hv; exact h1
    | succ i => exact h3 i b v (by simpa using hb) (by simpa using hv)

theorem instA_n {a : A} {n : Nat} : (instA n a).2 = n + (freshA a).length := by cases a <;> rfl

theorem frozL (hF : ∀ b, F b → F2 b) (hM : ∀ k, EntRel g w F m lam k (m k)) : ∀ {as : List A} {us : List Value} {n : Nat}, RL (fun a x => RA w F m lam a x ∧ x.oneCell' = true) (instL n as).1 us →
    (∀ (j : Nat) e, (as.flatMap freshA)[j]? = some e → m (n + j) = e ∧ freA lam F2 (n + j)) → RL (fun a x => RA w F2 m2 lam a x ∧ x.oneCell' = true) (as.map zA) us := by
  intro as
  induction as with
  | nil =>
    intro us n h _
    cases us with
    | nil => exact ⟨rfl, by simp⟩
    | cons u us => exact absurd h.1 (by simp [instL])
  | cons a as ih =>
    intro us n h he
    cases us with
    | nil => exact absurd h.1 (by simp [instL])
    | cons u us =>
      simp only [instL] at h
      rw [RL_cons] at h
      rw [List.map_cons, RL_cons]
      refine ⟨⟨frozA hF hM h.1.1 fun sz rows e => ?_, h.1.2⟩, ih h.2 fun j e hj => ?_⟩
      · subst e
        exact he 0 _ (by simp [freshA])
      · rw [instA_n, Nat.add_assoc]
        refine he _ e ?_
        rw [List.flatMap_cons, List.getElem?_append_right (by omega), Nat.add_sub_cancel_left]
        exact hj

theorem instL_n : ∀ {as : List A} {n : Nat}, (instL n as).2 = n + (as.flatMap freshA).length := by
  intro as
  induction as with
  | nil => intro n; rfl
  | cons a as ih => intro n; simp only [instL, ih, instA_n, List.flatMap_cons, List.length_append]; omega
theorem inst1_n {x : AV} {n : Nat} : (inst1 n x).2 = n + (fresh1 x).length := by
  cases x with
  | «at» a => exact instA_n
  | ag cs => exact instL_n
  | tp xs => rfl

theorem frozV1 (hF : ∀ b, F b → F2 b) (hM : ∀ k, EntRel g w F m lam k (m k)) {x : AV} {u : Value} {n : Nat} (h : RV1 w F m lam (inst1 n x).1 u)
    (he : ∀ (j : Nat) e, (fresh1 x)[j]? = some e → m (n + j) = e ∧ freA lam F2 (n + j)) : RV1 w F2 m2 lam (zV1 x) u := by
  cases x with
  | «at» a =>
    refine frozA hF hM h fun sz rows e => ?_
    subst e
    exact he 0 _ rfl
  | ag cs =>
    obtain ⟨us, h1, h2⟩ := h
    exact ⟨us, h1, frozL hF hM h2 he⟩
  | tp xs => exact h

theorem frozT (hF : ∀ b, F b → F2 b) (hM : ∀ k, EntRel g w F m lam k (m k)) : ∀ {xs : List AV} {us : List Value} {n : Nat}, (instT n xs).1.length = us.length →
    (∀ (i : Nat) (x : AV) (y : Value), (instT n xs).1[i]? = some x → us[i]? = some y → RV1 w F m lam x y) →
    (∀ (j : Nat) e, (xs.flatMap fresh1)[j]? = some e → m (n + j) = e ∧ freA lam F2 (n + j)) → (xs.map zV1).length = us.length ∧ ∀ (i : Nat) (x : AV) (y : Value), (xs.map zV1)[i]? = some x → us[i]? = some y → RV1 w F2 m2 lam x y := by
  intro xs
  induction xs with
  | nil => intro us n h1 _ _; exact ⟨by simpa [instT] using h1, by simp⟩
  | cons x xs ih =>
    intro us n h1 h2 he
    cases us with
    | nil => simp [instT] at h1
    | cons u us =>
      simp only [instT, List.length_cons, Nat.add_right_cancel_iff] at h1
      obtain ⟨h3, h4⟩ := ih h1 (fun i a b ha hb => h2 (i + 1) a b (by simpa [instT] using ha) (by simpa using hb)) (fun j e hj => by
        rw [inst1_n, Nat.add_assoc]
        refine he _ e ?_
        rw [List.flatMap_cons, List.getElem?_append_right (by omega), Nat.add_sub_cancel_left]
        exact hj)
      refine ⟨by simp at h3 ⊢; exact h3, fun i a b ha hb => ?_⟩
      cases i with
      | zero =>
        simp only [List.map_cons, List.getElem?_cons_zero, Option.some.injEq] at ha hb
        subst ha; subst hb
        refine frozV1 hF hM (h2 0 _ _ rfl rfl) fun j e hj => he j e ?_
        rw [List.flatMap_cons, List.getElem?_append_left (List.getElem?_eq_some_iff.1 hj).1]
        exact hj
      | succ i => exact h4 i a b (by simpa using ha) (by simpa using hb)
end

theorem freshes_zV (res : AV) : freshes (zV res) = [] := by
  have hA : ∀ a, freshA (zA a) = [] := fun a => by cases a <;> rfl
  have h1 : ∀ x, fresh1 (zV1 x) = [] := fun x => by
    cases x with
    | «at» a => exact hA a
    | ag cs => simp [zV1, fresh1, List.flatMap_map, hA]
    | tp xs => rfl
  cases res with
  | «at» a => exact hA a
  | ag cs => exact h1 (.ag cs)
  | tp xs => simp [zV, freshes, List.flatMap_map, h1]

theorem instV_zV (res : AV) : instV 1000 (zV res) = zV res := by
  have hA : ∀ n a, instA n (zA a) = (zA a, n) := fun n a => by cases a <;> rfl
  have hL : ∀ (n : Nat) (as : List A), instL n (as.map zA) = (as.map zA, n) := by
    intro n as
    induction as generalizing n with
    | nil => rfl
    | cons a as ih => simp only [List.map_cons, instL, hA, ih]
  have h1 : ∀ n x, inst1 n (zV1 x) = (zV1 x, n) := fun n x => by
    cases x with
    | «at» a => simp [zV1, inst1, hA]
    | ag cs => simp [zV1, inst1, hL]
    | tp xs => rfl
  have hT : ∀ (n : Nat) (xs : List AV), instT n (xs.map zV1) = (xs.map zV1, n) := by
    intro n xs
    induction xs generalizing n with
    | nil => rfl
    | cons a as ih => simp only [List.map_cons, instT, h1, ih]
  cases res with
  | «at» a => simp [zV, zV1, instV, inst1, hA]
  | ag cs => simp [zV, zV1, instV, inst1, hL]
  | tp xs => simp [zV, instV, hT]

/-- What a call gives may be taken as not written any more. -/
theorem SC.frozen {P : Program} {f : FuncId} {args : List AV} {res : AV} (h : SC P f args [] res []) : SC P f args [] (zV res) [] := by
  refine ⟨h.1, fun w F lam us hF hM hl hv => (h.2 w F lam us hF hM hl hv).mono ?_⟩
  rintro e w' ⟨v, F', lam', rfl, p1, p2, p3, p4, p5, p6, p7⟩
  have hfr : ∀ (j : Nat) e, (freshes res)[j]? = some e → ofM ([] : List Ent).length 1000 [] (freshes res) (1000 + j) = e := by
    intro j e hj
    rw [show ([] : List Ent).length = 0 from rfl, ofM_fresh (Nat.zero_le _), List.getD_eq_getElem?_getD, hj]; rfl
  have hent : ∀ (j : Nat) e, (freshes res)[j]? = some e → ∀ b o, lam' (1000 + j) = some (b, o) → w.heap.size ≤ b ∧ b < w'.heap.size := by
    intro j e hj b o hb
    obtain ⟨sz, rows, rfl⟩ := freshes_arr res e (List.mem_of_getElem? hj)
    have := p6.ent (1000 + j)
    rw [hfr j _ hj] at this
    rcases this.2 with ⟨h, _⟩ | ⟨b', o', cur, ty, h3, h4, h5, h6, h7⟩
    · rw [hb] at h; cases h
    · rw [hb] at h3; simp only [Option.some.injEq, Prod.mk.injEq] at h3; obtain ⟨rfl, rfl⟩ := h3
      exact ⟨h6.2 (Nat.zero_le _), (Array.getElem?_eq_some_iff.1 h4).1⟩
  let F2 : Nat → Prop := fun b => F' b ∨ ∃ j e o, (freshes res)[j]? = some e ∧ lam' (1000 + j) = some (b, o)
  have he : ∀ (j : Nat) e, (freshes res)[j]? = some e → ofM ([] : List Ent).length 1000 [] (freshes res) (1000 + j) = e ∧ freA lam' F2 (1000 + j) :=
    fun j e hj => ⟨hfr j e hj, fun b o hb => .inr ⟨j, e, o, hj, hb⟩⟩
  refine ⟨v, F2, lam', rfl, fun b hb => .inl (p1 b hb), ?_, ?_, p4, p5, ?_, ?_⟩
  · rintro b hb (h | ⟨j, e, o, hj, ho⟩)
    · exact p2 b hb h
    · have := (hent j e hj b o ho).1; omega
  · rintro b (h | ⟨j, e, o, hj, ho⟩)
    · exact p3 b h
    · exact (hent j e hj b o ho).2
  · rw [freshes_zV]
    have hg : ∀ k, ofM ([] : List Ent).length 1000 [] [] k = Ent.gone := by intro k; simp [ofM]
    exact ⟨fun k => by rw [hg]; trivial, fun k k' b o o' h => by rw [hg] at h; exact h.elim⟩
  · rw [instV_zV]
    cases res with
    | «at» a => exact frozV1 (x := .at a) (fun b hb => .inl hb) p6.ent p7 he
    | ag cs => exact frozV1 (x := .ag cs) (fun b hb => .inl hb) p6.ent p7 he
    | tp xs =>
      obtain ⟨us, h1, h2, h3⟩ := p7
      obtain ⟨h4, h5⟩ := frozT (m2 := ofM ([] : List Ent).length 1000 [] (freshes (zV (.tp xs)))) (fun b hb => Or.inl hb) p6.ent h2 h3 he
      exact ⟨us, h1, h4, h5⟩
end Go.Abs
