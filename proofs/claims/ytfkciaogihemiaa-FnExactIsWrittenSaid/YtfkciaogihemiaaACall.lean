/- What a function is known to do, and what a call of it leaves in the caller's frame. -/
import Derived.Test.YtfkciaogihemiaaAView
namespace Go.Abs
open Go.RowKit
set_option linter.unusedVariables false
set_option linter.unusedSimpArgs false

def instA (n : Nat) : A → A × Nat
  | .fr sz rows => (.ow n 0 sz rows.length, n + 1)
  | a => (a, n)
def instL (n : Nat) : List A → List A × Nat
  | [] => ([], n)
  | a :: as => ((instA n a).1 :: (instL (instA n a).2 as).1, (instL (instA n a).2 as).2)
def inst1 (n : Nat) : AV → AV × Nat
  | .at a => (.at (instA n a).1, (instA n a).2)
  | .ag cs => (.ag (instL n cs).1, (instL n cs).2)
  | .tp xs => (.tp xs, n)
def instT (n : Nat) : List AV → List AV × Nat
  | [] => ([], n)
  | x :: xs => ((inst1 n x).1 :: (instT (inst1 n x).2 xs).1, (instT (inst1 n x).2 xs).2)
def instV (n : Nat) : AV → AV
  | .tp xs => .tp (instT n xs).1
  | x => (inst1 n x).1

def freshA : A → List Ent
  | .fr sz rows => [.arr 0 sz rows]
  | _ => []
def fresh1 : AV → List Ent
  | .at a => freshA a
  | .ag cs => cs.flatMap freshA
  | .tp _ => []
def freshes : AV → List Ent
  | .tp xs => xs.flatMap fresh1
  | x => fresh1 x

def gOf (P : Program) (w : World) (F : Nat → Prop) (lam : Lam) (nx nt : Nat) : G := ⟨P, w, F, fun b => ∃ k o, k < nx ∧ lam k = some (b, o), nx, lam, nt⟩

/-- What is known of a function: called with such values it returns such a one; what it was handed as its own may have turned, all else stands. -/
def Callable (P : Program) (f : FuncId) : Prop := ∃ fn, P.funcs[f]? = some fn ∧ (fn.name == "runtime.NumGoroutine") = false ∧ fn.body.isNone = false

def SC (P : Program) (f : FuncId) (args : List AV) (ext : List Ent) (res : AV) (ext' : List Ent) : Prop :=
  Callable P f ∧ ∀ (w : World) (F : Nat → Prop) (lam : Lam) (us : List Value),
    (∀ b, F b → b < w.heap.size) →
    MemRel (gOf P w F lam ext.length 0) w F (ofM ext.length 1000 ext []) lam →
    args.length = us.length → (∀ (i : Nat) (x : AV) (u : Value), args[i]? = some x → us[i]? = some u → RV1 w F (ofM ext.length 1000 ext []) lam x u) →
    Calls P f us.toArray w fun e w' => ∃ v F' lam', e = .returned v ∧ (∀ b, F b → F' b) ∧ (∀ b, b < w.heap.size → F' b → F b) ∧ (∀ b, F' b → b < w'.heap.size) ∧
      Chg (gOf P w F lam ext.length 0) w' ∧ (∀ k, k < ext.length → lam' k = lam k) ∧
      MemRel (gOf P w F lam ext.length 0) w' F' (ofM ext.length 1000 ext' (freshes res)) lam' ∧ RV w' F' (ofM ext.length 1000 ext' (freshes res)) lam' (instV 1000 res) v

def A.plain : A → Bool
  | .v _ => true
  | .im _ _ => true
  | .nil => true
  | .er => true
  | .dead => true
  | _ => false
def A.noIm : A → Bool
  | .im _ _ => false
  | .pi _ => false
  | _ => true
def AV.noIm1 : AV → Bool
  | .at a => a.noIm
  | .ag cs => cs.all A.noIm
  | .tp _ => false
def AV.noIm : AV → Bool
  | .tp xs => xs.all AV.noIm1
  | x => x.noIm1
def Ent.noIm : Ent → Bool
  | .box _ cells => cells.all A.noIm
  | _ => true
def Ent.plain : Ent → Bool
  | .arr .. => true
  | .box _ cells => cells.all A.plain
  | _ => false

def passA (keys bor : List Nat) (m : Mem) : A → A
  | .ow k ver sz n =>
    match keys.idxOf? k with
    | some i => match m k with | .arr ver' _ _ => if ver = ver' then .ow i 0 sz n else .dead | _ => .dead
    | none => match m k with
      | .arr ver' sz' rows => if ver = ver' ∧ sz = sz' ∧ k ∈ bor then .im sz rows else .dead
      | .ice ver' sz' rows => if ver = ver' ∧ sz = sz' then .im sz rows else .dead
      | _ => .dead
  | .bx k ver off =>
    match keys.idxOf? k with
    | some i => match m k with | .box ver' _ => if ver = ver' then .bx i 0 off else .dead | _ => .dead
    | none => .dead
  | .pa .. => .dead
  | a => a
def passV (keys bor : List Nat) (m : Mem) : AV → AV
  | .at a => .at (passA keys bor m a)
  | .ag cs => .ag (cs.map (passA keys bor m))
  | .tp xs => .at .dead
def extE : Ent → Ent
  | .arr _ sz rows => .arr 0 sz rows
  | .box _ cells => .box 0 cells
  | _ => .gone
def exts (keys : List Nat) (m : Mem) : List Ent := keys.map fun k => extE (m k)

/-- Less sharply told, cell by cell: a nil slice is one without elements. -/
def subA : A → A → Prop
  | .nil, .im _ [] => True
  | .im _ [], .im _ [] => True
  | _, .dead => True
  | a, b => a = b
def subL : List A → List A → Prop
  | [], [] => True
  | a :: as, b :: bs => subA a b ∧ subL as bs
  | _, _ => False
def subV : AV → AV → Prop
  | .at a, .at b => subA a b
  | .ag as, .ag bs => subL as bs
  | _, _ => False
def subT : List AV → List AV → Prop
  | [], [] => True
  | x :: xs, y :: ys => subV x y ∧ subT xs ys
  | _, _ => False

section
variable {w : World} {F : Nat → Prop} {m : Mem} {lam : Lam}

theorem RA.sub {a b : A} {u : Value} (h : subA a b) (hR : RA w F m lam a u) : RA w F m lam b u := by
  unfold subA at h
  split at h
  · cases hR
    exact ⟨(by intro r hr; cases hr), none, 0, rfl, Nat.le_refl _, Nat.zero_le _, .inl rfl⟩
  · obtain ⟨_, a, cap, h1, h2, h3, _⟩ := hR
    exact ⟨(by intro r hr; cases hr), a, cap, h1, h2, h3, .inl rfl⟩
  · trivial
  · subst h; exact hR

theorem RL.sub {as bs : List A} {us : List Value} (h : subL as bs) (hR : RL (fun a x => RA w F m lam a x ∧ x.oneCell' = true) as us) : RL (fun a x => RA w F m lam a x ∧ x.oneCell' = true) bs us := by
  have key : as.length = bs.length ∧ ∀ (i : Nat) (a b : A), as[i]? = some a → bs[i]? = some b → subA a b := by
    induction as generalizing bs us with
    | nil => cases bs with
      | nil => exact ⟨rfl, by simp⟩
      | cons b bs => exact h.elim
    | cons a as ih => cases bs with
      | nil => exact h.elim
      | cons b bs =>
        cases us with
        | nil => have := hR.1; simp at this
        | cons u us =>
          obtain ⟨h1, h2⟩ := ih h.2 (us := us) ⟨by have := hR.1; simpa using this, fun i a u ha hu => hR.2 (i + 1) a u (by simpa using ha) (by simpa using hu)⟩
          refine ⟨by simp [h1], fun i x y hx hy => ?_⟩
          cases i with
          | zero => simp at hx hy; subst hx; subst hy; exact h.1
          | succ i => exact h2 i x y (by simpa using hx) (by simpa using hy)
  refine ⟨key.1 ▸ hR.1, fun i b u hb hu => ?_⟩
  have hi : i < as.length := by rw [key.1]; exact (List.getElem?_eq_some_iff.1 hb).1
  have := hR.2 i as[i] u (List.getElem?_eq_getElem hi) hu
  exact ⟨this.1.sub (key.2 i _ _ (List.getElem?_eq_getElem hi) hb), this.2⟩

theorem RV1.sub {x y : AV} {u : Value} (h : subV x y) (hR : RV1 w F m lam x u) : RV1 w F m lam y u := by
  cases x with
  | «at» a => cases y with
    | «at» b => exact RA.sub h hR
    | _ => exact h.elim
  | ag as => cases y with
    | ag bs => obtain ⟨us, h1, h2⟩ := hR; exact ⟨us, h1, h2.sub h⟩
    | _ => exact h.elim
  | tp xs => exact h.elim
end

theorem ofM_ext {nx : Nat} {ext es : List Ent} {k : Nat} (h : k < nx) : ofM nx 1000 ext es k = ext.getD k .gone := by simp [ofM, h]
theorem ofM_fresh {nx : Nat} {ext es : List Ent} {j : Nat} (h : nx ≤ 1000) : ofM nx 1000 ext es (1000 + j) = es.getD j .gone := by
  simp only [ofM]; rw [if_neg (by omega), if_pos (by omega), Nat.add_sub_cancel_left]

theorem getD_map {β γ : Type} (f : β → γ) (l : List β) (k : Nat) (d : γ) (h : k < l.length) : (l.map f).getD k d = f (l[k]) := by simp [List.getD, h]

/-- The conditions at a call: what is handed over as the callee's own, what is lent. -/
structure CallOk (nx : Nat) (m : Mem) (keys bor : List Nat) (fz : Bool) (B : Nat) : Prop where
  nd : keys.Nodup
  few : keys.length ≤ 900
  key : ∀ k ∈ keys, (m k).plain = true
  bor : ∀ k ∈ bor, (∃ ver sz rows, m k = .arr ver sz rows) ∧ k ∉ keys ∧ (fz = true → nx ≤ k)
  site : ∀ j, j < 16 → m (B + j) = .gone
  base : nx ≤ B

section
variable {g : G} {F : Nat → Prop} {lam : Lam} {σ : St} {a : Act} {w : World} {keys bor : List Nat} {fz : Bool} {B : Nat}

def lamC (keys : List Nat) (lam : Lam) : Lam := fun i => (keys[i]?).bind lam
def FC (bor : List Nat) (lam : Lam) (F : Nat → Prop) : Nat → Prop := fun b => F b ∨ ∃ k ∈ bor, ∃ o, lam k = some (b, o)

theorem plain_live {e : Ent} (h : e.plain = true) : e.live := by cases e <;> simp_all [Ent.plain, Ent.live]

theorem not_FC (hI : Inv g F lam σ a w) (ho : CallOk g.nx σ.m keys bor fz B) {k b o : Nat} (hl : (σ.m k).live) (hk : lam k = some (b, o)) (hb : k ∉ bor) : ¬ FC bor lam F b := by
  rintro (h | ⟨k', hk', o', hl'⟩)
  · exact ((hI.mem.ent k).block' hl hk).1 h
  · obtain ⟨⟨v, s, r, hm⟩, _⟩ := ho.bor k' hk'
    have := hI.mem.inj k k' b o o' hl (by rw [hm]; trivial) hk hl'
    subst this
    exact hb hk'

theorem RA_plain {F' : Nat → Prop} {m m' : Mem} {lam lam' : Lam} {a : A} {u : Value} (hF : ∀ b, F b → F' b) (hp : a.plain = true) (h : RA w F m lam a u) : RA w F' m' lam' a u := by
  cases a <;> simp only [A.plain, Bool.false_eq_true] at hp
  · exact h
  · obtain ⟨h1, A0, cap, h2, h3, h4, h5⟩ := h
    refine ⟨h1, A0, cap, h2, h3, h4, ?_⟩
    rcases h5 with h5 | ⟨b, o, h5, h6, h7⟩
    · exact .inl h5
    · exact .inr ⟨b, o, h5, hF b h6, h7⟩
  · exact h
  · exact h
  · trivial

theorem call_mem (hI : Inv g F lam σ a w) (ho : CallOk g.nx σ.m keys bor fz B) :
    MemRel (gOf g.P w (FC bor lam F) (lamC keys lam) (exts keys σ.m).length 0) w (FC bor lam F) (ofM (exts keys σ.m).length 1000 (exts keys σ.m) []) (lamC keys lam) where
  ent i := by
    have hlen : (exts keys σ.m).length = keys.length := by simp [exts]
    by_cases hi : i < keys.length
    · have hk := List.getElem_mem hi
      have hm : ofM (exts keys σ.m).length 1000 (exts keys σ.m) [] i = extE (σ.m keys[i]) := by
        rw [ofM_ext (by omega)]; exact getD_map _ _ _ _ hi
      have hlc : lamC keys lam i = lam keys[i] := by simp [lamC, hi]
      rw [hm]
      have hpl := ho.key _ hk
      have he := hI.mem.ent keys[i]
      have hnb : keys[i] ∉ bor := fun h => (ho.bor _ h).2.1 hk
      cases hmk : σ.m keys[i] with
      | gone => rw [hmk] at hpl; cases hpl
      | ice ver sz rows => rw [hmk] at hpl; cases hpl
      | arr ver sz rows =>
        rw [hmk] at he
        obtain ⟨h1, h2⟩ := he
        refine ⟨h1, ?_⟩
        rcases h2 with h2 | ⟨b, o, cur, ty, h3, h4, h5, h6, h7⟩
        · exact .inl ⟨hlc.trans h2.1, h2.2⟩
        · refine .inr ⟨b, o, cur, ty, hlc.trans h3, h4, not_FC hI ho (by rw [hmk]; trivial) h3 hnb, ⟨fun _ => ⟨i, o, by rw [hlen]; exact hi, hlc.trans h3⟩, fun h => ?_⟩, h7⟩
          simp only [gOf, hlen] at h; omega
      | box ver cells =>
        rw [hmk] at he
        obtain ⟨b, cur, ty, h3, h4, h5, h6, h7⟩ := he
        refine ⟨b, cur, ty, hlc.trans h3, h4, not_FC hI ho (by rw [hmk]; trivial) h3 hnb, ⟨fun _ => ⟨i, 0, by rw [hlen]; exact hi, hlc.trans h3⟩, fun h => ?_⟩, h7.1, fun j A0 u hA hu => ?_⟩
        · simp only [gOf, hlen] at h; omega
        · have := h7.2 j A0 u hA hu
          rw [hmk] at hpl
          simp only [Ent.plain, List.all_eq_true] at hpl
          exact ⟨RA_plain (fun b h => .inl h) (hpl A0 (List.mem_of_getElem? hA)) this.1, this.2⟩
    · have hm : ofM (exts keys σ.m).length 1000 (exts keys σ.m) [] i = .gone := by
        unfold ofM; rw [if_neg (by omega)]; split <;> simp
      rw [hm]; trivial
  inj i i' b o o' h1 h2 h3 h4 := by
    have hlen : (exts keys σ.m).length = keys.length := by simp [exts]
    have cas : ∀ i, (ofM (exts keys σ.m).length 1000 (exts keys σ.m) [] i).live → ∃ h : i < keys.length, (σ.m keys[i]).live ∧ lamC keys lam i = lam keys[i] := by
      intro i hl
      by_cases hi : i < keys.length
      · exact ⟨hi, plain_live (ho.key _ (List.getElem_mem hi)), by simp [lamC, hi]⟩
      · have hm : ofM (exts keys σ.m).length 1000 (exts keys σ.m) [] i = .gone := by
          unfold ofM; rw [if_neg (by omega)]; split <;> simp
        rw [hm] at hl; exact hl.elim
    obtain ⟨hi, hl, he⟩ := cas i h1
    obtain ⟨hi', hl', he'⟩ := cas i' h2
    rw [he] at h3; rw [he'] at h4
    have := hI.mem.inj _ _ b o o' hl hl' h3 h4
    exact (List.getElem_inj ho.nd).1 this

theorem RA_pass (hI : Inv g F lam σ a w) (ho : CallOk g.nx σ.m keys bor fz B) {A0 : A} {u : Value} (h : RA w F σ.m lam A0 u) :
    RA w (FC bor lam F) (ofM (exts keys σ.m).length 1000 (exts keys σ.m) []) (lamC keys lam) (passA keys bor σ.m A0) u := by
  have hlen : (exts keys σ.m).length = keys.length := by simp [exts]
  have hext : ∀ i k, keys[i]? = some k → ofM (exts keys σ.m).length 1000 (exts keys σ.m) [] i = extE (σ.m k) ∧ lamC keys lam i = lam k := by
    intro i k hk
    obtain ⟨hi, rfl⟩ := List.getElem?_eq_some_iff.1 hk
    refine ⟨?_, by simp [lamC, hi]⟩
    rw [ofM_ext (by omega)]; exact getD_map _ _ _ _ hi
  cases A0 with
  | ow k ver sz n =>
    simp only [passA]
    split
    · rename_i i hi
      have hki := idxOf?_some hi
      obtain ⟨he, hl⟩ := hext i k hki
      split
      · rename_i ver' sz' rows hm
        split
        · rename_i hv; subst hv
          obtain ⟨_, h3, h4⟩ := h
          obtain ⟨rfl, hn, h5⟩ := h4 _ _ (.inl hm)
          rw [hm] at he
          refine ⟨by rw [he]; simp [extE, Ent.ver], h3, fun s r hmr => ?_⟩
          rw [he] at hmr
          simp only [extE, Ent.arr.injEq, true_and, reduceCtorEq, or_false] at hmr
          obtain ⟨rfl, rfl⟩ := hmr
          rw [hl]
          exact ⟨rfl, hn, h5⟩
        · trivial
      · trivial
    · split
      · rename_i ver' sz' rows hm
        split
        · rename_i hc
          obtain ⟨rfl, rfl, hb⟩ := hc
          obtain ⟨_, _, h4⟩ := h
          obtain ⟨_, rfl, h5⟩ := h4 _ _ (.inl hm)
          have he := hI.mem.ent k
          rw [hm] at he
          obtain ⟨hw, he⟩ := he
          refine ⟨hw, ?_⟩
          rcases h5 with ⟨hl, rfl⟩ | ⟨b, o, cap, hl, rfl, h6, h7, _⟩
          · have hr : rows = [] := by
              rcases he with h | ⟨b, o, cur, ty, h, _⟩
              · exact h.2
              · rw [hl] at h; cases h
            subst hr
            exact ⟨_, _, rfl, Nat.le_refl _, Nat.zero_le _, .inl rfl⟩
          · refine ⟨_, _, rfl, h6, h7, ?_⟩
            rcases he with ⟨h, rfl⟩ | ⟨b', o', cur, ty, h, hg, _, _, _, hc, h1⟩
            · exact .inl rfl
            · rw [hl] at h; simp only [Option.some.injEq, Prod.mk.injEq] at h; obtain ⟨rfl, rfl⟩ := h
              exact .inr ⟨b, o, rfl, .inr ⟨k, hb, o, hl⟩, cells_of_arr hg hc h1⟩
        · trivial
      · rename_i ver' sz' rows hm
        split
        · rename_i hc
          obtain ⟨rfl, rfl⟩ := hc
          have := RA.im_of_ow (g := g) (hI.mem.ent k) h hm
          exact RA_plain (fun b h => .inl h) rfl this
        · trivial
      · trivial
  | bx k ver off =>
    simp only [passA]
    split
    · rename_i i hi
      have hki := idxOf?_some hi
      obtain ⟨he, hl⟩ := hext i k hki
      split
      · rename_i ver' cells hm
        split
        · rename_i hv; subst hv
          obtain ⟨_, h3, h4⟩ := h
          rw [hm] at he
          refine ⟨by rw [he]; simp [extE, Ent.ver], h3, fun cs hmr => ?_⟩
          rw [hl]
          exact h4 _ hm
        · trivial
      · trivial
    · trivial
  | pa k ver sz i off => trivial
  | fr sz rows => exact h
  | pi cs =>
    obtain ⟨b, o, h1, h2, h3⟩ := h
    exact ⟨b, o, h1, .inl h2, h3⟩
  | v x => exact h
  | im sz rows => exact RA_plain (fun b h => .inl h) rfl h
  | nil => exact h
  | er => exact h
  | dead => trivial

theorem RV_pass (hI : Inv g F lam σ a w) (ho : CallOk g.nx σ.m keys bor fz B) {x : AV} {u : Value} (h : RV w F σ.m lam x u) :
    RV1 w (FC bor lam F) (ofM (exts keys σ.m).length 1000 (exts keys σ.m) []) (lamC keys lam) (passV keys bor σ.m x) u := by
  cases x with
  | «at» A0 => exact RA_pass hI ho h
  | ag cs =>
    obtain ⟨us, h1, h2⟩ := h
    refine ⟨us, h1, by simpa using h2.1, fun i A0 u hA hu => ?_⟩
    rw [List.getElem?_map] at hA
    cases hc : cs[i]? with
    | none => simp [hc] at hA
    | some a0 =>
      simp only [hc, Option.map_some, Option.some.injEq] at hA; subst hA
      have := h2.2 i a0 u hc hu
      exact ⟨RA_pass hI ho this.1, this.2⟩
  | tp xs => trivial

end
end Go.Abs
