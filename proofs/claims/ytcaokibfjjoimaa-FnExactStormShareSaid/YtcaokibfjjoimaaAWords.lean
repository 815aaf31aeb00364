/- Words for the walk: every operation told so that a simplifier can go on by itself. -/
import Derived.Test.YtcaokibfjjoimaaAFin
import Derived.Test.YtcaokibfjjoimaaARow
namespace Go.Abs
open Go.RowKit
set_option linter.unusedVariables false
set_option linter.unusedSimpArgs false

section
variable {P : Program} {nx : Nat} {q : Bool} {K : AV → Mem → Prop} {t : Nat → AV} {m : Mem} {d : Option Nat} {ty t1 e : TypeId} {pos : String} {af : Array Edge} {g : Option (Nat × Bool)} {x y : Operand}

/-! ### Arrays that are made -/
def makeK (sz by_ nx site : Nat) (z : List Value) (m : Mem) (X Y : AV) (K : AV → Mem → Prop) : Prop :=
  match X, Y with
  | .at (.v (.int _ n)), .at (.v (.int _ n')) => m site = .gone ∧ (nx ≤ site ∧ n = n' ∧ 0 ≤ n ∧ n ≤ 4611686018427387904 ∧ by_ * n ≤ 281474976710656) ∧ K (.at (.ow site 0 sz n.toNat)) (upd m site (.arr 0 sz (List.replicate n.toNat z)))
  | _, _ => False
theorem makeK_int {sz by_ nx site : Nat} {z : List Value} {k k' : IntKind} {n n' : Int} : makeK sz by_ nx site z m (.at (.v (.int k n))) (.at (.v (.int k' n'))) K =
    (m site = .gone ∧ (nx ≤ site ∧ n = n' ∧ 0 ≤ n ∧ n ≤ 4611686018427387904 ∧ (by_ : Int) * n ≤ 281474976710656) ∧ K (.at (.ow site 0 sz n.toNat)) (upd m site (.arr 0 sz (List.replicate n.toNat z)))) := rfl
theorem make_k {sz by_ : Nat} {z : List Value} (ht : P.underlying t1 = some (.slice e)) (hs : szT P e = some (sz + 1)) (hz : zeroVals P e = some z) (hb : (P.info? e).map (·.bytes) = some by_) (hz1 : z.length = sz + 1) (hz2 : z.all (·.oneCell') = true)
    (h : makeK (sz + 1) by_ nx (siteOf d) z m ((⟨t, m⟩ : St).ev x) ((⟨t, m⟩ : St).ev y) K) : onM (opS P nx q ⟨d, .makeSlice t1 x y, ty, pos, af, g⟩ ⟨t, m⟩) K := by
  unfold makeK at h
  split at h
  · rename_i k n k' n' hx hy
    rw [make_i ht hs hz hb hz1 hz2 hx hy]; exact h
  · exact h.elim

def fillRK (σ : St) (sz : Nat) : List (Nat × Operand) → List (List Value) → (List (List Value) → Prop) → Prop
  | [], rows, K => K rows
  | (i, x) :: rest, rows, K => onO ((atomsOf (σ.ev x)).bind valsOf) fun us => us.length = sz ∧ i < rows.length ∧ fillRK σ sz rest (rows.set i us) K
theorem fillRK_some {σ : St} {sz : Nat} : ∀ {parts : List (Nat × Operand)} {rows : List (List Value)} {K : List (List Value) → Prop}, fillRK σ sz parts rows K → ∃ rows', fillRows σ sz parts rows = some rows' ∧ K rows' := by
  intro parts
  induction parts with
  | nil => intro rows K h; exact ⟨rows, rfl, h⟩
  | cons p parts ih =>
    obtain ⟨i, x⟩ := p
    intro rows K h
    simp only [fillRK] at h
    cases hu : (atomsOf (σ.ev x)).bind valsOf with
    | none => rw [hu] at h; exact h.elim
    | some us =>
      rw [hu] at h
      obtain ⟨h1, h2, h3⟩ := h
      obtain ⟨rows', h4, h5⟩ := ih h3
      exact ⟨rows', by simp only [fillRows, hu, h1, h2, and_self, if_true]; exact h4, h5⟩
theorem fillRK_nil {σ : St} {sz : Nat} {rows : List (List Value)} {K : List (List Value) → Prop} : fillRK σ sz [] rows K = K rows := rfl
theorem fillRK_cons {σ : St} {sz i : Nat} {x : Operand} {rest : List (Nat × Operand)} {rows : List (List Value)} {K : List (List Value) → Prop} : fillRK σ sz ((i, x) :: rest) rows K =
    onO ((atomsOf (σ.ev x)).bind valsOf) fun us => us.length = sz ∧ i < rows.length ∧ fillRK σ sz rest (rows.set i us) K := rfl
theorem buildSlice_k {len sz : Nat} {parts : Array (Nat × Operand)} {z : List Value} (ht : P.underlying t1 = some (.slice e)) (hs : szT P e = some (sz + 1)) (hz : zeroVals P e = some z) (hz1 : z.length = sz + 1) (hz2 : z.all (·.oneCell') = true)
    (h : len * (sz + 1) ≤ 16777216 ∧ fillRK ⟨t, m⟩ (sz + 1) parts.toList (List.replicate len z) fun rows => m (siteOf d) = .gone ∧ nx ≤ siteOf d ∧ K (.at (.ow (siteOf d) 0 (sz + 1) len)) (upd m (siteOf d) (.arr 0 (sz + 1) rows))) :
    onM (opS P nx q ⟨d, .buildSlice t1 len parts, ty, pos, af, g⟩ ⟨t, m⟩) K := by
  obtain ⟨rows', h1, h2⟩ := fillRK_some h.2
  rw [buildSlice_i ht hs hz hz1 hz2 h.1 h1]; exact h2

/-! ### Structs that are built -/
def fillSK (P : Program) (σ : St) (fs : List Field) : List (Nat × Operand) → List A → (List A → Prop) → Prop
  | [], cells, K => K cells
  | (i, x) :: rest, cells, K => onO fs[i]? fun fd => onO (atomsOf (σ.ev x)) fun as => szT P fd.type = some as.length ∧ fd.offset + as.length ≤ cells.length ∧ fillSK P σ fs rest (splice cells fd.offset as) K
theorem fillSK_some {σ : St} {fs : List Field} : ∀ {parts : List (Nat × Operand)} {cells : List A} {K : List A → Prop}, fillSK P σ fs parts cells K → ∃ cs, fillS fs P σ parts cells = some cs ∧ K cs := by
  intro parts
  induction parts with
  | nil => intro cells K h; exact ⟨cells, rfl, h⟩
  | cons p parts ih =>
    obtain ⟨i, x⟩ := p
    intro cells K h
    simp only [fillSK] at h
    cases hf : fs[i]? with
    | none => rw [hf] at h; exact h.elim
    | some fd =>
      rw [hf] at h
      simp only [onO] at h
      cases hu : atomsOf (σ.ev x) with
      | none => rw [hu] at h; exact h.elim
      | some as =>
        rw [hu] at h
        obtain ⟨h1, h2, h3⟩ := h
        obtain ⟨cs, h4, h5⟩ := ih h3
        exact ⟨cs, by simp only [fillS, hf, hu, h1, h2, and_self, if_true]; exact h4, h5⟩
theorem fillSK_nil {σ : St} {fs : List Field} {cells : List A} {K : List A → Prop} : fillSK P σ fs [] cells K = K cells := rfl
theorem fillSK_cons {σ : St} {fs : List Field} {i : Nat} {x : Operand} {rest : List (Nat × Operand)} {cells : List A} {K : List A → Prop} : fillSK P σ fs ((i, x) :: rest) cells K =
    onO fs[i]? fun fd => onO (atomsOf (σ.ev x)) fun as => szT P fd.type = some as.length ∧ fd.offset + as.length ≤ cells.length ∧ fillSK P σ fs rest (splice cells fd.offset as) K := rfl
theorem build_k {parts : Array (Nat × Operand)} {fs : Array Field} {as : List A} (ht : P.underlying t1 = some (.struct fs)) (hz : zeroAtoms P t1 = some as) (hs : as.all A.solid = true ∧ fs.toList.all (fun (fd : Field) => (szT P fd.type).isSome) = true)
    (h : fillSK P ⟨t, m⟩ fs.toList parts.toList as fun cs => K (.ag cs) m) : onM (opS P nx q ⟨d, .build t1 parts, ty, pos, af, g⟩ ⟨t, m⟩) K := by
  obtain ⟨cs, h1, h2⟩ := fillSK_some h
  rw [build_i ht hz hs h1]; exact h2

/-! ### Parts of tuples -/
def exK (X : AV) (i : Nat) (K : AV → Prop) : Prop :=
  match X with
  | .tp xs => onO xs[i]? K
  | _ => False
theorem exK_tp {xs : List AV} {i : Nat} {K : AV → Prop} : exK (.tp xs) i K = onO xs[i]? K := rfl
theorem extract_k {i : Nat} : onM (opS P nx q ⟨d, .extract x i, ty, pos, af, g⟩ ⟨t, m⟩) K = exK ((⟨t, m⟩ : St).ev x) i fun v => K v m := by
  simp only [opS]
  cases (⟨t, m⟩ : St).ev x with
  | tp xs => simp only [exK]; cases xs[i]? <;> simp [onO, onM]
  | _ => rfl

/-! ### Choices -/
def pickK (c a b : AV) (K : AV → Prop) : Prop :=
  match c with
  | .at (.v (.bool true)) => K a
  | .at (.v (.bool false)) => K b
  | _ => False
theorem pickK_true {a b : AV} {K : AV → Prop} : pickK (.at (.v (.bool true))) a b K = K a := rfl
theorem pickK_false {a b : AV} {K : AV → Prop} : pickK (.at (.v (.bool false))) a b K = K b := rfl
theorem actC_pick {K : St → Prop} {c a b : Operand} : actC P nx q ⟨d, .pick c a b, ty, pos, af, g⟩ K ⟨t, m⟩ = pickK ((⟨t, m⟩ : St).ev c) ((⟨t, m⟩ : St).ev a) ((⟨t, m⟩ : St).ev b) fun v => K ⟨putD t d v, m⟩ := by
  simp only [actC, opC, opS, pickK]
  cases (⟨t, m⟩ : St).ev c with
  | «at» a => cases a with
    | v x => cases x with
      | bool b => cases b <;> simp
      | _ => rfl
    | _ => rfl
  | _ => rfl

/-! ### Greater and less -/
def max2K (X Y : AV) (K : AV → Prop) : Prop := match X, Y with | .at (.v (.int k a)), .at (.v (.int _ b)) => K (.at (.v (.int k (max a b)))) | _, _ => False
def min2K (X Y : AV) (K : AV → Prop) : Prop := match X, Y with | .at (.v (.int k a)), .at (.v (.int _ b)) => K (.at (.v (.int k (min a b)))) | _, _ => False
theorem max2K_int {k k' : IntKind} {a b : Int} {K : AV → Prop} : max2K (.at (.v (.int k a))) (.at (.v (.int k' b))) K = K (.at (.v (.int k (max a b)))) := rfl
theorem min2K_int {k k' : IntKind} {a b : Int} {K : AV → Prop} : min2K (.at (.v (.int k a))) (.at (.v (.int k' b))) K = K (.at (.v (.int k (min a b)))) := rfl

/-! ### Append -/
def rowsAt (e : Ent) (ver sz : Nat) : Option (List (List Value)) :=
  match e with
  | .arr ver' sz' rows => if ver = ver' ∧ sz = sz' then some rows else none
  | .ice ver' sz' rows => if ver = ver' ∧ sz = sz' then some rows else none
  | _ => none
theorem rowsAt_arr {ver sz : Nat} {rows : List (List Value)} : rowsAt (.arr ver sz rows) ver sz = some rows := by simp [rowsAt]
theorem rowsAt_ice {ver sz : Nat} {rows : List (List Value)} : rowsAt (.ice ver sz rows) ver sz = some rows := by simp [rowsAt]
def newsK (str : Bool) (sz : Nat) (m : Mem) (S : AV) : Option (List (List Value)) :=
  match S with
  | .at (.v (.string s)) => if sz = 1 ∧ str = true then some (s.data.toList.map fun (b : UInt8) => [Value.int .u8 (b.toNat : Int)]) else none
  | .at .nil => if str = false then some [] else none
  | .at (.im sz' rows) => if sz' = sz ∧ str = false then some rows else none
  | .at (.ow k ver sz' n) => if sz' = sz ∧ str = false then rowsAt (m k) ver sz' else none
  | _ => none
theorem newsK_nil {sz : Nat} : newsK false sz m (.at .nil) = some [] := rfl
theorem newsK_im {sz : Nat} {rows : List (List Value)} : newsK false sz m (.at (.im sz rows)) = some rows := by simp [newsK]
theorem newsK_ow {k ver sz n : Nat} : newsK false sz m (.at (.ow k ver sz n)) = rowsAt (m k) ver sz := by simp [newsK]
theorem newsK_str {s : ByteArray} : newsK true 1 m (.at (.v (.string s))) = some (s.data.toList.map fun (b : UInt8) => [Value.int .u8 (b.toNat : Int)]) := rfl
def appK (κ nx sz by_ : Nat) (m : Mem) (D : AV) (news : Option (List (List Value))) (K : AV → Mem → Prop) : Prop :=
  match D with
  | .at .nil => onO news fun ns => m κ = .gone ∧ (nx ≤ κ ∧ Room ns.length by_) ∧ K (.at (.ow κ 0 sz ns.length)) (upd m κ (.arr 0 sz ns))
  | .at (.ow k ver sz' n) => onO news fun ns => arrAt (m k) ver sz' fun rows => (sz' = sz ∧ nx ≤ k) ∧ Room (rows.length + ns.length) by_ ∧ K (.at (.ow k (ver + 1) sz (rows.length + ns.length))) (upd m k (.arr (ver + 1) sz (rows ++ ns)))
  | _ => False
theorem appK_nil {κ nx sz by_ : Nat} {ns : List (List Value)} : appK κ nx sz by_ m (.at .nil) (some ns) K = (m κ = .gone ∧ (nx ≤ κ ∧ Room ns.length by_) ∧ K (.at (.ow κ 0 sz ns.length)) (upd m κ (.arr 0 sz ns))) := rfl
theorem appK_ow {κ nx sz by_ k ver sz' n : Nat} {ns : List (List Value)} : appK κ nx sz by_ m (.at (.ow k ver sz' n)) (some ns) K =
    arrAt (m k) ver sz' fun rows => (sz' = sz ∧ nx ≤ k) ∧ Room (rows.length + ns.length) by_ ∧ K (.at (.ow k (ver + 1) sz (rows.length + ns.length))) (upd m k (.arr (ver + 1) sz (rows ++ ns))) := rfl
theorem app_k {κ by_ sz : Nat} {t2 : TypeId} {str : Bool} (ht : P.underlying t1 = some (.slice e)) (hs : szT P e = some (sz + 1)) (hb : (P.info? e).map (·.bytes) = some by_) (hz : (zeroVals P e).map List.length = some (sz + 1))
    (h2 : (str = false ∧ t2 = t1) ∨ (str = true ∧ isStr P t2 = true))
    (h : appK κ nx (sz + 1) by_ m ((⟨t, m⟩ : St).ev x) (newsK str (sz + 1) m ((⟨t, m⟩ : St).ev y)) K) : onM (builtinS P κ nx .append [x, y] [t1, t2] ⟨t, m⟩) K := by
  have hn : ∀ ns, newsK str (sz + 1) m ((⟨t, m⟩ : St).ev y) = some ns → newsOf P t1 t2 sz m ((⟨t, m⟩ : St).ev y) = some ns := by
    intro ns hns
    generalize (⟨t, m⟩ : St).ev y = Y at hns
    unfold newsK at hns
    split at hns
    · split at hns
      · rename_i hc
        rcases h2 with ⟨h, _⟩ | ⟨_, h⟩
        · rw [hc.2] at h; cases h
        · simp only [newsOf]; rw [if_pos ⟨by omega, h⟩]; exact hns
      · cases hns
    · split at hns
      · rename_i hc
        rcases h2 with ⟨_, h⟩ | ⟨h, _⟩
        · subst h; simpa [newsOf] using hns
        · rw [hc] at h; cases h
      · cases hns
    · split at hns
      · rename_i hc
        rcases h2 with ⟨_, h⟩ | ⟨h, _⟩
        · subst h; simpa [newsOf, srcRows, hc.1] using hns
        · rw [hc.2] at h; cases h
      · cases hns
    · split at hns
      · rename_i k ver sz' n hc
        rcases h2 with ⟨_, h⟩ | ⟨h, _⟩
        · subst h
          unfold rowsAt at hns
          split at hns
          · rename_i hm
            split at hns
            · rename_i hv; obtain ⟨rfl, rfl⟩ := hv
              simpa [newsOf, srcRows, hm, hc.1] using hns
            · cases hns
          · rename_i hm
            split at hns
            · rename_i hv; obtain ⟨rfl, rfl⟩ := hv
              simpa [newsOf, srcRows, hm, hc.1] using hns
            · cases hns
          · cases hns
        · rw [hc.2] at h; cases h
      · cases hns
    · cases hns
  unfold appK at h
  split at h
  · rename_i hx
    cases hN : newsK str (sz + 1) m ((⟨t, m⟩ : St).ev y) with
    | none => rw [hN] at h; exact h.elim
    | some ns => rw [hN] at h; rw [app_nil ht hs hb hz hx (hn ns hN)]; exact h
  · rename_i k ver sz' n hx
    cases hN : newsK str (sz + 1) m ((⟨t, m⟩ : St).ev y) with
    | none => rw [hN] at h; exact h.elim
    | some ns =>
      rw [hN] at h
      simp only [onO] at h
      unfold arrAt at h
      split at h
      · rename_i hm
        obtain ⟨⟨rfl, rfl⟩, ⟨h3, h4⟩, h5⟩ := h
        subst h3
        rw [app_ow ht hs hb hz hx hm h4 (hn ns hN)]; exact h5
      · exact h.elim
  · exact h.elim

/-! ### Cuts -/
theorem boundS_none {σ : St} {b : Int} : boundS σ none b = some b := rfl
theorem boundS_some {σ : St} {o : Operand} {b : Int} : boundS σ (some o) b = intOfAV (σ.ev o) := rfl
theorem intOfAV_int {k : IntKind} {i : Int} : intOfAV (.at (.v (.int k i))) = some i := rfl
theorem cut_im_k {lo hi : Option Operand} {sz : Nat} {rows : List (List Value)} (ht : P.underlying t1 = some (.slice e)) (hs : szT P e = some sz) :
    onM (sliceS P nx q t1 ⟨t, m⟩ (.at (.im sz rows)) lo hi none) K = onO (boundS ⟨t, m⟩ lo 0) fun l => onO (boundS ⟨t, m⟩ hi rows.length) fun h => (0 ≤ l ∧ l ≤ h ∧ h ≤ (rows.length : Int)) ∧ K (.at (.im sz ((rows.drop l.toNat).take (h.toNat - l.toNat)))) m := by
  simp only [sliceS, ht, hs, if_true]
  cases boundS ⟨t, m⟩ lo 0 <;> cases boundS ⟨t, m⟩ hi rows.length <;> rfl
theorem cut_nil_k {lo hi : Option Operand} {sz : Nat} (ht : P.underlying t1 = some (.slice e)) (hs : szT P e = some sz) :
    onM (sliceS P nx q t1 ⟨t, m⟩ (.at .nil) lo hi none) K = onO (boundS ⟨t, m⟩ lo 0) fun l => onO (boundS ⟨t, m⟩ hi 0) fun h => (l = 0 ∧ h = 0) ∧ K (.at .nil) m := by
  simp only [sliceS, ht, hs]
  cases boundS ⟨t, m⟩ lo 0 <;> cases boundS ⟨t, m⟩ hi 0 <;> rfl
theorem cut_str_k {lo hi : Option Operand} {s : ByteArray} (ht : P.underlying t1 = some .string) :
    onM (sliceS P nx q t1 ⟨t, m⟩ (.at (.v (.string s))) lo hi none) K = onO (boundS ⟨t, m⟩ lo 0) fun l => onO (boundS ⟨t, m⟩ hi s.size) fun h => (0 ≤ l ∧ l ≤ h ∧ h ≤ (s.size : Int)) ∧ K (.at (.v (.string (s.extract l.toNat h.toNat)))) m := by
  simp only [sliceS, ht]
  cases boundS ⟨t, m⟩ lo 0 <;> cases boundS ⟨t, m⟩ hi s.size <;> rfl
theorem cut_ow_k {lo hi : Option Operand} {k ver sz n : Nat} (ht : P.underlying t1 = some (.slice e)) (hs : szT P e = some sz)
    (h : nx ≤ k ∧ onO (boundS ⟨t, m⟩ lo 0) fun l => onO (boundS ⟨t, m⟩ hi n) fun h => arrAt (m k) ver sz fun rows => (0 ≤ l ∧ l ≤ h ∧ h ≤ (n : Int)) ∧ K (.at (.ow k (ver + 1) sz (h.toNat - l.toNat))) (upd m k (.arr (ver + 1) sz ((rows.drop l.toNat).take (h.toNat - l.toNat))))) :
    onM (sliceS P nx false t1 ⟨t, m⟩ (.at (.ow k ver sz n)) lo hi none) K := by
  obtain ⟨hk, h⟩ := h
  cases hl : boundS ⟨t, m⟩ lo 0 with
  | none => rw [hl] at h; exact h.elim
  | some l =>
    cases hh : boundS ⟨t, m⟩ hi n with
    | none => rw [hl, hh] at h; exact h.elim
    | some h' =>
      rw [hl, hh] at h
      simp only [onO] at h
      unfold arrAt at h
      split at h
      · rename_i hm
        obtain ⟨⟨rfl, rfl⟩, h⟩ := h
        rw [cut_ow ht hs hk hm hl hh]; exact h
      · exact h.elim

/-! ### Loads from arrays of our own -/
def rowAt (e : Ent) (ver sz i : Nat) (K : List Value → Prop) : Prop :=
  match e with
  | .arr ver' sz' rows => (ver = ver' ∧ sz = sz') ∧ i < rows.length ∧ ∀ r, rows[i]? = some r → K r
  | .ice ver' sz' rows => (ver = ver' ∧ sz = sz') ∧ i < rows.length ∧ ∀ r, rows[i]? = some r → K r
  | _ => False
theorem rowAt_arr {ver sz i : Nat} {rows : List (List Value)} {K : List Value → Prop} : rowAt (.arr ver sz rows) ver sz i K = (i < rows.length ∧ ∀ r, rows[i]? = some r → K r) := by simp [rowAt]
theorem rowAt_ice {ver sz i : Nat} {rows : List (List Value)} {K : List Value → Prop} : rowAt (.ice ver sz rows) ver sz i K = (i < rows.length ∧ ∀ r, rows[i]? = some r → K r) := by simp [rowAt]
theorem load_paA {κ ver sz i off : Nat} {K : AV → Prop} (h : aggT P t1 = some false) (hk : off < sz ∧ rowAt (m κ) ver sz i fun r => K (.at (.v (r.getD off undef)))) : onR (loadS P t1 m (.at (.pa κ ver sz i off))) K := by
  obtain ⟨ho, hk⟩ := hk
  unfold rowAt at hk
  split at hk
  · rename_i hm
    obtain ⟨⟨rfl, rfl⟩, h1, h2⟩ := hk
    rw [load_pa1 h hm]; exact ⟨⟨h1, ho⟩, h2⟩
  · rename_i hm
    obtain ⟨⟨rfl, rfl⟩, h1, h2⟩ := hk
    rw [load_ia1 h hm]; exact ⟨⟨h1, ho⟩, h2⟩
  · exact hk.elim
theorem load_paB {κ ver sz i off s : Nat} {K : AV → Prop} (h : aggT P t1 = some true) (hs : szT P t1 = some s) (hk : off + s ≤ sz ∧ rowAt (m κ) ver sz i fun r => K (.ag (((r.drop off).take s).map .v))) : onR (loadS P t1 m (.at (.pa κ ver sz i off))) K := by
  obtain ⟨ho, hk⟩ := hk
  unfold rowAt at hk
  split at hk
  · rename_i hm
    obtain ⟨⟨rfl, rfl⟩, h1, h2⟩ := hk
    rw [load_paN h hs hm]; exact ⟨⟨h1, ho⟩, h2⟩
  · rename_i hm
    obtain ⟨⟨rfl, rfl⟩, h1, h2⟩ := hk
    rw [load_iaN h hs hm]; exact ⟨⟨h1, ho⟩, h2⟩
  · exact hk.elim

/-! ### What is known of a slice's type, of a struct's -/
structure SI where
  e : TypeId
  sz : Nat
  by_ : Nat
  z : List Value
def siOf (P : Program) (t : TypeId) : Option SI :=
  match P.underlying t with
  | some (.slice e) =>
    match szT P e, zeroVals P e, (P.info? e).map (·.bytes) with
    | some (sz + 1), some z, some b => if z.length = sz + 1 ∧ z.all (·.oneCell') = true then some ⟨e, sz + 1, b, z⟩ else none
    | _, _, _ => none
  | _ => none
theorem siOf_some {I : SI} (h : siOf P t1 = some I) : ∃ sz, I.sz = sz + 1 ∧ P.underlying t1 = some (.slice I.e) ∧ szT P I.e = some (sz + 1) ∧ zeroVals P I.e = some I.z ∧ (P.info? I.e).map (·.bytes) = some I.by_ ∧ I.z.length = sz + 1 ∧ I.z.all (·.oneCell') = true := by
  unfold siOf at h
  split at h
  · rename_i e ht
    split at h
    · rename_i sz z b h1 h2 h3
      split at h
      · rename_i h4
        simp only [Option.some.injEq] at h; subst h
        exact ⟨sz, rfl, ht, h1, h2, h3, h4.1, h4.2⟩
      · cases h
    · cases h
  · cases h
structure TI where
  fs : List Field
  z : List A
def tiOf (P : Program) (t : TypeId) : Option TI :=
  match P.underlying t, zeroAtoms P t with
  | some (.struct fs), some z => if z.all A.solid = true ∧ fs.toList.all (fun (fd : Field) => (szT P fd.type).isSome) = true then some ⟨fs.toList, z⟩ else none
  | _, _ => none
theorem tiOf_some {I : TI} (h : tiOf P t1 = some I) : ∃ fs, P.underlying t1 = some (.struct fs) ∧ I.fs = fs.toList ∧ zeroAtoms P t1 = some I.z ∧ I.z.all A.solid = true ∧ fs.toList.all (fun (fd : Field) => (szT P fd.type).isSome) = true := by
  unfold tiOf at h
  split at h
  · rename_i fs z h1 h2
    split at h
    · rename_i h4
      simp only [Option.some.injEq] at h; subst h
      exact ⟨fs, h1, rfl, h2, h4.1, h4.2⟩
    · cases h
  · cases h

def strFlag (P : Program) (t1 t2 : TypeId) : Option Bool := if t2 = t1 then some false else if isStr P t2 = true then some true else none
def loadK (P : Program) (t1 : TypeId) (m : Mem) (X : AV) (K : AV → Prop) : Prop :=
  match X with
  | .at (.pa κ ver sz i off) =>
    match aggT P t1, szT P t1 with
    | some true, some s => off + s ≤ sz ∧ rowAt (m κ) ver sz i fun r => K (.ag (((r.drop off).take s).map .v))
    | some false, some s => off < sz ∧ rowAt (m κ) ver sz i fun r => K (.at (.v (r.getD off undef)))
    | _, _ => False
  | X => onR (loadS P t1 m X) K
def sliceK (P : Program) (nx : Nat) (q : Bool) (t1 : TypeId) (σ : St) (X : AV) (lo hi mx : Option Operand) (K : AV → Mem → Prop) : Prop :=
  match X, mx, q with
  | .at (.ow k ver sz n), none, false => onO (siOf P t1) fun I => I.sz = sz ∧ nx ≤ k ∧ onO (boundS σ lo 0) fun l => onO (boundS σ hi n) fun h => arrAt (σ.m k) ver sz fun rows => (0 ≤ l ∧ l ≤ h ∧ h ≤ (n : Int)) ∧ K (.at (.ow k (ver + 1) sz (h.toNat - l.toNat))) (upd σ.m k (.arr (ver + 1) sz ((rows.drop l.toNat).take (h.toNat - l.toNat))))
  | X, mx, q => onM (sliceS P nx q t1 σ X lo hi mx) K

/-- One operation: what is left to show. -/
def callW (P : Program) (nx : Nat) (q : Bool) (o : Oper) (c : Call) (K : St → Prop) (σ : St) : Prop :=
  match c.callee, c.args.toList, c.argTypes.toList with
  | .builtin .append, [x, y], [t1, t2] => onO (siOf P t1) fun I => onO (strFlag P t1 t2) fun s => appK (siteOf o.dst) nx I.sz I.by_ σ.m (σ.ev x) (newsK s I.sz σ.m (σ.ev y)) fun v m => K ⟨putD σ.t o.dst v, m⟩
  | .builtin .max, [x, y], _ => max2K (σ.ev x) (σ.ev y) fun v => K ⟨putD σ.t o.dst v, σ.m⟩
  | .builtin .min, [x, y], _ => min2K (σ.ev x) (σ.ev y) fun v => K ⟨putD σ.t o.dst v, σ.m⟩
  | _, _, _ => actC P nx q o K σ
def actW (P : Program) (nx : Nat) (q : Bool) (o : Oper) (K : St → Prop) (σ : St) : Prop :=
  match o.op with
  | .makeSlice t1 x y => onO (siOf P t1) fun I => makeK I.sz I.by_ nx (siteOf o.dst) I.z σ.m (σ.ev x) (σ.ev y) fun v m => K ⟨putD σ.t o.dst v, m⟩
  | .buildSlice t1 len parts => onO (siOf P t1) fun I => len * I.sz ≤ 16777216 ∧ fillRK σ I.sz parts.toList (List.replicate len I.z) fun rows => σ.m (siteOf o.dst) = .gone ∧ nx ≤ siteOf o.dst ∧ K ⟨putD σ.t o.dst (.at (.ow (siteOf o.dst) 0 I.sz len)), upd σ.m (siteOf o.dst) (.arr 0 I.sz rows)⟩
  | .build t1 parts => onO (tiOf P t1) fun I => fillSK P σ I.fs parts.toList I.z fun cs => K ⟨putD σ.t o.dst (.ag cs), σ.m⟩
  | .load t1 x => loadK P t1 σ.m (σ.ev x) fun v => K ⟨putD σ.t o.dst v, σ.m⟩
  | .slice t1 x lo hi mx => sliceK P nx q t1 σ (σ.ev x) lo hi mx fun v m => K ⟨putD σ.t o.dst v, m⟩
  | .call c => callW P nx q o c K σ
  | _ => actC P nx q o K σ

theorem actW_C {o : Oper} {K : St → Prop} {σ : St} (h : actW P nx q o K σ) : actC P nx q o K σ := by
  obtain ⟨t, m⟩ := σ
  obtain ⟨d, op, ty, pos, af, g⟩ := o
  cases op with
  | makeSlice t1 x y =>
    simp only [actW] at h
    cases hI : siOf P t1 with
    | none => rw [hI] at h; exact h.elim
    | some I =>
      rw [hI] at h
      obtain ⟨sz, e1, h1, h2, h3, h4, h5, h6⟩ := siOf_some hI
      rw [actC_makeSlice]
      refine make_k h1 h2 h3 h4 h5 h6 ?_
      rw [← e1]; exact h
  | buildSlice t1 len parts =>
    simp only [actW] at h
    cases hI : siOf P t1 with
    | none => rw [hI] at h; exact h.elim
    | some I =>
      rw [hI] at h
      obtain ⟨sz, e1, h1, h2, h3, h4, h5, h6⟩ := siOf_some hI
      rw [actC_buildSlice]
      refine buildSlice_k h1 h2 h3 h5 h6 ?_
      rw [← e1]; exact h
  | build t1 parts =>
    simp only [actW] at h
    cases hI : tiOf P t1 with
    | none => rw [hI] at h; exact h.elim
    | some I =>
      rw [hI] at h
      obtain ⟨fs, h1, h2, h3, h4, h5⟩ := tiOf_some hI
      rw [actC_build]
      refine build_k h1 h3 ⟨h4, h5⟩ ?_
      rw [← h2]; exact h
  | load t1 x =>
    simp only [actW] at h
    rw [actC_load]
    unfold loadK at h
    split at h
    · rename_i κ ver sz i off hx
      rw [hx]
      split at h
      · rename_i s ha hs; exact load_paB ha hs h
      · rename_i s ha hs; exact load_paA ha h
      · exact h.elim
    · exact h
  | slice t1 x lo hi mx =>
    simp only [actW] at h
    rw [actC_slice]
    unfold sliceK at h
    split at h
    · rename_i k ver sz n hx
      cases hI : siOf P t1 with
      | none => rw [hI] at h; exact h.elim
      | some I =>
        rw [hI] at h
        obtain ⟨sz', e1, h1, h2, h3, h4, h5, h6⟩ := siOf_some hI
        obtain ⟨rfl, h⟩ := h
        rw [hx]
        exact cut_ow_k h1 (by rw [h2, e1]) h
    · exact h
  | call c =>
    simp only [actW, callW] at h
    split at h
    · rename_i x y t1 t2 hc ha hts
      obtain ⟨callee, args, ats⟩ := c
      simp only at hc ha hts
      subst hc
      obtain ⟨args⟩ := args
      obtain ⟨ats⟩ := ats
      simp only at ha hts
      subst ha; subst hts
      cases hI : siOf P t1 with
      | none => rw [hI] at h; exact h.elim
      | some I =>
        rw [hI] at h
        obtain ⟨sz, e1, h1, h2, h3, h4, h5, h6⟩ := siOf_some hI
        cases hS : strFlag P t1 t2 with
        | none => rw [hS] at h; exact h.elim
        | some s =>
          rw [hS] at h
          rw [actC_builtin]
          refine app_k h1 h2 h4 (by rw [h3]; simp [h5]) (str := s) ?_ ?_
          · unfold strFlag at hS
            split at hS
            · rename_i h7; simp only [Option.some.injEq] at hS; exact .inl ⟨hS.symm, h7⟩
            · split at hS
              · rename_i h7; simp only [Option.some.injEq] at hS; exact .inr ⟨hS.symm, h7⟩
              · cases hS
          · rw [← e1]; exact h
    · rename_i x y hc ha
      obtain ⟨callee, args, ats⟩ := c
      simp only at hc ha
      subst hc
      obtain ⟨args⟩ := args
      simp only at ha
      subst ha
      rw [actC_builtin]
      unfold max2K at h
      split at h
      · rename_i k a k' b hx hy
        simp only [builtinS, hx, hy, max2S, onM, true_and]
        rw [show (if b > a then b else a) = max a b by split <;> omega]
        exact h
      · exact h.elim
    · rename_i x y hc ha
      obtain ⟨callee, args, ats⟩ := c
      simp only at hc ha
      subst hc
      obtain ⟨args⟩ := args
      simp only at ha
      subst ha
      rw [actC_builtin]
      unfold min2K at h
      split at h
      · rename_i k a k' b hx hy
        simp only [builtinS, hx, hy, min2S, onM, true_and]
        rw [show (if b < a then b else a) = min a b by split <;> omega]
        exact h
      · exact h.elim
    · exact h
  | _ => exact h
end
end Go.Abs
