/- Words for computing: memory of the call's own. -/
import Derived.Test.YtcaokibfjjoimaaAEvCall
namespace Go.Abs
open Go.RowKit
set_option linter.unusedVariables false
set_option linter.unusedSimpArgs false

section
variable {P : Program} {nx : Nat} {q : Bool} {K : AV → Mem → Prop} {KM : Mem → Prop} {t : Nat → AV} {m : Mem} {d : Option Nat} {ty t1 e : TypeId} {pos : String} {af : Array Edge} {g : Option (Nat × Bool)} {x y : Operand}

theorem gone_cases {κ : Nat} {p r : Prop} (h : m κ ≠ .gone → p = False) (h2 : m κ = .gone → p = r) : p = (m κ = .gone ∧ r) := by
  by_cases hm : m κ = .gone
  · rw [h2 hm]; simp [hm]
  · rw [h hm]; simp [hm]

theorem make_i {sz by_ : Nat} {z : List Value} (ht : P.underlying t1 = some (.slice e)) (hs : szT P e = some (sz + 1)) (hz : zeroVals P e = some z) (hb : (P.info? e).map (·.bytes) = some by_) (hz1 : z.length = sz + 1) (hz2 : z.all (·.oneCell') = true)
    {k k' : IntKind} {n n' : Int} (hx : (⟨t, m⟩ : St).ev x = .at (.v (.int k n))) (hy : (⟨t, m⟩ : St).ev y = .at (.v (.int k' n'))) :
    onM (opS P nx q ⟨d, .makeSlice t1 x y, ty, pos, af, g⟩ ⟨t, m⟩) K = (m (siteOf d) = .gone ∧ (nx ≤ siteOf d ∧ n = n' ∧ 0 ≤ n ∧ n ≤ 4611686018427387904 ∧ by_ * n ≤ 281474976710656) ∧ K (.at (.ow (siteOf d) 0 (sz + 1) n.toNat)) (upd m (siteOf d) (.arr 0 (sz + 1) (List.replicate n.toNat z)))) := by
  refine gone_cases (r := _ ∧ _) (fun h => ?_) (fun h => ?_)
  · simp only [opS, ht, hx, hy, hs, hz, hb]
    cases hm : m (siteOf d) <;> simp_all [onM]
  · simp only [opS, ht, hx, hy, hs, hz, hb, h, hz1, hz2, and_self, if_true, onM]

theorem alloc_i {as : List A} (hz : zeroAtoms P t1 = some as) (hs : as.all A.solid = true) :
    onM (opS P nx q ⟨d, .alloc t1, ty, pos, af, g⟩ ⟨t, m⟩) K = (m (siteOf d) = .gone ∧ nx ≤ siteOf d ∧ K (.at (.bx (siteOf d) 0 0)) (upd m (siteOf d) (.box 0 as))) := by
  refine gone_cases (r := _ ∧ _) (fun h => ?_) (fun h => ?_)
  · simp only [opS, hz]
    cases hm : m (siteOf d) <;> simp_all [onM]
  · simp only [opS, hz, h, hs, if_true, onM]

theorem box_i {as : List A} (hx : atomsOf ((⟨t, m⟩ : St).ev x) = some as) :
    onM (opS P nx q ⟨d, .box t1 x, ty, pos, af, g⟩ ⟨t, m⟩) K = (m (siteOf d) = .gone ∧ nx ≤ siteOf d ∧ K (.at (.bx (siteOf d) 0 0)) (upd m (siteOf d) (.box 0 as))) := by
  refine gone_cases (r := _ ∧ _) (fun h => ?_) (fun h => ?_)
  · simp only [opS, hx]
    cases hm : m (siteOf d) <;> simp_all [onM]
  · simp only [opS, hx, h, onM]

theorem build_i {parts : Array (Nat × Operand)} {fs : Array Field} {as cs : List A} (ht : P.underlying t1 = some (.struct fs)) (hz : zeroAtoms P t1 = some as) (hs : as.all A.solid = true ∧ fs.toList.all (fun (fd : Field) => (szT P fd.type).isSome) = true)
    (hf : fillS fs.toList P ⟨t, m⟩ parts.toList as = some cs) : onM (opS P nx q ⟨d, .build t1 parts, ty, pos, af, g⟩ ⟨t, m⟩) K = K (.ag cs) m := by
  simp only [opS, ht, hz, hs, hf, and_self, if_true, onM, true_and]

theorem buildSlice_i {len sz : Nat} {parts : Array (Nat × Operand)} {z : List Value} {rows : List (List Value)} (ht : P.underlying t1 = some (.slice e)) (hs : szT P e = some (sz + 1)) (hz : zeroVals P e = some z)
    (hz1 : z.length = sz + 1) (hz2 : z.all (·.oneCell') = true) (hl : len * (sz + 1) ≤ 16777216) (hf : fillRows ⟨t, m⟩ (sz + 1) parts.toList (List.replicate len z) = some rows) :
    onM (opS P nx q ⟨d, .buildSlice t1 len parts, ty, pos, af, g⟩ ⟨t, m⟩) K = (m (siteOf d) = .gone ∧ nx ≤ siteOf d ∧ K (.at (.ow (siteOf d) 0 (sz + 1) len)) (upd m (siteOf d) (.arr 0 (sz + 1) rows))) := by
  refine gone_cases (r := _ ∧ _) (fun h => ?_) (fun h => ?_)
  · simp only [opS, ht, hs, hz]
    cases hm : m (siteOf d) <;> simp_all [onM]
  · simp only [opS, ht, hs, hz, h, hz1, hz2, hl, and_self, if_true, hf, onM]

theorem extract_i {i : Nat} {xs : List AV} {v : AV} (hx : (⟨t, m⟩ : St).ev x = .tp xs) (hv : xs[i]? = some v) : onM (opS P nx q ⟨d, .extract x i, ty, pos, af, g⟩ ⟨t, m⟩) K = K v m := by
  simp only [opS, hx, hv, onM, true_and]

/-- Stores. -/
theorem store_pa {κ ver sz i off s : Nat} {rows : List (List Value)} {X : AV} {us : List Value} (hm : m κ = .arr ver sz rows) (hX : (atomsOf X).bind valsOf = some us) (hs : szT P t1 = some s) (hl : us.length = s) :
    onR (storeS P t1 m (.at (.pa κ ver sz i off)) X) KM = ((i < rows.length ∧ off + s ≤ sz) ∧ KM (upd m κ (.arr ver sz (rows.set i (splice (rows.getD i []) off us))))) := by
  simp only [storeS, hm, hX, hs, hl, and_self, if_true, onR]
theorem store_bx {κ ver off s : Nat} {cells as : List A} {X : AV} (hm : m κ = .box ver cells) (hX : atomsOf X = some as) (hs : szT P t1 = some s) (hl : as.length = s) :
    onR (storeS P t1 m (.at (.bx κ ver off)) X) KM = (off + s ≤ cells.length ∧ KM (upd m κ (.box ver (splice cells off as)))) := by
  simp only [storeS, hm, hX, hs, hl, and_self, if_true, onR]
theorem load_bx1 {κ ver off : Nat} {cells : List A} {a : A} {K : AV → Prop} (h : aggT P t1 = some false) (hm : m κ = .box ver cells) (ha : cells[off]? = some a) : onR (loadS P t1 m (.at (.bx κ ver off))) K = K (.at a) := by
  simp only [loadS, hm, if_true, h, ha, onR, true_and]
theorem load_bxN {κ ver off s : Nat} {cells : List A} {K : AV → Prop} (h : aggT P t1 = some true) (hs : szT P t1 = some s) (hm : m κ = .box ver cells) : onR (loadS P t1 m (.at (.bx κ ver off))) K = (off + s ≤ cells.length ∧ K (.ag ((cells.drop off).take s))) := by
  simp only [loadS, hm, if_true, h, hs, onR]
theorem field_1 {fs : Array Field} {f : Nat} {fd : Field} {cs : List A} {a : A} {K : AV → Prop} (ht : P.underlying t1 = some (.struct fs)) (hf : fs[f]? = some fd) (h : aggT P fd.type = some false) (ha : cs[fd.offset]? = some a) : onR (fieldS P t1 f (.ag cs)) K = K (.at a) := by
  simp only [fieldS, ht, hf, h, ha, onR, true_and]
theorem field_N {fs : Array Field} {f n : Nat} {fd : Field} {cs : List A} {K : AV → Prop} (ht : P.underlying t1 = some (.struct fs)) (hf : fs[f]? = some fd) (h : aggT P fd.type = some true) (hs : szT P fd.type = some n) : onR (fieldS P t1 f (.ag cs)) K = (fd.offset + n ≤ cs.length ∧ K (.ag ((cs.drop fd.offset).take n))) := by
  simp only [fieldS, ht, hf, h, hs, onR]


theorem actC_boxK {K : St → Prop} : actC P nx q ⟨d, .box t1 x, ty, pos, af, g⟩ K ⟨t, m⟩ = onO (atomsOf ((⟨t, m⟩ : St).ev x)) fun cells => m (siteOf d) = .gone ∧ nx ≤ siteOf d ∧ K ⟨putD t d (.at (.bx (siteOf d) 0 0)), upd m (siteOf d) (.box 0 cells)⟩ := by
  rw [actC_box]
  cases h : atomsOf ((⟨t, m⟩ : St).ev x) with
  | none =>
    simp only [opS, h, onO]
    cases hm : m (siteOf d) <;> simp [onM]
  | some cells => rw [box_i h]; rfl
theorem actC_allocK {K : St → Prop} : actC P nx q ⟨d, .alloc t1, ty, pos, af, g⟩ K ⟨t, m⟩ = onO (zeroAtoms P t1) fun cells => cells.all A.solid = true ∧ m (siteOf d) = .gone ∧ nx ≤ siteOf d ∧ K ⟨putD t d (.at (.bx (siteOf d) 0 0)), upd m (siteOf d) (.box 0 cells)⟩ := by
  rw [actC_alloc]
  cases h : zeroAtoms P t1 with
  | none =>
    simp only [opS, h, onO]
    cases hm : m (siteOf d) <;> simp [onM]
  | some cells =>
    by_cases hs : cells.all A.solid = true
    · rw [alloc_i h hs]; simp only [onO, hs, true_and]
    · simp only [opS, h, onO]
      have hs' : cells.all A.solid = false := by simpa using hs
      cases hm : m (siteOf d) <;> simp only [onM, hs', Bool.false_eq_true, if_false, false_and]

theorem siteOf_some {k : Nat} : siteOf (some k) = 1000 + 16 * k := rfl
theorem siteOf_none : siteOf none = 1000 := rfl
theorem ofM_zero {b k : Nat} : ofM 0 b [] [] k = .gone := by simp [ofM]
theorem ofM_one {b : Nat} {e : Ent} : ofM 0 b [] [e] = upd (ofM 0 b [] []) b e := by
  funext k
  rw [upd_at, ofM_zero]
  unfold ofM
  rw [if_neg (by omega)]
  by_cases h : k = b
  · subst h; simp
  · rw [if_neg h]
    split
    · obtain ⟨j, hj⟩ : ∃ j, k - b = j + 1 := ⟨k - b - 1, by omega⟩
      rw [hj]; rfl
    · rfl
theorem atoms_ag {cells : List A} : atomsOf (.ag cells) = some cells := rfl
theorem atoms_v {v : Value} : atomsOf (.at (.v v)) = some [.v v] := rfl
theorem atoms_im {sz : Nat} {rows : List (List Value)} : atomsOf (.at (.im sz rows)) = some [.im sz rows] := rfl
theorem atoms_nil : atomsOf (.at .nil) = some [.nil] := rfl
theorem atoms_ow {k v sz n : Nat} : atomsOf (.at (.ow k v sz n)) = some [.ow k v sz n] := rfl
theorem solid_v {v : Value} : A.solid (.v v) = true := rfl
theorem solid_nil : A.solid .nil = true := rfl

theorem vals_nil : valsOf [] = some [] := rfl
theorem vals_cons {v : Value} {cells : List A} : valsOf (.v v :: cells) = (valsOf cells).map (v :: ·) := rfl

/-- Loads and stores of a box, told so that they go by the memory's own words. -/
def boxAt (e : Ent) (ver : Nat) (K : List A → Prop) : Prop :=
  match e with
  | .box ver' cells => ver = ver' ∧ K cells
  | _ => False
theorem boxAt_box {ver ver' : Nat} {cells : List A} {K : List A → Prop} : boxAt (.box ver' cells) ver K = (ver = ver' ∧ K cells) := rfl
theorem load_bxK1 {κ ver off : Nat} {K : AV → Prop} (h : aggT P t1 = some false) : onR (loadS P t1 m (.at (.bx κ ver off))) K = boxAt (m κ) ver fun cells => onO cells[off]? fun a => K (.at a) := by
  cases hm : m κ with
  | box ver' cells =>
    by_cases hv : ver = ver'
    · subst hv
      cases ha : cells[off]? <;> simp [loadS, hm, onR, boxAt, onO, h, ha]
    · simp [loadS, hm, onR, boxAt, hv]
  | _ => simp [loadS, hm, onR, boxAt]
theorem load_bxKN {κ ver off s : Nat} {K : AV → Prop} (h : aggT P t1 = some true) (hs : szT P t1 = some s) : onR (loadS P t1 m (.at (.bx κ ver off))) K = boxAt (m κ) ver fun cells => off + s ≤ cells.length ∧ K (.ag ((cells.drop off).take s)) := by
  cases hm : m κ with
  | box ver' cells =>
    by_cases hv : ver = ver'
    · subst hv
      simp [loadS, hm, onR, boxAt, h, hs]
    · simp [loadS, hm, onR, boxAt, hv]
  | _ => simp [loadS, hm, onR, boxAt]
theorem store_bxK {κ ver off s : Nat} {X : AV} (hs : szT P t1 = some s) : onR (storeS P t1 m (.at (.bx κ ver off)) X) KM = boxAt (m κ) ver fun cells => onO (atomsOf X) fun new => new.length = s ∧ off + s ≤ cells.length ∧ KM (upd m κ (.box ver (splice cells off new))) := by
  cases hm : m κ with
  | box ver' cells =>
    cases hX : atomsOf X with
    | none => simp [storeS, hm, hX, onR, onO, boxAt]
    | some new =>
      by_cases hv : ver = ver'
      · subst hv
        by_cases hl : new.length = s
        · simp [storeS, hm, hX, onR, onO, boxAt, hs, hl]
        · simp [storeS, hm, hX, onR, onO, boxAt, hs, hl]
      · simp [storeS, hm, hX, onR, onO, boxAt, hs, hv]
  | _ => simp [storeS, hm, onR, boxAt]

/-- An array of our own, by the memory's own words. -/
def arrAt (e : Ent) (ver sz : Nat) (K : List (List Value) → Prop) : Prop :=
  match e with
  | .arr ver' sz' rows => (ver = ver' ∧ sz = sz') ∧ K rows
  | _ => False
theorem arrAt_arr {ver ver' sz sz' : Nat} {rows : List (List Value)} {K : List (List Value) → Prop} : arrAt (.arr ver' sz' rows) ver sz K = ((ver = ver' ∧ sz = sz') ∧ K rows) := rfl
theorem store_paK {κ ver sz i off s : Nat} {X : AV} (hs : szT P t1 = some s) : onR (storeS P t1 m (.at (.pa κ ver sz i off)) X) KM =
    arrAt (m κ) ver sz fun rows => onO ((atomsOf X).bind valsOf) fun us => us.length = s ∧ (i < rows.length ∧ off + s ≤ sz) ∧ KM (upd m κ (.arr ver sz (rows.set i (splice (rows.getD i []) off us)))) := by
  cases hm : m κ with
  | arr ver' sz' rows =>
    cases hX : (atomsOf X).bind valsOf with
    | none => simp [storeS, hm, hX, onR, onO, arrAt]
    | some us =>
      by_cases hv : ver = ver' ∧ sz = sz'
      · obtain ⟨rfl, rfl⟩ := hv
        by_cases hl : us.length = s
        · simp [storeS, hm, hX, onR, onO, arrAt, hs, hl]
        · simp [storeS, hm, hX, onR, onO, arrAt, hs, hl]
      · simp only [storeS, hm, hX, onR, onO, arrAt, hs, hv, false_and]
        rw [if_neg (fun h => hv ⟨h.1, h.2.1⟩)]
  | _ => simp [storeS, hm, onR, arrAt]
theorem load_paK1 {κ ver sz i off : Nat} {K : AV → Prop} (h : aggT P t1 = some false) (hm : ∃ rows, m κ = .arr ver sz rows) : onR (loadS P t1 m (.at (.pa κ ver sz i off))) K = arrAt (m κ) ver sz fun rows => (i < rows.length ∧ off < sz) ∧ ∀ r, rows[i]? = some r → K (.at (.v (r.getD off undef))) := by
  obtain ⟨rows, hm⟩ := hm
  rw [load_pa1 h hm, hm]
  simp [arrAt]
end
attribute [go_sem] vals_nil vals_cons Option.map_some List.getElem?_cons_zero List.getElem?_cons_succ List.take_succ_cons List.take_zero List.cons_append List.nil_append splice List.map_cons List.map_nil arrAt_arr actC_boxK actC_allocK siteOf_some siteOf_none ofM_zero ofM_one atoms_ag atoms_v atoms_im atoms_nil atoms_ow solid_v solid_nil boxAt_box List.all_cons List.all_nil Bool.and_self
end Go.Abs
