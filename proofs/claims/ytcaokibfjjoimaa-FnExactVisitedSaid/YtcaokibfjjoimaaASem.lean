/- The words by which a simplifier walks. -/
import Derived.Test.YtcaokibfjjoimaaAEnds
namespace Go.Abs
open Go.RowKit
set_option linter.unusedVariables false
set_option linter.unusedSimpArgs false

/-- A thing that is still to be computed. -/
def todo {β : Type} (x : β) : β := x
theorem todo_eq {β : Type} {x : β} : todo x = x := by simp only [todo]
/-- A thing that is computed first. -/
def evK {β : Type} (x : β) (K : β → Prop) : Prop := K x
theorem evK_eq {β : Type} {x : β} {K : β → Prop} : evK x K = K x := rfl

/-! ### Only what decides is looked at: the rest waits. -/
section
theorem evK_congr {β : Type} {x y : β} {K : β → Prop} (h : x = y) : evK x K = evK y K := by rw [h]
theorem onR_congr {β : Type} {r s : Option (β × Prop)} {K : β → Prop} (h : r = s) : onR r K = onR s K := by rw [h]
theorem onO_congr {β : Type} {r s : Option β} {K : β → Prop} (h : r = s) : onO r K = onO s K := by rw [h]
theorem onM_congr {r s : Option (AV × Mem × Prop)} {K : AV → Mem → Prop} (h : r = s) : onM r K = onM s K := by rw [h]
theorem boxAt_congr {e e' : Ent} {ver : Nat} {K : List A → Prop} (h : e = e') : boxAt e ver K = boxAt e' ver K := by rw [h]
theorem arrAt_congr {e e' : Ent} {ver sz : Nat} {K : List (List Value) → Prop} (h : e = e') : arrAt e ver sz K = arrAt e' ver sz K := by rw [h]
theorem rowAt_congr {e e' : Ent} {ver sz i i' : Nat} {K : List Value → Prop} (h : e = e') (hi : i = i') : rowAt e ver sz i K = rowAt e' ver sz i' K := by rw [h, hi]
theorem condK_congr {x y : AV} {K1 K2 : Prop} (h : x = y) : condK x K1 K2 = condK y K1 K2 := by rw [h]
theorem guardK_congr {x y : AV} {want : Bool} {K1 K2 K3 : Prop} (h : x = y) : guardK x want K1 K2 K3 = guardK y want K1 K2 K3 := by rw [h]
theorem pickK_congr {c c' a a' b b' : AV} {K : AV → Prop} (h : c = c') (h1 : a = a') (h2 : b = b') : pickK c a b K = pickK c' a' b' K := by rw [h, h1, h2]
theorem exK_congr {x y : AV} {i : Nat} {K : AV → Prop} (h : x = y) : exK x i K = exK y i K := by rw [h]
theorem makeK_congr {sz by_ nx site : Nat} {z : List Value} {m : Mem} {X X' Y Y' : AV} {K : AV → Mem → Prop} (h : X = X') (h1 : Y = Y') : makeK sz by_ nx site z m X Y K = makeK sz by_ nx site z m X' Y' K := by rw [h, h1]
theorem max2K_congr {X X' Y Y' : AV} {K : AV → Prop} (h : X = X') (h1 : Y = Y') : max2K X Y K = max2K X' Y' K := by rw [h, h1]
theorem min2K_congr {X X' Y Y' : AV} {K : AV → Prop} (h : X = X') (h1 : Y = Y') : min2K X Y K = min2K X' Y' K := by rw [h, h1]
theorem appK_congr {κ nx sz by_ : Nat} {m : Mem} {X X' : AV} {n n' : Option (List (List Value))} {K : AV → Mem → Prop} (h : X = X') (h1 : n = n') : appK κ nx sz by_ m X n K = appK κ nx sz by_ m X' n' K := by rw [h, h1]
theorem loadK_congr {P : Program} {t1 : TypeId} {m : Mem} {X X' : AV} {K : AV → Prop} (h : X = X') : loadK P t1 m X K = loadK P t1 m X' K := by rw [h]
theorem sliceK_congr {P : Program} {nx : Nat} {q : Bool} {t1 : TypeId} {σ : St} {X X' : AV} {lo hi mx : Option Operand} {K : AV → Mem → Prop} (h : X = X') : sliceK P nx q t1 σ X lo hi mx K = sliceK P nx q t1 σ X' lo hi mx K := by rw [h]
theorem nilK_congr {x y : AV} {a b : Prop} (h : x = y) : nilK x a b = nilK y a b := by rw [h]
theorem callC_congr {P : Program} {nx : Nat} {f : FuncId} {avs avs' : List AV} {d : Option Nat} {K : St → Prop} {σ : St} (h : avs = avs') : callC P nx f avs d K σ = callC P nx f avs' d K σ := by rw [h]
theorem drawnK_congr {ops ops' : Array Oper} {R : Bool → Prop} (h : ops = ops') : drawnK ops R = drawnK ops' R := by rw [h]
theorem callU_congr {P : Program} {nx : Nat} {f : FuncId} {avs avs' : List AV} {d : Option Nat} {K : St → Prop} {σ : St} (h : avs = avs') : callU P nx f avs d K σ = callU P nx f avs' d K σ := by rw [h]
theorem callQ_congr {P : Program} {nx : Nat} {f : FuncId} {avs avs' : List AV} {d : Option Nat} {K : St → Prop} {σ : St} (h : avs = avs') : callQ P nx f avs d K σ = callQ P nx f avs' d K σ := by rw [h]
theorem T_congr {P : Program} {nx nt nt' : Nat} {c : Code} {Q : Post} {σ : St} (h : nt = nt') : T P nx nt c Q σ = T P nx nt' c Q σ := by rw [h]
end

section
variable {P : Program} {nx : Nat} {q : Bool} {K : St → Prop} {t : Nat → AV} {m : Mem} {d : Option Nat} {ty t1 t2 e : TypeId} {pos : String} {af : Array Edge} {g : Option (Nat × Bool)} {x y : Operand}

theorem actW_move : actW P nx q ⟨d, .move x, ty, pos, af, g⟩ K ⟨t, m⟩ = evK (todo ((⟨t, m⟩ : St).ev x)) fun v => K ⟨putD t d v, m⟩ := actC_move (P := P) (nx := nx) (quiet := q) (K := K) (t := t) (m := m)
theorem actW_assign : actW P nx q ⟨d, .assign x, ty, pos, af, g⟩ K ⟨t, m⟩ = evK (todo ((⟨t, m⟩ : St).ev x)) fun v => K ⟨putD t d v, m⟩ := actC_assign (P := P) (nx := nx) (quiet := q) (K := K) (t := t) (m := m)
theorem actW_pick {c a b : Operand} : actW P nx q ⟨d, .pick c a b, ty, pos, af, g⟩ K ⟨t, m⟩ = pickK (todo ((⟨t, m⟩ : St).ev c)) ((⟨t, m⟩ : St).ev a) ((⟨t, m⟩ : St).ev b) fun v => K ⟨putD t d v, m⟩ := actC_pick (P := P) (nx := nx) (q := q) (K := K) (t := t) (m := m)
theorem actW_bin {o1 : BinOp} : actW P nx q ⟨d, .binOp o1 t1 x y t2, ty, pos, af, g⟩ K ⟨t, m⟩ = (onR (todo (binS P o1 t1 ((⟨t, m⟩ : St).ev x) ((⟨t, m⟩ : St).ev y))) fun v => K ⟨putD t d (.at (.v v)), m⟩) := actC_bin (P := P) (nx := nx) (quiet := q) (K := K) (t := t) (m := m)
theorem actW_un {o1 : UnOp} : actW P nx q ⟨d, .unOp o1 t1 x, ty, pos, af, g⟩ K ⟨t, m⟩ = (onO (todo (unS o1 ((⟨t, m⟩ : St).ev x))) fun v => K ⟨putD t d (.at (.v v)), m⟩) := actC_un (P := P) (nx := nx) (quiet := q) (K := K) (t := t) (m := m)
theorem actW_conv : actW P nx q ⟨d, .convert t1 t2 x, ty, pos, af, g⟩ K ⟨t, m⟩ = (onO (todo (convS P t1 t2 ((⟨t, m⟩ : St).ev x))) fun v => K ⟨putD t d (.at (.v v)), m⟩) := actC_conv (P := P) (nx := nx) (quiet := q) (K := K) (t := t) (m := m)
theorem actW_load : actW P nx q ⟨d, .load t1 x, ty, pos, af, g⟩ K ⟨t, m⟩ = loadK P t1 m (todo ((⟨t, m⟩ : St).ev x)) fun v => K ⟨putD t d v, m⟩ := rfl
theorem actW_store : actW P nx q ⟨d, .store t1 x y, ty, pos, af, g⟩ K ⟨t, m⟩ = (onR (todo (storeS P t1 m ((⟨t, m⟩ : St).ev x) ((⟨t, m⟩ : St).ev y))) fun m1 => K ⟨putD t d (.at .dead), m1⟩) := actC_store (P := P) (nx := nx) (quiet := q) (K := K) (t := t) (m := m)
theorem actW_fieldAddr {f : Nat} : actW P nx q ⟨d, .fieldAddr t1 x f, ty, pos, af, g⟩ K ⟨t, m⟩ = (onO (todo (fieldAddrS P t1 f ((⟨t, m⟩ : St).ev x))) fun v => K ⟨putD t d v, m⟩) := actC_fieldAddr (P := P) (nx := nx) (quiet := q) (K := K) (t := t) (m := m)
theorem actW_field {f : Nat} : actW P nx q ⟨d, .field t1 x f, ty, pos, af, g⟩ K ⟨t, m⟩ = (onR (todo (fieldS P t1 f ((⟨t, m⟩ : St).ev x))) fun v => K ⟨putD t d v, m⟩) := actC_field (P := P) (nx := nx) (quiet := q) (K := K) (t := t) (m := m)
theorem actW_indexAddr : actW P nx q ⟨d, .indexAddr t1 x y, ty, pos, af, g⟩ K ⟨t, m⟩ = (onR (todo (indexAddrS P t1 ((⟨t, m⟩ : St).ev x) ((⟨t, m⟩ : St).ev y))) fun v => K ⟨putD t d v, m⟩) := actC_indexAddr (P := P) (nx := nx) (quiet := q) (K := K) (t := t) (m := m)
theorem actW_index : actW P nx q ⟨d, .index t1 x y, ty, pos, af, g⟩ K ⟨t, m⟩ = (onR (todo (indexS P t1 ((⟨t, m⟩ : St).ev x) ((⟨t, m⟩ : St).ev y))) fun v => K ⟨putD t d v, m⟩) := actC_index (P := P) (nx := nx) (quiet := q) (K := K) (t := t) (m := m)
theorem actW_slice {lo hi mx : Option Operand} : actW P nx q ⟨d, .slice t1 x lo hi mx, ty, pos, af, g⟩ K ⟨t, m⟩ = sliceK P nx q t1 ⟨t, m⟩ (todo ((⟨t, m⟩ : St).ev x)) lo hi mx fun v m1 => K ⟨putD t d v, m1⟩ := rfl
theorem actW_box : actW P nx q ⟨d, .box t1 x, ty, pos, af, g⟩ K ⟨t, m⟩ = onO (todo (atomsOf ((⟨t, m⟩ : St).ev x))) fun cells => evK (todo (siteOf d)) fun s => m s = .gone ∧ nx ≤ s ∧ K ⟨putD t d (.at (.bx s 0 0)), upd m s (.box 0 cells)⟩ := actC_boxK (P := P) (nx := nx) (q := q) (K := K) (t := t) (m := m)
theorem actW_alloc : actW P nx q ⟨d, .alloc t1, ty, pos, af, g⟩ K ⟨t, m⟩ = onO (todo (zeroAtoms P t1)) fun cells => evK (todo (siteOf d)) fun s => cells.all A.solid = true ∧ m s = .gone ∧ nx ≤ s ∧ K ⟨putD t d (.at (.bx s 0 0)), upd m s (.box 0 cells)⟩ := actC_allocK (P := P) (nx := nx) (q := q) (K := K) (t := t) (m := m)
theorem actW_extract {i : Nat} : actW P nx q ⟨d, .extract x i, ty, pos, af, g⟩ K ⟨t, m⟩ = exK (todo ((⟨t, m⟩ : St).ev x)) i fun v => K ⟨putD t d v, m⟩ := by
  exact (actC_extract (P := P) (nx := nx) (quiet := q) (K := K) (t := t) (m := m)).trans extract_k
theorem actW_build {parts : Array (Nat × Operand)} : actW P nx q ⟨d, .build t1 parts, ty, pos, af, g⟩ K ⟨t, m⟩ = onO (todo (tiOf P t1)) fun I => evK (todo parts.toList) fun ps => evK (todo I.z) fun z => fillSK P ⟨t, m⟩ I.fs ps z fun cs => K ⟨putD t d (.ag cs), m⟩ := rfl
theorem actW_buildSlice {len : Nat} {parts : Array (Nat × Operand)} : actW P nx q ⟨d, .buildSlice t1 len parts, ty, pos, af, g⟩ K ⟨t, m⟩ = onO (todo (siOf P t1)) fun I => len * I.sz ≤ 16777216 ∧ evK (todo parts.toList) fun ps => evK (todo (List.replicate len I.z)) fun z => evK (todo I.sz) fun sz => fillRK ⟨t, m⟩ sz ps z fun rows => evK (todo (siteOf d)) fun s => evK (todo rows) fun rows => m s = .gone ∧ nx ≤ s ∧ K ⟨putD t d (.at (.ow s 0 sz len)), upd m s (.arr 0 sz rows)⟩ := rfl
theorem actW_make : actW P nx q ⟨d, .makeSlice t1 x y, ty, pos, af, g⟩ K ⟨t, m⟩ = onO (todo (siOf P t1)) fun I => evK (todo (siteOf d)) fun s => makeK I.sz I.by_ nx s I.z m (todo ((⟨t, m⟩ : St).ev x)) ((⟨t, m⟩ : St).ev y) fun v m1 => K ⟨putD t d v, m1⟩ := rfl
theorem actW_len : actW P nx q ⟨d, .call { callee := .builtin .len, args := #[x], argTypes := #[t1] }, ty, pos, af, g⟩ K ⟨t, m⟩ = onO (todo (lenS P t1 ((⟨t, m⟩ : St).ev x))) fun v => K ⟨putD t d (.at (.v v)), m⟩ := by
  exact (actC_builtin (P := P) (nx := nx) (quiet := q) (K := K) (t := t) (m := m)).trans len_call
theorem actW_append : actW P nx q ⟨d, .call { callee := .builtin .append, args := #[x, y], argTypes := #[t1, t2] }, ty, pos, af, g⟩ K ⟨t, m⟩ =
    onO (siOf P t1) fun I => onO (strFlag P t1 t2) fun b => evK (siteOf d) fun s => appK s nx I.sz I.by_ m ((⟨t, m⟩ : St).ev x) (newsK b I.sz m ((⟨t, m⟩ : St).ev y)) fun v m1 => K ⟨putD t d v, m1⟩ := rfl
theorem actW_max {ts : Array TypeId} : actW P nx q ⟨d, .call { callee := .builtin .max, args := #[x, y], argTypes := ts }, ty, pos, af, g⟩ K ⟨t, m⟩ = max2K (todo ((⟨t, m⟩ : St).ev x)) ((⟨t, m⟩ : St).ev y) fun v => K ⟨putD t d v, m⟩ := by
  obtain ⟨ts⟩ := ts
  rcases ts with _ | ⟨a, _ | ⟨b, _ | ⟨c, l⟩⟩⟩ <;> rfl
theorem actW_min {ts : Array TypeId} : actW P nx q ⟨d, .call { callee := .builtin .min, args := #[x, y], argTypes := ts }, ty, pos, af, g⟩ K ⟨t, m⟩ = min2K (todo ((⟨t, m⟩ : St).ev x)) ((⟨t, m⟩ : St).ev y) fun v => K ⟨putD t d v, m⟩ := by
  obtain ⟨ts⟩ := ts
  rcases ts with _ | ⟨a, _ | ⟨b, _ | ⟨c, l⟩⟩⟩ <;> rfl
theorem actW_call {f : FuncId} {args : Array Operand} {ts : Array TypeId} : actW P nx false ⟨d, .call { callee := .value (.func f), args := args, argTypes := ts }, ty, pos, af, g⟩ K ⟨t, m⟩ = evK (todo (args.toList.map (⟨t, m⟩ : St).ev)) fun avs => callC P nx f (todo avs) d K ⟨t, m⟩ := by
  exact actC_call (P := P) (nx := nx) (K := K) (t := t) (m := m)
theorem actW_callQ {f : FuncId} {args : Array Operand} {ts : Array TypeId} : actW P nx true ⟨d, .call { callee := .value (.func f), args := args, argTypes := ts }, ty, pos, af, g⟩ K ⟨t, m⟩ = evK (todo (args.toList.map (⟨t, m⟩ : St).ev)) fun avs => callQ P nx f (todo avs) d K ⟨t, m⟩ := by
  exact actC_callQ (P := P) (nx := nx) (K := K) (t := t) (m := m)

theorem makeK_ev {sz by_ nx site : Nat} {z : List Value} {k k' : IntKind} {n n' : Int} {K : AV → Mem → Prop} : makeK sz by_ nx site z m (.at (.v (.int k n))) (.at (.v (.int k' n'))) K = evK (todo n.toNat) fun j => m site = .gone ∧ (nx ≤ site ∧ n = n' ∧ 0 ≤ n ∧ n ≤ 4611686018427387904 ∧ (by_ : Int) * n ≤ 281474976710656) ∧ K (.at (.ow site 0 sz j)) (upd m site (.arr 0 sz (List.replicate j z))) := rfl
theorem appK_nil_ev {κ nx sz by_ : Nat} {ns : List (List Value)} {K : AV → Mem → Prop} : appK κ nx sz by_ m (.at .nil) (some ns) K = (m κ = .gone ∧ (nx ≤ κ ∧ Room ns.length by_) ∧ evK (todo ns.length) fun j => K (.at (.ow κ 0 sz j)) (upd m κ (.arr 0 sz ns))) := rfl
theorem appK_ow_ev {κ nx sz by_ k ver sz' n : Nat} {ns : List (List Value)} {K : AV → Mem → Prop} : appK κ nx sz by_ m (.at (.ow k ver sz' n)) (some ns) K = arrAt (todo (m k)) ver sz' fun rows => (sz' = sz ∧ nx ≤ k) ∧ evK (todo (rows.length + ns.length)) fun j => Room j by_ ∧ evK (todo (ver + 1)) fun v => evK (todo (rows ++ ns)) fun rs => K (.at (.ow k v sz j)) (upd m k (.arr v sz rs)) := rfl
theorem fillSK_ev {σ : St} {fs : List Field} {i : Nat} {x : Operand} {rest : List (Nat × Operand)} {cells : List A} {K : List A → Prop} : fillSK P σ fs ((i, x) :: rest) cells K = onO (todo fs[i]?) fun fd => onO (todo (atomsOf (σ.ev x))) fun as => szT P fd.type = some as.length ∧ fd.offset + as.length ≤ cells.length ∧ evK (todo (splice cells fd.offset as)) fun cs => fillSK P σ fs rest cs K := rfl
theorem fillRK_ev {σ : St} {sz i : Nat} {x : Operand} {rest : List (Nat × Operand)} {rows : List (List Value)} {K : List (List Value) → Prop} : fillRK σ sz ((i, x) :: rest) rows K = onO (todo ((atomsOf (σ.ev x)).bind valsOf)) fun us => us.length = sz ∧ i < rows.length ∧ evK (todo (rows.set i us)) fun rs => fillRK σ sz rest rs K := rfl
theorem strFlag_same : strFlag P t1 t1 = some false := by simp [strFlag]
theorem loadK_bx {κ ver off : Nat} {K : AV → Prop} : loadK P t1 m (.at (.bx κ ver off)) K = onR (todo (loadS P t1 m (.at (.bx κ ver off)))) K := rfl
theorem loadK_pi {cs : List Value} {K : AV → Prop} : loadK P t1 m (.at (.pi cs)) K = onR (todo (loadS P t1 m (.at (.pi cs)))) K := rfl
theorem loadK_paA {κ ver sz i off : Nat} {K : AV → Prop} {s : Nat} (h : aggT P t1 = some false) (hs : szT P t1 = some s) : loadK P t1 m (.at (.pa κ ver sz i off)) K = (off < sz ∧ rowAt (todo (m κ)) ver sz i fun r => evK (todo (r.getD off undef)) fun u => K (.at (.v u))) := by
  simp only [loadK, h, hs, evK, todo]
theorem loadK_paB {κ ver sz i off : Nat} {K : AV → Prop} {s : Nat} (h : aggT P t1 = some true) (hs : szT P t1 = some s) : loadK P t1 m (.at (.pa κ ver sz i off)) K = (off + s ≤ sz ∧ rowAt (todo (m κ)) ver sz i fun r => evK (todo (((r.drop off).take s).map A.v)) fun cs => K (.ag cs)) := by
  simp only [loadK, h, hs, evK, todo]
theorem sliceK_ow {σ : St} {k ver sz n : Nat} {lo hi : Option Operand} {K : AV → Mem → Prop} : sliceK P nx false t1 σ (.at (.ow k ver sz n)) lo hi none K = (onO (todo (siOf P t1)) fun I => I.sz = sz ∧ nx ≤ k ∧ onO (todo (boundS σ lo 0)) fun l => onO (todo (boundS σ hi n)) fun h => arrAt (todo (σ.m k)) ver sz fun rows => (0 ≤ l ∧ l ≤ h ∧ h ≤ (n : Int)) ∧ evK (todo (h.toNat - l.toNat)) fun j => evK (todo (ver + 1)) fun v => evK (todo ((rows.drop l.toNat).take j)) fun rs => K (.at (.ow k v sz j)) (upd σ.m k (.arr v sz rs))) := rfl
theorem sliceK_im {σ : St} {sz : Nat} {rows : List (List Value)} {lo hi mx : Option Operand} {K : AV → Mem → Prop} : sliceK P nx q t1 σ (.at (.im sz rows)) lo hi mx K = onM (todo (sliceS P nx q t1 σ (.at (.im sz rows)) lo hi mx)) K := rfl
theorem sliceK_nil {σ : St} {lo hi mx : Option Operand} {K : AV → Mem → Prop} : sliceK P nx q t1 σ (.at .nil) lo hi mx K = onM (todo (sliceS P nx q t1 σ (.at .nil) lo hi mx)) K := rfl
theorem sliceK_v {σ : St} {v : Value} {lo hi mx : Option Operand} {K : AV → Mem → Prop} : sliceK P nx q t1 σ (.at (.v v)) lo hi mx K = onM (todo (sliceS P nx q t1 σ (.at (.v v)) lo hi mx)) K := rfl

theorem field_1K {fs : Array Field} {f : Nat} {fd : Field} {cs : List A} {K : AV → Prop} (ht : P.underlying t1 = some (.struct fs)) (hf : fs[f]? = some fd) (h : aggT P fd.type = some false) : onR (fieldS P t1 f (.ag cs)) K = onO (todo cs[fd.offset]?) fun a => K (.at a) := by
  simp only [fieldS, ht, hf, h, todo]
  cases cs[fd.offset]? <;> simp [onR, onO]

theorem W_regionT {nt id : Nat} {ops : Array Oper} {Q : Post} {σ : St} : W P nx nt (.region id ops false) Q σ = evK (todo ops.toList) fun L => runU P nx nt ops L (Q .normal) σ := W_region
theorem stepU_guardT {nt : Nat} {ops : Array Oper} {op : Op} {j : Nat} {want : Bool} : stepU P nx nt ops ⟨d, op, ty, pos, af, some (j, want)⟩ K ⟨t, m⟩ =
    (dstOk nt d = true ∧ onO (todo ((ops[j]?).bind (·.dst))) fun s => guardK (todo (t s)) want (actU P nx ⟨d, op, ty, pos, af, some (j, want)⟩ K ⟨upd t s (.at (.v (.bool want))), m⟩) (K ⟨putD (upd t s (.at (.v (.bool (!want))))) d (.tp []), m⟩) (K ⟨putD t d (.tp []), m⟩)) := stepU_guard
theorem actU_call {f : FuncId} {args : Array Operand} {ts : Array TypeId} : actU P nx ⟨d, .call { callee := .value (.func f), args := args, argTypes := ts }, ty, pos, af, g⟩ K ⟨t, m⟩ = evK (todo (args.toList.map (⟨t, m⟩ : St).ev)) fun avs => callU P nx f (todo avs) d K ⟨t, m⟩ := rfl
theorem actU_builtin {b : Builtin} {args : Array Operand} {ts : Array TypeId} : actU P nx ⟨d, .call { callee := .builtin b, args := args, argTypes := ts }, ty, pos, af, g⟩ K ⟨t, m⟩ = actW P nx false ⟨d, .call { callee := .builtin b, args := args, argTypes := ts }, ty, pos, af, g⟩ K ⟨t, m⟩ := rfl
theorem actU_move  : actU P nx ⟨d, .move x, ty, pos, af, g⟩ K ⟨t, m⟩ = actW P nx false ⟨d, .move x, ty, pos, af, g⟩ K ⟨t, m⟩ := rfl
theorem actU_assign  : actU P nx ⟨d, .assign x, ty, pos, af, g⟩ K ⟨t, m⟩ = actW P nx false ⟨d, .assign x, ty, pos, af, g⟩ K ⟨t, m⟩ := rfl
theorem actU_bin {o1 : BinOp} : actU P nx ⟨d, .binOp o1 t1 x y t2, ty, pos, af, g⟩ K ⟨t, m⟩ = actW P nx false ⟨d, .binOp o1 t1 x y t2, ty, pos, af, g⟩ K ⟨t, m⟩ := rfl
theorem actU_un {o1 : UnOp} : actU P nx ⟨d, .unOp o1 t1 x, ty, pos, af, g⟩ K ⟨t, m⟩ = actW P nx false ⟨d, .unOp o1 t1 x, ty, pos, af, g⟩ K ⟨t, m⟩ := rfl
theorem actU_conv  : actU P nx ⟨d, .convert t1 t2 x, ty, pos, af, g⟩ K ⟨t, m⟩ = actW P nx false ⟨d, .convert t1 t2 x, ty, pos, af, g⟩ K ⟨t, m⟩ := rfl
theorem actU_load  : actU P nx ⟨d, .load t1 x, ty, pos, af, g⟩ K ⟨t, m⟩ = actW P nx false ⟨d, .load t1 x, ty, pos, af, g⟩ K ⟨t, m⟩ := rfl
theorem actU_store  : actU P nx ⟨d, .store t1 x y, ty, pos, af, g⟩ K ⟨t, m⟩ = actW P nx false ⟨d, .store t1 x y, ty, pos, af, g⟩ K ⟨t, m⟩ := rfl
theorem actU_fieldAddr {f : Nat} : actU P nx ⟨d, .fieldAddr t1 x f, ty, pos, af, g⟩ K ⟨t, m⟩ = actW P nx false ⟨d, .fieldAddr t1 x f, ty, pos, af, g⟩ K ⟨t, m⟩ := rfl
theorem actU_field {f : Nat} : actU P nx ⟨d, .field t1 x f, ty, pos, af, g⟩ K ⟨t, m⟩ = actW P nx false ⟨d, .field t1 x f, ty, pos, af, g⟩ K ⟨t, m⟩ := rfl
theorem actU_indexAddr  : actU P nx ⟨d, .indexAddr t1 x y, ty, pos, af, g⟩ K ⟨t, m⟩ = actW P nx false ⟨d, .indexAddr t1 x y, ty, pos, af, g⟩ K ⟨t, m⟩ := rfl
theorem actU_index  : actU P nx ⟨d, .index t1 x y, ty, pos, af, g⟩ K ⟨t, m⟩ = actW P nx false ⟨d, .index t1 x y, ty, pos, af, g⟩ K ⟨t, m⟩ := rfl
theorem actU_slice {lo hi mx : Option Operand} : actU P nx ⟨d, .slice t1 x lo hi mx, ty, pos, af, g⟩ K ⟨t, m⟩ = actW P nx false ⟨d, .slice t1 x lo hi mx, ty, pos, af, g⟩ K ⟨t, m⟩ := rfl
theorem actU_box  : actU P nx ⟨d, .box t1 x, ty, pos, af, g⟩ K ⟨t, m⟩ = actW P nx false ⟨d, .box t1 x, ty, pos, af, g⟩ K ⟨t, m⟩ := rfl
theorem actU_alloc  : actU P nx ⟨d, .alloc t1, ty, pos, af, g⟩ K ⟨t, m⟩ = actW P nx false ⟨d, .alloc t1, ty, pos, af, g⟩ K ⟨t, m⟩ := rfl
theorem actU_extract {f : Nat} : actU P nx ⟨d, .extract x f, ty, pos, af, g⟩ K ⟨t, m⟩ = actW P nx false ⟨d, .extract x f, ty, pos, af, g⟩ K ⟨t, m⟩ := rfl
theorem actU_build {parts : Array (Nat × Operand)} : actU P nx ⟨d, .build t1 parts, ty, pos, af, g⟩ K ⟨t, m⟩ = actW P nx false ⟨d, .build t1 parts, ty, pos, af, g⟩ K ⟨t, m⟩ := rfl
theorem actU_buildSlice {len : Nat} {parts : Array (Nat × Operand)} : actU P nx ⟨d, .buildSlice t1 len parts, ty, pos, af, g⟩ K ⟨t, m⟩ = actW P nx false ⟨d, .buildSlice t1 len parts, ty, pos, af, g⟩ K ⟨t, m⟩ := rfl
theorem actU_make  : actU P nx ⟨d, .makeSlice t1 x y, ty, pos, af, g⟩ K ⟨t, m⟩ = actW P nx false ⟨d, .makeSlice t1 x y, ty, pos, af, g⟩ K ⟨t, m⟩ := rfl
theorem actU_pick {y2 : Operand} : actU P nx ⟨d, .pick x y y2, ty, pos, af, g⟩ K ⟨t, m⟩ = actW P nx false ⟨d, .pick x y y2, ty, pos, af, g⟩ K ⟨t, m⟩ := rfl
theorem W_loopT {nt : Nat} {x : Code} {Q : Post} {σ : St} : W P nx nt (.loop x) Q σ = T P nx (todo nt) (.loop x) Q σ := W_loop
theorem W_drawnT {nt id : Nat} {ops : Array Oper} {Q : Post} {σ : St} : W P nx nt (.region id ops true) Q σ = drawnK (todo ops) fun q => evK (todo ops.toList) fun L => runG P nx nt q ops L (Q .normal) σ := W_drawn
theorem W_condT {nt : Nat} {c : Operand} {x y : Code} {Q : Post} {σ : St} : W P nx nt (.cond c x y) Q σ = condK (todo (σ.ev c)) (W P nx nt x Q σ) (W P nx nt y Q σ) := W_cond
theorem stepG_guardT {nt : Nat} {quiet : Bool} {ops : Array Oper} {op : Op} {j : Nat} {want : Bool} : stepG P nx nt quiet ops ⟨d, op, ty, pos, af, some (j, want)⟩ K ⟨t, m⟩ =
    (dstOk nt d = true ∧ onO (todo ((ops[j]?).bind (·.dst))) fun s => guardK (todo (t s)) want (actW P nx quiet ⟨d, op, ty, pos, af, some (j, want)⟩ K ⟨upd t s (.at (.v (.bool want))), m⟩) (K ⟨putD (upd t s (.at (.v (.bool (!want))))) d (.tp []), m⟩) (K ⟨putD t d (.tp []), m⟩)) := stepG_guard
theorem thenS_n {K : St → Prop} {Q : Post} {σ : St} : thenS K Q .normal σ = K σ := rfl
theorem thenS_r {K : St → Prop} {Q : Post} {σ : St} : thenS K Q .ret σ = Q .ret σ := rfl
theorem thenS_e {K : St → Prop} {Q : Post} {σ : St} {i : Nat} : thenS K Q (.exit i) σ = Q (.exit i) σ := rfl
theorem blockS_n {Q : Post} {σ : St} {i : Nat} : blockS i Q .normal σ = Q .normal σ := rfl
theorem blockS_r {Q : Post} {σ : St} {i : Nat} : blockS i Q .ret σ = Q .ret σ := rfl
theorem blockS_e {Q : Post} {σ : St} {i j : Nat} : blockS i Q (.exit j) σ = if j = i then Q .normal σ else Q (.exit j) σ := rfl
theorem all_mapK {β γ : Type} {f : β → γ} {l : List β} {j : Nat} {K : γ → Prop} : (∀ r, (l.map f)[j]? = some r → K r) = (∀ x, l[j]? = some x → evK (todo (f x)) K) := all_map

/-! ### Ends -/
theorem finV_ret {k : Nat} {v : Value} : finV k v .ret ⟨t, m⟩ = (t k = .at (.v v)) := rfl
theorem finW_ret {rs : List ResultVar} {res : AV} {ext : List Ent} : finW P nx rs res ext .ret ⟨t, m⟩ = (nx ≤ 1000 ∧ ownNil rs (partsOf res) (fun σ => resC P σ rs fun xs => finX nx σ.m xs res ext (keysT σ.m xs)) ⟨t, m⟩) := rfl
variable {rs : List ResultVar} {ws : List AV} {K1 : St → Prop} {KL : List AV → Prop}
theorem ownNil_fr {k sz : Nat} {rows : List (List Value)} : ownNil (.tmp k :: rs) (.at (.fr sz rows) :: ws) K1 ⟨t, m⟩ = nilK (todo (t k)) (m (500000 + k) = .gone ∧ ownNil rs ws K1 ⟨upd t k (.at (.ow (500000 + k) 0 sz 0)), upd m (500000 + k) (.arr 0 sz [])⟩) (ownNil rs ws K1 ⟨t, m⟩) := rfl
theorem ownNil_v {k : Nat} {v : Value} {σ : St} : ownNil (.tmp k :: rs) (.at (.v v) :: ws) K1 σ = ownNil rs ws K1 σ := rfl
theorem ownNil_im {k sz : Nat} {rows : List (List Value)} {σ : St} : ownNil (.tmp k :: rs) (.at (.im sz rows) :: ws) K1 σ = ownNil rs ws K1 σ := rfl
theorem ownNil_ag {k : Nat} {cs : List A} {σ : St} : ownNil (.tmp k :: rs) (.ag cs :: ws) K1 σ = ownNil rs ws K1 σ := rfl
theorem ownNil_cell {k : Nat} {x : AV} {σ : St} : ownNil (.cell k ty :: rs) (x :: ws) K1 σ = ownNil rs ws K1 σ := rfl
theorem ownNil_nil {σ : St} : ownNil [] ws K1 σ = K1 σ := by cases ws <;> rfl
theorem resC_nil {σ : St} : resC P σ [] KL = KL [] := rfl
theorem resC_tmp {k : Nat} : resC P ⟨t, m⟩ (.tmp k :: rs) KL = resC P ⟨t, m⟩ rs fun xs => KL (t k :: xs) := rfl
theorem resC_cell {k : Nat} : resC P ⟨t, m⟩ (.cell k ty :: rs) KL = (cellOk (t k) ∧ onR (todo (loadS P ty m (t k))) fun x => resC P ⟨t, m⟩ rs fun xs => KL (x :: xs)) := rfl
theorem oneOf_1 {x : AV} : oneOf [x] = x := rfl
theorem oneOf_2 {x y : AV} {xs : List AV} : oneOf (x :: y :: xs) = .tp (x :: y :: xs) := rfl
theorem subR_tp {xs ys : List AV} : subR (.tp xs) (.tp ys) = subT xs ys := rfl
theorem subR_at {a b : A} : subR (.at a) (.at b) = subA a b := rfl
theorem subR_ag {as bs : List A} : subR (.ag as) (.ag bs) = subL as bs := rfl
theorem subL_cons {a b : A} {as bs : List A} : subL (a :: as) (b :: bs) = (subA a b ∧ subL as bs) := rfl
theorem subL_nil : subL [] [] = True := rfl
theorem subA_v {v w : Value} : subA (.v v) (.v w) = (v = w) := by simp [subA]
theorem subA_ow {k v s n k' v' s' n' : Nat} : subA (.ow k v s n) (.ow k' v' s' n') = (k = k' ∧ v = v' ∧ s = s' ∧ n = n') := by simp [subA]
theorem subA_im {s : Nat} {r r' : List (List Value)} : subA (.im s r) (.im s r') = (r = r') := by
  cases r <;> cases r' <;> simp [subA]
theorem subA_nil {s : Nat} {r : List (List Value)} : subA .nil (.im s r) = (r = []) := by
  cases r <;> simp [subA]
theorem subA_nil0 {s : Nat} {r : List (List Value)} (h : r = []) : subA .nil (.im s r) = True := by
  subst h; rfl
theorem instV_tp {n : Nat} {xs : List AV} : instV n (.tp xs) = .tp (instT n xs).1 := rfl
theorem instV_at {n : Nat} {a : A} : instV n (.at a) = .at (instA n a).1 := rfl
theorem instV_ag {n : Nat} {cs : List A} : instV n (.ag cs) = .ag (instL n cs).1 := rfl
theorem ren_v {iv : Nat → Option Nat} {v : Value} : ren iv m (.v v) = .v v := rfl
theorem ren_im {iv : Nat → Option Nat} {s : Nat} {r : List (List Value)} : ren iv m (.im s r) = .im s r := rfl
theorem ren_nil {iv : Nat → Option Nat} : ren iv m .nil = .nil := rfl
def renOw (iv : Option Nat) (e : Ent) (ver sz n : Nat) : A :=
  match iv with
  | some k' => if ver = e.ver then .ow k' 0 sz n else .dead
  | none => match e with | .ice ver' sz' rows => if ver = ver' ∧ sz = sz' then .im sz rows else .dead | _ => .dead
theorem ren_ow {iv : Nat → Option Nat} {k ver sz n : Nat} : ren iv m (.ow k ver sz n) = renOw (iv k) (m k) ver sz n := rfl
theorem renOw_arr {k' ver sz sz' n : Nat} {rows : List (List Value)} : renOw (some k') (.arr ver sz' rows) ver sz n = .ow k' 0 sz n := by simp [renOw, Ent.ver]
theorem renOw_ice {ver sz n : Nat} {rows : List (List Value)} : renOw none (.ice ver sz rows) ver sz n = .im sz rows := by simp [renOw]
theorem renOw_none {ver ver' sz sz' n : Nat} {rows : List (List Value)} : renOw none (.arr ver' sz' rows) ver sz n = .dead := rfl
theorem renOw_gone {ver sz n : Nat} : renOw none .gone ver sz n = .dead := rfl
def renBx (iv : Option Nat) (e : Ent) (ver off : Nat) : A := match iv with | some k' => if ver = e.ver then .bx k' 0 off else .dead | none => .dead
theorem ren_bx {iv : Nat → Option Nat} {k ver off : Nat} : ren iv m (.bx k ver off) = renBx (iv k) (m k) ver off := rfl
theorem renBx_box {k' ver off : Nat} {cells : List A} : renBx (some k') (.box ver cells) ver off = .bx k' 0 off := by simp [renBx, Ent.ver]
theorem renBx_none {e : Ent} {ver off : Nat} : renBx none e ver off = .dead := rfl
theorem ren_dead {iv : Nat → Option Nat} : ren iv m .dead = .dead := rfl
theorem ren_er {iv : Nat → Option Nat} : ren iv m .er = .er := rfl
theorem renE_arr {iv : Nat → Option Nat} {v s : Nat} {r : List (List Value)} : renE iv m (.arr v s r) = .arr 0 s r := rfl
theorem renE_ice {iv : Nat → Option Nat} {v s : Nat} {r : List (List Value)} : renE iv m (.ice v s r) = .ice 0 s r := rfl
theorem renE_box {iv : Nat → Option Nat} {v : Nat} {cells : List A} : renE iv m (.box v cells) = .box 0 (cells.map (ren iv m)) := rfl
theorem inv_0 {b k : Nat} {ks : List Nat} : invOf 0 b ks k = (ks.idxOf? k).map (b + ·) := by
  simp only [invOf, Nat.not_lt_zero, if_false]
  cases ks.idxOf? k <;> rfl
theorem iceOf_arr {v s : Nat} {r : List (List Value)} : iceOf (.arr v s r) = .ice v s r := rfl
theorem iceL_nil : iceL m [] = m := rfl
theorem iceL_cons {k : Nat} {ks : List Nat} : iceL m (k :: ks) = iceL (upd m k (iceOf (m k))) ks := rfl

theorem keysT_nil : keysT m [] = [] := rfl
theorem keysT_cons {x : AV} {xs : List AV} : keysT m (x :: xs) = keys1 m x ++ keysT m xs := rfl
theorem keys1_at {a : A} : keys1 m (.at a) = keysA m a := rfl
theorem keys1_ag {cs : List A} : keys1 m (.ag cs) = keysL m cs := rfl
theorem keysL_nil : keysL m [] = [] := rfl
theorem keysL_cons {a : A} {cs : List A} : keysL m (a :: cs) = keysA m a ++ keysL m cs := rfl
theorem keysA_ow {k v s n : Nat} : keysA m (.ow k v s n) = keysE k (m k) := rfl
theorem keysA_v {v : Value} : keysA m (.v v) = [] := rfl
theorem keysA_im {s : Nat} {r : List (List Value)} : keysA m (.im s r) = [] := rfl
theorem keysA_nil : keysA m .nil = [] := rfl
theorem keysE_arr {k v s : Nat} {r : List (List Value)} : keysE k (.arr v s r) = [k] := rfl
theorem keysE_ice {k v s : Nat} {r : List (List Value)} : keysE k (.ice v s r) = [] := rfl
theorem keysB_ow {k v s n : Nat} : keysB m (.ow k v s n) = keysE k (m k) := rfl
theorem keysB_bx {k v o : Nat} : keysB m (.bx k v o) = k :: boxKeys m (m k) := rfl
theorem keysB_v {v : Value} : keysB m (.v v) = [] := rfl
theorem keysB_im {s : Nat} {r : List (List Value)} : keysB m (.im s r) = [] := rfl
theorem keysB_nil : keysB m .nil = [] := rfl
theorem keysB_er : keysB m .er = [] := rfl
theorem keysB_dead : keysB m .dead = [] := rfl
theorem boxKeys_box {v : Nat} {cells : List A} : boxKeys m (.box v cells) = keysL m cells := rfl
theorem renV_at {iv : Nat → Option Nat} {a : A} : renV iv m (.at a) = .at (ren iv m a) := rfl
theorem renV_ag {iv : Nat → Option Nat} {cs : List A} : renV iv m (.ag cs) = .ag (cs.map (ren iv m)) := rfl
theorem renV_tp {iv : Nat → Option Nat} {xs : List AV} : renV iv m (.tp xs) = .tp (xs.map (renV1 iv m)) := rfl
theorem renV1_at {iv : Nat → Option Nat} {a : A} : renV1 iv m (.at a) = .at (ren iv m a) := rfl
theorem renV1_ag {iv : Nat → Option Nat} {cs : List A} : renV1 iv m (.ag cs) = .ag (cs.map (ren iv m)) := rfl
theorem zV_at {a : A} : zV (.at a) = .at (zA a) := rfl
theorem zV_ag {cs : List A} : zV (.ag cs) = .ag (cs.map zA) := rfl
theorem zV_tp {xs : List AV} : zV (.tp xs) = .tp (xs.map zV1) := rfl
theorem zV1_at {a : A} : zV1 (.at a) = .at (zA a) := rfl
theorem zV1_ag {cs : List A} : zV1 (.ag cs) = .ag (cs.map zA) := rfl
theorem zA_fr {s : Nat} {r : List (List Value)} : zA (.fr s r) = .im s r := rfl
theorem zA_v {v : Value} : zA (.v v) = .v v := rfl
theorem zA_im {s : Nat} {r : List (List Value)} : zA (.im s r) = .im s r := rfl
theorem zA_nil : zA .nil = .nil := rfl
theorem zA_er : zA .er = .er := rfl
theorem instA_fr {n s : Nat} {r : List (List Value)} : instA n (.fr s r) = (.ow n 0 s r.length, n + 1) := rfl
theorem instA_v {n : Nat} {v : Value} : instA n (.v v) = (.v v, n) := rfl
theorem instA_im {n s : Nat} {r : List (List Value)} : instA n (.im s r) = (.im s r, n) := rfl
theorem instA_nil {n : Nat} : instA n .nil = (.nil, n) := rfl
theorem instA_er {n : Nat} : instA n .er = (.er, n) := rfl
theorem inst1_at {n : Nat} {a : A} : inst1 n (.at a) = (.at (instA n a).1, (instA n a).2) := rfl
theorem inst1_ag {n : Nat} {cs : List A} : inst1 n (.ag cs) = (.ag (instL n cs).1, (instL n cs).2) := rfl
theorem freshes_at {a : A} : freshes (.at a) = freshA a := rfl
theorem freshes_ag {cs : List A} : freshes (.ag cs) = cs.flatMap freshA := rfl
theorem freshes_tp {xs : List AV} : freshes (.tp xs) = xs.flatMap fresh1 := rfl
theorem fresh1_at {a : A} : fresh1 (.at a) = freshA a := rfl
theorem fresh1_ag {cs : List A} : fresh1 (.ag cs) = cs.flatMap freshA := rfl
theorem freshA_fr {s : Nat} {r : List (List Value)} : freshA (.fr s r) = [.arr 0 s r] := rfl
theorem freshA_v {v : Value} : freshA (.v v) = [] := rfl
theorem freshA_im {s : Nat} {r : List (List Value)} : freshA (.im s r) = [] := rfl
theorem freshA_nil : freshA .nil = [] := rfl
theorem freshA_er : freshA .er = [] := rfl
theorem isArr_arr {v s : Nat} {r : List (List Value)} : isArr (.arr v s r) = true := rfl
theorem noIm_v {v : Value} : A.noIm (.v v) = true := rfl
theorem noIm_fr {s : Nat} {r : List (List Value)} : A.noIm (.fr s r) = true := rfl
theorem noIm_nil : A.noIm .nil = true := rfl
theorem noIm_er : A.noIm .er = true := rfl
theorem noIm_im {s : Nat} {r : List (List Value)} : A.noIm (.im s r) = false := rfl
theorem noIm1_at {a : A} : AV.noIm1 (.at a) = a.noIm := rfl
theorem noIm1_ag {cs : List A} : AV.noIm1 (.ag cs) = cs.all A.noIm := rfl
theorem avnoIm_at {a : A} : AV.noIm (.at a) = a.noIm := rfl
theorem avnoIm_ag {cs : List A} : AV.noIm (.ag cs) = cs.all A.noIm := rfl
theorem avnoIm_tp {xs : List AV} : AV.noIm (.tp xs) = xs.all AV.noIm1 := rfl
theorem partsOf_tp {xs : List AV} : partsOf (.tp xs) = xs := rfl
theorem partsOf_at {a : A} : partsOf (.at a) = [.at a] := rfl
theorem partsOf_ag {cs : List A} : partsOf (.ag cs) = [.ag cs] := rfl

/-! ### Calls -/
def passE (e : Ent) (b : Bool) (ver sz : Nat) : A :=
  match e with
  | .arr ver' sz' rows => if ver = ver' ∧ sz = sz' ∧ b = true then .im sz rows else .dead
  | .ice ver' sz' rows => if ver = ver' ∧ sz = sz' then .im sz rows else .dead
  | _ => .dead
theorem passA_ow {bor : List Nat} {k ver sz n : Nat} : passA [] bor m (.ow k ver sz n) = passE (m k) (decide (k ∈ bor)) ver sz := by
  simp only [passA, List.idxOf?_nil, passE, decide_eq_true_eq]
  cases m k <;> rfl
theorem passE_arr {ver sz : Nat} {rows : List (List Value)} : passE (.arr ver sz rows) true ver sz = .im sz rows := by simp [passE]
theorem passE_ice {ver sz : Nat} {rows : List (List Value)} {b : Bool} : passE (.ice ver sz rows) b ver sz = .im sz rows := by simp [passE]
theorem passV_at {bor : List Nat} {a : A} : passV [] bor m (.at a) = .at (passA [] bor m a) := rfl
theorem passV_ag {bor : List Nat} {cs : List A} : passV [] bor m (.ag cs) = .ag (cs.map (passA [] bor m)) := rfl
theorem passA_v {bor : List Nat} {v : Value} : passA [] bor m (.v v) = .v v := rfl
theorem passA_im {bor : List Nat} {s : Nat} {r : List (List Value)} : passA [] bor m (.im s r) = .im s r := rfl
theorem passA_nil {bor : List Nat} : passA [] bor m .nil = .nil := rfl
theorem backV_at {B : Nat} {a : A} : backV m [] B (.at a) = .at (backA m [] B a) := rfl
theorem backV_ag {B : Nat} {cs : List A} : backV m [] B (.ag cs) = .ag (cs.map (backA m [] B)) := rfl
theorem backV_tp {B : Nat} {xs : List AV} : backV m [] B (.tp xs) = .tp (xs.map (backV1 m [] B)) := rfl
theorem backV1_at {B : Nat} {a : A} : backV1 m [] B (.at a) = .at (backA m [] B a) := rfl
theorem backV1_ag {B : Nat} {cs : List A} : backV1 m [] B (.ag cs) = .ag (cs.map (backA m [] B)) := rfl
theorem backA_v {B : Nat} {v : Value} : backA m [] B (.v v) = .v v := rfl
theorem backA_im {B : Nat} {s : Nat} {r : List (List Value)} : backA m [] B (.im s r) = .im s r := rfl
theorem backA_nil {B : Nat} : backA m [] B .nil = .nil := rfl
theorem backA_ow {B j s n : Nat} (h : 1000 ≤ j) : backA m [] B (.ow j 0 s n) = .ow (B + (j - 1000)) 0 s n := by
  simp only [backA, if_true, List.length_nil, Nat.not_lt_zero, if_false, if_pos h]
end

attribute [go_sem ↓] runU_nil runU_cons stepU_plain stepU_guardT actU_call actU_builtin actU_move actU_assign actU_bin actU_un actU_conv actU_load actU_store actU_fieldAddr actU_field actU_indexAddr actU_index actU_slice actU_box actU_alloc actU_extract actU_build actU_buildSlice actU_make actU_pick fillRK_nil fillRK_ev fillSK_nil fillSK_ev W_drawnT thenS_n thenS_r thenS_e blockS_n blockS_r blockS_e all_mapK actW_move actW_assign actW_pick actW_bin actW_un actW_conv actW_load actW_store actW_fieldAddr actW_field actW_indexAddr actW_index actW_slice actW_box actW_alloc actW_extract actW_build actW_buildSlice actW_make actW_len actW_append actW_max actW_min actW_call actW_callQ W_skip W_exit W_ret W_seq W_block W_condT W_regionT W_loopT runG_nil runG_cons stepG_plain stepG_guardT finV_ret finW_ret ownNil_fr ownNil_v ownNil_im ownNil_ag ownNil_cell ownNil_nil resC_nil resC_tmp resC_cell headK_eq
attribute [go_sem 5000] condK_true condK_false guardK_tt guardK_tf guardK_ft guardK_ff guardK_no
attribute [congr] evK_congr onR_congr onO_congr onM_congr boxAt_congr arrAt_congr rowAt_congr condK_congr guardK_congr pickK_congr exK_congr makeK_congr max2K_congr min2K_congr appK_congr loadK_congr sliceK_congr nilK_congr callU_congr callC_congr callQ_congr T_congr drawnK_congr
attribute [go_sem] Nat.reduceLT Nat.reduceEqDiff Nat.reduceMul Nat.reduceAdd Nat.reduceSub Nat.reduceLeDiff Nat.reduceBEq Nat.reduceBNe Nat.zero_le
  evK_eq todo_eq
  
  strFlag_same loadK_bx loadK_pi sliceK_ow sliceK_im sliceK_nil sliceK_v
  condK_bool guardK_t guardK_f
  makeK_ev exK_tp pickK_true pickK_false max2K_int min2K_int rowsAt_arr rowsAt_ice newsK_nil newsK_im newsK_ow newsK_str appK_nil_ev appK_ow_ev boundS_none boundS_some intOfAV_int rowAt_arr rowAt_ice
  nilK_nil nilK_ow cellOk_bx finX oneOf_1 oneOf_2
  keysT_nil keysT_cons keys1_at keys1_ag keysL_nil keysL_cons keysA_ow keysA_v keysA_im keysA_nil keysE_arr keysE_ice keysB_ow keysB_bx keysB_v keysB_im keysB_nil keysB_er keysB_dead boxKeys_box renV_at renV_ag renV_tp renV1_at renV1_ag zV_at zV_ag zV_tp zV1_at zV1_ag zA_fr zA_v zA_im zA_nil zA_er instA_fr instA_v instA_im instA_nil instA_er inst1_at inst1_ag freshes_at freshes_ag freshes_tp fresh1_at fresh1_ag freshA_fr freshA_v freshA_im freshA_nil freshA_er isArr_arr noIm_v noIm_fr noIm_nil noIm_er noIm_im noIm1_at noIm1_ag avnoIm_at avnoIm_ag avnoIm_tp partsOf_tp partsOf_at partsOf_ag
  subR_tp subR_at subR_ag subT_cons subT_nil subV_at subV_ag subL_cons subL_nil subA_v subA_ow subA_im subA_nil subA_self subL_self
  instV_tp instV_at instV_ag instT instL List.flatMap_cons List.flatMap_nil
  ren_v ren_im ren_nil ren_ow renOw_arr renOw_ice renOw_none renOw_gone ren_bx renBx_box renBx_none ren_dead ren_er renE_arr renE_ice renE_box inv_0 List.idxOf?_cons List.idxOf?_nil Option.map_none
  iceOf_arr iceL_nil iceL_cons passV_at passV_ag passA_v passA_im passA_nil passA_ow passE_arr passE_ice backV_at backV_ag backV_tp backV1_at backV1_ag backA_v backA_im backA_nil backA_ow
  M0_at ofM_M0 updL_nil updL_cons ofM_updL Gone_M0 Gone_up CallX borOk ownOk
  keysV_nil keysV_at keysV_ag List.map_eq_nil_iff
  List.zip_cons_cons List.zip_nil_left List.range_zero List.nodup_cons List.nodup_nil List.mem_cons List.not_mem_nil List.length_append List.append_nil List.nil_append List.replicate_zero List.replicate_succ List.set_cons_zero List.set_cons_succ List.getElem?_toArray List.getElem?_nil
  List.length_replicate List.length_set List.length_take List.length_drop List.all_cons List.all_nil
  AV.at.injEq A.v.injEq A.ow.injEq A.im.injEq A.bx.injEq AV.ag.injEq Value.int.injEq Value.bool.injEq Value.string.injEq Ent.arr.injEq List.cons.injEq
  beq_self_eq_true Nat.min_self Int.reduceNe Int.reduceEq Int.reduceNeg Int.reduceLT Int.reduceLE ne_eq eq_self not_true_eq_false not_false_eq_true false_or or_false true_or or_true and_self decide_true decide_false decide_eq_false_iff_not Bool.not_true Bool.not_false Bool.not_eq_true' Bool.not_eq_false' Bool.not_not Bool.true_eq_false Bool.false_eq_true true_implies false_implies implies_true forall_eq_or_imp forall_eq reduceCtorEq Bool.true_and Bool.and_true Bool.false_and Bool.and_false Bool.or_true Bool.true_or Bool.false_or Bool.or_false
  List.getD_nil Nat.add_zero Nat.zero_add Int.toNat_natCast
end Go.Abs
