/- A reading of Go frames as data: what a slot holds, which memory is the call's own, and how both stand to the world. -/
import Derived.Orders
import Derived.Below
import Derived.Laws.OwnMore
import Derived.Laws.CopyRow
import Derived.Laws.Entries
import Derived.Laws.StructEq
import Derived.Carry
import Derived.BigRegion
import Derived.Laws.Concat
import Derived.Laws.MakeOwn
import Derived.WideLaws
import Derived.Laws.Slices
namespace Go.Abs
open Go.RowKit
set_option linter.unusedVariables false
set_option linter.unusedSimpArgs false

/-- What a cell of a new box holds. -/
inductive PC where
  | v (x : Value)
  | im (sz : Nat) (rows : List (List Value))
/-- What one cell holds. -/
inductive A where
  | v (x : Value)
  | im (sz : Nat) (rows : List (List Value))
  | fr (sz : Nat) (rows : List (List Value))
  | fb (cs : List PC)
  | ow (k ver sz n : Nat)
  | nil
  | bx (k ver off : Nat)
  | pa (k ver sz i off : Nat)
  | pi (cs : List Value)
  | vw (k ver sz off n : Nat)
  | er
  | dead

def PC.at : PC → A
  | .v x => .v x
  | .im sz rows => .im sz rows
/-- What one slot holds. -/
inductive AV where
  | at (a : A)
  | ag (cs : List A)
  | tp (xs : List AV)

/-- What is held under a key. -/
inductive Ent where
  | gone
  | arr (ver sz : Nat) (rows : List (List Value))
  | ice (ver sz : Nat) (rows : List (List Value))
  | box (ver : Nat) (cells : List A)

abbrev Mem := Nat → Ent
abbrev Lam := Nat → Option (Nat × Nat)

structure St where
  t : Nat → AV
  m : Mem

def upd {β : Type} (f : Nat → β) (k : Nat) (x : β) : Nat → β := fun i => if i = k then x else f i
theorem upd_same {β : Type} (f : Nat → β) (k : Nat) (x : β) : upd f k x k = x := by simp [upd]
theorem upd_ne {β : Type} (f : Nat → β) {k i : Nat} (x : β) (h : i ≠ k) : upd f k x i = f i := by simp [upd, h]

def St.put (σ : St) (d : Nat) (x : AV) : St := ⟨upd σ.t d x, σ.m⟩

def Wf (sz : Nat) (rows : List (List Value)) : Prop := ∀ r ∈ rows, r.length = sz
def RowsAt (w : World) (b o : Nat) (cs : List Value) : Prop := ∀ j u, cs[j]? = some u → w.cell? ⟨b, o + j, none⟩ = some u ∧ u.oneCell' = true
def bsize (w : World) (b : Nat) : Nat := match w.heap[b]? with | some (.cells c _ _) => c.size | _ => 0

def Ent.ver : Ent → Nat
  | .gone => 0
  | .arr ver _ _ => ver
  | .ice ver _ _ => ver
  | .box ver _ => ver

/-- How a cell's value stands to what is known of it. -/
def RA (w : World) (F : Nat → Prop) (m : Mem) (lam : Lam) : A → Value → Prop
  | .v x, u => u = x ∧ x.oneCell' = true
  | .im sz rows, u => Wf sz rows ∧ ∃ a cap, u = .slice a rows.length cap ∧ rows.length ≤ cap ∧ cap ≤ maxLen ∧ (rows = [] ∨ ∃ b o, a = some ⟨b, o, none⟩ ∧ F b ∧ RowsAt w b o rows.flatten)
  | .fr _ _, _ => False
  | .fb _, _ => False
  | .ow k ver sz0 n, u => (m k ≠ .gone ∧ ver ≤ (m k).ver) ∧ ((u = .slice none 0 0 ∧ n = 0) ∨ ∃ b o cap, u = .slice (some ⟨b, o, none⟩) n cap ∧ n ≤ cap) ∧ ∀ sz rows, (m k = .arr ver sz rows ∨ m k = .ice ver sz rows) → sz0 = sz ∧ n = rows.length ∧
      ((lam k = none ∧ u = .slice none 0 0) ∨ ∃ b o cap, lam k = some (b, o) ∧ u = .slice (some ⟨b, o, none⟩) n cap ∧ n ≤ cap ∧ cap ≤ maxLen ∧ o + cap * sz ≤ bsize w b)
  | .nil, u => u = .slice none 0 0
  | .bx k ver off, u => (m k ≠ .gone ∧ ver ≤ (m k).ver) ∧ (∃ b o, u = .pointer (some ⟨b, o, none⟩)) ∧ ∀ cells, m k = .box ver cells → ∃ b, lam k = some (b, 0) ∧ u = .pointer (some ⟨b, off, none⟩)
  | .pa k ver sz0 i off, u => (m k ≠ .gone ∧ ver ≤ (m k).ver) ∧ (∃ b o, u = .pointer (some ⟨b, o, none⟩)) ∧ ∀ sz rows, (m k = .arr ver sz rows ∨ m k = .ice ver sz rows) → sz0 = sz ∧ (rows = [] ∨ ∃ b o, lam k = some (b, o) ∧ u = .pointer (some ⟨b, o + i * sz + off, none⟩))
  | .pi cs, u => ∃ b o, u = .pointer (some ⟨b, o, none⟩) ∧ F b ∧ RowsAt w b o cs
  | .vw k ver sz0 off n, u => (m k ≠ .gone ∧ ver ≤ (m k).ver) ∧ (∃ A0 cap, u = .slice A0 n cap) ∧ ∀ sz rows, (m k = .arr ver sz rows ∨ m k = .ice ver sz rows) →
      sz0 = sz ∧ off + n ≤ rows.length ∧ (n = 0 ∨ ∃ b o cap, lam k = some (b, o) ∧ u = .slice (some ⟨b, o + off * sz, none⟩) n cap)
  | .er, u => ∃ t x, u = .iface t x
  | .dead, _ => True

/-- Two lists, place by place. -/
def RL (R : A → Value → Prop) (as : List A) (us : List Value) : Prop := as.length = us.length ∧ ∀ (i : Nat) (a : A) (u : Value), as[i]? = some a → us[i]? = some u → R a u

def RV1 (w : World) (F : Nat → Prop) (m : Mem) (lam : Lam) : AV → Value → Prop
  | .at a, u => RA w F m lam a u
  | .ag cs, u => ∃ us : List Value, u = .agg us.toArray ∧ RL (fun a x => RA w F m lam a x ∧ x.oneCell' = true) cs us
  | .tp _, _ => False

def RV (w : World) (F : Nat → Prop) (m : Mem) (lam : Lam) : AV → Value → Prop
  | .at a, u => RA w F m lam a u
  | .ag cs, u => RV1 w F m lam (.ag cs) u
  | .tp xs, u => ∃ us : List Value, u = .tuple us.toArray ∧ xs.length = us.length ∧ ∀ (i : Nat) (x : AV) (y : Value), xs[i]? = some x → us[i]? = some y → RV1 w F m lam x y

/-- The call: the world at its begin, the read-only blocks, the blocks of the keys that were handed in. -/
structure G where
  P : Program
  w0 : World
  F0 : Nat → Prop
  X : Nat → Prop
  nx : Nat
  lam0 : Lam
  nt : Nat

def Ent.live : Ent → Prop
  | .arr .. => True
  | .box .. => True
  | _ => False

def Home (g : G) (k b : Nat) : Prop := (k < g.nx → g.X b) ∧ (g.nx ≤ k → g.w0.heap.size ≤ b)

def EntRel (g : G) (w : World) (F : Nat → Prop) (m : Mem) (lam : Lam) (k : Nat) : Ent → Prop
  | .gone => True
  | .arr _ sz rows => Wf sz rows ∧ ((lam k = none ∧ rows = []) ∨ ∃ b o cur ty, lam k = some (b, o) ∧ w.heap[b]? = some (.cells cur ty (0, 0)) ∧ ¬ F b ∧ Home g k b ∧
      o ≤ cur.size ∧ (cur.toList.drop o).take rows.flatten.length = rows.flatten ∧ ∀ u ∈ rows.flatten, u.oneCell' = true)
  | .ice _ sz rows => Wf sz rows ∧ ((lam k = none ∧ rows = []) ∨ ∃ b o, lam k = some (b, o) ∧ F b ∧ RowsAt w b o rows.flatten)
  | .box _ cells => ∃ b cur ty, lam k = some (b, 0) ∧ w.heap[b]? = some (.cells cur ty (0, 0)) ∧ ¬ F b ∧ Home g k b ∧ RL (fun a x => RA w F m lam a x ∧ x.oneCell' = true) cells cur.toList

structure MemRel (g : G) (w : World) (F : Nat → Prop) (m : Mem) (lam : Lam) : Prop where
  ent : ∀ k, EntRel g w F m lam k (m k)
  inj : ∀ k k' b o o', (m k).live → (m k').live → lam k = some (b, o) → lam k' = some (b, o') → k = k'

structure Chg (g : G) (w : World) : Prop where
  os : w.os = g.w0.os
  tape : w.tape = g.w0.tape
  output : w.output = g.w0.output
  size : g.w0.heap.size ≤ w.heap.size
  block : ∀ b, b < g.w0.heap.size → ¬ g.X b → w.heap[b]? = g.w0.heap[b]?
  bs : ∀ b, bsize g.w0 b ≤ bsize w b

structure Inv (g : G) (F : Nat → Prop) (lam : Lam) (σ : St) (a : Act) (w : World) : Prop where
  f1 : ∀ b, g.F0 b → F b
  f2 : ∀ b, b < g.w0.heap.size → F b → g.F0 b
  f3 : ∀ b, F b → b < w.heap.size
  mem : MemRel g w F σ.m lam
  l0 : ∀ k, k < g.nx → lam k = g.lam0 k
  sl : ∀ t, RV w F σ.m lam (σ.t t) (a.tmps.getD t undef)
  nt : a.tmps.size = g.nt
  chg : Chg g w
  df : a.defers = []

/-- What may turn from one moment to the next under what is known of cells. -/
structure Le (w w' : World) (F F' : Nat → Prop) (m m' : Mem) (lam lam' : Lam) : Prop where
  fro : ∀ b, F b → F' b ∧ w'.heap[b]? = w.heap[b]?
  siz : ∀ b, bsize w b ≤ bsize w' b
  gone : ∀ k, m k ≠ .gone → m' k ≠ .gone
  ver : ∀ k, m k ≠ .gone → (m k).ver ≤ (m' k).ver
  arr : ∀ k ver sz rows, m k ≠ .gone → ver ≤ (m k).ver → (m' k = .arr ver sz rows ∨ m' k = .ice ver sz rows) → lam' k = lam k ∧ ∃ rows', (m k = .arr ver sz rows' ∨ m k = .ice ver sz rows') ∧ rows'.length = rows.length
  box : ∀ k ver cells, m k ≠ .gone → ver ≤ (m k).ver → m' k = .box ver cells → lam' k = lam k ∧ ∃ cells', m k = .box ver cells'

theorem cell?_congr {w w' : World} {b o : Nat} (h : w'.heap[b]? = w.heap[b]?) : w'.cell? ⟨b, o, none⟩ = w.cell? ⟨b, o, none⟩ := World.cell?_of_block (a := ⟨b, o, none⟩) h

theorem RowsAt.keep {w w' : World} {b o : Nat} {cs : List Value} (h : RowsAt w b o cs) (hb : w'.heap[b]? = w.heap[b]?) : RowsAt w' b o cs := by
  intro j u hj
  rw [cell?_congr hb]
  exact h j u hj

theorem RA.le {w w' : World} {F F' : Nat → Prop} {m m' : Mem} {lam lam' : Lam} (L : Le w w' F F' m m' lam lam') {a : A} {u : Value} (h : RA w F m lam a u) : RA w' F' m' lam' a u := by
  cases a with
  | v x => exact h
  | im sz rows =>
    obtain ⟨h1, a, cap, h2, h3, h4, h5⟩ := h
    refine ⟨h1, a, cap, h2, h3, h4, ?_⟩
    rcases h5 with h5 | ⟨b, o, h5, h6, h7⟩
    · exact .inl h5
    · exact .inr ⟨b, o, h5, (L.fro b h6).1, h7.keep (L.fro b h6).2⟩
  | fr sz rows => exact h
  | fb cs => exact h
  | ow k ver sz0 n =>
    obtain ⟨h1, h9, h2⟩ := h
    refine ⟨⟨L.gone k h1.1, Nat.le_trans h1.2 (L.ver k h1.1)⟩, h9, fun sz rows hm => ?_⟩
    obtain ⟨hl, rows', hm', hlen⟩ := L.arr k ver sz rows h1.1 h1.2 hm
    obtain ⟨h0, h3, h4⟩ := h2 sz rows' hm'
    refine ⟨h0, by omega, ?_⟩
    rcases h4 with h4 | ⟨b, o, cap, h4, h5, h6, h7, h8⟩
    · exact .inl ⟨hl.trans h4.1, h4.2⟩
    · exact .inr ⟨b, o, cap, hl.trans h4, h5, h6, h7, Nat.le_trans h8 (L.siz b)⟩
  | nil => exact h
  | bx k ver off =>
    obtain ⟨h1, h9, h2⟩ := h
    refine ⟨⟨L.gone k h1.1, Nat.le_trans h1.2 (L.ver k h1.1)⟩, h9, fun cells hm => ?_⟩
    obtain ⟨hl, cells', hm'⟩ := L.box k ver cells h1.1 h1.2 hm
    obtain ⟨b, h3, h4⟩ := h2 cells' hm'
    exact ⟨b, hl.trans h3, h4⟩
  | pa k ver sz0 i off =>
    obtain ⟨h1, h9, h2⟩ := h
    refine ⟨⟨L.gone k h1.1, Nat.le_trans h1.2 (L.ver k h1.1)⟩, h9, fun sz rows hm => ?_⟩
    obtain ⟨hl, rows', hm', hlen⟩ := L.arr k ver sz rows h1.1 h1.2 hm
    obtain ⟨h0, h3⟩ := h2 sz rows' hm'
    refine ⟨h0, ?_⟩
    rcases h3 with h3 | ⟨b, o, h3, h4⟩
    · subst h3
      exact .inl (List.eq_nil_of_length_eq_zero hlen.symm)
    · exact .inr ⟨b, o, hl.trans h3, h4⟩
  | pi cs =>
    obtain ⟨b, o, h1, h2, h3⟩ := h
    exact ⟨b, o, h1, (L.fro b h2).1, h3.keep (L.fro b h2).2⟩
  | vw k ver sz0 off n =>
    obtain ⟨h1, h9, h2⟩ := h
    refine ⟨⟨L.gone k h1.1, Nat.le_trans h1.2 (L.ver k h1.1)⟩, h9, fun sz rows hm => ?_⟩
    obtain ⟨hl, rows', hm', hlen⟩ := L.arr k ver sz rows h1.1 h1.2 hm
    obtain ⟨h0, h3, h4⟩ := h2 sz rows' hm'
    refine ⟨h0, by omega, ?_⟩
    rcases h4 with h4 | ⟨b, o, cap, h4, h5⟩
    · exact .inl h4
    · exact .inr ⟨b, o, cap, hl.trans h4, h5⟩
  | er => exact h
  | dead => trivial

theorem RL.mono {R R' : A → Value → Prop} {as : List A} {us : List Value} (h : RL R as us) (f : ∀ a u, R a u → R' a u) : RL R' as us :=
  ⟨h.1, fun i a u ha hu => f a u (h.2 i a u ha hu)⟩

theorem RV1.le {w w' : World} {F F' : Nat → Prop} {m m' : Mem} {lam lam' : Lam} (L : Le w w' F F' m m' lam lam') {x : AV} {u : Value} (h : RV1 w F m lam x u) : RV1 w' F' m' lam' x u := by
  cases x with
  | «at» a => exact RA.le L h
  | ag cs =>
    obtain ⟨us, h1, h2⟩ := h
    exact ⟨us, h1, h2.mono fun a u h => ⟨RA.le L h.1, h.2⟩⟩
  | tp xs => exact h

theorem RV.le {w w' : World} {F F' : Nat → Prop} {m m' : Mem} {lam lam' : Lam} (L : Le w w' F F' m m' lam lam') {x : AV} {u : Value} (h : RV w F m lam x u) : RV w' F' m' lam' x u := by
  cases x with
  | «at» a => exact RA.le L h
  | ag cs => exact RV1.le (x := .ag cs) L h
  | tp xs =>
    obtain ⟨us, h1, h2, h3⟩ := h
    exact ⟨us, h1, h2, fun i x y hx hy => RV1.le L (h3 i x y hx hy)⟩

theorem Le.refl (w : World) (F : Nat → Prop) (m : Mem) (lam : Lam) : Le w w F F m m lam lam :=
  ⟨fun b h => ⟨h, rfl⟩, fun b => Nat.le_refl _, fun k h => h, fun k _ => Nat.le_refl _, fun k ver sz rows _ _ h => ⟨rfl, rows, h, rfl⟩, fun k ver cells _ _ h => ⟨rfl, cells, h⟩⟩

theorem bsize_eq {w : World} {b : Nat} {cur : Array Value} {ty : TypeId} {fr : Nat × Nat} (h : w.heap[b]? = some (.cells cur ty fr)) : bsize w b = cur.size := by simp [bsize, h]

end Go.Abs

/- What one operation does to a frame read as data; and that the world does so. Part 1: the operations' readings. -/
namespace Go.Abs
open Go.RowKit
set_option linter.unusedVariables false
set_option linter.unusedSimpArgs false

def atomOf : Value → A
  | .bool b => .v (.bool b)
  | .int k n => .v (.int k n)
  | .string s => .v (.string s)
  | .nilIface => .v .nilIface
  | .slice none 0 0 => .nil
  | _ => .dead
def A.solid : A → Bool
  | .dead => false
  | .fr _ _ => false
  | .fb _ => false
  | _ => true
def constAV : Value → AV
  | .agg cs => if (cs.toList.map atomOf).all A.solid then .ag (cs.toList.map atomOf) else .at .dead
  | .tuple _ => .at .dead
  | v => .at (atomOf v)

def St.ev (σ : St) : Operand → AV
  | .tmp t => σ.t t
  | .const v => constAV v
  | _ => .at .dead

abbrev Res := Option (AV × Mem × Prop)

def aggT (P : Program) (t : TypeId) : Option Bool :=
  match P.underlying t with
  | some (.struct _) => some true
  | some (.array _ _) => some true
  | some _ => some false
  | none => none
def szT (P : Program) (t : TypeId) : Option Nat := (P.info? t).map (·.size)

def isStr (P : Program) (t : TypeId) : Bool :=
  match P.underlying t with
  | some .string => true
  | _ => false

def intBin : BinOp → IntKind → Int → Int → Option (Value × Prop)
  | .add, k, a, b => some (.int k (k.wrap (a + b)), True)
  | .sub, k, a, b => some (.int k (k.wrap (a - b)), True)
  | .mul, k, a, b => some (.int k (k.wrap (a * b)), True)
  | .quo, k, a, b => some (.int k (k.wrap (a.tdiv b)), b ≠ 0)
  | .rem, k, a, b => some (.int k (a.tmod b), b ≠ 0)
  | .and, k, a, b => some (.int k (k.wrap ((BitVec.ofInt k.bits a &&& BitVec.ofInt k.bits b).toNat)), True)
  | .or, k, a, b => some (.int k (k.wrap ((BitVec.ofInt k.bits a ||| BitVec.ofInt k.bits b).toNat)), True)
  | .xor, k, a, b => some (.int k (k.wrap ((BitVec.ofInt k.bits a ^^^ BitVec.ofInt k.bits b).toNat)), True)
  | .eql, _, a, b => some (.bool (a == b), True)
  | .neq, _, a, b => some (.bool (a != b), True)
  | .lss, _, a, b => some (.bool (a < b), True)
  | .leq, _, a, b => some (.bool (a ≤ b), True)
  | .gtr, _, a, b => some (.bool (a > b), True)
  | .geq, _, a, b => some (.bool (a ≥ b), True)
  | _, _, _, _ => none
def shBin : BinOp → IntKind → Int → Int → Option (Value × Prop)
  | .shl, k, a, b => some (.int k (k.wrap (a * 2 ^ (min b.toNat k.bits))), 0 ≤ b)
  | .shr, k, a, b => some (.int k (a.fdiv (2 ^ (min b.toNat k.bits))), 0 ≤ b)
  | _, _, _, _ => none
def strBin : BinOp → ByteArray → ByteArray → Option (Value × Prop)
  | .add, x, y => some (.string (x ++ y), x.size + y.size ≤ 9223372036854775807)
  | .eql, x, y => some (.bool (x.toList == y.toList), True)
  | .neq, x, y => some (.bool (!(x.toList == y.toList)), True)
  | _, _, _ => none

/-- The fields of two structs, compared: numbers and bools alone. -/
def eqCells (P : Program) : List Field → List A → List A → Option Bool
  | [], _, _ => some true
  | f :: fs, xs, ys =>
    if f.name = "_" then none else
    match P.underlying f.type, xs[f.offset]?, ys[f.offset]?, eqCells P fs xs ys with
    | some (.int _), some (.v (.int k a)), some (.v (.int k' b)), some r => if k = k' then some ((a == b) && r) else none
    | some .bool, some (.v (.bool a)), some (.v (.bool b)), some r => some ((a == b) && r)
    | _, _, _, _ => none

def binS (P : Program) (op : BinOp) (t : TypeId) : AV → AV → Option (Value × Prop)
  | .at (.v (.int k a)), .at (.v (.int k' b)) =>
    match op with
    | .shl => shBin .shl k a b
    | .shr => shBin .shr k a b
    | op => if k = k' then intBin op k a b else none
  | .at (.v (.string a)), .at (.v (.string b)) => strBin op a b
  | .at (.v (.bool a)), .at (.v (.bool b)) =>
    match P.underlying t, op with
    | some .bool, .eql => some (.bool (a == b), True)
    | some .bool, .neq => some (.bool (!(a == b)), True)
    | _, _ => none
  | .at .er, .at (.v .nilIface) =>
    match P.underlying t, op with
    | some (.interface _), .eql => some (.bool false, True)
    | some (.interface _), .neq => some (.bool true, True)
    | _, _ => none
  | .ag xs, .ag ys =>
    match P.underlying t with
    | some (.struct fs) =>
      match eqCells P fs.toList xs ys, op with
      | some r, .eql => some (.bool r, P.eqGuardType P.depth t = false ∧ P.stoodInHeld t = false)
      | some r, .neq => some (.bool (!r), P.eqGuardType P.depth t = false ∧ P.stoodInHeld t = false)
      | _, _ => none
    | _ => none
  | _, _ => none

def unS (op : UnOp) : AV → Option Value
  | .at (.v (.bool b)) => match op with | .not => some (.bool (!b)) | _ => none
  | .at (.v (.int k n)) => match op with | .neg => some (.int k (k.wrap (0 - n))) | _ => none
  | _ => none

def convS (P : Program) (src dst : TypeId) : AV → Option Value
  | .at (.v (.int _ n)) =>
    match P.underlying src, P.underlying dst with
    | some (.int _), some (.int k) => some (.int k (k.wrap n))
    | some (.int _), some .string => some (.string (Utf8.encode n))
    | _, _ => none
  | .at (.v (.string s)) =>
    match P.underlying src, P.underlying dst with
    | some .string, some .string => some (.string s)
    | _, _ => none
  | _ => none

def loadS (P : Program) (t : TypeId) (m : Mem) : AV → Option (AV × Prop)
  | .at (.bx k ver off) =>
    match m k with
    | .box ver' cells =>
      if ver = ver' then
        match aggT P t, szT P t with
        | some true, some s => some (.ag ((cells.drop off).take s), off + s ≤ cells.length)
        | some false, _ => match cells[off]? with | some a => some (.at a, True) | none => none
        | _, _ => none
      else none
    | _ => none
  | .at (.pa k ver sz i off) =>
    match m k with
    | .arr ver' sz' rows | .ice ver' sz' rows =>
      if ver = ver' ∧ sz = sz' then
        match aggT P t, szT P t with
        | some true, some s => some (.ag (((((rows.getD i []).drop off).take s)).map .v), i < rows.length ∧ off + s ≤ sz)
        | some false, _ => some (.at (.v ((rows.getD i []).getD off undef)), i < rows.length ∧ off < sz)
        | _, _ => none
      else none
    | _ => none
  | .at (.pi cs) =>
    match aggT P t, szT P t with
    | some true, some s => some (.ag ((cs.take s).map .v), s ≤ cs.length)
    | some false, _ => some (.at (.v (cs.getD 0 undef)), 0 < cs.length)
    | _, _ => none
  | _ => none

def atomsOf : AV → Option (List A)
  | .at a => if a.solid then some [a] else none
  | .ag cs => some cs
  | .tp _ => none
def vOf : A → Option Value
  | .v x => some x
  | _ => none
def valsOf : List A → Option (List Value)
  | [] => some []
  | .v x :: as => (valsOf as).map (x :: ·)
  | _ :: _ => none

def splice {β : Type} (l : List β) (off : Nat) (xs : List β) : List β := l.take off ++ xs ++ l.drop (off + xs.length)

def storeS (P : Program) (t : TypeId) (m : Mem) : AV → AV → Option (Mem × Prop)
  | .at (.bx k ver off), x =>
    match m k, atomsOf x, szT P t with
    | .box ver' cells, some as, some s => if ver = ver' ∧ as.length = s then some (upd m k (.box ver (splice cells off as)), off + s ≤ cells.length) else none
    | _, _, _ => none
  | .at (.pa k ver sz i off), x =>
    match m k, (atomsOf x).bind valsOf, szT P t with
    | .arr ver' sz' rows, some us, some s => if ver = ver' ∧ sz = sz' ∧ us.length = s then some (upd m k (.arr ver sz (rows.set i (splice (rows.getD i []) off us))), i < rows.length ∧ off + s ≤ sz) else none
    | _, _, _ => none
  | _, _ => none

def fieldAddrS (P : Program) (s : TypeId) (f : Nat) (x : AV) : Option AV :=
    match P.underlying s with
    | some (.struct fs) =>
      match fs[f]? with
      | some fd =>
        match szT P fd.type with
        | some (_ + 1) =>
          match x with
          | .at (.bx k ver off) => some (.at (.bx k ver (off + fd.offset)))
          | .at (.pa k ver sz i off) => some (.at (.pa k ver sz i (off + fd.offset)))
          | .at (.pi cs) => some (.at (.pi (cs.drop fd.offset)))
          | _ => none
        | _ => none
      | none => none
    | _ => none

def fieldS (P : Program) (s : TypeId) (f : Nat) : AV → Option (AV × Prop)
  | .ag cs =>
    match P.underlying s with
    | some (.struct fs) =>
      match fs[f]? with
      | some fd =>
        match aggT P fd.type, szT P fd.type with
        | some true, some n => some (.ag ((cs.drop fd.offset).take n), fd.offset + n ≤ cs.length)
        | some false, _ => match cs[fd.offset]? with | some a => some (.at a, True) | none => none
        | _, _ => none
      | none => none
    | _ => none
  | _ => none

def indexAddrS (P : Program) (t : TypeId) : AV → AV → Option (AV × Prop)
  | .at (.im sz rows), .at (.v (.int _ i)) =>
    match P.underlying t with
    | some (.slice e) => if szT P e = some sz then some (.at (.pi (rows.getD i.toNat [])), 0 ≤ i ∧ i < (rows.length : Int)) else none
    | _ => none
  | .at (.ow k ver sz n), .at (.v (.int _ i)) =>
    match P.underlying t with
    | some (.slice e) => if szT P e = some sz then some (.at (.pa k ver sz i.toNat 0), 0 ≤ i ∧ i < (n : Int)) else none
    | _ => none
  | _, _ => none

def indexS (P : Program) (t : TypeId) : AV → AV → Option (AV × Prop)
  | .at (.v (.string s)), .at (.v (.int _ i)) =>
    match P.underlying t with
    | some .string => some (.at (.v (.int .u8 ((s[i.toNat]?.getD 0).toNat : Int))), 0 ≤ i ∧ i < (s.size : Int))
    | _ => none
  | _, _ => none

def intOfAV : AV → Option Int
  | .at (.v (.int _ i)) => some i
  | _ => none
def boundS (σ : St) (x : Option Operand) (dflt : Int) : Option Int :=
  match x with
  | none => some dflt
  | some o => intOfAV (σ.ev o)

/-- How a region is read: 'none': in its own order; 'some ban': in any order; memory that turns there is new or goes by a key of 'ban'. -/
abbrev Qm := Option (List Nat)
/-- The key that a pointer goes by. -/
def keyOf : AV → Option Nat
  | .at (.bx k _ _) => some k
  | .at (.pa k _ _ _ _) => some k
  | _ => none
/-- The key that an array's slot goes by. -/
def keyW : AV → Option Nat
  | .at (.ow k _ _ _) => some k
  | _ => none
def freeB (q : Qm) (X : AV) : Prop :=
  match q with
  | none => True
  | some b => ∀ k, keyOf X = some k → k ∉ b
def heldB (q : Qm) (X : AV) : Prop :=
  match q with
  | some (b :: l) => b = 999999 ∨ ∀ k, keyOf X = some k → k ∈ b :: l
  | _ => True
/-- What is looked at stands (where a ban begins with 999999 the stores have their place in the order); what is written is meant to be. -/
def okQ (q : Qm) (o : Oper) (σ : St) : Prop :=
  match o.op with
  | .load _ x => freeB q (σ.ev x)
  | .store _ p _ => heldB q (σ.ev p)
  | _ => True

/-- 'quiet': a slice of memory of the call's own may not be cut here. -/
def sliceS (P : Program) (nx : Nat) (quiet : Qm) (t : TypeId) (σ : St) (x : AV) (lo hi mx : Option Operand) : Option (AV × Mem × Prop) :=
  match mx with
  | some _ => none
  | none =>
    match P.underlying t, x with
    | some .string, .at (.v (.string s)) =>
      match boundS σ lo 0, boundS σ hi s.size with
      | some l, some h => some (.at (.v (.string (s.extract l.toNat h.toNat))), σ.m, 0 ≤ l ∧ l ≤ h ∧ h ≤ (s.size : Int))
      | _, _ => none
    | some (.slice e), .at (.im sz rows) =>
      if szT P e = some sz then
        match boundS σ lo 0, boundS σ hi rows.length with
        | some l, some h => some (.at (.im sz ((rows.drop l.toNat).take (h.toNat - l.toNat))), σ.m, 0 ≤ l ∧ l ≤ h ∧ h ≤ (rows.length : Int))
        | _, _ => none
      else none
    | some (.slice e), .at .nil =>
      match boundS σ lo 0, boundS σ hi 0, szT P e with
      | some l, some h, some _ => some (.at .nil, σ.m, l = 0 ∧ h = 0)
      | _, _, _ => none
    | some (.slice e), .at (.ow k ver sz n) =>
      if szT P e = some sz ∧ quiet.isSome = false ∧ nx ≤ k then
        match boundS σ lo 0, boundS σ hi n, σ.m k with
        | some l, some h, .arr ver' sz' rows =>
          if ver = ver' ∧ sz = sz' then some (.at (.ow k (ver + 1) sz (h.toNat - l.toNat)), upd σ.m k (.arr (ver + 1) sz ((rows.drop l.toNat).take (h.toNat - l.toNat))), 0 ≤ l ∧ l ≤ h ∧ h ≤ (n : Int)) else none
        | _, _, _ => none
      else if szT P e = some sz ∧ quiet.isSome = true then
        match boundS σ lo 0, boundS σ hi n with
        | some l, some h => some (.at (.vw k ver sz l.toNat (h.toNat - l.toNat)), σ.m, 0 ≤ l ∧ l ≤ h ∧ h ≤ (n : Int))
        | _, _ => none
      else none
    | _, _ => none

/-- Rows of an array of one's own, copied within it. -/
def copyS (P : Program) (t : TypeId) (m : Mem) : AV → AV → Res
  | .at (.vw k ver sz off n), .at (.vw k' ver' sz' off' n') =>
    match P.underlying t with
    | some (.slice e) =>
      match m k with
      | .arr ver2 sz2 rows =>
        if k' = k ∧ ver' = ver ∧ sz' = sz ∧ ver2 = ver ∧ sz2 = sz ∧ szT P e = some sz then
          some (.at (.v (.int .i64 ((min n' n : Nat) : Int))), upd m k (.arr ver sz (splice rows off ((rows.drop off').take (min n' n)))), True)
        else none
      | _ => none
    | _ => none
  | _, _ => none

def zeroAtoms (P : Program) (t : TypeId) : Option (List A) :=
  match P.info? t with
  | some i => i.zero.map fun z => z.cells.toList.map atomOf
  | none => none
def zeroVals (P : Program) (t : TypeId) : Option (List Value) :=
  match P.info? t with
  | some i => i.zero.map fun z => z.cells.toList
  | none => none

/-- The parts of a struct literal, laid one by one. -/
def fillS (fs : List Field) (P : Program) (σ : St) : List (Nat × Operand) → List A → Option (List A)
  | [], cells => some cells
  | (i, x) :: rest, cells =>
    match fs[i]?, atomsOf (σ.ev x) with
    | some fd, some as => if szT P fd.type = some as.length ∧ fd.offset + as.length ≤ cells.length then fillS fs P σ rest (splice cells fd.offset as) else none
    | _, _ => none
def fillRows (σ : St) (sz : Nat) : List (Nat × Operand) → List (List Value) → Option (List (List Value))
  | [], rows => some rows
  | (i, x) :: rest, rows =>
    match (atomsOf (σ.ev x)).bind valsOf with
    | some us => if us.length = sz ∧ i < rows.length then fillRows σ sz rest (rows.set i us) else none
    | none => none

def srcRows (m : Mem) : AV → Option (Nat × List (List Value))
  | .at (.im sz rows) => some (sz, rows)
  | .at (.ow k ver sz n) =>
    match m k with
    | .arr ver' sz' rows | .ice ver' sz' rows => if ver = ver' ∧ sz = sz' then some (sz, rows) else none
    | _ => none
  | _ => none


/-- 'src' behind 'dst': the rows, and the limit on room. -/
def appendS (P : Program) (κ : Nat) (nx : Nat) (t t2 : TypeId) (m : Mem) (dst src : AV) : Res :=
  match P.underlying t with
  | some (.slice e) =>
    match szT P e, (P.info? e).map (·.bytes) with
    | some (sz + 1), some by_ =>
      match (match src with
        | .at (.v (.string s)) => if sz = 0 ∧ isStr P t2 = true then some (s.data.toList.map fun (b : UInt8) => [Value.int .u8 (b.toNat : Int)]) else none
        | .at .nil => if t2 = t then some [] else none
        | x => (srcRows m x).bind fun p => if p.1 = sz + 1 ∧ t2 = t then some p.2 else none) with
      | some news =>
        match dst with
        | .at .nil =>
          match m κ with
          | .gone => if (zeroVals P e).map List.length = some (sz + 1) then some (.at (.ow κ 0 (sz + 1) news.length), upd m κ (.arr 0 (sz + 1) news), nx ≤ κ ∧ news.length * by_ ≤ 140737488355328 ∧ news.length ≤ 4611686018427387904) else none
          | _ => none
        | .at (.ow k ver sz' n) =>
          match m k with
          | .arr ver' sz'' rows =>
            if ver = ver' ∧ sz' = sz'' ∧ sz' = sz + 1 ∧ nx ≤ k ∧ (zeroVals P e).map List.length = some (sz + 1) then
              some (.at (.ow k (ver + 1) (sz + 1) (rows.length + news.length)), upd m k (.arr (ver + 1) (sz + 1) (rows ++ news)), (rows.length + news.length) * by_ ≤ 140737488355328 ∧ rows.length + news.length ≤ 4611686018427387904)
            else none
          | _ => none
        | _ => none
      | none => none
    | _, _ => none
  | _ => none

def lenS (P : Program) (t : TypeId) : AV → Option Value
  | .at (.v (.string s)) => match P.underlying t with | some .string => some (.int .i64 s.size) | _ => none
  | .at (.im _ rows) => match P.underlying t with | some (.slice _) => some (.int .i64 rows.length) | _ => none
  | .at (.ow _ _ _ n) => match P.underlying t with | some (.slice _) => some (.int .i64 n) | _ => none
  | .at .nil => match P.underlying t with | some (.slice _) => some (.int .i64 0) | _ => none
  | _ => none

def max2S : AV → AV → Option Value
  | .at (.v (.int k x)), .at (.v (.int _ y)) => some (.int k (if y > x then y else x))
  | _, _ => none
def min2S : AV → AV → Option Value
  | .at (.v (.int k x)), .at (.v (.int _ y)) => some (.int k (if y < x then y else x))
  | _, _ => none

def builtinS (P : Program) (κ nx : Nat) (b : Builtin) (args : List Operand) (ts : List TypeId) (σ : St) : Res :=
  match b, args, ts with
  | .len, [x], [t] => match lenS P t (σ.ev x) with | some v => some (.at (.v v), σ.m, True) | none => none
  | .max, [x, y], _ => match max2S (σ.ev x) (σ.ev y) with | some v => some (.at (.v v), σ.m, True) | none => none
  | .min, [x, y], _ => match min2S (σ.ev x) (σ.ev y) with | some v => some (.at (.v v), σ.m, True) | none => none
  | .append, [x, y], [t, t2] => appendS P κ nx t t2 σ.m (σ.ev x) (σ.ev y)
  | .copy, [x, y], [t, _] => copyS P t σ.m (σ.ev x) (σ.ev y)
  | _, _, _ => none

/-- An array that has nothing yet. -/
def noRowsB (m : Mem) : AV → Bool
  | .at .nil => true
  | .at (.ow k _ _ _) =>
    match m k with
    | .arr _ _ [] => true
    | _ => false
  | _ => false
def inBan (ban : List Nat) (X : AV) : Bool :=
  match keyW X with
  | some k => ban.contains k
  | none => false
/-- 'quiet': only an array that has nothing yet may grow, or one that is meant to. -/
def quietB (quiet : Qm) (b : Builtin) (args : List Operand) (σ : St) : Bool :=
  match quiet, b, args with
  | some ban, .append, x :: _ => noRowsB σ.m (σ.ev x) || inBan ban (σ.ev x)
  | _, _, _ => true
theorem quietB_len {q : Qm} {l : List Operand} {σ : St} : quietB q .len l σ = true := by cases q <;> rfl
theorem quietB_max {q : Qm} {l : List Operand} {σ : St} : quietB q .max l σ = true := by cases q <;> rfl
theorem quietB_min {q : Qm} {l : List Operand} {σ : St} : quietB q .min l σ = true := by cases q <;> rfl
theorem quietB_copy {q : Qm} {l : List Operand} {σ : St} : quietB q .copy l σ = true := by cases q <;> rfl
theorem quietB_loud {b : Builtin} {l : List Operand} {σ : St} : quietB none b l σ = true := rfl

def siteOf (d : Option Nat) : Nat := 1000 + 16 * d.getD 0

def opS (P : Program) (nx : Nat) (quiet : Qm) (o : Oper) (σ : St) : Res :=
  match o.op with
  | .move x => some (σ.ev x, σ.m, True)
  | .assign x => some (σ.ev x, σ.m, True)
  | .pick c a b =>
    match σ.ev c with
    | .at (.v (.bool true)) => some (σ.ev a, σ.m, True)
    | .at (.v (.bool false)) => some (σ.ev b, σ.m, True)
    | _ => none
  | .binOp op t x y _ => match binS P op t (σ.ev x) (σ.ev y) with | some (v, c) => some (.at (.v v), σ.m, c) | none => none
  | .unOp op _ x => match unS op (σ.ev x) with | some v => some (.at (.v v), σ.m, True) | none => none
  | .convert s d x => match convS P s d (σ.ev x) with | some v => some (.at (.v v), σ.m, True) | none => none
  | .load t x => match loadS P t σ.m (σ.ev x) with | some (v, c) => some (v, σ.m, c) | none => none
  | .store t p x => match storeS P t σ.m (σ.ev p) (σ.ev x) with | some (m', c) => some (.at .dead, m', c) | none => none
  | .fieldAddr s x f => match fieldAddrS P s f (σ.ev x) with | some v => some (v, σ.m, True) | none => none
  | .field s x f => match fieldS P s f (σ.ev x) with | some (v, c) => some (v, σ.m, c) | none => none
  | .indexAddr t x i => match indexAddrS P t (σ.ev x) (σ.ev i) with | some (v, c) => some (v, σ.m, c) | none => none
  | .index t x i => match indexS P t (σ.ev x) (σ.ev i) with | some (v, c) => some (v, σ.m, c) | none => none
  | .slice t x lo hi mx => sliceS P nx quiet t σ (σ.ev x) lo hi mx
  | .box _ x =>
    match σ.m (siteOf o.dst), atomsOf (σ.ev x) with
    | .gone, some as => some (.at (.bx (siteOf o.dst) 0 0), upd σ.m (siteOf o.dst) (.box 0 as), nx ≤ siteOf o.dst)
    | _, _ => none
  | .alloc t =>
    match σ.m (siteOf o.dst), zeroAtoms P t with
    | .gone, some as => if as.all A.solid then some (.at (.bx (siteOf o.dst) 0 0), upd σ.m (siteOf o.dst) (.box 0 as), nx ≤ siteOf o.dst) else none
    | _, _ => none
  | .build t parts =>
    match P.underlying t, zeroAtoms P t with
    | some (.struct fs), some as =>
      if as.all A.solid = true ∧ fs.toList.all (fun (fd : Field) => (szT P fd.type).isSome) = true then
        match fillS fs.toList P σ parts.toList as with
        | some cs => some (.ag cs, σ.m, True)
        | none => none
      else none
    | _, _ => none
  | .buildSlice t len parts =>
    match P.underlying t with
    | some (.slice e) =>
      match σ.m (siteOf o.dst), szT P e, zeroVals P e with
      | .gone, some (sz + 1), some z =>
        if z.length = sz + 1 ∧ z.all (·.oneCell') = true ∧ len * (sz + 1) ≤ 16777216 then
          match fillRows σ (sz + 1) parts.toList (List.replicate len z) with
          | some rows => some (.at (.ow (siteOf o.dst) 0 (sz + 1) len), upd σ.m (siteOf o.dst) (.arr 0 (sz + 1) rows), nx ≤ siteOf o.dst)
          | none => none
        else none
      | _, _, _ => none
    | _ => none
  | .makeSlice t l c =>
    match P.underlying t, σ.ev l, σ.ev c with
    | some (.slice e), .at (.v (.int _ n)), .at (.v (.int _ n')) =>
      match σ.m (siteOf o.dst), szT P e, zeroVals P e, (P.info? e).map (·.bytes) with
      | .gone, some (sz + 1), some z, some by_ =>
        if z.length = sz + 1 ∧ z.all (·.oneCell') = true then
          some (.at (.ow (siteOf o.dst) 0 (sz + 1) n.toNat), upd σ.m (siteOf o.dst) (.arr 0 (sz + 1) (List.replicate n.toNat z)), nx ≤ siteOf o.dst ∧ n = n' ∧ 0 ≤ n ∧ n ≤ 4611686018427387904 ∧ by_ * n ≤ 281474976710656)
        else none
      | _, _, _, _ => none
    | _, _, _ => none
  | .extract x i => match σ.ev x with | .tp xs => (match xs[i]? with | some v => some (v, σ.m, True) | none => none) | _ => none
  | .nilCheck x => match σ.ev x with | .at (.bx k ver off) => some (.at (.bx k ver off), σ.m, True) | _ => none
  | .call c => match c.callee with | .builtin b => if quietB quiet b c.args.toList σ = true then builtinS P (siteOf o.dst) nx b c.args.toList c.argTypes.toList σ else none | _ => none
  | _ => none

end Go.Abs

/- What one operation does to a frame read as data; and that the world does so. Part 2: frames and the operations that leave the world alone. -/
namespace Go.Abs
open Go.RowKit
set_option linter.unusedVariables false
set_option linter.unusedSimpArgs false

theorem getD_put {a : Act} {d : Nat} {u : Value} (hd : d < a.tmps.size) (t : Nat) :
    (a.put (some d) u).tmps.getD t undef = if t = d then u else a.tmps.getD t undef := by
  simp only [Act.put, Array.getD_eq_getD_getElem?, Array.getElem?_setIfInBounds]
  by_cases h : d = t
  · subst h; simp [hd]
  · have h' : ¬ t = d := fun e => h e.symm
    simp [h, h']

structure Nx (g : G) (F : Nat → Prop) (lam : Lam) (m : Mem) (w : World) (F' : Nat → Prop) (lam' : Lam) (m' : Mem) (w' : World) : Prop where
  le : Le w w' F F' m m' lam lam'
  mem : MemRel g w' F' m' lam'
  f2 : ∀ b, b < g.w0.heap.size → F' b → g.F0 b
  f3 : ∀ b, F' b → b < w'.heap.size
  l0 : ∀ k, k < g.nx → lam' k = g.lam0 k
  chg : Chg g w'

section
variable {g : G} {F F' : Nat → Prop} {lam lam' : Lam} {σ : St} {a : Act} {w w' : World} {m' : Mem} {x : AV} {u : Value}

theorem Inv.next (hI : Inv g F lam σ a w) (h : Nx g F lam σ.m w F' lam' m' w') {d : Nat} (hd : d < g.nt) (hx : RV w' F' m' lam' x u) :
    Inv g F' lam' ⟨upd σ.t d x, m'⟩ (a.put (some d) u) w' where
  f1 b hb := (h.le.fro b (hI.f1 b hb)).1
  f2 := h.f2
  f3 := h.f3
  mem := h.mem
  l0 := h.l0
  sl t := by
    rw [getD_put (by rw [hI.nt]; exact hd)]
    by_cases ht : t = d
    · subst ht; simp only [upd_same, if_true]; exact hx
    · rw [if_neg ht]; show RV w' F' m' lam' (upd σ.t d x t) _; rw [upd_ne _ _ ht]; exact (hI.sl t).le h.le
  nt := by simp [Act.put, hI.nt]
  chg := h.chg
  df := hI.df

theorem Inv.next0 (hI : Inv g F lam σ a w) (h : Nx g F lam σ.m w F' lam' m' w') : Inv g F' lam' ⟨σ.t, m'⟩ a w' where
  f1 b hb := (h.le.fro b (hI.f1 b hb)).1
  f2 := h.f2
  f3 := h.f3
  mem := h.mem
  l0 := h.l0
  sl t := (hI.sl t).le h.le
  nt := hI.nt
  chg := h.chg
  df := hI.df

theorem Inv.same (hI : Inv g F lam σ a w) : Nx g F lam σ.m w F lam σ.m w := ⟨Le.refl _ _ _ _, hI.mem, hI.f2, hI.f3, hI.l0, hI.chg⟩

theorem RA_atomOf (w : World) (F : Nat → Prop) (m : Mem) (lam : Lam) (v : Value) : RA w F m lam (atomOf v) v := by
  unfold atomOf
  split <;> simp [RA, Value.oneCell']

theorem oneCell_of_atomOf {v : Value} (h : (atomOf v).solid = true) : v.oneCell' = true := by
  unfold atomOf at h
  split at h <;> simp_all [Value.oneCell', A.solid]

theorem RV_const (w : World) (F : Nat → Prop) (m : Mem) (lam : Lam) (v : Value) : RV w F m lam (constAV v) v := by
  unfold constAV
  split
  · rename_i cs
    split
    · rename_i hall
      refine ⟨cs.toList, by simp, by simp, fun i a u ha hu => ?_⟩
      simp only [List.getElem?_map, hu, Option.map_some, Option.some.injEq] at ha
      subst ha
      refine ⟨RA_atomOf _ _ _ _ _, oneCell_of_atomOf ?_⟩
      rw [List.all_eq_true] at hall
      exact hall _ (List.mem_map_of_mem (List.mem_of_getElem? hu))
    · trivial
  · trivial
  · exact RA_atomOf _ _ _ _ _

theorem Inv.ev (hI : Inv g F lam σ a w) (x : Operand) : RV w F σ.m lam (σ.ev x) (a.eval x) := by
  cases x with
  | tmp t => exact hI.sl t
  | const v => exact RV_const _ _ _ _ v
  | global n => trivial
  | func f => trivial

theorem RA.solid {m : Mem} {A0 : A} (h : RA w F m lam A0 u) (hs : A0.solid = true) : u.oneCell' = true := by
  cases A0 with
  | v x => obtain ⟨rfl, h⟩ := h; exact h
  | im sz rows => obtain ⟨_, a, cap, rfl, _⟩ := h; rfl
  | fr sz rows => exact h.elim
  | fb cs => exact h.elim
  | ow k ver sz n => obtain ⟨_, ⟨rfl, _⟩ | ⟨b, o, cap, rfl, _⟩, _⟩ := h <;> rfl
  | nil => cases h; rfl
  | bx k ver off => obtain ⟨_, ⟨b, o, rfl⟩, _⟩ := h; rfl
  | pa k ver sz i off => obtain ⟨_, ⟨b, o, rfl⟩, _⟩ := h; rfl
  | pi cs => obtain ⟨b, o, rfl, _⟩ := h; rfl
  | vw k ver sz off n => obtain ⟨_, ⟨A0, cap, rfl⟩, _⟩ := h; rfl
  | er => obtain ⟨t, x, rfl⟩ := h; rfl
  | dead => cases hs

/-- The operation's own run. -/
abbrev runO (P : Program) (a : Act) (o : Oper) (w : World) : Result Next := (execOp a.eval o).run P w

def Good (g : G) (F : Nat → Prop) (lam : Lam) (σ : St) (w : World) (r : Result Next) (x : AV) (m' : Mem) : Prop :=
  ∃ u w' F' lam', (r = .ok (.value u) w' ∨ (r = .ok .skip w' ∧ u = undef)) ∧ Nx g F lam σ.m w F' lam' m' w' ∧ RV w' F' m' lam' x u

theorem Good.pure (hI : Inv g F lam σ a w) {r : Result Next} (hr : r = .ok (.value u) w) (hx : RV w F σ.m lam x u) : Good g F lam σ w r x σ.m :=
  ⟨u, w, F, lam, .inl hr, hI.same, hx⟩

theorem run_v {P : Program} {s : Sem Value} {v : Value} {w w' : World} (h : s.run P w = .ok v w') : (do Pure.pure (Next.value (← s)) : Sem Next).run P w = .ok (.value v) w' := by
  rw [Sem.run_bind, h]; rfl

end

end Go.Abs

/- What one operation does: the operations on numbers, texts and truths. -/
namespace Go.Abs
open Go.RowKit
set_option linter.unusedVariables false
set_option linter.unusedSimpArgs false

section
variable {P : Program} {w : World} {F : Nat → Prop} {m : Mem} {lam : Lam}

theorem run_intBin {op : BinOp} {k : IntKind} {a b : Int} {v : Value} {c : Prop} (h : intBin op k a b = some (v, c)) (hc : c) (t : TypeId) (ox oy : Operand) :
    (do eqGuard op t ox oy (.int k a) (.int k b); binOp op t (.int k a) (.int k b) : Sem Value).run P w = .ok v w ∧ v.oneCell' = true := by
  cases op <;> simp only [intBin, Option.some.injEq, Prod.mk.injEq, reduceCtorEq] at h <;> obtain ⟨rfl, rfl⟩ := h <;>
    simp [eqGuard, binOp, Op.intArith, Op.intDiv, Op.intBits, Op.intCmp, Value.oneCell', hc]

theorem run_shBin {op : BinOp} {k k' : IntKind} {a b : Int} {v : Value} {c : Prop} (h : shBin op k a b = some (v, c)) (hc : c) (t : TypeId) (ox oy : Operand) :
    (do eqGuard op t ox oy (.int k a) (.int k' b); binOp op t (.int k a) (.int k' b) : Sem Value).run P w = .ok v w ∧ v.oneCell' = true := by
  cases op <;> simp only [shBin, Option.some.injEq, Prod.mk.injEq, reduceCtorEq] at h <;> obtain ⟨rfl, rfl⟩ := h <;>
    simp [eqGuard, binOp, Op.shift, Value.oneCell', Int.not_lt.2 hc]

theorem run_strBin {op : BinOp} {a b : ByteArray} {v : Value} {c : Prop} (h : strBin op a b = some (v, c)) (hc : c) (t : TypeId) (ox oy : Operand) :
    (do eqGuard op t ox oy (.string a) (.string b); binOp op t (.string a) (.string b) : Sem Value).run P w = .ok v w ∧ v.oneCell' = true := by
  cases op <;> simp only [strBin, Option.some.injEq, Prod.mk.injEq, reduceCtorEq] at h <;> obtain ⟨rfl, rfl⟩ := h
  · refine ⟨?_, rfl⟩
    have := run_string_add_sum (P := P) (w := w) a b hc
    simpa [eqGuard, binOp] using this
  all_goals simp [eqGuard, binOp, Op.stringOp, Value.oneCell']

theorem run_boolBin {op : BinOp} {a b : Bool} {t : TypeId} (ht : P.underlying t = some .bool) (ox oy : Operand) :
    (op = .eql → (do eqGuard op t ox oy (.bool a) (.bool b); binOp op t (.bool a) (.bool b) : Sem Value).run P w = .ok (.bool (a == b)) w) ∧
    (op = .neq → (do eqGuard op t ox oy (.bool a) (.bool b); binOp op t (.bool a) (.bool b) : Sem Value).run P w = .ok (.bool (!(a == b))) w) := by
  constructor <;> rintro rfl <;> simp [eqGuard, binOp, run_equal_bool w t a b ht]

theorem run_ifaceBin {t tx : TypeId} {x : Value} {ms : Array (String × TypeId)} (ht : P.underlying t = some (.interface ms)) (ox oy : Operand) :
    (do eqGuard .eql t ox oy (.iface tx x) .nilIface; binOp .eql t (.iface tx x) .nilIface : Sem Value).run P w = .ok (.bool false) w ∧
    (do eqGuard .neq t ox oy (.iface tx x) .nilIface; binOp .neq t (.iface tx x) .nilIface : Sem Value).run P w = .ok (.bool true) w := by
  have hm : P.underlying t = some (.interface (P.methodsAt t)) := by simp [Program.methodsAt, ht]
  constructor <;> simp [eqGuard, run_eql_held_nil w t tx x hm, run_neq_held_nil w t tx x hm]

theorem run_eqCells {fs : List Field} {xs ys : List A} {us vs : List Value} {r : Bool} (d : Nat) (h : eqCells P fs xs ys = some r)
    (hx : RL (fun a x => RA w F m lam a x ∧ x.oneCell' = true) xs us) (hy : RL (fun a x => RA w F m lam a x ∧ x.oneCell' = true) ys vs) :
    (Op.eqFields (d + 1) us.toArray vs.toArray fs).run P w = .ok r w := by
  induction fs generalizing r with
  | nil => simp only [eqCells, Option.some.injEq] at h; subst h; simp [Op.eqFields]
  | cons f fs ih =>
    simp only [eqCells] at h
    split at h
    · cases h
    · rename_i hn
      split at h
      · rename_i k k0 a k' b r' hu hxa hyb hr
        split at h
        · rename_i hk
          subst hk
          simp only [Option.some.injEq] at h
          subst h
          have hi := ih hr
          have h1 : us[f.offset]? = some (.int k0 a) := by
            have hl := hx.1
            have := (List.getElem?_eq_some_iff.1 hxa).1
            obtain ⟨u, hu'⟩ : ∃ u, us[f.offset]? = some u := ⟨us[f.offset]'(by omega), List.getElem?_eq_getElem _⟩
            have := (hx.2 _ _ _ hxa hu').1.1
            rw [hu', this]
          have h2 : vs[f.offset]? = some (.int k0 b) := by
            have hl := hy.1
            have := (List.getElem?_eq_some_iff.1 hyb).1
            obtain ⟨u, hu'⟩ : ∃ u, vs[f.offset]? = some u := ⟨vs[f.offset]'(by omega), List.getElem?_eq_getElem _⟩
            have := (hy.2 _ _ _ hyb hu').1.1
            rw [hu', this]
          simp only [Op.eqFields, hn, ne_eq, not_false_eq_true, if_true, Sem.run_bind, part, isAgg, run_underlying hu, Result.andThen_ok, Sem.run_pure, Sem.run_ite, Bool.false_eq_true, if_false, List.getElem?_toArray, h1, h2, run_equalIn_int w d f.type k0 k0 a b]
          rw [run_equalIn_int w d f.type k0 k a b hu]
          simp only [Result.andThen_ok]
          cases hab : (a == b)
          · simp
          · simpa using hi
        · cases h
      · rename_i a b r' hu hxa hyb hr
        simp only [Option.some.injEq] at h
        subst h
        have hi := ih hr
        have h1 : us[f.offset]? = some (.bool a) := by
          have hl := hx.1
          have := (List.getElem?_eq_some_iff.1 hxa).1
          obtain ⟨u, hu'⟩ : ∃ u, us[f.offset]? = some u := ⟨us[f.offset]'(by omega), List.getElem?_eq_getElem _⟩
          have := (hx.2 _ _ _ hxa hu').1.1
          rw [hu', this]
        have h2 : vs[f.offset]? = some (.bool b) := by
          have hl := hy.1
          have := (List.getElem?_eq_some_iff.1 hyb).1
          obtain ⟨u, hu'⟩ : ∃ u, vs[f.offset]? = some u := ⟨vs[f.offset]'(by omega), List.getElem?_eq_getElem _⟩
          have := (hy.2 _ _ _ hyb hu').1.1
          rw [hu', this]
        simp only [Op.eqFields, hn, ne_eq, not_false_eq_true, if_true, Sem.run_bind, part, isAgg, run_underlying hu, Result.andThen_ok, Sem.run_pure, Sem.run_ite, Bool.false_eq_true, if_false, List.getElem?_toArray, h1, h2]
        rw [run_equalIn_bool' w d f.type a b hu]
        simp only [Result.andThen_ok]
        cases hab : (a == b)
        · simp
        · simpa using hi
      · cases h

theorem run_aggBin {t : TypeId} {fs : Array Field} {xs ys : List A} {us vs : List Value} {r : Bool} (ht : P.underlying t = some (.struct fs)) (h : eqCells P fs.toList xs ys = some r)
    (h1 : P.eqGuardType P.depth t = false) (h2 : P.stoodInHeld t = false)
    (hx : RL (fun a x => RA w F m lam a x ∧ x.oneCell' = true) xs us) (hy : RL (fun a x => RA w F m lam a x ∧ x.oneCell' = true) ys vs) (ox oy : Operand) :
    (do eqGuard .eql t ox oy (.agg us.toArray) (.agg vs.toArray); binOp .eql t (.agg us.toArray) (.agg vs.toArray) : Sem Value).run P w = .ok (.bool r) w ∧
    (do eqGuard .neq t ox oy (.agg us.toArray) (.agg vs.toArray); binOp .neq t (.agg us.toArray) (.agg vs.toArray) : Sem Value).run P w = .ok (.bool (!r)) w := by
  have hf : P.fieldsOf t = fs := by simp [Program.fieldsOf, ht]
  have hr := run_eqCells (P := P) 9998 h hx hy
  have hq := run_equalIn_agg (P := P) w 9999 t us.toArray vs.toArray (by rw [hf]; exact ht) h2
  rw [hf, hr] at hq
  constructor <;> simp only [Sem.run_bind, run_eqGuard_agg w _ t ox oy _ _ h1, Result.andThen_ok, run_eql_struct, run_neq_struct, hq]

theorem run_binS {op : BinOp} {t : TypeId} {X Y : AV} {v : Value} {c : Prop} {x y : Value} (h : binS P op t X Y = some (v, c)) (hc : c)
    (hX : RV w F m lam X x) (hY : RV w F m lam Y y) (ox oy : Operand) :
    (do eqGuard op t ox oy x y; binOp op t x y : Sem Value).run P w = .ok v w ∧ v.oneCell' = true := by
  unfold binS at h
  split at h
  · obtain ⟨rfl, _⟩ := hX
    obtain ⟨rfl, _⟩ := hY
    split at h
    · exact run_shBin h hc t ox oy
    · exact run_shBin h hc t ox oy
    · split at h
      · rename_i hk; subst hk; exact run_intBin h hc t ox oy
      · cases h
  · obtain ⟨rfl, _⟩ := hX
    obtain ⟨rfl, _⟩ := hY
    exact run_strBin h hc t ox oy
  · obtain ⟨rfl, _⟩ := hX
    obtain ⟨rfl, _⟩ := hY
    split at h
    · rename_i ht
      simp only [Option.some.injEq, Prod.mk.injEq] at h; obtain ⟨rfl, rfl⟩ := h
      exact ⟨(run_boolBin ht ox oy).1 rfl, rfl⟩
    · rename_i ht
      simp only [Option.some.injEq, Prod.mk.injEq] at h; obtain ⟨rfl, rfl⟩ := h
      exact ⟨(run_boolBin ht ox oy).2 rfl, rfl⟩
    · cases h
  · obtain ⟨tx, x0, rfl⟩ := hX
    obtain ⟨rfl, _⟩ := hY
    split at h
    · rename_i ht
      simp only [Option.some.injEq, Prod.mk.injEq] at h; obtain ⟨rfl, rfl⟩ := h
      exact ⟨(run_ifaceBin ht ox oy).1, rfl⟩
    · rename_i ht
      simp only [Option.some.injEq, Prod.mk.injEq] at h; obtain ⟨rfl, rfl⟩ := h
      exact ⟨(run_ifaceBin ht ox oy).2, rfl⟩
    · cases h
  · obtain ⟨us, rfl, hx⟩ := hX
    obtain ⟨vs, rfl, hy⟩ := hY
    split at h
    · rename_i ht
      split at h
      · rename_i hr
        simp only [Option.some.injEq, Prod.mk.injEq] at h; obtain ⟨rfl, rfl⟩ := h
        exact ⟨(run_aggBin ht hr hc.1 hc.2 hx hy ox oy).1, rfl⟩
      · rename_i hr
        simp only [Option.some.injEq, Prod.mk.injEq] at h; obtain ⟨rfl, rfl⟩ := h
        exact ⟨(run_aggBin ht hr hc.1 hc.2 hx hy ox oy).2, rfl⟩
      · cases h
    · cases h
  · cases h

theorem run_unS {op : UnOp} {X : AV} {v x : Value} (h : unS op X = some v) (hX : RV w F m lam X x) : (Op.unary op x).run P w = .ok v w ∧ v.oneCell' = true := by
  unfold unS at h
  split at h
  · obtain ⟨rfl, _⟩ := hX
    split at h <;> simp only [Option.some.injEq, reduceCtorEq] at h
    subst h
    exact ⟨rfl, rfl⟩
  · obtain ⟨rfl, _⟩ := hX
    split at h <;> simp only [Option.some.injEq, reduceCtorEq] at h
    subst h
    exact ⟨rfl, rfl⟩
  · cases h

theorem run_convS {s d : TypeId} {X : AV} {v x : Value} (h : convS P s d X = some v) (hX : RV w F m lam X x) : (convert s d x).run P w = .ok v w ∧ v.oneCell' = true := by
  unfold convS at h
  split at h
  · obtain ⟨rfl, _⟩ := hX
    split at h <;> simp only [Option.some.injEq, reduceCtorEq] at h
    · rename_i hs hd
      subst h
      exact ⟨by simp [convert, run_underlying hs, run_underlying hd, Conv.intToInt], rfl⟩
    · rename_i hs hd
      subst h
      exact ⟨by simp [convert, run_underlying hs, run_underlying hd, Conv.intToString], rfl⟩
  · obtain ⟨rfl, _⟩ := hX
    split at h <;> simp only [Option.some.injEq, reduceCtorEq] at h
    rename_i hs hd
    subst h
    exact ⟨by simp [convert, run_underlying hs, run_underlying hd], rfl⟩
  · cases h

theorem run_lenS {t ty : TypeId} {X : AV} {v x : Value} (h : lenS P t X = some v) (hX : RV w F m lam X x) :
    (Builtin.len_ #[t] ty #[x]).run P w = .ok v w ∧ v.oneCell' = true := by
  unfold lenS at h
  split at h
  · obtain ⟨rfl, _⟩ := hX
    split at h <;> simp only [Option.some.injEq, reduceCtorEq] at h
    rename_i ht; subst h
    exact ⟨by simp [Builtin.len_, run_underlying ht, goInt], rfl⟩
  · obtain ⟨_, a, cap, rfl, _⟩ := hX
    split at h <;> simp only [Option.some.injEq, reduceCtorEq] at h
    rename_i ht; subst h
    exact ⟨by simp [Builtin.len_, run_underlying ht, goInt], rfl⟩
  · obtain ⟨_, ⟨rfl, rfl⟩ | ⟨b, o, cap, rfl, _⟩, _⟩ := hX <;> split at h <;> simp only [Option.some.injEq, reduceCtorEq] at h <;> rename_i ht <;> subst h <;>
      exact ⟨by simp [Builtin.len_, run_underlying ht, goInt], rfl⟩
  · cases hX
    split at h <;> simp only [Option.some.injEq, reduceCtorEq] at h
    rename_i ht; subst h
    exact ⟨by simp [Builtin.len_, run_underlying ht, goInt], rfl⟩
  · cases h

theorem run_max2 {X Y : AV} {v x y : Value} (h : max2S X Y = some v) (hX : RV w F m lam X x) (hY : RV w F m lam Y y) (ts : Array TypeId) (t : TypeId) : (Builtin.max_ ts t #[x, y]).run P w = .ok v w ∧ v.oneCell' = true := by
  unfold max2S at h
  split at h
  · obtain ⟨rfl, _⟩ := hX
    obtain ⟨rfl, _⟩ := hY
    simp only [Option.some.injEq] at h; subst h
    exact ⟨by simp [Builtin.max_, Builtin.max2], rfl⟩
  · cases h

theorem run_min2 {X Y : AV} {v x y : Value} (h : min2S X Y = some v) (hX : RV w F m lam X x) (hY : RV w F m lam Y y) (ts : Array TypeId) (t : TypeId) : (Builtin.min_ ts t #[x, y]).run P w = .ok v w ∧ v.oneCell' = true := by
  unfold min2S at h
  split at h
  · obtain ⟨rfl, _⟩ := hX
    obtain ⟨rfl, _⟩ := hY
    simp only [Option.some.injEq] at h; subst h
    exact ⟨by simp [Builtin.min_, Builtin.min2], rfl⟩
  · cases h

end
end Go.Abs

/- What one operation does: loads, addresses, parts. -/
namespace Go.Abs
open Go.RowKit
set_option linter.unusedVariables false
set_option linter.unusedSimpArgs false

section
variable {P : Program} {w : World} {F : Nat → Prop} {m : Mem} {lam : Lam}

theorem run_isAgg {t : TypeId} {b : Bool} (h : aggT P t = some b) : (isAgg t).run P w = .ok b w := by
  unfold aggT at h
  unfold isAgg
  split at h
  · rename_i hu; simp only [Option.some.injEq] at h; subst h; simp [run_underlying hu]
  · rename_i hu; simp only [Option.some.injEq] at h; subst h; simp [run_underlying hu]
  · rename_i d hn1 hn2 hu
    simp only [Option.some.injEq] at h; subst h
    simp only [Sem.run_bind, run_underlying hu, Result.andThen_ok]
    rfl
  · cases h

theorem run_szT {t : TypeId} {s : Nat} (h : szT P t = some s) : (sizeOf t).run P w = .ok s w := by
  unfold szT at h
  cases hi : P.info? t with
  | none => simp [hi] at h
  | some i => simp [hi] at h; subst h; simp [sizeOf, typeInfo, hi]

theorem info_szT {t : TypeId} {s : Nat} (h : szT P t = some s) : ∃ i, P.info? t = some i ∧ i.size = s := by
  unfold szT at h
  cases hi : P.info? t with
  | none => simp [hi] at h
  | some i => exact ⟨i, rfl, by simpa [hi] using h⟩

theorem run_load_one {t : TypeId} {p : Addr} {v : Value} (h : aggT P t = some false) (hv : w.cell? p = some v) : (Instr.loadAt t (.pointer (some p))).run P w = .ok v w := by
  simp only [Instr.loadAt, Instr.sureAddr, Sem.run_bind, Sem.run_pure, Result.andThen_ok, loadVar, run_isAgg h, Sem.run_ite, Bool.false_eq_true, if_false]
  rw [run_load]
  simp [hv]

theorem run_load_agg {t : TypeId} {b o s : Nat} {cs : List Value} (h : aggT P t = some true) (hs : szT P t = some s) (hl : cs.length = s) (hc : ∀ j v, cs[j]? = some v → w.cell? ⟨b, o + j, none⟩ = some v) :
    (Instr.loadAt t (.pointer (some ⟨b, o, none⟩))).run P w = .ok (.agg cs.toArray) w := by
  have := run_loadCells_list (P := P) w ⟨b, o, none⟩ cs (fun j v hj => by rw [Addr.add_lit]; exact hc j v hj)
  rw [hl] at this
  simp only [Instr.loadAt, Instr.sureAddr, Sem.run_bind, Sem.run_pure, Result.andThen_ok, loadVar, run_isAgg h, Sem.run_ite, if_true, run_szT hs, this]

/-- Rows laid end to end. -/
theorem flatten_length {sz : Nat} {rows : List (List Value)} (h : Wf sz rows) : rows.flatten.length = rows.length * sz := by
  induction rows with
  | nil => simp
  | cons r rows ih =>
    have h1 : r.length = sz := h r (by simp)
    have := ih (fun r' hr => h r' (by simp [hr]))
    simp only [List.flatten_cons, List.length_append, List.length_cons, this, h1, Nat.add_mul, Nat.one_mul]
    omega

theorem flatten_drop {sz : Nat} {rows : List (List Value)} (h : Wf sz rows) (k : Nat) : (rows.drop k).flatten = rows.flatten.drop (k * sz) := by
  induction rows generalizing k with
  | nil => simp
  | cons r rows ih =>
    have h1 : r.length = sz := h r (by simp)
    have h2 : Wf sz rows := fun r' hr => h r' (by simp [hr])
    cases k with
    | zero => simp
    | succ k =>
      simp only [List.drop_succ_cons, ih h2, List.flatten_cons]
      rw [List.drop_append]
      have : r.drop ((k + 1) * sz) = [] := List.drop_eq_nil_of_le (by rw [h1, Nat.add_mul]; omega)
      rw [this, List.nil_append, h1]
      congr 1
      rw [Nat.add_mul]; omega

theorem flatten_take {sz : Nat} {rows : List (List Value)} (h : Wf sz rows) (k : Nat) : (rows.take k).flatten = rows.flatten.take (k * sz) := by
  induction rows generalizing k with
  | nil => simp
  | cons r rows ih =>
    have h1 : r.length = sz := h r (by simp)
    have h2 : Wf sz rows := fun r' hr => h r' (by simp [hr])
    cases k with
    | zero => simp
    | succ k =>
      simp only [List.take_succ_cons, ih h2, List.flatten_cons]
      rw [List.take_append]
      have e1 : r.take ((k + 1) * sz) = r := List.take_of_length_le (by rw [h1, Nat.add_mul]; omega)
      have e2 : (k + 1) * sz - r.length = k * sz := by rw [h1, Nat.add_mul]; omega
      rw [e1, e2]

theorem Wf.drop {sz : Nat} {rows : List (List Value)} (h : Wf sz rows) (k : Nat) : Wf sz (rows.drop k) := fun r hr => h r (List.mem_of_mem_drop hr)
theorem Wf.take {sz : Nat} {rows : List (List Value)} (h : Wf sz rows) (k : Nat) : Wf sz (rows.take k) := fun r hr => h r (List.mem_of_mem_take hr)

theorem row_at {sz i : Nat} {rows : List (List Value)} (h : Wf sz rows) (hi : i < rows.length) : (rows.getD i []).length = sz ∧ rows.getD i [] = (rows.flatten.drop (i * sz)).take sz := by
  have hg : rows.getD i [] = rows[i] := by simp [List.getD, List.getElem?_eq_getElem hi]
  have h1 : (rows[i]).length = sz := h _ (List.getElem_mem hi)
  refine ⟨by rw [hg]; exact h1, ?_⟩
  rw [← flatten_drop h, List.drop_eq_getElem_cons hi, List.flatten_cons, ← h1, List.take_append, List.take_length, Nat.sub_self, List.take_zero, List.append_nil, hg]

theorem RowsAt.row {b o sz i : Nat} {rows : List (List Value)} (h : RowsAt w b o rows.flatten) (hw : Wf sz rows) (hi : i < rows.length) : RowsAt w b (o + i * sz) (rows.getD i []) := by
  intro j u hj
  rw [(row_at hw hi).2, List.getElem?_take] at hj
  split at hj
  · rw [List.getElem?_drop] at hj
    have := h _ _ hj
    rw [show o + i * sz + j = o + (i * sz + j) by omega]
    exact this
  · cases hj

theorem RowsAt.drop {b o : Nat} {cs : List Value} (h : RowsAt w b o cs) (k : Nat) : RowsAt w b (o + k) (cs.drop k) := by
  intro j u hj
  rw [List.getElem?_drop] at hj
  rw [Nat.add_assoc]
  exact h _ _ hj

theorem RowsAt.take {b o : Nat} {cs : List Value} (h : RowsAt w b o cs) (k : Nat) : RowsAt w b o (cs.take k) := by
  intro j u hj
  rw [List.getElem?_take] at hj
  split at hj
  · exact h _ _ hj
  · cases hj

/-- The cells of an array of our own. -/
theorem cells_of_arr {b o : Nat} {cur : Array Value} {ty : TypeId} {fr : Nat × Nat} {cs : List Value} (hg : w.heap[b]? = some (.cells cur ty fr)) (h : (cur.toList.drop o).take cs.length = cs) (h1 : ∀ u ∈ cs, u.oneCell' = true) : RowsAt w b o cs := by
  intro j u hj
  refine ⟨?_, h1 u (List.mem_of_getElem? hj)⟩
  rw [cell_of_row w b (o + j) cur ty fr hg]
  rw [← h, List.getElem?_take] at hj
  split at hj
  · rw [List.getElem?_drop, Array.getElem?_toList] at hj
    exact hj
  · cases hj

theorem RL_vals {R : A → Value → Prop} {cs : List Value} (h : ∀ u ∈ cs, R (.v u) u) : RL R (cs.map .v) cs := by
  refine ⟨by simp, fun i a u ha hu => ?_⟩
  simp only [List.getElem?_map, hu, Option.map_some, Option.some.injEq] at ha
  subst ha
  exact h u (List.mem_of_getElem? hu)

theorem RL.drop {R : A → Value → Prop} {as : List A} {us : List Value} (h : RL R as us) (k : Nat) : RL R (as.drop k) (us.drop k) := by
  refine ⟨by simp [h.1], fun i a u ha hu => ?_⟩
  rw [List.getElem?_drop] at ha hu
  exact h.2 _ _ _ ha hu

theorem RL.take {R : A → Value → Prop} {as : List A} {us : List Value} (h : RL R as us) (k : Nat) : RL R (as.take k) (us.take k) := by
  refine ⟨by simp [h.1], fun i a u ha hu => ?_⟩
  rw [List.getElem?_take] at ha hu
  split at ha
  · rename_i hk; rw [if_pos hk] at hu; exact h.2 _ _ _ ha hu
  · cases ha

theorem RL.at {R : A → Value → Prop} {as : List A} {us : List Value} (h : RL R as us) {i : Nat} {a : A} (ha : as[i]? = some a) : ∃ u, us[i]? = some u ∧ R a u := by
  have hl := h.1
  have := (List.getElem?_eq_some_iff.1 ha).1
  have hu : us[i]? = some (us[i]'(by omega)) := List.getElem?_eq_getElem _
  exact ⟨_, hu, h.2 _ _ _ ha hu⟩

end

section
variable {g : G} {F : Nat → Prop} {lam : Lam} {σ : St} {a : Act} {w : World}

/-- Reads of an array's element, of our own or read only. -/
theorem loadS_cells {t : TypeId} {b o : Nat} {cs : List Value} (hr : RowsAt w b o cs) {X : AV} {c : Prop}
    (h : (match aggT g.P t, szT g.P t with
      | some true, some s => some (AV.ag ((cs.take s).map .v), s ≤ cs.length)
      | some false, _ => some (AV.at (.v (cs.getD 0 undef)), 0 < cs.length)
      | _, _ => none) = some (X, c)) (hc : c) (m : Mem) : ∃ v, (Instr.loadAt t (.pointer (some ⟨b, o, none⟩))).run g.P w = .ok v w ∧ RV w F m lam X v := by
  split at h
  · rename_i s h1 h2
    simp only [Option.some.injEq, Prod.mk.injEq] at h
    obtain ⟨rfl, rfl⟩ := h
    refine ⟨.agg (cs.take s).toArray, run_load_agg h1 h2 (by simp; omega) (fun j v hj => (hr.take s j v hj).1), ?_⟩
    exact ⟨_, rfl, RL_vals fun u hu => by
      obtain ⟨j, hj⟩ := List.mem_iff_getElem?.1 hu
      have := (hr.take s j u hj).2
      exact ⟨⟨rfl, this⟩, this⟩⟩
  · rename_i h1
    simp only [Option.some.injEq, Prod.mk.injEq] at h
    obtain ⟨rfl, rfl⟩ := h
    have h0 : cs[0]? = some (cs.getD 0 undef) := by simp [List.getD, List.getElem?_eq_getElem hc]
    have := hr 0 _ h0
    exact ⟨_, run_load_one h1 this.1, rfl, this.2⟩
  · cases h

theorem run_loadS (hI : Inv g F lam σ a w) {t : TypeId} {p : AV} {X : AV} {c : Prop} {u : Value} (h : loadS g.P t σ.m p = some (X, c)) (hc : c) (hp : RV w F σ.m lam p u) :
    ∃ v, (Instr.loadAt t u).run g.P w = .ok v w ∧ RV w F σ.m lam X v := by
  unfold loadS at h
  split at h
  · rename_i k ver off
    split at h
    · rename_i ver' cells hm
      split at h
      · rename_i hv; subst hv
        obtain ⟨_, _, hp⟩ := hp
        obtain ⟨b, hl, rfl⟩ := hp _ hm
        have he := hI.mem.ent k
        rw [hm] at he
        obtain ⟨b', cur, ty, hl', hg, _, _, hcells⟩ := he
        rw [hl] at hl'
        simp only [Option.some.injEq, Prod.mk.injEq, and_true] at hl'
        subst hl'
        split at h
        · rename_i s h1 h2
          simp only [Option.some.injEq, Prod.mk.injEq] at h
          obtain ⟨rfl, rfl⟩ := h
          have hR := (hcells.drop off).take s
          refine ⟨.agg ((cur.toList.drop off).take s).toArray, run_load_agg h1 h2 ?_ ?_, _, rfl, hR⟩
          · rw [← hR.1]; simp; omega
          · intro j v hj
            rw [cell_of_row w b _ cur ty _ hg]
            rw [List.getElem?_take] at hj
            split at hj
            · rw [List.getElem?_drop, Array.getElem?_toList] at hj; exact hj
            · cases hj
        · rename_i h1
          split at h
          · rename_i A0 hA
            simp only [Option.some.injEq, Prod.mk.injEq] at h
            obtain ⟨rfl, rfl⟩ := h
            obtain ⟨v, hv, hR⟩ := hcells.at hA
            refine ⟨v, run_load_one h1 ?_, hR.1⟩
            rw [cell_of_row w b _ cur ty _ hg]
            rwa [Array.getElem?_toList] at hv
          · cases h
        · cases h
      · cases h
    · cases h
  · rename_i k ver sz i off
    have key : ∀ ver' sz' rows, (σ.m k = .arr ver' sz' rows ∨ σ.m k = .ice ver' sz' rows) → ver = ver' → sz = sz' → i < rows.length → ∃ b o, u = .pointer (some ⟨b, o + i * sz + off, none⟩) ∧ RowsAt w b (o + i * sz) (rows.getD i []) ∧ (rows.getD i []).length = sz := by
      intro ver' sz' rows hm hv hs hi
      subst hv; subst hs
      obtain ⟨_, _, hp⟩ := hp
      obtain ⟨_, hp⟩ := hp _ _ hm
      rcases hp with rfl | ⟨b, o, hl, rfl⟩
      · simp at hi
      · refine ⟨b, o, rfl, ?_⟩
        have he := hI.mem.ent k
        rcases hm with hm | hm <;> rw [hm] at he
        · obtain ⟨hw, he⟩ := he
          rcases he with ⟨_, rfl⟩ | ⟨b', o', cur, ty, hl', hg, _, _, _, hcur, h1⟩
          · simp at hi
          · rw [hl] at hl'
            simp only [Option.some.injEq, Prod.mk.injEq] at hl'
            obtain ⟨rfl, rfl⟩ := hl'
            exact ⟨(cells_of_arr hg hcur h1).row hw hi, (row_at hw hi).1⟩
        · obtain ⟨hw, he⟩ := he
          rcases he with ⟨_, rfl⟩ | ⟨b', o', hl', _, hr⟩
          · simp at hi
          · rw [hl] at hl'
            simp only [Option.some.injEq, Prod.mk.injEq] at hl'
            obtain ⟨rfl, rfl⟩ := hl'
            exact ⟨hr.row hw hi, (row_at hw hi).1⟩
    have fin : ∀ ver' sz' rows, (σ.m k = .arr ver' sz' rows ∨ σ.m k = .ice ver' sz' rows) → (if ver = ver' ∧ sz = sz' then
        match aggT g.P t, szT g.P t with
        | some true, some s => some (AV.ag (((((rows.getD i []).drop off).take s)).map .v), i < rows.length ∧ off + s ≤ sz)
        | some false, _ => some (AV.at (.v ((rows.getD i []).getD off undef)), i < rows.length ∧ off < sz)
        | _, _ => none
      else none) = some (X, c) → ∃ v, (Instr.loadAt t u).run g.P w = .ok v w ∧ RV w F σ.m lam X v := by
      intro ver' sz' rows hm h
      split at h
      · rename_i hvs
        split at h
        · rename_i s h1 h2
          simp only [Option.some.injEq, Prod.mk.injEq] at h
          obtain ⟨rfl, rfl⟩ := h
          obtain ⟨b, o, rfl, hr, hlen⟩ := key ver' sz' rows hm hvs.1 hvs.2 hc.1
          refine loadS_cells (hr.drop off) (X := .ag ((((rows.getD i []).drop off).take s).map .v)) (c := s ≤ ((rows.getD i []).drop off).length) (by rw [h1, h2]) ?_ σ.m
          rw [List.length_drop, hlen]; have := hc.2; omega
        · rename_i h1
          simp only [Option.some.injEq, Prod.mk.injEq] at h
          obtain ⟨rfl, rfl⟩ := h
          obtain ⟨b, o, rfl, hr, hlen⟩ := key ver' sz' rows hm hvs.1 hvs.2 hc.1
          have := loadS_cells (g := g) (F := F) (lam := lam) (t := t) (hr.drop off) (X := .at (.v (((rows.getD i []).drop off).getD 0 undef))) (c := 0 < ((rows.getD i []).drop off).length) (by rw [h1]) (by rw [List.length_drop, hlen]; have := hc.2; omega) σ.m
          simpa [List.getD] using this
        · cases h
      · cases h
    split at h
    · rename_i ver' sz' rows hm
      exact fin ver' sz' rows (.inl hm) h
    · rename_i ver' sz' rows hm
      exact fin ver' sz' rows (.inr hm) h
    · cases h
  · rename_i cs
    obtain ⟨b, o, rfl, _, hr⟩ := hp
    exact loadS_cells hr h hc σ.m
  · cases h

end
end Go.Abs

/- What one operation does: addresses of fields and elements, indices, parts of structs. -/
namespace Go.Abs
open Go.RowKit
set_option linter.unusedVariables false
set_option linter.unusedSimpArgs false

section
variable {P : Program} {w : World} {F : Nat → Prop} {m : Mem} {lam : Lam}

theorem run_fieldAt {s : TypeId} {fs : Array Field} {fd : Field} {f n b o : Nat} (hs : P.underlying s = some (.struct fs)) (hf : fs[f]? = some fd) (hn : szT P fd.type = some (n + 1)) :
    (Instr.fieldAt s (.pointer (some ⟨b, o, none⟩)) f).run P w = .ok (.pointer (some ⟨b, o + fd.offset, none⟩)) w := by
  simp only [Instr.fieldAt, Instr.sureAddr, Sem.run_bind, run_underlying hs, Result.andThen_ok, hf, Sem.run_pure, fieldPlace, run_szT hn, Sem.run_ite, Nat.add_one_ne_zero, if_false, Addr.add_lit]

theorem run_fieldAddrS {s : TypeId} {f : Nat} {X Y : AV} {u : Value} (h : fieldAddrS P s f X = some Y) (hX : RV w F m lam X u) :
    ∃ v, (Instr.fieldAt s u f).run P w = .ok v w ∧ RV w F m lam Y v := by
  unfold fieldAddrS at h
  split at h
  · rename_i fs hs
    split at h
    · rename_i fd hf
      split at h
      · rename_i n hn
        split at h
        · rename_i k ver off
          simp only [Option.some.injEq] at h; subst h
          obtain ⟨h1, ⟨b, o, rfl⟩, h2⟩ := hX
          refine ⟨_, run_fieldAt hs hf hn, h1, ⟨_, _, rfl⟩, fun cells hm => ?_⟩
          obtain ⟨b', h3, h4⟩ := h2 cells hm
          simp only [Value.pointer.injEq, Option.some.injEq, Addr.mk.injEq, and_true] at h4
          obtain ⟨rfl, rfl⟩ := h4
          exact ⟨_, h3, rfl⟩
        · rename_i k ver sz i off
          simp only [Option.some.injEq] at h; subst h
          obtain ⟨h1, ⟨b, o, rfl⟩, h2⟩ := hX
          refine ⟨_, run_fieldAt hs hf hn, h1, ⟨_, _, rfl⟩, fun sz' rows hm => ?_⟩
          obtain ⟨h0, h3⟩ := h2 sz' rows hm
          refine ⟨h0, ?_⟩
          rcases h3 with h3 | ⟨b', o', h3, h4⟩
          · exact .inl h3
          · simp only [Value.pointer.injEq, Option.some.injEq, Addr.mk.injEq, and_true] at h4
            obtain ⟨rfl, rfl⟩ := h4
            exact .inr ⟨_, _, h3, by rw [Nat.add_assoc]⟩
        · rename_i cs
          simp only [Option.some.injEq] at h; subst h
          obtain ⟨b, o, rfl, h1, h2⟩ := hX
          exact ⟨_, run_fieldAt hs hf hn, b, o + fd.offset, rfl, h1, h2.drop _⟩
        · cases h
      · cases h
    · cases h
  · cases h

theorem run_part_one {t : TypeId} {us : List Value} {off : Nat} {v : Value} (h : aggT P t = some false) (hv : us[off]? = some v) : (part t us.toArray off).run P w = .ok v w := by
  simp only [part, Sem.run_bind, run_isAgg h, Result.andThen_ok, Sem.run_ite, Bool.false_eq_true, if_false, List.getElem?_toArray, hv, Sem.run_pure]

theorem run_part_agg {t : TypeId} {us : List Value} {off n : Nat} (h : aggT P t = some true) (hn : szT P t = some n) : (part t us.toArray off).run P w = .ok (.agg ((us.drop off).take n).toArray) w := by
  simp only [part, Sem.run_bind, run_isAgg h, Result.andThen_ok, Sem.run_ite, if_true, run_szT hn, Sem.run_pure]
  congr 2
  apply Array.ext'
  simp [List.take_drop]

theorem run_fieldS {s : TypeId} {f : Nat} {X Y : AV} {c : Prop} {u : Value} (h : fieldS P s f X = some (Y, c)) (hc : c) (hX : RV w F m lam X u) :
    ∃ v, (Instr.field s u f).run P w = .ok v w ∧ RV w F m lam Y v := by
  unfold fieldS at h
  split at h
  · rename_i cs
    obtain ⟨us, rfl, hR⟩ := hX
    split at h
    · rename_i fs hs
      split at h
      · rename_i fd hf
        split at h
        · rename_i n h1 h2
          simp only [Option.some.injEq, Prod.mk.injEq] at h
          obtain ⟨rfl, rfl⟩ := h
          refine ⟨.agg ((us.drop fd.offset).take n).toArray, ?_, _, rfl, (hR.drop _).take _⟩
          simp only [Instr.field, Sem.run_bind, run_underlying hs, Result.andThen_ok, hf, asAgg, Sem.run_pure, run_part_agg h1 h2]
        · rename_i h1
          split at h
          · rename_i A0 hA
            simp only [Option.some.injEq, Prod.mk.injEq] at h
            obtain ⟨rfl, rfl⟩ := h
            obtain ⟨v, hv, hr⟩ := hR.at hA
            refine ⟨v, ?_, hr.1⟩
            simp only [Instr.field, Sem.run_bind, run_underlying hs, Result.andThen_ok, hf, asAgg, Sem.run_pure, run_part_one h1 hv]
          · cases h
        · cases h
      · cases h
    · cases h
  · cases h

theorem run_indexAt {t e : TypeId} {sz n cap b o : Nat} {i : Int} {k : IntKind} (ht : P.underlying t = some (.slice e)) (hs : szT P e = some sz) (hi : 0 ≤ i ∧ i < (n : Int)) :
    (Instr.indexAt t (.slice (some ⟨b, o, none⟩) n cap) (.int k i)).run P w = .ok (.pointer (some ⟨b, o + i.toNat * sz, none⟩)) w := by
  simp only [Instr.indexAt, asIntOf, Sem.run_bind, Sem.run_pure, Result.andThen_ok, run_underlying ht, hi, and_self, Sem.run_ite, if_true, run_szT hs, Addr.add_lit]

theorem run_indexAddrS {t : TypeId} {X I Y : AV} {c : Prop} {u i : Value} (h : indexAddrS P t X I = some (Y, c)) (hc : c) (hX : RV w F m lam X u) (hI : RV w F m lam I i) :
    ∃ v, (Instr.indexAt t u i).run P w = .ok v w ∧ RV w F m lam Y v := by
  unfold indexAddrS at h
  split at h
  · rename_i sz rows k j
    obtain ⟨hw, a, cap, rfl, h1, h2, h3⟩ := hX
    obtain ⟨rfl, _⟩ := hI
    split at h
    · rename_i e ht
      split at h
      · rename_i hs
        simp only [Option.some.injEq, Prod.mk.injEq] at h
        obtain ⟨rfl, rfl⟩ := h
        rcases h3 with rfl | ⟨b, o, rfl, hF, hr⟩
        · have := hc.1; have := hc.2; simp at *; omega
        · exact ⟨_, run_indexAt ht hs hc, b, _, rfl, hF, hr.row hw (by have := hc.1; have := hc.2; omega)⟩
      · cases h
    · cases h
  · rename_i k ver sz n k' j
    obtain ⟨hg, hn, h2⟩ := hX
    obtain ⟨rfl, _⟩ := hI
    split at h
    · rename_i e ht
      split at h
      · rename_i hs
        simp only [Option.some.injEq, Prod.mk.injEq] at h
        obtain ⟨rfl, rfl⟩ := h
        rcases hn with ⟨rfl, rfl⟩ | ⟨b, o, cap, rfl, _⟩
        · have := hc.1; have := hc.2; omega
        · refine ⟨_, run_indexAt ht hs hc, hg, ⟨_, _, rfl⟩, fun sz' rows hm => ?_⟩
          obtain ⟨rfl, hn, h3⟩ := h2 sz' rows hm
          refine ⟨rfl, ?_⟩
          rcases h3 with ⟨_, h4⟩ | ⟨b', o', cap', h4, h5, _⟩
          · cases h4
          · simp only [Value.slice.injEq, Option.some.injEq, Addr.mk.injEq, and_true, true_and] at h5
            obtain ⟨⟨rfl, rfl⟩, _⟩ := h5
            exact .inr ⟨_, _, h4, rfl⟩
      · cases h
    · cases h
  · cases h

theorem run_indexS {t : TypeId} {X I Y : AV} {c : Prop} {u i : Value} (h : indexS P t X I = some (Y, c)) (hc : c) (hX : RV w F m lam X u) (hI : RV w F m lam I i) :
    ∃ v, (Instr.index t u i).run P w = .ok v w ∧ RV w F m lam Y v := by
  unfold indexS at h
  split at h
  · rename_i s k j
    obtain ⟨rfl, _⟩ := hX
    obtain ⟨rfl, _⟩ := hI
    split at h
    · rename_i ht
      simp only [Option.some.injEq, Prod.mk.injEq] at h
      obtain ⟨rfl, rfl⟩ := h
      have hlt : j.toNat < s.size := by have := hc.1; have := hc.2; omega
      refine ⟨_, ?_, rfl, rfl⟩
      simp only [Instr.index, asIntOf, Sem.run_bind, Sem.run_pure, Result.andThen_ok, run_underlying ht, hc.1, if_true, getElem?_pos s j.toNat hlt, Option.getD_some]
    · cases h
  · cases h
end
end Go.Abs

/- What one operation does: new memory, and stores into memory of the call's own. -/
namespace Go.Abs
open Go.RowKit
set_option linter.unusedVariables false
set_option linter.unusedSimpArgs false

section
variable {g : G} {F F' : Nat → Prop} {lam lam' : Lam} {m m' : Mem} {w w' : World}

theorem EntRel.block {k : Nat} {e : Ent} (h : EntRel g w F m lam k e) (hl : e.live) {b o : Nat} (hk : lam k = some (b, o)) (hne : ∀ ver sz, e ≠ .arr ver sz []) : ¬ F b ∧ b < w.heap.size := by
  cases e with
  | gone => exact hl.elim
  | ice ver sz rows => exact hl.elim
  | arr ver sz rows =>
    rcases h.2 with ⟨hn, _⟩ | ⟨b', o', cur, ty, hl', hg, hF, _⟩
    · rw [hk] at hn; cases hn
    · rw [hk] at hl'; simp only [Option.some.injEq, Prod.mk.injEq] at hl'; obtain ⟨rfl, rfl⟩ := hl'
      exact ⟨hF, (Array.getElem?_eq_some_iff.1 hg).1⟩
  | box ver cells =>
    obtain ⟨b', cur, ty, hl', hg, hF, _⟩ := h
    rw [hk] at hl'; simp only [Option.some.injEq, Prod.mk.injEq] at hl'; obtain ⟨rfl, rfl⟩ := hl'
    exact ⟨hF, (Array.getElem?_eq_some_iff.1 hg).1⟩

theorem EntRel.block' {k : Nat} {e : Ent} (h : EntRel g w F m lam k e) (hl : e.live) {b o : Nat} (hk : lam k = some (b, o)) : ¬ F b ∧ b < w.heap.size := by
  cases e with
  | gone => exact hl.elim
  | ice ver sz rows => exact hl.elim
  | arr ver sz rows =>
    rcases h.2 with ⟨hn, _⟩ | ⟨b', o', cur, ty, hl', hg, hF, _⟩
    · rw [hk] at hn; cases hn
    · rw [hk] at hl'; simp only [Option.some.injEq, Prod.mk.injEq] at hl'; obtain ⟨rfl, rfl⟩ := hl'
      exact ⟨hF, (Array.getElem?_eq_some_iff.1 hg).1⟩
  | box ver cells =>
    obtain ⟨b', cur, ty, hl', hg, hF, _⟩ := h
    rw [hk] at hl'; simp only [Option.some.injEq, Prod.mk.injEq] at hl'; obtain ⟨rfl, rfl⟩ := hl'
    exact ⟨hF, (Array.getElem?_eq_some_iff.1 hg).1⟩

/-- An entry that is not turned, its block unturned, stands. -/
theorem EntRel.keep (L : Le w w' F F' m m' lam lam') {k : Nat} {e : Ent} (h : EntRel g w F m lam k e) (hl : lam' k = lam k)
    (hb : ∀ b o, e.live → lam k = some (b, o) → w'.heap[b]? = w.heap[b]? ∧ ¬ F' b) : EntRel g w' F' m' lam' k e := by
  cases e with
  | gone => trivial
  | arr ver sz rows =>
    refine ⟨h.1, ?_⟩
    rcases h.2 with ⟨hn, hr⟩ | ⟨b, o, cur, ty, hlk, hg, hF, hh, ho, hc, h1⟩
    · exact .inl ⟨hl.trans hn, hr⟩
    · have := hb b o trivial hlk
      exact .inr ⟨b, o, cur, ty, hl.trans hlk, this.1.trans hg, this.2, hh, ho, hc, h1⟩
  | ice ver sz rows =>
    refine ⟨h.1, ?_⟩
    rcases h.2 with ⟨hn, hr⟩ | ⟨b, o, hlk, hF, hr⟩
    · exact .inl ⟨hl.trans hn, hr⟩
    · exact .inr ⟨b, o, hl.trans hlk, (L.fro b hF).1, hr.keep (L.fro b hF).2⟩
  | box ver cells =>
    obtain ⟨b, cur, ty, hlk, hg, hF, hh, hR⟩ := h
    have := hb b 0 trivial hlk
    exact ⟨b, cur, ty, hl.trans hlk, this.1.trans hg, this.2, hh, hR.mono fun a u h => ⟨RA.le L h.1, h.2⟩⟩

theorem MemRel.turn (h : MemRel g w F m lam) (L : Le w w' F F' m m' lam lam') (κ : Nat) (hm : ∀ k, k ≠ κ → m' k = m k ∧ lam' k = lam k)
    (hb : ∀ k b o, k ≠ κ → (m k).live → lam k = some (b, o) → w'.heap[b]? = w.heap[b]? ∧ ¬ F' b) (he : EntRel g w' F' m' lam' κ (m' κ))
    (hi : ∀ k b o o', k ≠ κ → (m k).live → lam k = some (b, o) → (m' κ).live → lam' κ = some (b, o') → False) : MemRel g w' F' m' lam' where
  ent k := by
    by_cases hk : k = κ
    · subst hk; exact he
    · rw [(hm k hk).1]
      exact (h.ent k).keep L (hm k hk).2 fun b o hl hlk => hb k b o hk hl hlk
  inj k k' b o o' h1 h2 h3 h4 := by
    by_cases hk : k = κ
    · by_cases hk' : k' = κ
      · rw [hk, hk']
      · subst hk
        rw [(hm k' hk').1] at h2
        rw [(hm k' hk').2] at h4
        exact (hi k' b o' o hk' h2 h4 h1 h3).elim
    · by_cases hk' : k' = κ
      · subst hk'
        rw [(hm k hk).1] at h1
        rw [(hm k hk).2] at h3
        exact (hi k b o o' hk h1 h3 h2 h4).elim
      · rw [(hm k hk).1] at h1; rw [(hm k hk).2] at h3
        rw [(hm k' hk').1] at h2; rw [(hm k' hk').2] at h4
        exact h.inj k k' b o o' h1 h2 h3 h4

/-- One block more, at the end; the rest of the world stands. -/
structure Pushed (w w' : World) (o : Obj) : Prop where
  heap : w'.heap = w.heap.push o
  os : w'.os = w.os
  tape : w'.tape = w.tape
  output : w'.output = w.output

theorem Pushed.old {o : Obj} (h : Pushed w w' o) {b : Nat} (hb : b < w.heap.size) : w'.heap[b]? = w.heap[b]? := by
  rw [h.heap, Array.getElem?_push, if_neg (by omega)]
theorem Pushed.new {o : Obj} (h : Pushed w w' o) : w'.heap[w.heap.size]? = some o := by
  rw [h.heap, Array.getElem?_push, if_pos rfl]
theorem Pushed.size {o : Obj} (h : Pushed w w' o) : w'.heap.size = w.heap.size + 1 := by rw [h.heap, Array.size_push]
theorem Pushed.alloc (w : World) (o : Obj) : Pushed w (w.alloc o) o := ⟨rfl, rfl, rfl, rfl⟩
theorem Pushed.drew_alloc (w : World) (o : Obj) : Pushed w (w.drew.alloc o) o := ⟨rfl, rfl, rfl, rfl⟩

theorem Pushed.bsize {o : Obj} (h : Pushed w w' o) (b : Nat) : bsize w b ≤ bsize w' b := by
  by_cases hb : b < w.heap.size
  · unfold Abs.bsize; rw [h.old hb]; exact Nat.le_refl _
  · have : w.heap[b]? = none := Array.getElem?_eq_none (by omega)
    unfold Abs.bsize; rw [this]; exact Nat.zero_le _

theorem Chg.pushed {o : Obj} (h : Chg g w) (hp : Pushed w w' o) : Chg g w' where
  os := hp.os.trans h.os
  tape := hp.tape.trans h.tape
  output := hp.output.trans h.output
  size := by have := h.size; rw [hp.size]; omega
  block b hb hx := (hp.old (by have := h.size; omega)).trans (h.block b hb hx)
  bs b := Nat.le_trans (h.bs b) (hp.bsize b)

theorem Nx.new {σ : St} {a : Act} (hI : Inv g F lam σ a w) {κ : Nat} (hg : σ.m κ = .gone) (hnx : g.nx ≤ κ) {cs : Array Value} {ty : TypeId} {e : Ent} (hp : Pushed w w' (.cells cs ty))
    (he : ∀ L : Le w w' F F σ.m (upd σ.m κ e) lam (upd lam κ (some (w.heap.size, 0))), EntRel g w' F (upd σ.m κ e) (upd lam κ (some (w.heap.size, 0))) κ e) :
    Nx g F lam σ.m w F (upd lam κ (some (w.heap.size, 0))) (upd σ.m κ e) w' := by
  have L : Le w w' F F σ.m (upd σ.m κ e) lam (upd lam κ (some (w.heap.size, 0))) := by
    refine ⟨fun b hb => ⟨hb, hp.old (hI.f3 b hb)⟩, hp.bsize, fun k hk => ?_, fun k hk => ?_, fun k ver sz rows hk _ h => ?_, fun k ver cells hk _ h => ?_⟩
    · have hne : k ≠ κ := fun e => by subst e; exact hk hg
      rw [upd_ne _ _ hne]; exact hk
    · have hne : k ≠ κ := fun e => by subst e; exact hk hg
      rw [upd_ne _ _ hne]; exact Nat.le_refl _
    · have hne : k ≠ κ := fun e => by subst e; exact hk hg
      rw [upd_ne _ _ hne] at h ⊢
      exact ⟨rfl, rows, h, rfl⟩
    · have hne : k ≠ κ := fun e => by subst e; exact hk hg
      rw [upd_ne _ _ hne] at h ⊢
      exact ⟨rfl, cells, h⟩
  refine ⟨L, hI.mem.turn L κ (fun k hne => ⟨upd_ne _ _ hne, upd_ne _ _ hne⟩) ?_ (by rw [upd_same]; exact he L) ?_, hI.f2, fun b hb => by have := hI.f3 b hb; rw [hp.size]; omega, fun k hk' => ?_, hI.chg.pushed hp⟩
  · intro k b o hne hl hlk
    have := (hI.mem.ent k).block' hl hlk
    exact ⟨hp.old this.2, this.1⟩
  · intro k b o o' hne hl hlk _ h2
    have := ((hI.mem.ent k).block' hl hlk).2
    rw [upd_same] at h2
    simp only [Option.some.injEq, Prod.mk.injEq] at h2
    omega
  · have hne : k ≠ κ := by omega
    rw [upd_ne _ _ hne]; exact hI.l0 k hk'

/-- A store into one's own block: the block's cells are turned, not their number. -/
theorem Nx.store {σ : St} {a : Act} (hI : Inv g F lam σ a w) {κ b o : Nat} {cur cur' : Array Value} {ty : TypeId} {e : Ent} (hl : (σ.m κ).live) (hk : lam κ = some (b, o))
    (hg : w.heap[b]? = some (.cells cur ty (0, 0))) (hs : cur'.size = cur.size) (hX : Home g κ b)
    (harr : ∀ ver sz rows, (e = .arr ver sz rows ∨ e = .ice ver sz rows) → ∃ rows', (σ.m κ = .arr ver sz rows' ∨ σ.m κ = .ice ver sz rows') ∧ rows'.length = rows.length)
    (hbox : ∀ ver cells, e = .box ver cells → ∃ cells', σ.m κ = .box ver cells') (hne : e ≠ .gone) (hver : e.ver = (σ.m κ).ver)
    (he : ∀ L : Le w (w.setRow b cur') F F σ.m (upd σ.m κ e) lam lam, EntRel g (w.setRow b cur') F (upd σ.m κ e) lam κ e) :
    Nx g F lam σ.m w F lam (upd σ.m κ e) (w.setRow b cur') := by
  have hb := (hI.mem.ent κ).block' hl hk
  have hnb : ∀ b', F b' → b' ≠ b := fun b' h1 h2 => hb.1 (h2 ▸ h1)
  have L : Le w (w.setRow b cur') F F σ.m (upd σ.m κ e) lam lam := by
    refine ⟨fun b' hb' => ⟨hb', setRow_other w b b' cur' (hnb b' hb')⟩, fun b' => ?_, fun k hk' => ?_, fun k hk' => ?_, fun k ver sz rows hk' _ h => ?_, fun k ver cells hk' _ h => ?_⟩
    · by_cases hbb : b' = b
      · subst hbb; rw [bsize_eq hg, bsize_eq (setRow_heap w b' cur cur' ty _ hg), hs]; exact Nat.le_refl _
      · unfold bsize; rw [setRow_other w b b' cur' hbb]; exact Nat.le_refl _
    · by_cases hkk : k = κ
      · subst hkk; rw [upd_same]; exact hne
      · rw [upd_ne _ _ hkk]; exact hk'
    · by_cases hkk : k = κ
      · subst hkk; rw [upd_same, hver]; exact Nat.le_refl _
      · rw [upd_ne _ _ hkk]; exact Nat.le_refl _
    · refine ⟨rfl, ?_⟩
      by_cases hkk : k = κ
      · subst hkk; rw [upd_same] at h; exact harr ver sz rows h
      · rw [upd_ne _ _ hkk] at h; exact ⟨rows, h, rfl⟩
    · refine ⟨rfl, ?_⟩
      by_cases hkk : k = κ
      · subst hkk; rw [upd_same] at h; exact hbox ver cells h
      · rw [upd_ne _ _ hkk] at h; exact ⟨cells, h⟩
  refine ⟨L, hI.mem.turn L κ (fun k hne => ⟨upd_ne _ _ hne, rfl⟩) ?_ (by rw [upd_same]; exact he L) ?_, hI.f2, fun b' hb' => by rw [size_setRow]; exact hI.f3 b' hb', hI.l0, ?_⟩
  · intro k b' o' hne' hl' hlk
    have := (hI.mem.ent k).block' hl' hlk
    refine ⟨setRow_other w b b' cur' fun e => ?_, this.1⟩
    subst e
    exact hne' (hI.mem.inj k κ b' o' o hl' hl hlk hk)
  · intro k b' o' o'' hne' hl' hlk _ h2
    rw [hk] at h2
    simp only [Option.some.injEq, Prod.mk.injEq] at h2
    obtain ⟨rfl, rfl⟩ := h2
    exact hne' (hI.mem.inj k κ b o' o hl' hl hlk hk)
  · refine ⟨hI.chg.os, hI.chg.tape, hI.chg.output, by rw [size_setRow]; exact hI.chg.size, fun b' hb' hx => ?_, fun b' => Nat.le_trans (hI.chg.bs b') (L.siz b')⟩
    rw [setRow_other w b b' cur' ?_]
    · exact hI.chg.block b' hb' hx
    · rintro rfl
      by_cases hkn : κ < g.nx
      · exact hx (hX.1 hkn)
      · have := hX.2 (by omega); omega

end
end Go.Abs

/- What one operation does: boxes, zero values, literals, made slices, stores. -/
namespace Go.Abs
open Go.RowKit
set_option linter.unusedVariables false
set_option linter.unusedSimpArgs false

section lists
variable {β : Type}

theorem splice_length {l xs : List β} {o : Nat} (h : o + xs.length ≤ l.length) : (splice l o xs).length = l.length := by
  simp only [splice, List.length_append, List.length_take, List.length_drop]; omega

theorem splice_getElem? (l xs : List β) (o j : Nat) (h : o + xs.length ≤ l.length) : (splice l o xs)[j]? = if o ≤ j ∧ j < o + xs.length then xs[j - o]? else l[j]? := by
  unfold splice
  rw [List.append_assoc, List.getElem?_append, List.length_take, Nat.min_eq_left (by omega)]
  by_cases h1 : j < o
  · rw [if_pos h1, if_neg (by omega), List.getElem?_take, if_pos h1]
  · rw [if_neg h1, List.getElem?_append]
    by_cases h2 : j - o < xs.length
    · rw [if_pos h2, if_pos (by omega)]
    · rw [if_neg h2, if_neg (by omega), List.getElem?_drop]
      congr 1; omega

theorem splice_drop {l xs : List β} {o k : Nat} (h : o + k + xs.length ≤ l.length) : (splice l (o + k) xs).drop o = splice (l.drop o) k xs := by
  apply List.ext_getElem?
  intro j
  rw [List.getElem?_drop, splice_getElem? _ _ _ _ h, splice_getElem? _ _ _ _ (by rw [List.length_drop]; omega), List.getElem?_drop]
  by_cases hc : k ≤ j ∧ j < k + xs.length
  · rw [if_pos hc, if_pos (by omega)]; congr 1; omega
  · rw [if_neg hc, if_neg (by omega)]

theorem splice_take {l xs : List β} {k n : Nat} (h : k + xs.length ≤ n) (hn : n ≤ l.length) : (splice l k xs).take n = splice (l.take n) k xs := by
  apply List.ext_getElem?
  intro j
  rw [List.getElem?_take, splice_getElem? _ _ _ _ (by omega), splice_getElem? _ _ _ _ (by rw [List.length_take]; omega), List.getElem?_take]
  by_cases hj : j < n
  · simp only [if_pos hj]
  · rw [if_neg hj, if_neg (by omega), if_neg hj]

theorem splice_all {l xs : List β} (h : xs.length = l.length) : splice l 0 xs = xs := by
  simp [splice, h, List.drop_eq_nil_of_le]

theorem mem_splice {l xs : List β} {o : Nat} {u : β} (h : u ∈ splice l o xs) : u ∈ l ∨ u ∈ xs := by
  simp only [splice, List.mem_append] at h
  rcases h with (h | h) | h
  · exact .inl (List.mem_of_mem_take h)
  · exact .inr h
  · exact .inl (List.mem_of_mem_drop h)
end lists

theorem flatten_set {sz i off : Nat} {rows : List (List Value)} {us : List Value} (hw : Wf sz rows) (hi : i < rows.length) (ho : off + us.length ≤ sz) :
    (rows.set i (splice (rows.getD i []) off us)).flatten = splice rows.flatten (i * sz + off) us := by
  induction rows generalizing i with
  | nil => simp at hi
  | cons r rows ih =>
    have h1 : r.length = sz := hw r (by simp)
    have h2 : Wf sz rows := fun r' hr => hw r' (by simp [hr])
    cases i with
    | zero =>
      simp only [List.set_cons_zero, List.flatten_cons, List.getD_cons_zero, Nat.zero_mul, Nat.zero_add]
      apply List.ext_getElem?
      intro j
      rw [splice_getElem? _ _ _ _ (by rw [List.length_append]; omega), List.getElem?_append, splice_length (by omega), splice_getElem? _ _ _ _ (by omega), List.getElem?_append]
      by_cases hj : j < r.length
      · simp only [if_pos hj]
      · rw [if_neg hj, if_neg (by omega), if_neg hj]
    | succ i =>
      have hi' : i < rows.length := by simpa using hi
      simp only [List.set_cons_succ, List.flatten_cons, List.getD_cons_succ, ih h2 hi']
      have hfl := flatten_length h2
      have hb : i * sz + off + us.length ≤ rows.flatten.length := by
        rw [hfl]
        have : (i + 1) * sz ≤ rows.length * sz := Nat.mul_le_mul_right _ hi'
        rw [Nat.add_mul] at this; omega
      have he : (i + 1) * sz + off = r.length + (i * sz + off) := by rw [h1, Nat.add_mul]; omega
      apply List.ext_getElem?
      intro j
      rw [List.getElem?_append, he, splice_getElem? (r ++ rows.flatten) us _ j (by rw [List.length_append]; omega), List.getElem?_append]
      by_cases hj : j < r.length
      · rw [if_pos hj, if_neg (by omega), if_pos hj]
      · rw [if_neg hj, if_neg hj, splice_getElem? _ _ _ _ hb]
        by_cases hc : i * sz + off ≤ j - r.length ∧ j - r.length < i * sz + off + us.length
        · rw [if_pos hc, if_pos (by omega)]; congr 1; omega
        · rw [if_neg hc, if_neg (by omega)]

theorem Wf.set {sz i off : Nat} {rows : List (List Value)} {us : List Value} (hw : Wf sz rows) (hi : i < rows.length) (ho : off + us.length ≤ sz) :
    Wf sz (rows.set i (splice (rows.getD i []) off us)) := by
  intro r hr
  rcases List.mem_or_eq_of_mem_set hr with h | h
  · exact hw r h
  · rw [h, splice_length (by rw [(row_at hw hi).1]; omega), (row_at hw hi).1]

section
variable {P : Program} {w : World} {F : Nat → Prop} {m : Mem} {lam : Lam}

theorem cells_one {u : Value} (h : u.oneCell' = true) : u.cells = #[u] := by
  cases u <;> simp_all [Value.cells, Value.oneCell']

theorem atomsOf_RL {X : AV} {as : List A} {u : Value} (h : atomsOf X = some as) (hX : RV w F m lam X u) : RL (fun a x => RA w F m lam a x ∧ x.oneCell' = true) as u.cells.toList := by
  unfold atomsOf at h
  split at h
  · rename_i A0
    split at h
    · rename_i hs
      simp only [Option.some.injEq] at h; subst h
      have h1 := RA.solid hX hs
      rw [cells_one h1]
      refine ⟨rfl, fun i a x ha hx => ?_⟩
      cases i with
      | zero => simp at ha hx; subst ha; subst hx; exact ⟨hX, h1⟩
      | succ i => simp at ha
    · cases h
  · simp only [Option.some.injEq] at h; subst h
    obtain ⟨us, rfl, hR⟩ := hX
    simpa [Value.cells] using hR
  · cases h

theorem valsOf_RL {as : List A} {us vs : List Value} (h : valsOf as = some vs) (hR : RL (fun a x => RA w F m lam a x ∧ x.oneCell' = true) as us) : us = vs ∧ ∀ u ∈ vs, u.oneCell' = true := by
  induction as generalizing us vs with
  | nil =>
    simp only [valsOf, Option.some.injEq] at h; subst h
    have := hR.1
    simp at this
    exact ⟨List.eq_nil_of_length_eq_zero this.symm, by simp⟩
  | cons a as ih =>
    cases a <;> simp only [valsOf, reduceCtorEq] at h
    rename_i x
    cases hv : valsOf as with
    | none => simp [hv] at h
    | some vs' =>
      simp only [hv, Option.map_some, Option.some.injEq] at h; subst h
      cases us with
      | nil => have := hR.1; simp at this
      | cons u us =>
        have h0 := hR.2 0 _ _ rfl rfl
        have ht := ih hv ⟨by have := hR.1; simpa using this, fun i a u ha hu => hR.2 (i + 1) a u (by simpa using ha) (by simpa using hu)⟩
        obtain ⟨⟨rfl, _⟩, h1⟩ := h0
        exact ⟨by rw [ht.1], by simpa [h1] using ht.2⟩

theorem RL.splice {R : A → Value → Prop} {as bs : List A} {us vs : List Value} (h : RL R as us) (h' : RL R bs vs) {o : Nat} (ho : o + bs.length ≤ as.length) : RL R (splice as o bs) (splice us o vs) := by
  have hl := h.1; have hl' := h'.1
  refine ⟨by rw [splice_length ho, splice_length (by omega), hl], fun i a u ha hu => ?_⟩
  rw [splice_getElem? _ _ _ _ ho] at ha
  rw [splice_getElem? _ _ _ _ (by omega)] at hu
  by_cases hc : o ≤ i ∧ i < o + bs.length
  · rw [if_pos hc] at ha; rw [if_pos (by omega)] at hu; exact h'.2 _ _ _ ha hu
  · rw [if_neg hc] at ha; rw [if_neg (by omega)] at hu; exact h.2 _ _ _ ha hu

theorem RL_zero {z : Value} (hall : (z.cells.toList.map atomOf).all A.solid = true) : RL (fun a x => RA w F m lam a x ∧ x.oneCell' = true) (z.cells.toList.map atomOf) z.cells.toList := by
  refine ⟨by simp, fun i a u ha hu => ?_⟩
  simp only [List.getElem?_map, hu, Option.map_some, Option.some.injEq] at ha
  subst ha
  rw [List.all_eq_true] at hall
  exact ⟨RA_atomOf _ _ _ _ _, oneCell_of_atomOf (hall _ (List.mem_map_of_mem (List.mem_of_getElem? hu)))⟩
end

section
variable {g : G} {F : Nat → Prop} {lam : Lam} {σ : St} {a : Act} {w : World}

/-- A new block that a box is. -/
theorem good_box (hI : Inv g F lam σ a w) {κ : Nat} (hg : σ.m κ = .gone) (hk : g.nx ≤ κ) {as : List A} {cs : Array Value} {ty : TypeId}
    (hR : RL (fun a x => RA w F σ.m lam a x ∧ x.oneCell' = true) as cs.toList) {s : Sem Value} (hr : s.run g.P w = .ok (.pointer (some ⟨w.heap.size, 0, none⟩)) (w.alloc (.cells cs ty))) :
    ∃ u w' F' lam', s.run g.P w = .ok u w' ∧ Nx g F lam σ.m w F' lam' (upd σ.m κ (.box 0 as)) w' ∧ RV w' F' (upd σ.m κ (.box 0 as)) lam' (.at (.bx κ 0 0)) u := by
  refine ⟨_, _, F, _, hr, Nx.new hI hg hk (Pushed.alloc w (.cells cs ty)) fun L => ?_, ?_⟩
  · exact ⟨w.heap.size, cs, ty, upd_same _ _ _, heap_alloc_new w _, fun h => by have := hI.f3 _ h; omega, ⟨fun h => by omega, fun _ => hI.chg.size⟩, hR.mono fun a u h => ⟨RA.le L h.1, h.2⟩⟩
  · refine ⟨by rw [upd_same]; simp [Ent.ver], ⟨_, _, rfl⟩, fun cells hm => ⟨w.heap.size, upd_same _ _ _, rfl⟩⟩

/-- A new block that an array is, at its begin. -/
theorem good_arr (hI : Inv g F lam σ a w) {κ : Nat} (hg : σ.m κ = .gone) (hk : g.nx ≤ κ) {sz cap : Nat} {rows : List (List Value)} {cs : Array Value} {ty : TypeId} (hw : Wf sz rows)
    (h1 : ∀ u ∈ rows.flatten, u.oneCell' = true) (hc : cs.toList.take rows.flatten.length = rows.flatten) (hcap : cap * sz ≤ cs.size) (hn : rows.length ≤ cap) (hm : cap ≤ maxLen)
    {w' : World} (hp : Pushed w w' (.cells cs ty)) {s : Sem Value} (hr : s.run g.P w = .ok (.slice (some ⟨w.heap.size, 0, none⟩) rows.length cap) w') :
    ∃ u w' F' lam', s.run g.P w = .ok u w' ∧ Nx g F lam σ.m w F' lam' (upd σ.m κ (.arr 0 sz rows)) w' ∧ RV w' F' (upd σ.m κ (.arr 0 sz rows)) lam' (.at (.ow κ 0 sz rows.length)) u := by
  refine ⟨_, w', F, _, hr, Nx.new hI hg hk hp fun L => ?_, ?_⟩
  · exact ⟨hw, .inr ⟨w.heap.size, 0, cs, ty, upd_same _ _ _, hp.new, fun h => by have := hI.f3 _ h; omega, ⟨fun h => by omega, fun _ => hI.chg.size⟩, Nat.zero_le _, by simpa using hc, h1⟩⟩
  · refine ⟨by rw [upd_same]; simp [Ent.ver], .inr ⟨_, _, _, rfl, hn⟩, fun sz' rows' hm' => ?_⟩
    rw [upd_same] at hm'
    simp only [Ent.arr.injEq, true_and, reduceCtorEq, or_false] at hm'
    obtain ⟨rfl, rfl⟩ := hm'
    exact ⟨rfl, rfl, .inr ⟨w.heap.size, 0, cap, upd_same _ _ _, rfl, hn, hm, by rw [bsize_eq hp.new]; omega⟩⟩

theorem run_box {P : Program} (t : TypeId) (u : Value) : (Instr.box t u).run P w = .ok (.pointer (some ⟨w.heap.size, 0, none⟩)) (w.alloc (.cells u.cells t)) := by
  simp [Instr.box, newVar, newRow]

theorem run_alloc {P : Program} {t : TypeId} {i : TypeInfo} {z : Value} (hi : P.info? t = some i) (hz : i.zero = some z) (old : Value) : (Instr.alloc t true old).run P w = .ok (.pointer (some ⟨w.heap.size, 0, none⟩)) (w.alloc (.cells z.cells t)) := by
  simp [Instr.alloc, zeroValue, typeInfo, hi, hz, newVar, newRow]

theorem info_zeroAtoms {P : Program} {t : TypeId} {as : List A} (h : zeroAtoms P t = some as) : ∃ i z, P.info? t = some i ∧ i.zero = some z ∧ as = z.cells.toList.map atomOf := by
  unfold zeroAtoms at h
  split at h
  · rename_i i hi
    cases hz : i.zero with
    | none => simp [hz] at h
    | some z => simp [hz] at h; exact ⟨i, z, hi, hz, h.symm⟩
  · cases h

theorem info_zeroVals {P : Program} {t : TypeId} {zs : List Value} (h : zeroVals P t = some zs) : ∃ i z, P.info? t = some i ∧ i.zero = some z ∧ zs = z.cells.toList := by
  unfold zeroVals at h
  split at h
  · rename_i i hi
    cases hz : i.zero with
    | none => simp [hz] at h
    | some z => simp [hz] at h; exact ⟨i, z, hi, hz, h.symm⟩
  · cases h

theorem run_storeVar {P : Program} {t ty : TypeId} {b o s : Nat} {cur : Array Value} {u : Value} (hs : szT P t = some s) (hu : u.cells.size = s) (hg : w.heap[b]? = some (.cells cur ty (0, 0)))
    (ho : o + s ≤ cur.size) (h1 : ∀ x ∈ u.cells.toList, x.oneCell' = true) :
    (Instr.storeAt t (.pointer (some ⟨b, o, none⟩)) u).run P w = .ok () (w.setRow b (splice cur.toList o u.cells.toList).toArray) := by
  have := run_storeCells_at P b o ty u.cells.toList 0 cur w hg (by simp [hu]; omega) h1
  simp only [Nat.add_zero] at this
  simp only [Instr.storeAt, Instr.sureAddr, storeVar, Sem.run_bind, Sem.run_pure, Result.andThen_ok, run_szT hs, hu, ne_eq, not_true_eq_false, Sem.run_ite, if_false, this, splice]

theorem run_storeS (hI : Inv g F lam σ a w) {t : TypeId} {p X : AV} {m' : Mem} {c : Prop} {pu u : Value} (h : storeS g.P t σ.m p X = some (m', c)) (hc : c) (hp : RV w F σ.m lam p pu) (hX : RV w F σ.m lam X u) :
    ∃ w', (Instr.storeAt t pu u).run g.P w = .ok () w' ∧ Nx g F lam σ.m w F lam m' w' := by
  unfold storeS at h
  split at h
  · rename_i k ver off
    split at h
    · rename_i ver' cells as s hm has hs
      split at h
      · rename_i hvl
        simp only [Option.some.injEq, Prod.mk.injEq] at h
        obtain ⟨rfl, rfl⟩ := h
        obtain ⟨rfl, hlen⟩ := hvl
        obtain ⟨_, _, hp⟩ := hp
        obtain ⟨b, hl, rfl⟩ := hp _ hm
        have he := hI.mem.ent k
        rw [hm] at he
        obtain ⟨b', cur, ty, hl', hg, hF, hh, hcells⟩ := he
        rw [hl] at hl'
        simp only [Option.some.injEq, Prod.mk.injEq, and_true] at hl'
        subst hl'
        have hR := atomsOf_RL has hX
        have hsz : u.cells.size = s := by have := hR.1; simp at this; omega
        have hcl : cells.length = cur.size := by have := hcells.1; simpa using this
        have h1 : ∀ x ∈ u.cells.toList, x.oneCell' = true := by
          intro x hx
          obtain ⟨j, hj⟩ := List.mem_iff_getElem?.1 hx
          have hj' : j < as.length := by rw [hR.1]; exact (List.getElem?_eq_some_iff.1 hj).1
          exact (hR.2 j _ x (List.getElem?_eq_getElem hj') hj).2
        refine ⟨_, run_storeVar hs hsz hg (by omega) h1, Nx.store hI (by rw [hm]; trivial) hl hg (by simp [splice_length, hsz]; rw [splice_length (by simp; omega)]; simp) hh ?_ ?_ (by simp) (by simp [hm, Ent.ver]) ?_⟩
        · rintro v s rows (h | h) <;> cases h
        · intro v cs' h; cases h; exact ⟨_, hm⟩
        · intro L
          refine ⟨b, _, ty, hl, setRow_heap w b cur _ ty _ hg, hF, hh, ?_⟩
          have := RL.splice (hcells.mono fun a u h => (⟨RA.le L h.1, h.2⟩ : RA _ F _ lam a u ∧ u.oneCell' = true)) (hR.mono fun a u h => (⟨RA.le L h.1, h.2⟩ : RA _ F _ lam a u ∧ u.oneCell' = true)) (o := off) (by omega)
          simpa using this
      · cases h
    · cases h
  · rename_i k ver sz i off
    split at h
    · rename_i ver' sz' rows us s hm hus hs
      split at h
      · rename_i hvl
        simp only [Option.some.injEq, Prod.mk.injEq] at h
        obtain ⟨rfl, rfl⟩ := h
        obtain ⟨rfl, rfl, hlen⟩ := hvl
        obtain ⟨_, _, hp⟩ := hp
        obtain ⟨_, hp⟩ := hp _ _ (.inl hm)
        have he := hI.mem.ent k
        rw [hm] at he
        obtain ⟨hw, he⟩ := he
        have hi := hc.1
        have hoff := hc.2
        have hne : rows ≠ [] := by rintro rfl; simp at hi
        obtain ⟨b, o, hl, rfl⟩ := hp.resolve_left hne
        obtain ⟨b', o', cur, ty, hl', hg, hF, hh, ho, hcur, h1⟩ := he.resolve_left (fun e => hne e.2)
        rw [hl] at hl'
        simp only [Option.some.injEq, Prod.mk.injEq] at hl'
        obtain ⟨rfl, rfl⟩ := hl'
        cases has : atomsOf X with
        | none => simp [has] at hus
        | some as =>
          simp only [has, Option.bind_some] at hus
          obtain ⟨huv, h1'⟩ := valsOf_RL hus (atomsOf_RL has hX)
          have hsz : u.cells.size = s := by rw [← hlen, ← huv]; simp
          have hfl := flatten_length hw
          have hin : (i + 1) * sz ≤ rows.length * sz := Nat.mul_le_mul_right _ hi
          rw [Nat.add_mul, Nat.one_mul] at hin
          have hcl : cur.toList.length = cur.size := by simp
          have hfit : o + rows.flatten.length ≤ cur.size := by
            have := congrArg List.length hcur
            rw [List.length_take, List.length_drop] at this
            omega
          refine ⟨_, run_storeVar (o := o + i * sz + off) hs hsz hg (by omega) (by rw [huv]; exact h1'), Nx.store hI (by rw [hm]; trivial) hl hg (by simp; rw [splice_length (by rw [huv]; simp; omega)]; simp) hh ?_ ?_ (by simp) (by simp [hm, Ent.ver]) ?_⟩
          · rintro v s' rows' (h | h) <;> cases h
            exact ⟨rows, .inl hm, by simp⟩
          · intro v cs' h; cases h
          · intro L
            have hfs := flatten_set hw hi (off := off) (us := us) (by omega)
            have hfsl : (rows.set i (splice (rows.getD i []) off us)).flatten.length = rows.flatten.length := by rw [hfs, splice_length (by omega)]
            refine ⟨hw.set hi (by omega), .inr ⟨b, o, _, ty, hl, setRow_heap w b cur _ ty _ hg, hF, hh, by simp; rw [splice_length (by rw [huv]; simp; omega)]; simpa using ho, ?_, ?_⟩⟩
            · rw [hfsl]
              simp only [huv]
              rw [Nat.add_assoc, splice_drop (by omega), splice_take (by omega) (by rw [List.length_drop]; omega), hcur, hfs]
            · intro x hx
              rw [hfs] at hx
              rcases mem_splice hx with h | h
              · exact h1 x h
              · exact h1' x h
      · cases h
    · cases h
  · cases h

end
end Go.Abs

/- What one operation does: literals of structs and slices, make. -/
namespace Go.Abs
open Go.RowKit
set_option linter.unusedVariables false
set_option linter.unusedSimpArgs false

theorem foldl_splice (off : Nat) (l : List Value) (k : Nat) (cells : Array Value) (h : off + k + l.length ≤ cells.size) :
    ((l.zipIdx k).foldl (fun cs (p : Value × Nat) => cs.setIfInBounds (off + p.2) p.1) cells).toList = splice cells.toList (off + k) l := by
  induction l generalizing k cells with
  | nil => simp [splice]
  | cons x l ih =>
    simp only [List.length_cons] at h
    simp only [List.zipIdx_cons, List.foldl_cons]
    rw [ih (k + 1) _ (by simp; omega)]
    apply List.ext_getElem?
    intro j
    rw [splice_getElem? _ _ _ _ (by simp; omega), splice_getElem? _ _ _ _ (by simp; omega)]
    simp only [Array.toList_setIfInBounds, List.getElem?_set, Array.length_toList, List.length_cons]
    by_cases h1 : off + k + 1 ≤ j ∧ j < off + k + 1 + l.length
    · rw [if_pos (by omega), if_pos (by omega)]
      rw [show j - (off + k) = (j - (off + (k + 1))) + 1 by omega, List.getElem?_cons_succ]
    · rw [if_neg (by omega)]
      by_cases h2 : off + k = j
      · subst h2
        rw [if_pos rfl, if_pos (by omega), if_pos (by omega)]
        simp
      · rw [if_neg h2, if_neg (by omega)]

theorem fill_cons {place : Nat → Option (Nat × Nat)} {cells : Array Value} {i off size : Nat} {v : Value} {rest : List (Nat × Value)} (hp : place i = some (off, size)) (hs : v.cells.size = size) (ho : off + size ≤ cells.size) :
    Instr.fill place cells ((i, v) :: rest) = Instr.fill place (splice cells.toList off v.cells.toList).toArray rest := by
  simp only [Instr.fill, hp]
  rw [if_neg (by simp [hs]; omega)]
  congr 1
  apply Array.ext'
  have := foldl_splice off v.cells.toList 0 cells (by simp; omega)
  simp only [Nat.add_zero] at this
  rw [← this, ← Array.foldl_toList, Array.toList_zipIdx]

section
variable {g : G} {F : Nat → Prop} {lam : Lam} {σ : St} {a : Act} {w : World}

theorem fillRows_ok (hI : Inv g F lam σ a w) {sz len : Nat} {parts : List (Nat × Operand)} {rows rows' : List (List Value)} (h : fillRows σ sz parts rows = some rows') (hw : Wf sz rows)
    (h1 : ∀ u ∈ rows.flatten, u.oneCell' = true) :
    (∃ cs, Instr.fill (fun i => some (i * sz, sz)) rows.flatten.toArray (parts.map fun p => (p.1, a.eval p.2)) = some cs ∧ cs.toList = rows'.flatten) ∧ Wf sz rows' ∧ rows'.length = rows.length ∧ ∀ u ∈ rows'.flatten, u.oneCell' = true := by
  induction parts generalizing rows with
  | nil =>
    simp only [fillRows, Option.some.injEq] at h; subst h
    exact ⟨⟨_, rfl, by simp⟩, hw, rfl, h1⟩
  | cons p parts ih =>
    obtain ⟨i, x⟩ := p
    simp only [fillRows] at h
    split at h
    · rename_i us hus
      split at h
      · rename_i hc
        obtain ⟨hlen, hi⟩ := hc
        cases has : atomsOf (σ.ev x) with
        | none => simp [has] at hus
        | some as =>
          simp only [has, Option.bind_some] at hus
          obtain ⟨huv, h1'⟩ := valsOf_RL hus (atomsOf_RL has (hI.ev x))
          have hrow := row_at hw hi
          have hset : rows.set i us = rows.set i (splice (rows.getD i []) 0 us) := by rw [splice_all (by omega)]
          rw [hset] at h
          have hfs := flatten_set hw hi (off := 0) (us := us) (by omega)
          simp only [Nat.add_zero] at hfs
          have hfl := flatten_length hw
          have hin : (i + 1) * sz ≤ rows.length * sz := Nat.mul_le_mul_right _ hi
          rw [Nat.add_mul, Nat.one_mul] at hin
          have h2 : ∀ u ∈ (rows.set i (splice (rows.getD i []) 0 us)).flatten, u.oneCell' = true := by
            intro u hu
            rw [hfs] at hu
            rcases mem_splice hu with h | h
            · exact h1 u h
            · exact h1' u h
          obtain ⟨⟨cs, hf, hcs⟩, hw', hl', ho'⟩ := ih h (hw.set hi (by omega)) h2
          refine ⟨⟨cs, ?_, hcs⟩, hw', by simpa using hl', ho'⟩
          simp only [List.map_cons]
          rw [fill_cons (off := i * sz) (size := sz) rfl (by rw [← hlen, ← huv]; simp) (by rw [List.size_toArray]; omega)]
          rw [← hf, huv, ← hfs]
      · cases h
    · cases h

theorem replicate_cells (z : List Value) (n : Nat) : (List.replicate n z).flatten = ((List.range (n * z.length)).map fun i => z.getD (i % z.length) undef) := by
  induction n with
  | zero => simp
  | succ n ih =>
    rw [List.replicate_succ', List.flatten_append, ih, Nat.add_mul, Nat.one_mul, List.range_add, List.map_append]
    congr 1
    simp only [List.flatten_cons, List.flatten_nil, List.append_nil, List.map_map]
    apply List.ext_getElem?
    intro j
    simp only [List.getElem?_map, Function.comp]
    by_cases hj : j < z.length
    · simp [hj, Nat.mod_eq_of_lt hj, List.getD]
    · simp [hj, List.getElem?_eq_none (Nat.le_of_not_lt hj)]

theorem zero_cells (z : Array Value) (n sz : Nat) (hz : z.size = sz) (h0 : 0 < sz) : ((Array.range (n * sz)).map (z[· % z.size]!)).toList = (List.replicate n z.toList).flatten := by
  rw [replicate_cells]
  simp only [Array.toList_map, Array.toList_range, Array.length_toList, hz]
  apply List.map_congr_left
  intro i hi
  have : i % sz < sz := Nat.mod_lt _ h0
  simp [List.getD, hz, this, getElem!_pos]

theorem Wf_replicate {sz : Nat} {z : List Value} (h : z.length = sz) (n : Nat) : Wf sz (List.replicate n z) := by
  intro r hr; rw [List.eq_of_mem_replicate hr, h]

theorem mem_replicate_flatten {z : List Value} {n : Nat} {u : Value} (h : u ∈ (List.replicate n z).flatten) : u ∈ z := by
  rw [List.mem_flatten] at h
  obtain ⟨l, hl, hu⟩ := h
  rw [List.eq_of_mem_replicate hl] at hu
  exact hu

theorem good_buildSlice (hI : Inv g F lam σ a w) {t e : TypeId} {len sz κ : Nat} {parts : Array (Nat × Operand)} {z : List Value} {rows : List (List Value)} (ht : g.P.underlying t = some (.slice e))
    (hg : σ.m κ = .gone) (hk : g.nx ≤ κ) (hs : szT g.P e = some (sz + 1)) (hz : zeroVals g.P e = some z) (hzl : z.length = sz + 1) (hz1 : z.all (·.oneCell') = true) (hlen : len * (sz + 1) ≤ 16777216)
    (h : fillRows σ (sz + 1) parts.toList (List.replicate len z) = some rows) :
    ∃ u w' F' lam', (Instr.buildSlice t len (parts.map fun (i, x) => (i, a.eval x))).run g.P w = .ok u w' ∧ Nx g F lam σ.m w F' lam' (upd σ.m κ (.arr 0 (sz + 1) rows)) w' ∧
      RV w' F' (upd σ.m κ (.arr 0 (sz + 1) rows)) lam' (.at (.ow κ 0 (sz + 1) len)) u := by
  obtain ⟨i, zv, hi, hiz, rfl⟩ := info_zeroVals hz
  obtain ⟨⟨cs, hf, hcs⟩, hw, hl, h1⟩ := fillRows_ok (len := len) hI h (Wf_replicate hzl _) (fun u hu => by
    rw [List.all_eq_true] at hz1
    exact hz1 _ (mem_replicate_flatten hu))
  have hl' : rows.length = len := by simpa using hl
  have hcl : cs.size = len * (sz + 1) := by rw [← Array.length_toList, hcs, flatten_length hw, hl']
  have hzs : zv.cells.size = sz + 1 := by simpa using hzl
  have hf0 : Instr.fill (fun i => some (i * (sz + 1), sz + 1)) ((Array.range (len * (sz + 1))).map (zv.cells[· % zv.cells.size]!)) (parts.map fun (i, x) => (i, a.eval x)).toList = some cs := by
    rw [← hf]
    congr 1
    · apply Array.ext'
      rw [zero_cells zv.cells len (sz + 1) hzs (by omega)]
    · simp
  have hrun : (Instr.buildSlice t len (parts.map fun (i, x) => (i, a.eval x))).run g.P w = .ok (.slice (some ⟨w.heap.size, 0, none⟩) rows.length len) (w.alloc (.cells cs e)) := by
    simp only [Instr.buildSlice, Sem.run_bind, run_underlying ht, Result.andThen_ok, run_szT hs]
    rw [if_neg (by omega)]
    by_cases h0 : len = 0
    · subst h0
      have hr0 : Array.range 0 = #[] := rfl
      simp only [Nat.zero_mul, hr0, Array.map_empty] at hf0 ⊢
      simp only [if_true, Sem.run_pure, Sem.run_bind, Result.andThen_ok, Array.map_empty]
      rw [hf0]
      simp [newRow, hl']
    · rw [if_neg (by have : 0 < len * (sz + 1) := Nat.mul_pos (by omega) (by omega); omega)]
      simp only [zeroValue, typeInfo, Sem.run_bind, run_program, hi, hiz, Sem.run_pure, Result.andThen_ok]
      rw [hf0]
      simp [newRow, hl']
  have := good_arr hI (w' := w.alloc (.cells cs e)) hg hk (cap := len) hw h1 (by rw [hcs, List.take_length]) (by rw [hcl]; exact Nat.le_refl _) (by omega) (by simp only [maxLen]; have : len ≤ len * (sz + 1) := Nat.le_mul_of_pos_right _ (by omega); omega) (Pushed.alloc w _) hrun
  rw [hl'] at this
  exact this

end
end Go.Abs

/- What one operation does: make, cuts of slices, struct literals; a key's new state. -/
namespace Go.Abs
open Go.RowKit
set_option linter.unusedVariables false
set_option linter.unusedSimpArgs false

section
variable {g : G} {F : Nat → Prop} {lam : Lam} {σ : St} {a : Act} {w w' : World}

/-- A key's array goes over into its next state. -/
theorem Nx.bump (hI : Inv g F lam σ a w) {κ ver sz : Nat} {rows rows' : List (List Value)} {x : Option (Nat × Nat)} (hm : σ.m κ = .arr ver sz rows) (hnx : g.nx ≤ κ)
    (hF : ∀ b, F b → w'.heap[b]? = w.heap[b]?) (hsz : ∀ b, bsize w b ≤ bsize w' b) (hoth : ∀ k b o, k ≠ κ → (σ.m k).live → lam k = some (b, o) → w'.heap[b]? = w.heap[b]?)
    (hsize : w.heap.size ≤ w'.heap.size) (hchg : Chg g w') (hx : ∀ k b o o', k ≠ κ → (σ.m k).live → lam k = some (b, o) → x = some (b, o') → False)
    (he : EntRel g w' F (upd σ.m κ (.arr (ver + 1) sz rows')) (upd lam κ x) κ (.arr (ver + 1) sz rows')) :
    Nx g F lam σ.m w F (upd lam κ x) (upd σ.m κ (.arr (ver + 1) sz rows')) w' := by
  have L : Le w w' F F σ.m (upd σ.m κ (.arr (ver + 1) sz rows')) lam (upd lam κ x) := by
    refine ⟨fun b hb => ⟨hb, hF b hb⟩, hsz, fun k hk => ?_, fun k hk => ?_, fun k v s r hk hv h => ?_, fun k v cells hk hv h => ?_⟩
    · by_cases hkk : k = κ
      · subst hkk; rw [upd_same]; simp
      · rw [upd_ne _ _ hkk]; exact hk
    · by_cases hkk : k = κ
      · subst hkk; rw [upd_same, hm]; simp [Ent.ver]
      · rw [upd_ne _ _ hkk]; exact Nat.le_refl _
    · by_cases hkk : k = κ
      · subst hkk
        rw [upd_same] at h
        rw [hm] at hv
        simp only [Ent.ver] at hv
        simp only [Ent.arr.injEq, reduceCtorEq, or_false] at h
        omega
      · rw [upd_ne _ _ hkk] at h ⊢
        exact ⟨rfl, r, h, rfl⟩
    · by_cases hkk : k = κ
      · subst hkk; rw [upd_same] at h; cases h
      · rw [upd_ne _ _ hkk] at h ⊢
        exact ⟨rfl, cells, h⟩
  refine ⟨L, hI.mem.turn L κ (fun k hne => ⟨upd_ne _ _ hne, upd_ne _ _ hne⟩) ?_ (by rw [upd_same]; exact he) ?_, hI.f2, fun b hb => Nat.lt_of_lt_of_le (hI.f3 b hb) hsize, fun k hk => ?_, hchg⟩
  · intro k b o hne hl hlk
    exact ⟨hoth k b o hne hl hlk, ((hI.mem.ent k).block' hl hlk).1⟩
  · intro k b o o' hne hl hlk _ h2
    rw [upd_same] at h2
    exact hx k b o o' hne hl hlk h2
  · rw [upd_ne _ _ (by omega)]; exact hI.l0 k hk

theorem good_makeSlice (hI : Inv g F lam σ a w) {t e : TypeId} {sz κ bytes : Nat} {z : List Value} {n : Int} {k k' : IntKind} (ht : g.P.underlying t = some (.slice e))
    (hg : σ.m κ = .gone) (hk : g.nx ≤ κ) (hs : szT g.P e = some (sz + 1)) (hz : zeroVals g.P e = some z) (hb : (g.P.info? e).map (·.bytes) = some bytes) (hzl : z.length = sz + 1) (hz1 : z.all (·.oneCell') = true)
    (h0 : 0 ≤ n) (h1 : n ≤ 4611686018427387904) (h2 : bytes * n ≤ 281474976710656) :
    ∃ u w' F' lam', (Instr.makeSlice t (.int k n) (.int k' n)).run g.P w = .ok u w' ∧ Nx g F lam σ.m w F' lam' (upd σ.m κ (.arr 0 (sz + 1) (List.replicate n.toNat z))) w' ∧
      RV w' F' (upd σ.m κ (.arr 0 (sz + 1) (List.replicate n.toNat z))) lam' (.at (.ow κ 0 (sz + 1) n.toNat)) u := by
  obtain ⟨i, zv, hi, hiz, rfl⟩ := info_zeroVals hz
  have hsi : i.size = sz + 1 := by unfold szT at hs; simpa [hi] using hs
  have hbi : i.bytes = bytes := by simpa [hi] using hb
  have hzs : zv.cells.size = sz + 1 := by simpa using hzl
  have hr := run_make (P := g.P) w t e i zv ht hi hiz k k' n n h0 (Int.le_refl _) (by rw [hbi]; exact h2) (by omega)
  have hw : Wf (sz + 1) (List.replicate n.toNat zv.cells.toList) := Wf_replicate hzl _
  have hfl := flatten_length hw
  have hzc : (madeCells zv.cells (n.toNat * i.size)).toList = (List.replicate n.toNat zv.cells.toList).flatten := by rw [hsi]; exact zero_cells zv.cells n.toNat (sz + 1) hzs (by omega)
  have := good_arr hI (w' := w.alloc (.cells (madeCells zv.cells (n.toNat * i.size)) e)) hg hk (cap := n.toNat) hw (fun u hu => by
    rw [List.all_eq_true] at hz1; exact hz1 _ (mem_replicate_flatten hu)) (by rw [hzc, List.take_length]) (by rw [size_madeCells, hsi]; exact Nat.le_refl _) (by simp) (by simp only [maxLen]; omega) (Pushed.alloc w _)
    (s := Instr.makeSlice t (.int k n) (.int k' n)) (by simpa using hr)
  simpa using this

theorem intOfAV_eval (hI : Inv g F lam σ a w) {o : Operand} {i : Int} (h : intOfAV (σ.ev o) = some i) : ∃ k, a.eval o = .int k i := by
  have := hI.ev o
  unfold intOfAV at h
  split at h
  · rename_i k i' hev
    simp only [Option.some.injEq] at h; subst h
    rw [hev] at this
    exact ⟨k, this.1⟩
  · cases h

theorem run_bounds (hI : Inv g F lam σ a w) {lo hi : Option Operand} {isS : Bool} {len cap : Nat} {l h : Int} (hl : boundS σ lo 0 = some l) (hh : boundS σ hi (len : Int) = some h)
    (h0 : 0 ≤ l) (h1 : l ≤ h) (h2 : h ≤ (cap : Int)) : (Instr.sliceBounds isS len cap (lo.map a.eval) (hi.map a.eval) none).run g.P w = .ok (l.toNat, h.toNat, cap) w := by
  have e1 : ∀ (o : Operand), intOfAV (σ.ev o) = some l → (Instr.sliceBound (a.eval o) h.toNat .sliceB).run g.P w = .ok l.toNat w := by
    intro o ho
    obtain ⟨k, hk⟩ := intOfAV_eval hI ho
    rw [hk]; exact run_sliceBound w k l h.toNat .sliceB h0 (by omega)
  have e2 : ∀ (o : Operand) (c : BoundsCode), intOfAV (σ.ev o) = some h → (Instr.sliceBound (a.eval o) cap c).run g.P w = .ok h.toNat w := by
    intro o c ho
    obtain ⟨k, hk⟩ := intOfAV_eval hI ho
    rw [hk]; exact run_sliceBound w k h cap c (by omega) h2
  unfold boundS at hl hh
  cases lo with
  | none =>
    simp only [Option.some.injEq] at hl; subst hl
    cases hi with
    | none => simp only [Option.some.injEq] at hh; subst hh; simp [Instr.sliceBounds]
    | some oh => simp [Instr.sliceBounds, e2 oh _ hh]
  | some ol =>
    cases hi with
    | none =>
      simp only [Option.some.injEq] at hh; subst hh
      have := e1 ol hl
      simp only [Int.toNat_natCast] at this
      simp [Instr.sliceBounds, this]
    | some oh => simp [Instr.sliceBounds, e2 oh _ hh, e1 ol hl]

theorem run_sliceAt_of {P : Program} {t e : TypeId} {sz len cap l h m : Nat} {A0 : Option Addr} {lo hi : Option Value} (ht : P.underlying t = some (.slice e)) (hs : szT P e = some sz)
    (hb : (Instr.sliceBounds true len cap lo hi none).run P w = .ok (l, h, m) w) :
    (Instr.sliceAt t (.slice A0 len cap) lo hi none).run P w = .ok (.slice (if m = l then A0 else A0.map (·.add (l * sz))) (h - l) (m - l)) w := by
  simp only [Instr.sliceAt, Sem.run_bind, run_underlying ht, Result.andThen_ok, Instr.slice, hb, run_szT hs, Sem.run_pure]

theorem run_sliceS (hI : Inv g F lam σ a w) {nx : Nat} (hnx : nx = g.nx) {quiet : Qm} {t : TypeId} {x : Operand} {lo hi mx : Option Operand} {X : AV} {m' : Mem} {c : Prop}
    (h : sliceS g.P nx quiet t σ (σ.ev x) lo hi mx = some (X, m', c)) (hc : c) :
    ∃ u F' lam', (Instr.sliceAt t (a.eval x) (lo.map a.eval) (hi.map a.eval) (mx.map a.eval)).run g.P w = .ok u w ∧ Nx g F lam σ.m w F' lam' m' w ∧ RV w F' m' lam' X u := by
  subst hnx
  have hX := hI.ev x
  unfold sliceS at h
  split at h
  · cases h
  simp only [Option.map_none]
  split at h
  · rename_i s ht hev
    rw [hev] at hX
    obtain ⟨hu, _⟩ := hX
    split at h
    · rename_i l hh hl1 hl2
      simp only [Option.some.injEq, Prod.mk.injEq] at h
      obtain ⟨rfl, rfl, rfl⟩ := h
      refine ⟨_, F, lam, ?_, hI.same, rfl, rfl⟩
      have hb := run_bounds hI (isS := false) (cap := s.size) hl1 hl2 hc.1 hc.2.1 hc.2.2
      rw [hu]
      simp only [Instr.sliceAt, Sem.run_bind, run_underlying ht, Result.andThen_ok, Instr.slice, hb, Sem.run_pure, Option.isSome_none, Bool.false_eq_true, if_false, Sem.run_ite]
    · cases h
  · rename_i e sz rows ht hev
    rw [hev] at hX
    obtain ⟨hw, A0, cap, hu, hcap, hcm, hor⟩ := hX
    split at h
    · rename_i hs
      split at h
      · rename_i l hh hl1 hl2
        simp only [Option.some.injEq, Prod.mk.injEq] at h
        obtain ⟨rfl, rfl, rfl⟩ := h
        obtain ⟨c0, c1, c2⟩ := hc
        have hb := run_bounds hI (isS := true) (cap := cap) hl1 hl2 c0 c1 (by omega)
        refine ⟨_, F, lam, by rw [hu]; exact run_sliceAt_of ht hs hb, hI.same, ?_⟩
        have hln : ((rows.drop l.toNat).take (hh.toNat - l.toNat)).length = hh.toNat - l.toNat := by simp; omega
        refine ⟨(hw.drop _).take _, _, cap - l.toNat, by rw [hln], by rw [hln]; omega, by omega, ?_⟩
        by_cases hcl : cap = l.toNat
        · left
          apply List.eq_nil_of_length_eq_zero
          rw [hln]; omega
        · rw [if_neg hcl]
          rcases hor with rfl | ⟨b, o, rfl, hF, hr⟩
          · left; simp
          · right
            refine ⟨b, o + l.toNat * sz, by simp only [Option.map_some, Addr.add_lit], hF, ?_⟩
            rw [flatten_take (hw.drop _), flatten_drop hw]
            exact (hr.drop _).take _
      · cases h
    · cases h
  · rename_i e ht hev
    rw [hev] at hX
    have hu : a.eval x = .slice none 0 0 := hX
    split at h
    · rename_i l hh s0 hl1 hl2 hs
      simp only [Option.some.injEq, Prod.mk.injEq] at h
      obtain ⟨rfl, rfl, rfl⟩ := h
      obtain ⟨rfl, rfl⟩ := hc
      have hb := run_bounds hI (isS := true) (len := 0) (cap := 0) hl1 hl2 (Int.le_refl _) (Int.le_refl _) (Int.le_refl _)
      refine ⟨.slice none 0 0, F, lam, ?_, hI.same, rfl⟩
      rw [hu]
      have := run_sliceAt_of (A0 := none) ht hs hb
      simpa using this
    · cases h
  · rename_i e k ver sz n ht hev
    rw [hev] at hX
    obtain ⟨hhg, hu0, hX⟩ := hX
    split at h
    · rename_i hq
      obtain ⟨hs, _, hnx⟩ := hq
      split at h
      · rename_i l hh ver' sz' rows hl1 hl2 hm
        split at h
        · rename_i hvs
          obtain ⟨rfl, rfl⟩ := hvs
          simp only [Option.some.injEq, Prod.mk.injEq] at h
          obtain ⟨rfl, rfl, rfl⟩ := h
          obtain ⟨c0, c1, c2⟩ := hc
          obtain ⟨_, rfl, hX⟩ := hX _ _ (.inl hm)
          have he := hI.mem.ent k
          rw [hm] at he
          obtain ⟨hw, he⟩ := he
          have hln : ((rows.drop l.toNat).take (hh.toNat - l.toNat)).length = hh.toNat - l.toNat := by simp; omega
          have hw' := (hw.drop l.toNat).take (hh.toNat - l.toNat)
          rcases hX with ⟨hlk, hu⟩ | ⟨b, o, cap, hlk, hu, hcap, hcm, hbs⟩
          · have hr0 : rows = [] := by
              rcases he with ⟨_, h⟩ | ⟨b, o, cur, ty, h, _⟩
              · exact h
              · rw [hlk] at h; cases h
            subst hr0
            have hl0 : l = 0 := by simp at c2; omega
            have hh0 : hh = 0 := by simp at c2; omega
            subst hl0; subst hh0
            have hb := run_bounds hI (isS := true) (len := 0) (cap := 0) hl1 hl2 (Int.le_refl _) (Int.le_refl _) (Int.le_refl _)
            refine ⟨.slice none 0 0, F, upd lam k none, ?_, Nx.bump hI hm hnx (fun _ _ => rfl) (fun _ => Nat.le_refl _) (fun _ _ _ _ _ _ => rfl) (Nat.le_refl _) hI.chg (fun _ _ _ _ _ _ _ h => by cases h) ?_, ?_⟩
            · rw [hu]
              have := run_sliceAt_of (A0 := none) ht hs hb
              simpa using this
            · exact ⟨by simpa using hw', .inl ⟨upd_same _ _ _, by simp⟩⟩
            · refine ⟨by rw [upd_same]; simp [Ent.ver], .inl ⟨rfl, rfl⟩, fun s' r' h' => ?_⟩
              rw [upd_same] at h'
              simp only [Ent.arr.injEq, true_and, reduceCtorEq, or_false] at h'
              obtain ⟨rfl, rfl⟩ := h'
              exact ⟨rfl, by simp, .inl ⟨upd_same _ _ _, rfl⟩⟩
          · have hb := run_bounds hI (isS := true) (cap := cap) hl1 hl2 c0 c1 (by omega)
            rcases he with ⟨h', _⟩ | ⟨b', o', cur, ty, hlk', hgb, hF, hh', ho, hcur, h1⟩
            · rw [hlk] at h'; cases h'
            rw [hlk] at hlk'
            simp only [Option.some.injEq, Prod.mk.injEq] at hlk'
            obtain ⟨rfl, rfl⟩ := hlk'
            rw [bsize_eq hgb] at hbs
            by_cases hcl : cap = l.toNat
            · have hz : hh.toNat - l.toNat = 0 := by omega
              refine ⟨.slice (some ⟨b, o, none⟩) (hh.toNat - l.toNat) (cap - l.toNat), F, upd lam k (some (b, o)), ?_, Nx.bump hI hm hnx (fun _ _ => rfl) (fun _ => Nat.le_refl _) (fun _ _ _ _ _ _ => rfl) (Nat.le_refl _) hI.chg ?_ ?_, ?_⟩
              · rw [hu]
                have := run_sliceAt_of (A0 := some ⟨b, o, none⟩) ht hs hb
                rwa [if_pos hcl] at this
              · rintro k' b' o1 o2 hne hl' hlk' h
                simp only [Option.some.injEq, Prod.mk.injEq] at h
                obtain ⟨rfl, rfl⟩ := h
                exact hne (hI.mem.inj _ _ _ _ _ hl' (by rw [hm]; trivial) hlk' hlk)
              · have hnil : ((rows.drop l.toNat).take (hh.toNat - l.toNat)) = [] := List.eq_nil_of_length_eq_zero (by rw [hln]; exact hz)
                rw [hnil]
                exact ⟨(by intro r hr; cases hr), .inr ⟨b, o, cur, ty, upd_same _ _ _, hgb, hF, hh', ho, by simp, by simp⟩⟩
              · refine ⟨by rw [upd_same]; simp [Ent.ver], .inr ⟨_, _, _, rfl, by omega⟩, fun s' r' h' => ?_⟩
                rw [upd_same] at h'
                simp only [Ent.arr.injEq, true_and, reduceCtorEq, or_false] at h'
                obtain ⟨rfl, rfl⟩ := h'
                exact ⟨rfl, hln.symm, .inr ⟨b, o, _, upd_same _ _ _, rfl, by omega, by omega, by rw [bsize_eq hgb]; have : (cap - l.toNat) * sz ≤ cap * sz := Nat.mul_le_mul_right _ (by omega); omega⟩⟩
            · refine ⟨.slice (some ⟨b, o + l.toNat * sz, none⟩) (hh.toNat - l.toNat) (cap - l.toNat), F, upd lam k (some (b, o + l.toNat * sz)), ?_, Nx.bump hI hm hnx (fun _ _ => rfl) (fun _ => Nat.le_refl _) (fun _ _ _ _ _ _ => rfl) (Nat.le_refl _) hI.chg ?_ ?_, ?_⟩
              · rw [hu]
                have := run_sliceAt_of (A0 := some ⟨b, o, none⟩) ht hs hb
                rw [if_neg hcl] at this
                simpa only [Option.map_some, Addr.add_lit] using this
              · rintro k' b' o1 o2 hne hl' hlk' h
                simp only [Option.some.injEq, Prod.mk.injEq] at h
                obtain ⟨rfl, rfl⟩ := h
                exact hne (hI.mem.inj _ _ _ _ _ hl' (by rw [hm]; trivial) hlk' hlk)
              · have hfl := flatten_length hw
                have hlc : l.toNat * sz ≤ cap * sz := Nat.mul_le_mul_right _ (by omega)
                refine ⟨hw', .inr ⟨b, _, cur, ty, upd_same _ _ _, hgb, hF, hh', by omega, ?_, ?_⟩⟩
                · rw [flatten_take (hw.drop _), flatten_drop hw, List.length_take, List.length_drop]
                  have hd : (cur.toList.drop (o + l.toNat * sz)).take (rows.flatten.length - l.toNat * sz) = rows.flatten.drop (l.toNat * sz) := by
                    have := congrArg (List.drop (l.toNat * sz)) hcur
                    rwa [List.drop_take, List.drop_drop] at this
                  rw [← hd, List.take_take]
                · intro u hu'
                  rw [flatten_take (hw.drop _), flatten_drop hw] at hu'
                  exact h1 u (List.mem_of_mem_drop (List.mem_of_mem_take hu'))
              · refine ⟨by rw [upd_same]; simp [Ent.ver], .inr ⟨_, _, _, rfl, by omega⟩, fun s' r' h' => ?_⟩
                rw [upd_same] at h'
                simp only [Ent.arr.injEq, true_and, reduceCtorEq, or_false] at h'
                obtain ⟨rfl, rfl⟩ := h'
                refine ⟨rfl, hln.symm, .inr ⟨b, _, _, upd_same _ _ _, rfl, by omega, by omega, ?_⟩⟩
                rw [bsize_eq hgb, Nat.sub_mul]
                have : l.toNat * sz ≤ cap * sz := Nat.mul_le_mul_right _ (by omega)
                omega
        · cases h
      · cases h
    · split at h
      · rename_i hq
        obtain ⟨hs, _⟩ := hq
        split at h
        · rename_i l hh hl1 hl2
          simp only [Option.some.injEq, Prod.mk.injEq] at h
          obtain ⟨rfl, rfl, rfl⟩ := h
          obtain ⟨c0, c1, c2⟩ := hc
          obtain ⟨A0, cap, hu, hcap⟩ : ∃ A0 cap, a.eval x = .slice A0 n cap ∧ n ≤ cap := by
            rcases hu0 with ⟨h, rfl⟩ | ⟨b, o, cap, h, hc⟩
            · exact ⟨_, _, h, Nat.le_refl _⟩
            · exact ⟨_, _, h, hc⟩
          have hb := run_bounds hI (isS := true) (cap := cap) hl1 hl2 c0 c1 (by omega)
          have hr := run_sliceAt_of (A0 := A0) ht hs hb
          refine ⟨_, F, lam, by rw [hu]; exact hr, hI.same, hhg, ⟨_, _, rfl⟩, fun sz' rows hm => ?_⟩
          obtain ⟨rfl, rfl, h5⟩ := hX sz' rows hm
          refine ⟨rfl, by omega, ?_⟩
          rcases h5 with ⟨_, h6⟩ | ⟨b, o, cap', h6, h7, _⟩
          · rw [h6] at hu
            simp only [Value.slice.injEq] at hu
            left; omega
          · rw [h7] at hu
            simp only [Value.slice.injEq, true_and] at hu
            obtain ⟨rfl, rfl⟩ := hu
            by_cases h0 : hh.toNat - l.toNat = 0
            · exact .inl h0
            · right
              rw [if_neg (by omega)]
              exact ⟨b, o, cap' - l.toNat, h6, by simp only [Option.map_some, Addr.add_lit]⟩
        · cases h
      · cases h
  · cases h

end
end Go.Abs

/- What one operation does: append, copy, struct literals. -/
namespace Go.Abs
open Go.RowKit
set_option linter.unusedVariables false
set_option linter.unusedSimpArgs false

section
variable {P : Program} {w w' : World}

/-- What stands behind an append or a copy can be read, as rows. -/
structure Src (P : Program) (w : World) (size : Nat) (x : Value) (rows : List (List Value)) : Prop where
  len : ∀ w', (Builtin.lenOf x).run P w' = .ok rows.length w'
  cells : ∀ (w' : World) (k : Nat), w'.heap = w.heap → k ≤ rows.length → (Builtin.firstCells size k x).run P w' = .ok (rows.take k).flatten.toArray w'
  one : ∀ u ∈ rows.flatten, u.oneCell' = true
  wf : Wf size rows

theorem RowsAt.heap {b o : Nat} {cs : List Value} (h : RowsAt w b o cs) (hh : w'.heap = w.heap) : RowsAt w' b o cs := h.keep (by rw [hh])

theorem Src.of_rows {b o n cap sz : Nat} {rows : List (List Value)} (hw : Wf sz rows) (hr : RowsAt w b o rows.flatten) (hn : n = rows.length) : Src P w sz (.slice (some ⟨b, o, none⟩) n cap) rows where
  len w' := by rw [hn]; rfl
  cells w' k hh hk := by
    have hr' := (hr.heap hh).take (k * sz)
    have hfl := flatten_length (hw.take k)
    rw [List.length_take, Nat.min_eq_left hk] at hfl
    refine run_firstCells_some w' sz k ⟨b, o, none⟩ n cap _ hfl fun j v hj => ?_
    rw [Addr.add_lit]
    rw [flatten_take hw] at hj
    exact (hr' j v hj).1
  one u hu := by
    obtain ⟨j, hj⟩ := List.mem_iff_getElem?.1 hu
    exact (hr j u hj).2
  wf := hw

theorem Src.nil (sz cap : Nat) (A0 : Option Addr) : Src P w sz (.slice A0 0 cap) [] where
  len w' := rfl
  cells w' k hh hk := by
    have : k = 0 := by simpa using hk
    subst this
    cases A0 <;> simp [Builtin.firstCells, loadCells, loadCellsFrom]
  one u hu := by simp at hu
  wf := by intro r hr; cases hr

theorem flatten_singles (l : List Value) : (l.map fun x => [x]).flatten = l := by
  induction l with
  | nil => rfl
  | cons x l ih => simpa using ih

theorem bytes_flatten (l : List UInt8) : (l.map fun (b : UInt8) => [Value.int .u8 (b.toNat : Int)]).flatten = l.map fun (b : UInt8) => Value.int .u8 (b.toNat : Int) := by
  induction l with
  | nil => rfl
  | cons x l ih => simpa using ih

theorem Src.string (s : ByteArray) : Src P w 1 (.string s) (s.data.toList.map fun (b : UInt8) => [Value.int .u8 (b.toNat : Int)]) where
  len w' := by
    show Result.ok s.size w' = _
    congr 1
    rw [List.length_map, Array.length_toList]
    rfl
  cells w' k hh hk := by
    show Result.ok (Array.map (fun (b : UInt8) => Value.int .u8 (b.toNat : Int)) (s.extract 0 k).data) w' = _
    congr 1
    apply Array.ext'
    rw [← List.map_take, bytes_flatten, Array.toList_map, ByteArray.data_extract, Array.toList_extract]
    simp
  one u hu := by
    simp only [List.mem_flatten, List.mem_map] at hu
    obtain ⟨l, ⟨b, _, rfl⟩, hu⟩ := hu
    simp at hu; subst hu; rfl
  wf := by
    intro r hr
    simp only [List.mem_map] at hr
    obtain ⟨b, _, rfl⟩ := hr
    rfl

section
variable {t t2 ty e : TypeId} {i : TypeInfo} {z : Value} {d2 : TypeDesc} {x : Value} {news : List (List Value)}

theorem run_append_in (ht : P.underlying t = some (.slice e)) (hi : P.info? e = some i) (h2 : P.underlying t2 = some d2) (hd2 : ∀ k, d2 ≠ .int k)
    (hs : Src P w i.size x news) {b o sLen sCap : Nat} {cur : Array Value} {ty' : TypeId} (hg : w.heap[b]? = some (.cells cur ty' (0, 0))) (hneed : sLen + news.length ≤ sCap) (hfit : o + sLen * i.size + news.flatten.length ≤ cur.size) :
    (Builtin.append_ #[t, t2] ty #[.slice (some ⟨b, o, none⟩) sLen sCap, x]).run P w =
      .ok (.slice (some ⟨b, o, none⟩) (sLen + news.length) sCap) (w.setRow b (splice cur.toList (o + sLen * i.size) news.flatten).toArray) := by
  have hst := run_storeCells_at P b (o + sLen * i.size) ty' news.flatten 0 cur w hg (by omega) hs.one
  simp only [Nat.add_zero] at hst
  have hc := hs.cells w news.length rfl (Nat.le_refl _)
  rw [List.take_length] at hc
  have hz2 : (d2 matches .int _) = false := by cases d2 <;> first | rfl | exact absurd rfl (hd2 _)
  simp [Builtin.append_, run_underlying ht, run_underlying h2, hz2, sizeOf, typeInfo, hi, hs.len, hneed, hc, Addr.add_lit, hst, splice]

theorem run_append_out (ht : P.underlying t = some (.slice e)) (hi : P.info? e = some i) (hz : i.zero = some z) (h2 : P.underlying t2 = some d2) (hd2 : ∀ k, d2 ≠ .int k)
    (hs : Src P w i.size x news) {A0 : Option Addr} {sLen sCap : Nat} {olds : List (List Value)} (ho : Src P w i.size (.slice A0 sLen sCap) olds) (hneed : sCap < sLen + news.length)
    (h63 : sLen + news.length ≤ 4611686018427387904) (hb : (sLen + news.length) * i.bytes ≤ 140737488355328) (hol : olds.length = sLen) :
    (Builtin.append_ #[t, t2] ty #[.slice A0 sLen sCap, x]).run P w =
      .ok (.slice (some ⟨w.heap.size, 0, none⟩) (sLen + news.length) (grownCap w (sLen + news.length) sCap e))
        (w.drew.alloc (.cells (olds.flatten.toArray ++ news.flatten.toArray ++ Builtin.zeroCells z.cells (grownCap w (sLen + news.length) sCap e - (sLen + news.length))) e)) := by
  have hc := hs.cells w.drew news.length rfl (Nat.le_refl _)
  rw [List.take_length] at hc
  have hoc := ho.cells w.drew sLen rfl (by omega)
  rw [← hol, List.take_length, hol] at hoc
  have hz2 : (d2 matches .int _) = false := by cases d2 <;> first | rfl | exact absurd rfl (hd2 _)
  have h63' : ¬ (9223372036854775807 < ((sLen : Int) + (news.length : Int))) := by omega
  have hgf := growslice_fits (bytes := i.bytes) hneed hb
  have h48' : ¬ (281474976710656 < Builtin.nextslicecap (sLen + news.length) sCap * i.bytes) := by omega
  have hn : ¬ (sLen + news.length ≤ sCap) := by omega
  simp [Builtin.append_, run_underlying ht, run_underlying h2, hz2, sizeOf, typeInfo, zeroValue, hi, hz, hs.len, hn, h63', h48', Question.forced, hc, hoc, newRow, grownCap]
  congr 2
  apply Array.ext'
  simp [List.append_assoc]

end
end

section
variable {g : G} {F : Nat → Prop} {lam : Lam} {σ : St} {a : Act} {w : World}

theorem Src.of_AV (hI : Inv g F lam σ a w) {X : AV} {u : Value} {sz : Nat} {rows : List (List Value)} (h : srcRows σ.m X = some (sz, rows)) (hX : RV w F σ.m lam X u) : Src g.P w sz u rows := by
  unfold srcRows at h
  split at h
  · simp only [Option.some.injEq, Prod.mk.injEq] at h
    obtain ⟨rfl, rfl⟩ := h
    obtain ⟨hw, A0, cap, rfl, h1, h2, h3⟩ := hX
    rcases h3 with rfl | ⟨b, o, rfl, hF, hr⟩
    · exact Src.nil _ _ _
    · exact Src.of_rows hw hr rfl
  · rename_i k ver sz' n
    obtain ⟨_, _, hX⟩ := hX
    have fin : ∀ v' s' r', (σ.m k = .arr v' s' r' ∨ σ.m k = .ice v' s' r') → (if ver = v' ∧ sz' = s' then some (sz', r') else none) = some (sz, rows) → Src g.P w sz u rows := by
      intro v' s' r' hm h
      split at h
      · rename_i hvs
        obtain ⟨rfl, rfl⟩ := hvs
        simp only [Option.some.injEq, Prod.mk.injEq] at h
        obtain ⟨rfl, rfl⟩ := h
        obtain ⟨_, rfl, hX⟩ := hX _ _ hm
        have he := hI.mem.ent k
        rcases hm with hm | hm <;> rw [hm] at he <;> obtain ⟨hw, he⟩ := he
        · rcases he with ⟨hn, rfl⟩ | ⟨b, o, cur, ty, hl, hg, hF, hh, ho, hc, h1⟩
          · rcases hX with ⟨_, rfl⟩ | ⟨b, o, cap, hl, rfl, _⟩
            · exact Src.nil _ _ _
            · exact Src.nil _ _ _
          · rcases hX with ⟨hn, _⟩ | ⟨b', o', cap, hl', rfl, _⟩
            · rw [hn] at hl; cases hl
            · rw [hl] at hl'
              simp only [Option.some.injEq, Prod.mk.injEq] at hl'
              obtain ⟨rfl, rfl⟩ := hl'
              exact Src.of_rows hw (cells_of_arr hg hc h1) rfl
        · rcases he with ⟨hn, rfl⟩ | ⟨b, o, hl, hF, hr⟩
          · rcases hX with ⟨_, rfl⟩ | ⟨b, o, cap, hl, rfl, _⟩
            · exact Src.nil _ _ _
            · exact Src.nil _ _ _
          · rcases hX with ⟨hn, _⟩ | ⟨b', o', cap, hl', rfl, _⟩
            · rw [hn] at hl; cases hl
            · rw [hl] at hl'
              simp only [Option.some.injEq, Prod.mk.injEq] at hl'
              obtain ⟨rfl, rfl⟩ := hl'
              exact Src.of_rows hw hr rfl
      · cases h
    split at h
    · rename_i v' s' r' hm; exact fin v' s' r' (.inl hm) h
    · rename_i v' s' r' hm; exact fin v' s' r' (.inr hm) h
    · cases h
  · cases h

/-- Behind an append that found no room: the new block's cells. -/
theorem grown_cells {olds news : List (List Value)} {z : Array Value} {k : Nat} : ((olds.flatten.toArray ++ news.flatten.toArray ++ Builtin.zeroCells z k).toList).take (olds ++ news).flatten.length = (olds ++ news).flatten := by
  simp only [Array.toList_append, List.flatten_append]
  rw [List.take_left]

set_option maxHeartbeats 1000000 in
theorem good_append (hI : Inv g F lam σ a w) {κ : Nat} {t t2 ty e : TypeId} {i : TypeInfo} {zv : Value} {d2 : TypeDesc} {sz : Nat} {X : AV} {u x : Value} {news : List (List Value)} {Y : AV} {m' : Mem} {c : Prop}
    (ht : g.P.underlying t = some (.slice e)) (hi : g.P.info? e = some i) (hz : i.zero = some zv) (h2 : g.P.underlying t2 = some d2) (hd2 : ∀ k, d2 ≠ .int k) (hsi : i.size = sz + 1) (hzl : zv.cells.size = sz + 1)
    (hs : Src g.P w (sz + 1) x news)
    (h : (match X with
        | .at .nil =>
          match σ.m κ with
          | .gone => some (AV.at (.ow κ 0 (sz + 1) news.length), upd σ.m κ (.arr 0 (sz + 1) news), g.nx ≤ κ ∧ news.length * i.bytes ≤ 140737488355328 ∧ news.length ≤ 4611686018427387904)
          | _ => none
        | .at (.ow k ver sz' n) =>
          match σ.m k with
          | .arr ver' sz'' rows =>
            if ver = ver' ∧ sz' = sz'' ∧ sz' = sz + 1 ∧ g.nx ≤ k then
              some (AV.at (.ow k (ver + 1) (sz + 1) (rows.length + news.length)), upd σ.m k (.arr (ver + 1) (sz + 1) (rows ++ news)), (rows.length + news.length) * i.bytes ≤ 140737488355328 ∧ rows.length + news.length ≤ 4611686018427387904)
            else none
          | _ => none
        | _ => none) = some (Y, m', c)) (hc : c) (hX : RV w F σ.m lam X u) :
    ∃ u' w' F' lam', (Builtin.append_ #[t, t2] ty #[u, x]).run g.P w = .ok u' w' ∧ Nx g F lam σ.m w F' lam' m' w' ∧ RV w' F' m' lam' Y u' := by
  have hzsz : ∀ n, (Builtin.zeroCells zv.cells n).size = n * (sz + 1) := fun n => by rw [size_zeroCells, hzl]
  split at h
  · have hu : u = .slice none 0 0 := hX
    subst hu
    split at h
    · rename_i hg
      simp only [Option.some.injEq, Prod.mk.injEq] at h
      obtain ⟨rfl, rfl, rfl⟩ := h
      obtain ⟨hnx, hb, hn⟩ := hc
      by_cases h0 : news.length = 0
      · have : news = [] := List.eq_nil_of_length_eq_zero h0
        subst this
        have hcl := hs.cells w 0 rfl (Nat.le_refl _)
        have hll := hs.len w
        have hz2 : (d2 matches .int _) = false := by cases d2 <;> first | rfl | exact absurd rfl (hd2 _)
        have hr : (Builtin.append_ #[t, t2] ty #[.slice none 0 0, x]).run g.P w = .ok (.slice none 0 0) w := by
          simp [Builtin.append_, run_underlying ht, run_underlying h2, hz2, sizeOf, typeInfo, hi, hll, hsi, hcl]
        have L : Le w w F F σ.m (upd σ.m κ (.arr 0 (sz + 1) [])) lam (upd lam κ none) := by
          refine ⟨fun b hb => ⟨hb, rfl⟩, fun _ => Nat.le_refl _, fun k hk => ?_, fun k hk => ?_, fun k v s r hk _ h => ?_, fun k v cs hk _ h => ?_⟩ <;>
            have hne : k ≠ κ := (fun e => by subst e; exact hk hg)
          · rw [upd_ne _ _ hne]; exact hk
          · rw [upd_ne _ _ hne]; exact Nat.le_refl _
          · rw [upd_ne _ _ hne] at h ⊢; exact ⟨rfl, r, h, rfl⟩
          · rw [upd_ne _ _ hne] at h ⊢; exact ⟨rfl, cs, h⟩
        refine ⟨_, w, F, upd lam κ none, hr, ⟨L, hI.mem.turn L κ (fun k hne => ⟨upd_ne _ _ hne, upd_ne _ _ hne⟩) (fun k b o hne hl hlk => ⟨rfl, ((hI.mem.ent k).block' hl hlk).1⟩) ?_ ?_, hI.f2, hI.f3, fun k hk' => ?_, hI.chg⟩, ?_⟩
        · rw [upd_same]; exact ⟨(by intro r hr; cases hr), .inl ⟨upd_same _ _ _, rfl⟩⟩
        · intro k b o o' _ _ _ _ h; rw [upd_same] at h; cases h
        · rw [upd_ne _ _ (by omega)]; exact hI.l0 k hk'
        · refine ⟨by rw [upd_same]; simp [Ent.ver], .inl ⟨rfl, rfl⟩, fun s' r' h' => ?_⟩
          rw [upd_same] at h'
          simp only [Ent.arr.injEq, true_and, reduceCtorEq, or_false] at h'
          obtain ⟨rfl, rfl⟩ := h'
          exact ⟨rfl, rfl, .inl ⟨upd_same _ _ _, rfl⟩⟩
      · have hr := run_append_out (P := g.P) (w := w) (ty := ty) ht hi hz h2 hd2 (by rw [hsi]; exact hs) (A0 := none) (sLen := 0) (sCap := 0) (olds := []) (Src.nil _ _ _) (by omega) (by omega) (by simpa using hb) rfl
        have hge := grownCap_ge w (0 + news.length) 0 e
        have hle := grownCap_le_maxLen w (0 + news.length) 0 e (by simp only [maxLen]; omega)
        have hfl := flatten_length hs.wf
        simp only [Nat.zero_add, List.flatten_nil] at hr hge hle
        refine good_arr hI hg hnx (cap := grownCap w news.length 0 e) hs.wf hs.one ?_ ?_ hge hle (Pushed.drew_alloc w _) hr
        · have := @grown_cells [] news zv.cells (grownCap w news.length 0 e - news.length)
          simp only [List.nil_append, List.flatten_nil] at this
          exact this
        · simp only [Array.size_append, List.size_toArray, hzsz, hfl, ← Nat.add_mul, List.length_nil, Nat.zero_add]
          exact Nat.mul_le_mul_right _ (by omega)
    · cases h
  · rename_i k ver sz' n
    obtain ⟨_, hu0, hX⟩ := hX
    split at h
    · rename_i ver' sz'' rows hm
      split at h
      · rename_i hvs
        obtain ⟨rfl, rfl, rfl, hnx⟩ := hvs
        simp only [Option.some.injEq, Prod.mk.injEq] at h
        obtain ⟨rfl, rfl, rfl⟩ := h
        obtain ⟨hb, hn⟩ := hc
        obtain ⟨_, rfl, hX⟩ := hX _ _ (.inl hm)
        have he := hI.mem.ent k
        rw [hm] at he
        obtain ⟨hw, he⟩ := he
        have hww : Wf (sz + 1) (rows ++ news) := by
          intro r hr
          rcases List.mem_append.1 hr with h | h
          · exact hw r h
          · exact hs.wf r h
        have grown : ∀ (A0 : Option Addr) (sCap : Nat), u = .slice A0 rows.length sCap → Src g.P w (sz + 1) u rows → sCap < rows.length + news.length → (∀ v ∈ rows.flatten, v.oneCell' = true) →
            ∃ u' w' F' lam', (Builtin.append_ #[t, t2] ty #[u, x]).run g.P w = .ok u' w' ∧ Nx g F lam σ.m w F' lam' (upd σ.m k (.arr (ver + 1) (sz + 1) (rows ++ news))) w' ∧ RV w' F' (upd σ.m k (.arr (ver + 1) (sz + 1) (rows ++ news))) lam' (.at (.ow k (ver + 1) (sz + 1) (rows.length + news.length))) u' := by
          intro A0 sCap hu ho hneed h1
          subst hu
          have hr := run_append_out (P := g.P) (w := w) (ty := ty) ht hi hz h2 hd2 (by rw [hsi]; exact hs) (by rw [hsi]; exact ho) hneed (by omega) hb rfl
          have hge := grownCap_ge w (rows.length + news.length) sCap e
          have hle := grownCap_le_maxLen w (rows.length + news.length) sCap e (by simp only [maxLen]; omega)
          have hp := Pushed.drew_alloc w (.cells (rows.flatten.toArray ++ news.flatten.toArray ++ Builtin.zeroCells zv.cells (grownCap w (rows.length + news.length) sCap e - (rows.length + news.length))) e)
          refine ⟨_, _, F, upd lam k (some (w.heap.size, 0)), hr, Nx.bump hI hm hnx (fun b hb => hp.old (hI.f3 b hb)) hp.bsize (fun k' b o hne hl hlk => hp.old ((hI.mem.ent k').block' hl hlk).2) (by rw [hp.size]; omega) (hI.chg.pushed hp) ?_ ?_, ?_⟩
          · intro k' b o o' hne hl hlk h
            have := ((hI.mem.ent k').block' hl hlk).2
            simp only [Option.some.injEq, Prod.mk.injEq] at h
            omega
          · refine ⟨hww, .inr ⟨w.heap.size, 0, _, _, upd_same _ _ _, hp.new, fun h => by have := hI.f3 _ h; omega, ⟨fun h => by omega, fun _ => hI.chg.size⟩, Nat.zero_le _, ?_, ?_⟩⟩
            · rw [List.drop_zero]; exact grown_cells
            · intro v hv
              rw [List.flatten_append] at hv
              rcases List.mem_append.1 hv with h | h
              · exact h1 v h
              · exact hs.one v h
          · refine ⟨by rw [upd_same]; simp [Ent.ver], .inr ⟨_, _, _, rfl, hge⟩, fun s' r' h' => ?_⟩
            rw [upd_same] at h'
            simp only [Ent.arr.injEq, true_and, reduceCtorEq, or_false] at h'
            obtain ⟨rfl, rfl⟩ := h'
            refine ⟨rfl, by simp, .inr ⟨_, _, _, upd_same _ _ _, rfl, hge, hle, ?_⟩⟩
            rw [bsize_eq hp.new]
            have hfl := flatten_length hs.wf
            have hfr := flatten_length hw
            simp only [Array.size_append, List.size_toArray, hzsz, hfl, hfr, ← Nat.add_mul, Nat.zero_add]
            exact Nat.mul_le_mul_right _ (by omega)
        rcases hX with ⟨hlk, hu⟩ | ⟨b, o, cap, hlk, hu, hcap, hcm, hbs⟩
        · have hr0 : rows = [] := by
            rcases he with ⟨_, h⟩ | ⟨b, o, cur, ty, h, _⟩
            · exact h
            · rw [hlk] at h; cases h
          subst hr0
          by_cases h0 : news.length = 0
          · have : news = [] := List.eq_nil_of_length_eq_zero h0
            subst this
            have hcl := hs.cells w 0 rfl (Nat.le_refl _)
            have hll := hs.len w
            have hz2 : (d2 matches .int _) = false := by cases d2 <;> first | rfl | exact absurd rfl (hd2 _)
            subst hu
            have hr : (Builtin.append_ #[t, t2] ty #[.slice none 0 0, x]).run g.P w = .ok (.slice none 0 0) w := by
              simp [Builtin.append_, run_underlying ht, run_underlying h2, hz2, sizeOf, typeInfo, hi, hll, hsi, hcl]
            refine ⟨_, w, F, upd lam k none, hr, Nx.bump hI hm hnx (fun _ _ => rfl) (fun _ => Nat.le_refl _) (fun _ _ _ _ _ _ => rfl) (Nat.le_refl _) hI.chg (fun _ _ _ _ _ _ _ h => by cases h) ?_, ?_⟩
            · exact ⟨(by intro r hr; cases hr), .inl ⟨upd_same _ _ _, rfl⟩⟩
            · refine ⟨by rw [upd_same]; simp [Ent.ver], .inl ⟨rfl, rfl⟩, fun s' r' h' => ?_⟩
              rw [upd_same] at h'
              simp only [Ent.arr.injEq, true_and, reduceCtorEq, or_false] at h'
              obtain ⟨rfl, rfl⟩ := h'
              exact ⟨rfl, rfl, .inl ⟨upd_same _ _ _, rfl⟩⟩
          · exact grown none 0 hu (by rw [hu]; exact Src.nil _ _ _) (by simp; omega) (by simp)
        · rcases he with ⟨h', _⟩ | ⟨b', o', cur, ty', hlk', hgb, hF, hh', ho, hcur, h1⟩
          · rw [hlk] at h'; cases h'
          rw [hlk] at hlk'
          simp only [Option.some.injEq, Prod.mk.injEq] at hlk'
          obtain ⟨rfl, rfl⟩ := hlk'
          have hsrc : Src g.P w (sz + 1) u rows := by rw [hu]; exact Src.of_rows hw (cells_of_arr hgb hcur h1) rfl
          by_cases hroom : rows.length + news.length ≤ cap
          · rw [bsize_eq hgb] at hbs
            have hfl := flatten_length hs.wf
            have hfr := flatten_length hw
            have hm1 : (rows.length + news.length) * (sz + 1) ≤ cap * (sz + 1) := Nat.mul_le_mul_right _ hroom
            rw [Nat.add_mul] at hm1
            have hr := run_append_in (P := g.P) (w := w) (ty := ty) (o := o) ht hi h2 hd2 (by rw [hsi]; exact hs) hgb hroom (by rw [hsi]; omega)
            rw [hsi] at hr
            have hcl : cur.toList.length = cur.size := by simp
            have hfa : (rows ++ news).flatten.length = rows.flatten.length + news.flatten.length := by rw [List.flatten_append, List.length_append]
            have hlen : o + rows.length * (sz + 1) + news.flatten.length ≤ cur.toList.length := by omega
            have hsl : (splice cur.toList (o + rows.length * (sz + 1)) news.flatten).toArray.size = cur.size := by
              rw [List.size_toArray, splice_length hlen, hcl]
            have hcont : ((splice cur.toList (o + rows.length * (sz + 1)) news.flatten).toArray.toList.drop o).take (rows ++ news).flatten.length = (rows ++ news).flatten := by
              show ((splice cur.toList (o + rows.length * (sz + 1)) news.flatten).drop o).take _ = _
              rw [splice_drop hlen, hfa, splice_take (by omega) (by rw [List.length_drop]; omega), ← hfr]
              unfold splice
              rw [List.take_take, Nat.min_eq_left (by omega), hcur, List.drop_eq_nil_of_le (by rw [List.length_take, List.length_drop]; omega), List.append_nil, List.flatten_append]
            generalize (splice cur.toList (o + rows.length * (sz + 1)) news.flatten).toArray = cur' at hr hsl hcont
            have hset := setRow_heap w b cur cur' ty' _ hgb
            refine ⟨_, _, F, upd lam k (some (b, o)), by rw [hu]; exact hr, Nx.bump hI hm hnx (fun b' hb' => setRow_other w b b' cur' fun e => hF (e ▸ hb')) (fun b' => ?_) (fun k' b' o' hne hl hlk' => setRow_other w b b' cur' fun e => ?_) (by rw [size_setRow]; exact Nat.le_refl _) ?_ ?_ ?_, ?_⟩
            · by_cases hbb : b' = b
              · subst hbb; rw [bsize_eq hgb, bsize_eq hset, hsl]; exact Nat.le_refl _
              · unfold bsize; rw [setRow_other w b b' cur' hbb]; exact Nat.le_refl _
            · subst e
              exact hne (hI.mem.inj _ _ _ _ _ hl (by rw [hm]; trivial) hlk' hlk)
            · refine ⟨hI.chg.os, hI.chg.tape, hI.chg.output, by rw [size_setRow]; exact hI.chg.size, fun b' hb' hx => ?_, fun b' => ?_⟩
              rw [setRow_other w b b' cur' ?_]
              · exact hI.chg.block b' hb' hx
              · rintro rfl
                have := hh'.2 hnx; omega
              · refine Nat.le_trans (hI.chg.bs b') ?_
                by_cases hbb : b' = b
                · subst hbb; rw [bsize_eq hgb, bsize_eq hset, hsl]; exact Nat.le_refl _
                · unfold bsize; rw [setRow_other w b b' cur' hbb]; exact Nat.le_refl _
            · intro k' b' o1 o2 hne hl hlk' h
              simp only [Option.some.injEq, Prod.mk.injEq] at h
              obtain ⟨rfl, rfl⟩ := h
              exact hne (hI.mem.inj _ _ _ _ _ hl (by rw [hm]; trivial) hlk' hlk)
            · refine ⟨hww, .inr ⟨b, o, cur', ty', upd_same _ _ _, hset, hF, hh', by rw [hsl]; exact ho, hcont, ?_⟩⟩
              intro v hv
              rw [List.flatten_append] at hv
              rcases List.mem_append.1 hv with h | h
              · exact h1 v h
              · exact hs.one v h
            · refine ⟨by rw [upd_same]; simp [Ent.ver], .inr ⟨_, _, _, rfl, hroom⟩, fun s' r' h' => ?_⟩
              rw [upd_same] at h'
              simp only [Ent.arr.injEq, true_and, reduceCtorEq, or_false] at h'
              obtain ⟨rfl, rfl⟩ := h'
              exact ⟨rfl, by simp, .inr ⟨b, o, cap, upd_same _ _ _, rfl, hroom, hcm, by rw [bsize_eq hset, hsl]; exact hbs⟩⟩
          · exact grown _ cap hu hsrc (by omega) h1
      · cases h
    · cases h
  · cases h

end
end Go.Abs

/- What one operation does: the dispatcher. -/
namespace Go.Abs
open Go.RowKit
set_option linter.unusedVariables false
set_option linter.unusedSimpArgs false

section
variable {g : G} {F : Nat → Prop} {lam : Lam} {σ : St} {a : Act} {w : World}

theorem fillS_ok (hI : Inv g F lam σ a w) {t : TypeId} {fs : Array Field} {parts : List (Nat × Operand)} {as as' : List A} {us : List Value} (h : fillS fs.toList g.P σ parts as = some as')
    (hR : RL (fun a x => RA w F σ.m lam a x ∧ x.oneCell' = true) as us) {places : Array (Nat × Nat)} (hp : ∀ (i : Nat) (fd : Field) (s : Nat), fs[i]? = some fd → szT g.P fd.type = some s → places[i]? = some (fd.offset, s)) :
    ∃ cs, Instr.fill (places[·]?) us.toArray (parts.map fun p => (p.1, a.eval p.2)) = some cs ∧ RL (fun a x => RA w F σ.m lam a x ∧ x.oneCell' = true) as' cs.toList := by
  induction parts generalizing as us with
  | nil =>
    simp only [fillS, Option.some.injEq] at h; subst h
    exact ⟨_, rfl, hR⟩
  | cons p parts ih =>
    obtain ⟨i, x⟩ := p
    simp only [fillS] at h
    split at h
    · rename_i fd bs hfd hbs
      split at h
      · rename_i hc
        have hb := atomsOf_RL hbs (hI.ev x)
        have hbl : (a.eval x).cells.size = bs.length := by have := hb.1; simp at this; omega
        have hul : us.length = as.length := hR.1.symm
        obtain ⟨cs, hf, hcs⟩ := ih h (hR.splice hb hc.2)
        refine ⟨cs, ?_, hcs⟩
        simp only [List.map_cons]
        rw [fill_cons (off := fd.offset) (size := bs.length) (hp i fd _ (by simpa using hfd) hc.1) hbl (by rw [List.size_toArray]; omega)]
        exact hf
      · cases h
    · cases h

theorem run_places {P : Program} {fs : Array Field} (h : ∀ (fd : Field), fd ∈ fs.toList → (szT P fd.type).isSome) :
    ∃ places : Array (Nat × Nat), ((fs.mapM fun f => do pure (f.offset, ← sizeOf f.type) : Sem (Array (Nat × Nat)))).run P w = .ok places w ∧ ∀ (i : Nat) (fd : Field) (s : Nat), fs[i]? = some fd → szT P fd.type = some s → places[i]? = some (fd.offset, s) := by
  have key : ∀ l : List Field, (∀ (fd : Field), fd ∈ l → (szT P fd.type).isSome) → ∃ ps : List (Nat × Nat), (l.mapM fun f => (do pure (f.offset, ← sizeOf f.type) : Sem (Nat × Nat))).run P w = .ok ps w ∧ ∀ (i : Nat) (fd : Field) (s : Nat), l[i]? = some fd → szT P fd.type = some s → ps[i]? = some (fd.offset, s) := by
    intro l
    induction l with
    | nil => intro _; exact ⟨[], by simp, by simp⟩
    | cons f l ih =>
      intro hl
      obtain ⟨ps, h1, h2⟩ := ih fun fd hfd => hl fd (by simp [hfd])
      obtain ⟨s, hs⟩ := Option.isSome_iff_exists.1 (hl f (by simp))
      refine ⟨(f.offset, s) :: ps, ?_, ?_⟩
      · simp only [List.mapM_cons, Sem.run_bind, run_szT hs, Result.andThen_ok, Sem.run_pure, h1]
      · intro i fd s' hi hs'
        cases i with
        | zero => simp at hi; subst hi; rw [hs] at hs'; simp at hs'; subst hs'; rfl
        | succ i => simpa using h2 i fd s' (by simpa using hi) hs'
  obtain ⟨ps, h1, h2⟩ := key fs.toList h
  refine ⟨ps.toArray, ?_, fun i fd s hi hs => by simpa using h2 i fd s (by simpa using hi) hs⟩
  rw [Array.mapM_eq_mapM_toList, Sem.run_map, h1]
  rfl

theorem good_build (hI : Inv g F lam σ a w) {t : TypeId} {fs : Array Field} {as cs : List A} {parts : Array (Nat × Operand)} (ht : g.P.underlying t = some (.struct fs)) (hz : zeroAtoms g.P t = some as)
    (hs : as.all A.solid = true) (hall : fs.toList.all (fun (fd : Field) => (szT g.P fd.type).isSome) = true) (h : fillS fs.toList g.P σ parts.toList as = some cs) :
    ∃ u, (Instr.build t (parts.map fun (i, x) => (i, a.eval x))).run g.P w = .ok u w ∧ RV w F σ.m lam (.ag cs) u := by
  obtain ⟨i, z, hi, hiz, rfl⟩ := info_zeroAtoms hz
  rw [List.all_eq_true] at hall
  obtain ⟨places, hpr, hpl⟩ := run_places (P := g.P) (w := w) (fs := fs) hall
  obtain ⟨c, hf, hR⟩ := fillS_ok (fs := fs) (t := t) hI h (RL_zero hs) hpl
  refine ⟨.agg c, ?_, c.toList, by simp, hR⟩
  have hf' : Instr.fill (places[·]?) z.cells (parts.map fun (i, x) => (i, a.eval x)).toList = some c := by
    rw [← hf]; simp
  simp only [Instr.build, zeroValue, typeInfo, Sem.run_bind, run_program, hi, hiz, Sem.run_pure, Result.andThen_ok, run_underlying ht, hpr]
  rw [hf']
  rfl

theorem splice_rows {sz : Nat} {rows news : List (List Value)} {off : Nat} (hw : Wf sz rows) (hn : Wf sz news) (h : off + news.length ≤ rows.length) : (splice rows off news).flatten = splice rows.flatten (off * sz) news.flatten := by
  unfold splice
  rw [List.flatten_append, List.flatten_append, flatten_take hw, flatten_drop hw, flatten_length hn, ← Nat.add_mul]
theorem Wf.splice {sz : Nat} {rows news : List (List Value)} {off : Nat} (hw : Wf sz rows) (hn : Wf sz news) : Wf sz (Abs.splice rows off news) := by
  intro r hr
  rcases mem_splice hr with h | h
  · exact hw r h
  · exact hn r h

/-- Rows copied within an array of one's own. -/
theorem good_copy (hI : Inv g F lam σ a w) {t t2 ty : TypeId} {X Y Z : AV} {m' : Mem} {c : Prop} {u x : Value} (h : copyS g.P t σ.m X Y = some (Z, m', c)) (hX : RV w F σ.m lam X u) (hY : RV w F σ.m lam Y x) :
    ∃ v w', (Builtin.copy_ #[t, t2] ty #[u, x]).run g.P w = .ok v w' ∧ Nx g F lam σ.m w F lam m' w' ∧ RV w' F m' lam Z v := by
  unfold copyS at h
  split at h
  · rename_i k ver sz off n k' ver' sz' off' n'
    split at h
    · rename_i e ht
      split at h
      · rename_i ver2 sz2 rows hm
        split at h
        · rename_i hc
          obtain ⟨rfl, rfl, rfl, rfl, rfl, hs⟩ := hc
          simp only [Option.some.injEq, Prod.mk.injEq] at h
          obtain ⟨rfl, rfl, rfl⟩ := h
          obtain ⟨_, ⟨A0, cap, hu⟩, hX⟩ := hX
          obtain ⟨_, ⟨A1, cap1, hx⟩, hY⟩ := hY
          obtain ⟨_, hl1, hX⟩ := hX _ _ (.inl hm)
          obtain ⟨_, hl2, hY⟩ := hY _ _ (.inl hm)
          obtain ⟨i, hi, hsi⟩ := info_szT hs
          have he := hI.mem.ent k'
          rw [hm] at he
          obtain ⟨hw, he⟩ := he
          by_cases h0 : min n' n = 0
          · have hmin : Nat.min n' n = 0 := h0
            have hme : upd σ.m k' (.arr ver2 sz2 (splice rows off ((rows.drop off').take (min n' n)))) = σ.m := by
              rw [h0, List.take_zero]
              funext k
              by_cases hk : k = k'
              · subst hk; rw [upd_same, hm]; simp [splice]
              · rw [upd_ne _ _ hk]
            rw [hme]
            refine ⟨.int .i64 0, w, ?_, hI.same, by rw [h0]; rfl, rfl⟩
            rw [hu, hx]
            cases A0 <;> cases A1 <;> simp [Builtin.copy_, run_underlying ht, Builtin.lenOf, Builtin.firstCells, sizeOf, typeInfo, hi, hmin, loadCells, loadCellsFrom, storeCells, goInt]
          · obtain ⟨b, o, cap2, hlk, hu2⟩ := hX.resolve_left (by omega)
            obtain ⟨b', o', cap3, hlk', hx2⟩ := hY.resolve_left (by omega)
            rw [hlk] at hlk'
            simp only [Option.some.injEq, Prod.mk.injEq] at hlk'
            obtain ⟨rfl, rfl⟩ := hlk'
            rcases he with ⟨hl', _⟩ | ⟨b2, o2, cur, ty', hl', hg, hF, hh, ho, hcur, h1⟩
            · rw [hlk] at hl'; cases hl'
            rw [hlk] at hl'
            simp only [Option.some.injEq, Prod.mk.injEq] at hl'
            obtain ⟨rfl, rfl⟩ := hl'
            have hnw : Wf sz2 ((rows.drop off').take (min n' n)) := (hw.drop _).take _
            have hnl : ((rows.drop off').take (min n' n)).length = min n' n := by rw [List.length_take, List.length_drop]; omega
            have hr := cells_of_arr hg hcur h1
            have hr2 : RowsAt w b (o + off' * sz2) ((rows.drop off').take (min n' n)).flatten := by
              rw [flatten_take (hw.drop _), flatten_drop hw]
              exact (hr.drop _).take _
            generalize hnews : (rows.drop off').take (min n' n) = news at hnw hnl hr2 ⊢
            have hfl := flatten_length hnw
            have hfr := flatten_length hw
            have hone : ∀ v ∈ news.flatten, v.oneCell' = true := fun v hv => by
              obtain ⟨j, hj⟩ := List.mem_iff_getElem?.1 hv
              exact (hr2 j v hj).2
            have hfit1 : o + rows.flatten.length ≤ cur.toList.length := by
              have := congrArg List.length hcur
              have hcl : cur.toList.length = cur.size := by simp
              rw [List.length_take, List.length_drop] at this
              omega
            have hin : off * sz2 + news.length * sz2 ≤ rows.length * sz2 := by rw [← Nat.add_mul]; exact Nat.mul_le_mul_right _ (by omega)
            have hfit : o + off * sz2 + news.flatten.length ≤ cur.toList.length := by omega
            have hst := run_storeCells_at g.P b (o + off * sz2) ty' news.flatten 0 cur w hg (by rw [Array.length_toList] at hfit; omega) hone
            simp only [Nat.add_zero] at hst
            have hld := run_loadCells_list (P := g.P) w ⟨b, o + off' * sz2, none⟩ news.flatten (fun j v hj => by rw [Addr.add_lit]; exact (hr2 j v hj).1)
            have hmin : Nat.min n' n = news.length := hnl.symm
            refine ⟨goInt news.length, w.setRow b (splice cur.toList (o + off * sz2) news.flatten).toArray, ?_, ?_, congrArg (fun (n : Nat) => goInt n) hnl, rfl⟩
            · rw [hu2, hx2]
              generalize news.flatten = cs at hfl hld hst ⊢
              simp [Builtin.copy_, run_underlying ht, Builtin.lenOf, Builtin.firstCells, sizeOf, typeInfo, hi, hsi, hmin, ← hfl, hld, hst, splice]
            · have hsl : (splice cur.toList (o + off * sz2) news.flatten).toArray.size = cur.size := by rw [List.size_toArray, splice_length hfit]; simp
              refine Nx.store hI (by rw [hm]; trivial) hlk hg hsl hh ?_ ?_ (by simp) (by simp [hm, Ent.ver]) ?_
              · rintro v s' rows' (h | h) <;> cases h
                exact ⟨rows, .inl hm, by rw [splice_length (by omega)]⟩
              · intro v cs' h; cases h
              · intro L
                have hsr := splice_rows (off := off) hw hnw (by omega)
                refine ⟨hw.splice hnw, .inr ⟨b, o, _, ty', hlk, setRow_heap w b cur _ ty' _ hg, hF, hh, by rw [hsl]; exact ho, ?_, ?_⟩⟩
                · rw [hsr, splice_length (by omega)]
                  show ((splice cur.toList (o + off * sz2) news.flatten).drop o).take _ = _
                  rw [splice_drop hfit, splice_take (by omega) (by rw [List.length_drop]; omega), hcur]
                · intro x hx
                  rw [hsr] at hx
                  rcases mem_splice hx with h | h
                  · exact h1 x h
                  · exact hone x h
        · cases h
      · cases h
    · cases h
  · cases h

theorem good_builtin (hI : Inv g F lam σ a w) {κ : Nat} {b : Builtin} {args : Array Operand} {ts : Array TypeId} {ty : TypeId} {X : AV} {m' : Mem} {c : Prop}
    (h : builtinS g.P κ g.nx b args.toList ts.toList σ = some (X, m', c)) (hc : c) (cs : Array Bool) :
    ∃ u w' F' lam', (builtin b ts ty cs (args.map a.eval)).run g.P w = .ok (.value u) w' ∧ Nx g F lam σ.m w F' lam' m' w' ∧ RV w' F' m' lam' X u := by
  unfold builtinS at h
  split at h
  · rename_i x t ha ht
    have ha' : args = #[x] := by cases args; simp_all
    have ht' : ts = #[t] := by cases ts; simp_all
    subst ha'; subst ht'
    split at h
    · rename_i v hv
      simp only [Option.some.injEq, Prod.mk.injEq] at h
      obtain ⟨rfl, rfl, rfl⟩ := h
      have hr := run_lenS (ty := ty) hv (hI.ev x)
      exact ⟨v, w, F, lam, by simp only [builtin, Sem.run_bind, List.map_toArray, List.map_cons, List.map_nil, hr.1, Result.andThen_ok, Sem.run_pure], hI.same, rfl, hr.2⟩
    · cases h
  · rename_i x y ha
    have ha' : args = #[x, y] := by cases args; simp_all
    subst ha'
    split at h
    · rename_i v hv
      simp only [Option.some.injEq, Prod.mk.injEq] at h
      obtain ⟨rfl, rfl, rfl⟩ := h
      have hr := run_max2 (P := g.P) hv (hI.ev x) (hI.ev y) ts ty
      exact ⟨v, w, F, lam, by simp only [builtin, Sem.run_bind, List.map_toArray, List.map_cons, List.map_nil, hr.1, Result.andThen_ok, Sem.run_pure], hI.same, rfl, hr.2⟩
    · cases h
  · rename_i x y ha
    have ha' : args = #[x, y] := by cases args; simp_all
    subst ha'
    split at h
    · rename_i v hv
      simp only [Option.some.injEq, Prod.mk.injEq] at h
      obtain ⟨rfl, rfl, rfl⟩ := h
      have hr := run_min2 (P := g.P) hv (hI.ev x) (hI.ev y) ts ty
      exact ⟨v, w, F, lam, by simp only [builtin, Sem.run_bind, List.map_toArray, List.map_cons, List.map_nil, hr.1, Result.andThen_ok, Sem.run_pure], hI.same, rfl, hr.2⟩
    · cases h
  · rename_i x y t t2 ha ht
    have ha' : args = #[x, y] := by cases args; simp_all
    have ht' : ts = #[t, t2] := by cases ts; simp_all
    subst ha'; subst ht'
    unfold appendS at h
    split at h
    · rename_i e hu
      split at h
      · rename_i sz by_ hsz hby
        obtain ⟨i, hi, hsi⟩ := info_szT hsz
        have hbi : i.bytes = by_ := by simpa [hi] using hby
        have key : ∀ (news : List (List Value)) (d2 : TypeDesc), g.P.underlying t2 = some d2 → (∀ k, d2 ≠ .int k) → Src g.P w (sz + 1) (a.eval y) news →
            (match σ.ev x with
              | .at .nil =>
                match σ.m κ with
                | .gone => if (zeroVals g.P e).map List.length = some (sz + 1) then some (AV.at (.ow κ 0 (sz + 1) news.length), upd σ.m κ (.arr 0 (sz + 1) news), g.nx ≤ κ ∧ news.length * by_ ≤ 140737488355328 ∧ news.length ≤ 4611686018427387904) else none
                | _ => none
              | .at (.ow k ver sz' n) =>
                match σ.m k with
                | .arr ver' sz'' rows =>
                  if ver = ver' ∧ sz' = sz'' ∧ sz' = sz + 1 ∧ g.nx ≤ k ∧ (zeroVals g.P e).map List.length = some (sz + 1) then
                    some (AV.at (.ow k (ver + 1) (sz + 1) (rows.length + news.length)), upd σ.m k (.arr (ver + 1) (sz + 1) (rows ++ news)), (rows.length + news.length) * by_ ≤ 140737488355328 ∧ rows.length + news.length ≤ 4611686018427387904)
                  else none
                | _ => none
              | _ => none) = some (X, m', c) →
            ∃ u w' F' lam', (Builtin.append_ #[t, t2] ty #[a.eval x, a.eval y]).run g.P w = .ok u w' ∧ Nx g F lam σ.m w F' lam' m' w' ∧ RV w' F' m' lam' X u := by
          intro news d2 h2 hd2 hsrc h
          have hzz : (zeroVals g.P e).map List.length = some (sz + 1) := by
            split at h
            · split at h
              · split at h
                · assumption
                · cases h
              · cases h
            · split at h
              · split at h
                · rename_i hh; exact hh.2.2.2.2
                · cases h
              · cases h
            · cases h
          cases hzv : zeroVals g.P e with
          | none => rw [hzv] at hzz; cases hzz
          | some z =>
            obtain ⟨i', zv, hi', hiz, rfl⟩ := info_zeroVals hzv
            rw [hi] at hi'
            simp only [Option.some.injEq] at hi'
            subst hi'
            rw [hzv] at hzz
            have hzl : zv.cells.size = sz + 1 := by simpa using hzz
            refine good_append hI (κ := κ) (i := i) (ty := ty) (c := c) hu hi hiz h2 hd2 hsi hzl hsrc ?_ hc (hI.ev x)
            subst hbi
            simp only [hzv, hzz, if_true, and_true] at h
            exact h
        have fin : ∀ {u : Value} {w' : World}, (Builtin.append_ #[t, t2] ty #[a.eval x, a.eval y]).run g.P w = .ok u w' → (builtin .append #[t, t2] ty cs (#[x, y].map a.eval)).run g.P w = .ok (.value u) w' := by
          intro u w' hr
          simp only [builtin, Sem.run_bind, List.map_toArray, List.map_cons, List.map_nil, hr, Result.andThen_ok, Sem.run_pure]
        split at h
        · rename_i news hn
          have hsrc : ∃ d2, g.P.underlying t2 = some d2 ∧ (∀ k, d2 ≠ .int k) ∧ Src g.P w (sz + 1) (a.eval y) news := by
            have hy := hI.ev y
            split at hn
            · rename_i s hs
              rw [hs] at hy
              split at hn
              · rename_i hc2
                obtain ⟨rfl, h2⟩ := hc2
                simp only [Option.some.injEq] at hn; subst hn
                unfold isStr at h2
                split at h2
                · rename_i hu2
                  refine ⟨_, hu2, by simp, ?_⟩
                  rw [hy.1]; exact Src.string s
                · cases h2
              · cases hn
            · rename_i hs
              rw [hs] at hy
              split at hn
              · rename_i ht2
                subst ht2
                simp only [Option.some.injEq] at hn; subst hn
                have hy' : a.eval y = .slice none 0 0 := hy
                rw [hy']
                exact ⟨_, hu, by simp, Src.nil _ _ _⟩
              · cases hn
            · cases hsr : srcRows σ.m (σ.ev y) with
              | none => simp [hsr] at hn
              | some p =>
                simp only [hsr, Option.bind_some] at hn
                split at hn
                · rename_i hp
                  obtain ⟨hp1, rfl⟩ := hp
                  simp only [Option.some.injEq] at hn; subst hn
                  exact ⟨_, hu, by simp, Src.of_AV hI (by rw [hsr, ← hp1]) hy⟩
                · cases hn
          obtain ⟨d2, h2, hd2, hsrc⟩ := hsrc
          obtain ⟨u, w', F', lam', hr, h3, h4⟩ := key news d2 h2 hd2 hsrc h
          exact ⟨u, w', F', lam', fin hr, h3, h4⟩
        · cases h
      · cases h
    · cases h
  · rename_i x y t t2 ha ht
    have ha' : args = #[x, y] := by cases args; simp_all
    have ht' : ts = #[t, t2] := by cases ts; simp_all
    subst ha'; subst ht'
    obtain ⟨u, w', hr, hn, hv⟩ := good_copy (ty := ty) (t2 := t2) hI h (hI.ev x) (hI.ev y)
    exact ⟨u, w', F, lam, by simp only [builtin, Sem.run_bind, List.map_toArray, List.map_cons, List.map_nil, hr, Result.andThen_ok, Sem.run_pure], hn, hv⟩
  · cases h

theorem act_sound (hI : Inv g F lam σ a w) {quiet : Qm} {o : Oper} {X : AV} {m' : Mem} {c : Prop} (h : opS g.P g.nx quiet o σ = some (X, m', c)) (hc : c) :
    ∃ u w' F' lam', (((execOp a.eval o).run g.P w = .ok (.value u) w') ∨ ((execOp a.eval o).run g.P w = .ok .skip w' ∧ u = undef)) ∧ Nx g F lam σ.m w F' lam' m' w' ∧ RV w' F' m' lam' X u := by
  have pv : ∀ {s : Sem Value} {u : Value}, s.run g.P w = .ok u w → (do Pure.pure (Next.value (← s)) : Sem Next).run g.P w = .ok (.value u) w := fun h => run_v h
  unfold opS at h
  split at h
  · rename_i x ho
    simp only [Option.some.injEq, Prod.mk.injEq] at h; obtain ⟨rfl, rfl, rfl⟩ := h
    exact ⟨_, w, F, lam, .inl (BigFrame.run_move x ho w), hI.same, hI.ev x⟩
  · rename_i x ho
    simp only [Option.some.injEq, Prod.mk.injEq] at h; obtain ⟨rfl, rfl, rfl⟩ := h
    exact ⟨_, w, F, lam, .inl (BigFrame.run_assign x ho w), hI.same, hI.ev x⟩
  · rename_i x y z ho
    have hx := hI.ev x
    split at h
    · rename_i hb
      simp only [Option.some.injEq, Prod.mk.injEq] at h; obtain ⟨rfl, rfl, rfl⟩ := h
      rw [hb] at hx
      exact ⟨_, w, F, lam, .inl (by simp [execOp, ho, hx.1, asBool]), hI.same, hI.ev y⟩
    · rename_i hb
      simp only [Option.some.injEq, Prod.mk.injEq] at h; obtain ⟨rfl, rfl, rfl⟩ := h
      rw [hb] at hx
      exact ⟨_, w, F, lam, .inl (by simp [execOp, ho, hx.1, asBool]), hI.same, hI.ev z⟩
    · cases h
  · rename_i op t x y yt ho
    split at h
    · rename_i v c' hb
      simp only [Option.some.injEq, Prod.mk.injEq] at h; obtain ⟨rfl, rfl, rfl⟩ := h
      have hr := run_binS (P := g.P) hb hc (hI.ev x) (hI.ev y) x y
      exact ⟨v, w, F, lam, .inl (by simp only [execOp, ho]; exact pv hr.1), hI.same, rfl, hr.2⟩
    · cases h
  · rename_i op t x ho
    split at h
    · rename_i v hb
      simp only [Option.some.injEq, Prod.mk.injEq] at h; obtain ⟨rfl, rfl, rfl⟩ := h
      have hr := run_unS (P := g.P) hb (hI.ev x)
      exact ⟨v, w, F, lam, .inl (by simp only [execOp, ho]; exact pv hr.1), hI.same, rfl, hr.2⟩
    · cases h
  · rename_i s d x ho
    split at h
    · rename_i v hb
      simp only [Option.some.injEq, Prod.mk.injEq] at h; obtain ⟨rfl, rfl, rfl⟩ := h
      have hr := run_convS (P := g.P) hb (hI.ev x)
      exact ⟨v, w, F, lam, .inl (by simp only [execOp, ho]; exact pv hr.1), hI.same, rfl, hr.2⟩
    · cases h
  · rename_i t x ho
    split at h
    · rename_i v c' hb
      simp only [Option.some.injEq, Prod.mk.injEq] at h; obtain ⟨rfl, rfl, rfl⟩ := h
      obtain ⟨u, hr, hv⟩ := run_loadS hI hb hc (hI.ev x)
      exact ⟨u, w, F, lam, .inl (by simp only [execOp, ho]; exact pv hr), hI.same, hv⟩
    · cases h
  · rename_i t p x ho
    split at h
    · rename_i m1 c' hb
      simp only [Option.some.injEq, Prod.mk.injEq] at h; obtain ⟨rfl, rfl, rfl⟩ := h
      obtain ⟨w', hr, hn⟩ := run_storeS hI hb hc (hI.ev p) (hI.ev x)
      exact ⟨undef, w', F, lam, .inr ⟨by simp only [execOp, ho, Sem.run_bind, hr, Result.andThen_ok, Sem.run_pure], rfl⟩, hn, trivial⟩
    · cases h
  · rename_i s x f ho
    split at h
    · rename_i v hb
      simp only [Option.some.injEq, Prod.mk.injEq] at h; obtain ⟨rfl, rfl, rfl⟩ := h
      obtain ⟨u, hr, hv⟩ := run_fieldAddrS (P := g.P) hb (hI.ev x)
      exact ⟨u, w, F, lam, .inl (by simp only [execOp, ho]; exact pv hr), hI.same, hv⟩
    · cases h
  · rename_i s x f ho
    split at h
    · rename_i v c' hb
      simp only [Option.some.injEq, Prod.mk.injEq] at h; obtain ⟨rfl, rfl, rfl⟩ := h
      obtain ⟨u, hr, hv⟩ := run_fieldS (P := g.P) hb hc (hI.ev x)
      exact ⟨u, w, F, lam, .inl (by simp only [execOp, ho]; exact pv hr), hI.same, hv⟩
    · cases h
  · rename_i t x i ho
    split at h
    · rename_i v c' hb
      simp only [Option.some.injEq, Prod.mk.injEq] at h; obtain ⟨rfl, rfl, rfl⟩ := h
      obtain ⟨u, hr, hv⟩ := run_indexAddrS (P := g.P) hb hc (hI.ev x) (hI.ev i)
      exact ⟨u, w, F, lam, .inl (by simp only [execOp, ho]; exact pv hr), hI.same, hv⟩
    · cases h
  · rename_i t x i ho
    split at h
    · rename_i v c' hb
      simp only [Option.some.injEq, Prod.mk.injEq] at h; obtain ⟨rfl, rfl, rfl⟩ := h
      obtain ⟨u, hr, hv⟩ := run_indexS (P := g.P) hb hc (hI.ev x) (hI.ev i)
      exact ⟨u, w, F, lam, .inl (by simp only [execOp, ho]; exact pv hr), hI.same, hv⟩
    · cases h
  · rename_i t x lo hi mx ho
    obtain ⟨u, F', lam', hr, hn, hv⟩ := run_sliceS hI rfl h hc
    exact ⟨u, w, F', lam', .inl (by simp only [execOp, ho]; exact pv hr), hn, hv⟩
  · rename_i t x ho
    split at h
    · rename_i as hg has
      simp only [Option.some.injEq, Prod.mk.injEq] at h; obtain ⟨rfl, rfl, rfl⟩ := h
      obtain ⟨u, w', F', lam', hr, hn, hv⟩ := good_box hI hg hc (atomsOf_RL has (hI.ev x)) (run_box (P := g.P) t (a.eval x))
      exact ⟨u, w', F', lam', .inl (by simp only [execOp, ho]; exact run_v hr), hn, hv⟩
    · cases h
  · rename_i t ho
    split at h
    · rename_i as hg has
      split at h
      · rename_i hs
        simp only [Option.some.injEq, Prod.mk.injEq] at h; obtain ⟨rfl, rfl, rfl⟩ := h
        obtain ⟨i, z, hi, hz, rfl⟩ := info_zeroAtoms has
        obtain ⟨u, w', F', lam', hr, hn, hv⟩ := good_box hI hg hc (RL_zero hs) (run_alloc (P := g.P) hi hz (.tuple #[]))
        exact ⟨u, w', F', lam', .inl (by simp only [execOp, ho]; exact run_v hr), hn, hv⟩
      · cases h
    · cases h
  · rename_i t parts ho
    split at h
    · rename_i fs as ht hz
      split at h
      · rename_i hs
        split at h
        · rename_i cs hf
          simp only [Option.some.injEq, Prod.mk.injEq] at h; obtain ⟨rfl, rfl, rfl⟩ := h
          obtain ⟨u, hr, hv⟩ := good_build hI ht hz hs.1 hs.2 hf
          exact ⟨u, w, F, lam, .inl (by simp only [execOp, ho]; exact pv hr), hI.same, hv⟩
        · cases h
      · cases h
    · cases h
  · rename_i t len parts ho
    split at h
    · rename_i e ht
      split at h
      · rename_i sz z hg hs hz
        split at h
        · rename_i hh
          split at h
          · rename_i rows hf
            simp only [Option.some.injEq, Prod.mk.injEq] at h; obtain ⟨rfl, rfl, rfl⟩ := h
            obtain ⟨u, w', F', lam', hr, hn, hv⟩ := good_buildSlice hI ht hg hc hs hz hh.1 hh.2.1 hh.2.2 hf
            exact ⟨u, w', F', lam', .inl (by simp only [execOp, ho]; exact run_v hr), hn, hv⟩
          · cases h
        · cases h
      · cases h
    · cases h
  · rename_i t l cp ho
    split at h
    · rename_i e k n k' n' ht hl hcp
      split at h
      · rename_i sz z by_ hg hs hz hb
        split at h
        · rename_i hh
          simp only [Option.some.injEq, Prod.mk.injEq] at h; obtain ⟨rfl, rfl, rfl⟩ := h
          obtain ⟨hk, rfl, h0, h1, h2⟩ := hc
          have el := hI.ev l
          have ec := hI.ev cp
          rw [hl] at el; rw [hcp] at ec
          obtain ⟨u, w', F', lam', hr, hn, hv⟩ := good_makeSlice hI (k := k) (k' := k') ht hg hk hs hz hb hh.1 hh.2 h0 h1 h2
          exact ⟨u, w', F', lam', .inl (by simp only [execOp, ho, el.1, ec.1]; exact run_v hr), hn, hv⟩
        · cases h
      · cases h
    · cases h
  · rename_i x i ho
    have hx := hI.ev x
    split at h
    · rename_i xs hxs
      rw [hxs] at hx
      obtain ⟨us, hu, hlen, hall⟩ := hx
      split at h
      · rename_i v hv
        simp only [Option.some.injEq, Prod.mk.injEq] at h; obtain ⟨rfl, rfl, rfl⟩ := h
        have hi : i < us.length := by rw [← hlen]; exact (List.getElem?_eq_some_iff.1 hv).1
        have hui : us[i]? = some us[i] := List.getElem?_eq_getElem hi
        refine ⟨us[i], w, F, lam, .inl ?_, hI.same, ?_⟩
        · simp only [execOp, ho]
          refine pv ?_
          simp only [hu, Instr.extract, List.getElem?_toArray, hui, Sem.run_pure]
        · have := hall i v us[i] hv hui
          cases v with
          | «at» a => exact this
          | ag cs => exact this
          | tp xs => exact this.elim
      · cases h
    · cases h
  · rename_i x ho
    have hx := hI.ev x
    split at h
    · rename_i k ver off hk
      rw [hk] at hx
      simp only [Option.some.injEq, Prod.mk.injEq] at h; obtain ⟨rfl, rfl, rfl⟩ := h
      have hx' := hx
      obtain ⟨_, ⟨b, o, hu⟩, _⟩ := hx'
      refine ⟨a.eval x, w, F, lam, .inl ?_, hI.same, hx⟩
      simp only [execOp, ho]
      rw [hu]
      simp
    · cases h
  · rename_i cl ho
    split at h
    · rename_i b hcl
      split at h
      · skip
        obtain ⟨u, w', F', lam', hr, hn, hv⟩ := good_builtin hI (ty := o.type) h hc (cl.args.map fun | .const _ => true | _ => false)
        refine ⟨u, w', F', lam', .inl ?_, hn, hv⟩
        simp only [execOp, ho, resolve, hcl, Sem.run_bind, Sem.run_pure, Result.andThen_ok, invoke]
        exact hr
      · cases h
    · cases h
  · cases h

end
end Go.Abs
