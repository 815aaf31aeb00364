/- A reading of Go frames as data: what a slot holds, which memory is the call's own, and how both stand to the world. -/
import Derived.Orders
import Derived.Below
import Derived.Laws.OwnMore
import Derived.Laws.CopyRow
import Derived.Laws.Entries
import Derived.Laws.StructEq
import Derived.Carry
namespace Go.Abs
open Go.RowKit
set_option linter.unusedVariables false
set_option linter.unusedSimpArgs false

/-- What one cell holds. -/
inductive A where
  | v (x : Value)
  | im (sz : Nat) (rows : List (List Value))
  | fr (sz : Nat) (rows : List (List Value))
  | ow (k ver sz n : Nat)
  | nil
  | bx (k ver off : Nat)
  | pa (k ver sz i off : Nat)
  | pi (cs : List Value)
  | er
  | dead

/-- What one slot holds. -/
inductive AV where
  | at (a : A)
  | ag (cs : List A)
  | tp (xs : List AV)

/-- What is held under a key. -/
inductive Ent where
  | gone
  | arr (ver sz : Nat) (rows : List (List Value))
  | ice (ver sz : Nat) (rows : List (List Value))
  | box (ver : Nat) (cells : List A)

abbrev Mem := Nat → Ent
abbrev Lam := Nat → Option (Nat × Nat)

structure St where
  t : Nat → AV
  m : Mem

def upd {β : Type} (f : Nat → β) (k : Nat) (x : β) : Nat → β := fun i => if i = k then x else f i
theorem upd_same {β : Type} (f : Nat → β) (k : Nat) (x : β) : upd f k x k = x := by simp [upd]
theorem upd_ne {β : Type} (f : Nat → β) {k i : Nat} (x : β) (h : i ≠ k) : upd f k x i = f i := by simp [upd, h]

def St.put (σ : St) (d : Nat) (x : AV) : St := ⟨upd σ.t d x, σ.m⟩

def Wf (sz : Nat) (rows : List (List Value)) : Prop := ∀ r ∈ rows, r.length = sz
def RowsAt (w : World) (b o : Nat) (cs : List Value) : Prop := ∀ j u, cs[j]? = some u → w.cell? ⟨b, o + j, none⟩ = some u ∧ u.oneCell' = true
def bsize (w : World) (b : Nat) : Nat := match w.heap[b]? with | some (.cells c _ _) => c.size | _ => 0

def Ent.ver : Ent → Nat
  | .gone => 0
  | .arr ver _ _ => ver
  | .ice ver _ _ => ver
  | .box ver _ => ver

/-- How a cell's value stands to what is known of it. -/
def RA (w : World) (F : Nat → Prop) (m : Mem) (lam : Lam) : A → Value → Prop
  | .v x, u => u = x ∧ x.oneCell' = true
  | .im sz rows, u => Wf sz rows ∧ ∃ a cap, u = .slice a rows.length cap ∧ rows.length ≤ cap ∧ cap ≤ maxLen ∧ (rows = [] ∨ ∃ b o, a = some ⟨b, o, none⟩ ∧ F b ∧ RowsAt w b o rows.flatten)
  | .fr _ _, _ => False
  | .ow k ver sz0 n, u => (m k ≠ .gone ∧ ver ≤ (m k).ver) ∧ ((u = .slice none 0 0 ∧ n = 0) ∨ ∃ b o cap, u = .slice (some ⟨b, o, none⟩) n cap) ∧ ∀ sz rows, (m k = .arr ver sz rows ∨ m k = .ice ver sz rows) → sz0 = sz ∧ n = rows.length ∧
      ((lam k = none ∧ u = .slice none 0 0) ∨ ∃ b o cap, lam k = some (b, o) ∧ u = .slice (some ⟨b, o, none⟩) n cap ∧ n ≤ cap ∧ cap ≤ maxLen ∧ o + cap * sz ≤ bsize w b)
  | .nil, u => u = .slice none 0 0
  | .bx k ver off, u => (m k ≠ .gone ∧ ver ≤ (m k).ver) ∧ (∃ b o, u = .pointer (some ⟨b, o, none⟩)) ∧ ∀ cells, m k = .box ver cells → ∃ b, lam k = some (b, 0) ∧ u = .pointer (some ⟨b, off, none⟩)
  | .pa k ver sz0 i off, u => (m k ≠ .gone ∧ ver ≤ (m k).ver) ∧ (∃ b o, u = .pointer (some ⟨b, o, none⟩)) ∧ ∀ sz rows, (m k = .arr ver sz rows ∨ m k = .ice ver sz rows) → sz0 = sz ∧ (rows = [] ∨ ∃ b o, lam k = some (b, o) ∧ u = .pointer (some ⟨b, o + i * sz + off, none⟩))
  | .pi cs, u => ∃ b o, u = .pointer (some ⟨b, o, none⟩) ∧ F b ∧ RowsAt w b o cs
  | .er, u => ∃ t x, u = .iface t x
  | .dead, _ => True

/-- Two lists, place by place. -/
def RL (R : A → Value → Prop) (as : List A) (us : List Value) : Prop := as.length = us.length ∧ ∀ (i : Nat) (a : A) (u : Value), as[i]? = some a → us[i]? = some u → R a u

def RV1 (w : World) (F : Nat → Prop) (m : Mem) (lam : Lam) : AV → Value → Prop
  | .at a, u => RA w F m lam a u
  | .ag cs, u => ∃ us : List Value, u = .agg us.toArray ∧ RL (fun a x => RA w F m lam a x ∧ x.oneCell' = true) cs us
  | .tp _, _ => False

def RV (w : World) (F : Nat → Prop) (m : Mem) (lam : Lam) : AV → Value → Prop
  | .at a, u => RA w F m lam a u
  | .ag cs, u => RV1 w F m lam (.ag cs) u
  | .tp xs, u => ∃ us : List Value, u = .tuple us.toArray ∧ xs.length = us.length ∧ ∀ (i : Nat) (x : AV) (y : Value), xs[i]? = some x → us[i]? = some y → RV1 w F m lam x y

/-- The call: the world at its begin, the read-only blocks, the blocks of the keys that were handed in. -/
structure G where
  P : Program
  w0 : World
  F0 : Nat → Prop
  X : Nat → Prop
  nx : Nat
  lam0 : Lam
  nt : Nat

def Ent.live : Ent → Prop
  | .arr .. => True
  | .box .. => True
  | _ => False

def Home (g : G) (k b : Nat) : Prop := (k < g.nx → g.X b) ∧ (g.nx ≤ k → g.w0.heap.size ≤ b)

def EntRel (g : G) (w : World) (F : Nat → Prop) (m : Mem) (lam : Lam) (k : Nat) : Ent → Prop
  | .gone => True
  | .arr _ sz rows => Wf sz rows ∧ ((lam k = none ∧ rows = []) ∨ ∃ b o cur ty, lam k = some (b, o) ∧ w.heap[b]? = some (.cells cur ty (0, 0)) ∧ ¬ F b ∧ Home g k b ∧
      o ≤ cur.size ∧ (cur.toList.drop o).take rows.flatten.length = rows.flatten ∧ ∀ u ∈ rows.flatten, u.oneCell' = true)
  | .ice _ sz rows => Wf sz rows ∧ ((lam k = none ∧ rows = []) ∨ ∃ b o, lam k = some (b, o) ∧ F b ∧ RowsAt w b o rows.flatten)
  | .box _ cells => ∃ b cur ty, lam k = some (b, 0) ∧ w.heap[b]? = some (.cells cur ty (0, 0)) ∧ ¬ F b ∧ Home g k b ∧ RL (fun a x => RA w F m lam a x ∧ x.oneCell' = true) cells cur.toList

structure MemRel (g : G) (w : World) (F : Nat → Prop) (m : Mem) (lam : Lam) : Prop where
  ent : ∀ k, EntRel g w F m lam k (m k)
  inj : ∀ k k' b o o', (m k).live → (m k').live → lam k = some (b, o) → lam k' = some (b, o') → k = k'

structure Chg (g : G) (w : World) : Prop where
  os : w.os = g.w0.os
  tape : w.tape = g.w0.tape
  output : w.output = g.w0.output
  size : g.w0.heap.size ≤ w.heap.size
  block : ∀ b, b < g.w0.heap.size → ¬ g.X b → w.heap[b]? = g.w0.heap[b]?
  bs : ∀ b, bsize g.w0 b ≤ bsize w b

structure Inv (g : G) (F : Nat → Prop) (lam : Lam) (σ : St) (a : Act) (w : World) : Prop where
  f1 : ∀ b, g.F0 b → F b
  f2 : ∀ b, b < g.w0.heap.size → F b → g.F0 b
  f3 : ∀ b, F b → b < w.heap.size
  mem : MemRel g w F σ.m lam
  l0 : ∀ k, k < g.nx → lam k = g.lam0 k
  sl : ∀ t, RV w F σ.m lam (σ.t t) (a.tmps.getD t undef)
  nt : a.tmps.size = g.nt
  chg : Chg g w
  df : a.defers = []

/-- What may turn from one moment to the next under what is known of cells. -/
structure Le (w w' : World) (F F' : Nat → Prop) (m m' : Mem) (lam lam' : Lam) : Prop where
  fro : ∀ b, F b → F' b ∧ w'.heap[b]? = w.heap[b]?
  siz : ∀ b, bsize w b ≤ bsize w' b
  gone : ∀ k, m k ≠ .gone → m' k ≠ .gone
  ver : ∀ k, m k ≠ .gone → (m k).ver ≤ (m' k).ver
  arr : ∀ k ver sz rows, m k ≠ .gone → ver ≤ (m k).ver → (m' k = .arr ver sz rows ∨ m' k = .ice ver sz rows) → lam' k = lam k ∧ ∃ rows', (m k = .arr ver sz rows' ∨ m k = .ice ver sz rows') ∧ rows'.length = rows.length
  box : ∀ k ver cells, m k ≠ .gone → ver ≤ (m k).ver → m' k = .box ver cells → lam' k = lam k ∧ ∃ cells', m k = .box ver cells'

theorem cell?_congr {w w' : World} {b o : Nat} (h : w'.heap[b]? = w.heap[b]?) : w'.cell? ⟨b, o, none⟩ = w.cell? ⟨b, o, none⟩ := World.cell?_of_block (a := ⟨b, o, none⟩) h

theorem RowsAt.keep {w w' : World} {b o : Nat} {cs : List Value} (h : RowsAt w b o cs) (hb : w'.heap[b]? = w.heap[b]?) : RowsAt w' b o cs := by
  intro j u hj
  rw [cell?_congr hb]
  exact h j u hj

theorem RA.le {w w' : World} {F F' : Nat → Prop} {m m' : Mem} {lam lam' : Lam} (L : Le w w' F F' m m' lam lam') {a : A} {u : Value} (h : RA w F m lam a u) : RA w' F' m' lam' a u := by
  cases a with
  | v x => exact h
  | im sz rows =>
    obtain ⟨h1, a, cap, h2, h3, h4, h5⟩ := h
    refine ⟨h1, a, cap, h2, h3, h4, ?_⟩
    rcases h5 with h5 | ⟨b, o, h5, h6, h7⟩
    · exact .inl h5
    · exact .inr ⟨b, o, h5, (L.fro b h6).1, h7.keep (L.fro b h6).2⟩
  | fr sz rows => exact h
  | ow k ver sz0 n =>
    obtain ⟨h1, h9, h2⟩ := h
    refine ⟨⟨L.gone k h1.1, Nat.le_trans h1.2 (L.ver k h1.1)⟩, h9, fun sz rows hm => ?_⟩
    obtain ⟨hl, rows', hm', hlen⟩ := L.arr k ver sz rows h1.1 h1.2 hm
    obtain ⟨h0, h3, h4⟩ := h2 sz rows' hm'
    refine ⟨h0, by omega, ?_⟩
    rcases h4 with h4 | ⟨b, o, cap, h4, h5, h6, h7, h8⟩
    · exact .inl ⟨hl.trans h4.1, h4.2⟩
    · exact .inr ⟨b, o, cap, hl.trans h4, h5, h6, h7, Nat.le_trans h8 (L.siz b)⟩
  | nil => exact h
  | bx k ver off =>
    obtain ⟨h1, h9, h2⟩ := h
    refine ⟨⟨L.gone k h1.1, Nat.le_trans h1.2 (L.ver k h1.1)⟩, h9, fun cells hm => ?_⟩
    obtain ⟨hl, cells', hm'⟩ := L.box k ver cells h1.1 h1.2 hm
    obtain ⟨b, h3, h4⟩ := h2 cells' hm'
    exact ⟨b, hl.trans h3, h4⟩
  | pa k ver sz0 i off =>
    obtain ⟨h1, h9, h2⟩ := h
    refine ⟨⟨L.gone k h1.1, Nat.le_trans h1.2 (L.ver k h1.1)⟩, h9, fun sz rows hm => ?_⟩
    obtain ⟨hl, rows', hm', hlen⟩ := L.arr k ver sz rows h1.1 h1.2 hm
    obtain ⟨h0, h3⟩ := h2 sz rows' hm'
    refine ⟨h0, ?_⟩
    rcases h3 with h3 | ⟨b, o, h3, h4⟩
    · subst h3
      exact .inl (List.eq_nil_of_length_eq_zero hlen.symm)
    · exact .inr ⟨b, o, hl.trans h3, h4⟩
  | pi cs =>
    obtain ⟨b, o, h1, h2, h3⟩ := h
    exact ⟨b, o, h1, (L.fro b h2).1, h3.keep (L.fro b h2).2⟩
  | er => exact h
  | dead => trivial

theorem RL.mono {R R' : A → Value → Prop} {as : List A} {us : List Value} (h : RL R as us) (f : ∀ a u, R a u → R' a u) : RL R' as us :=
  ⟨h.1, fun i a u ha hu => f a u (h.2 i a u ha hu)⟩

theorem RV1.le {w w' : World} {F F' : Nat → Prop} {m m' : Mem} {lam lam' : Lam} (L : Le w w' F F' m m' lam lam') {x : AV} {u : Value} (h : RV1 w F m lam x u) : RV1 w' F' m' lam' x u := by
  cases x with
  | «at» a => exact RA.le L h
  | ag cs =>
    obtain ⟨us, h1, h2⟩ := h
    exact ⟨us, h1, h2.mono fun a u h => ⟨RA.le L h.1, h.2⟩⟩
  | tp xs => exact h

theorem RV.le {w w' : World} {F F' : Nat → Prop} {m m' : Mem} {lam lam' : Lam} (L : Le w w' F F' m m' lam lam') {x : AV} {u : Value} (h : RV w F m lam x u) : RV w' F' m' lam' x u := by
  cases x with
  | «at» a => exact RA.le L h
  | ag cs => exact RV1.le (x := .ag cs) L h
  | tp xs =>
    obtain ⟨us, h1, h2, h3⟩ := h
    exact ⟨us, h1, h2, fun i x y hx hy => RV1.le L (h3 i x y hx hy)⟩

theorem Le.refl (w : World) (F : Nat → Prop) (m : Mem) (lam : Lam) : Le w w F F m m lam lam :=
  ⟨fun b h => ⟨h, rfl⟩, fun b => Nat.le_refl _, fun k h => h, fun k _ => Nat.le_refl _, fun k ver sz rows _ _ h => ⟨rfl, rows, h, rfl⟩, fun k ver cells _ _ h => ⟨rfl, cells, h⟩⟩

theorem bsize_eq {w : World} {b : Nat} {cur : Array Value} {ty : TypeId} {fr : Nat × Nat} (h : w.heap[b]? = some (.cells cur ty fr)) : bsize w b = cur.size := by simp [bsize, h]

end Go.Abs
