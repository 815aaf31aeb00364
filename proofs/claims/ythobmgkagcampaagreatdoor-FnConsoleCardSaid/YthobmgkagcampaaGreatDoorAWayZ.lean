/- The steps from cells to all cells: a walk in breadth, told without the program. -/
import Derived.Test.YthobmgkagcampaaGreatDoorANearZ
namespace Go.Abs
open Go.RowKit Go.Proofs
set_option linter.all false
set_option maxRecDepth 100000
def dist (d : List Int) (b : Int) : Int := d.getD b.toNat 0
theorem dist_get {d : List Int} {b c : Int} (h : d[b.toNat]? = some c) : dist d b = c := by
 rw [dist, List.getD_eq_getElem?_getD, h]; rfl
def relax (a : Int) (s : List Int × List Int) (b : Int) : List Int × List Int :=
 if dist s.1 b < 0 then (s.1.set b.toNat (dist s.1 a + 1), s.2 ++ [b]) else s
noncomputable def visit (x : DLand) (s : List Int × List Int) (a : Int) : List Int × List Int := (x.near a).foldl (relax a) s
noncomputable def bfs (x : DLand) : Nat -> List Int × List Int -> Nat -> List Int
 | 0, s, _ => s.1
 | n + 1, s, k => if k < s.2.length then bfs x n (visit x s (s.2.getD k 0)) (k + 1) else s.1
noncomputable def seed (x : DLand) (s : List Int × List Int) (c : Int) : List Int × List Int :=
 if x.Open c /\ dist s.1 c < 0 then (s.1.set c.toNat 0, s.2 ++ [c]) else s
noncomputable def seeds (x : DLand) (l : List Int) : List Int × List Int := l.foldl (seed x) (List.replicate x.cells.length (-1), [])
noncomputable def stepsZ (x : DLand) (l : List Int) : List Int := bfs x 65 (seeds x l) 0
structure Bfs (x : DLand) (s : List Int × List Int) (k : Int) : Prop where
 len : s.1.length = x.cells.length
 op : ∀ b ∈ s.2, x.Open b /\ 0 <= dist s.1 b
 cnt : s.2.length + s.1.countP (· < 0) = s.1.length
 bnd : ∀ c ∈ s.1, -1 <= c /\ c <= k
theorem Bfs.mono {x : DLand} {s : List Int × List Int} {k k' : Int} (h : Bfs x s k) (hk : k <= k') : Bfs x s k' :=
 ⟨h.len, h.op, h.cnt, fun c hc => by have := h.bnd c hc; omega⟩
theorem Bfs.queue {x : DLand} {s : List Int × List Int} {k : Int} (h : Bfs x s k) : s.2.length <= x.cells.length := by
 have := h.cnt; have := h.len; omega
theorem Bfs.dist {x : DLand} {s : List Int × List Int} {k : Int} (h : Bfs x s k) (b : Int) (hk : 0 <= k) : -1 <= dist s.1 b /\ Abs.dist s.1 b <= k := by
 unfold Abs.dist
 rw [List.getD_eq_getElem?_getD]
 cases e : s.1[b.toNat]? with
 | none => simp; omega
 | some c => exact h.bnd c (List.mem_of_getElem? e)
theorem Bfs.put {x : DLand} {s : List Int × List Int} {k v b : Int} (h : Bfs x s k) (hb : x.Open b) (hd : Abs.dist s.1 b < 0) (hv : 0 <= v /\ v <= k) : Bfs x (s.1.set b.toNat v, s.2 ++ [b]) k := by
 have hl : b.toNat < s.1.length := by rw [h.len]; have := hb.1.2; omega
 have hg : s.1[b.toNat]? = some s.1[b.toNat] := List.getElem?_eq_getElem hl
 rw [dist_get hg] at hd
 refine ⟨by simp [h.len], fun c hc => ?_, ?_, fun c hc => ?_⟩
 ·have hset : ∀ c : Int, 0 <= Abs.dist s.1 c -> 0 <= Abs.dist (s.1.set b.toNat v) c := by
   intro c hc
   unfold Abs.dist at hc ⊢
   simp only [List.getD_eq_getElem?_getD, List.getElem?_set] at hc ⊢
   split
   ·exact hv.1
   ·exact hc
  rcases List.mem_append.1 hc with hc | hc
  ·exact ⟨(h.op c hc).1, hset c (h.op c hc).2⟩
  ·simp only [List.mem_singleton] at hc
   subst hc
   refine ⟨hb, ?_⟩
   unfold Abs.dist
   simp only [List.getD_eq_getElem?_getD, List.getElem?_set, if_true, hl]
   exact hv.1
 ·have := h.cnt
  have hp : 0 < s.1.countP (· < 0) := List.countP_pos_iff.2 ⟨_, List.getElem_mem hl, by simpa using hd⟩
  have : ¬ v < 0 := by omega
  simp only [List.countP_set hl, List.length_append, List.length_set, List.length_cons, List.length_nil, hd, decide_true, if_true, decide_eq_true_eq, if_neg this]
  omega
 ·rcases List.mem_or_eq_of_mem_set hc with hc | rfl
  ·exact h.bnd c hc
  ·omega
theorem Bfs.relax {x : DLand} {s : List Int × List Int} {k a b : Int} (h : Bfs x s (k + 1)) (hk : 0 <= k) (hb : x.Open b) (ha : 0 <= Abs.dist s.1 a /\ Abs.dist s.1 a <= k) : Bfs x (Abs.relax a s b) (k + 1) := by
 unfold Abs.relax
 split
 ·rename_i hd
  exact h.put hb hd (by omega)
 ·exact h
theorem relax_dist {x : DLand} {s : List Int × List Int} {a b : Int} (ha : 0 <= dist s.1 a) : dist (relax a s b).1 a = dist s.1 a := by
 unfold relax
 split
 ·rename_i hd
  by_cases e : a.toNat = b.toNat
  ·unfold dist at ha hd; rw [e] at ha; omega
  ·unfold dist
   simp only [List.getD_eq_getElem?_getD, List.getElem?_set]
   rw [if_neg (fun h => e h.symm)]
 ·rfl
theorem Bfs.seed {x : DLand} {s : List Int × List Int} {c : Int} (h : Bfs x s 0) : Bfs x (Abs.seed x s c) 0 := by
 unfold Abs.seed
 split
 ·rename_i hc
  exact h.put hc.1 hc.2 (by omega)
 ·exact h
theorem Bfs.start (x : DLand) : Bfs x (List.replicate x.cells.length (-1), []) 0 :=
 ⟨by simp, fun b hb => (by cases hb), by simp [List.countP_replicate], fun c hc => by have := List.eq_of_mem_replicate hc; omega⟩
theorem Bfs.seeds {x : DLand} (l : List Int) : Bfs x (Abs.seeds x l) 0 := by
 unfold Abs.seeds
 have : ∀ (l : List Int) s, Bfs x s 0 -> Bfs x (l.foldl (Abs.seed x) s) 0 := by
  intro l
  induction l with
  | nil => intro s h; exact h
  | cons c l ih => intro s h; exact ih _ h.seed
 exact this l _ (Bfs.start x)
theorem Bfs.visitTo {x : DLand} {s : List Int × List Int} {k a : Int} (hk : 0 <= k) (h : Bfs x s k) (ha : x.Open a /\ 0 <= Abs.dist s.1 a) (j : Nat) :
  Bfs x (((x.near a).take j).foldl (Abs.relax a) s) (k + 1) /\ Abs.dist (((x.near a).take j).foldl (Abs.relax a) s).1 a = Abs.dist s.1 a := by
 induction j with
 | zero => exact ⟨h.mono (by omega), rfl⟩
 | succ j ih =>
  rw [List.take_add_one]
  cases e : (x.near a)[j]? with
  | none => simpa using ih
  | some b =>
   simp only [Option.toList_some, List.foldl_append, List.foldl_cons, List.foldl_nil]
   have hd := h.dist a hk
   exact ⟨ih.1.relax hk (DLand.near_open ha.1.1 (List.mem_of_getElem? e)) (by rw [ih.2]; exact ⟨ha.2, hd.2⟩), by rw [relax_dist (x := x) (by rw [ih.2]; exact ha.2), ih.2]⟩
theorem visit_take {x : DLand} {s : List Int × List Int} {a : Int} {j : Nat} (h : ¬ (j : Int) < (x.near a).length) : ((x.near a).take j).foldl (relax a) s = visit x s a := by
 rw [List.take_of_length_le (by omega)]; rfl
theorem Bfs.visit {x : DLand} {s : List Int × List Int} {k a : Int} (hk : 0 <= k) (h : Bfs x s k) (ha : x.Open a /\ 0 <= Abs.dist s.1 a) : Bfs x (Abs.visit x s a) (k + 1) := by
 have := (Bfs.visitTo hk h ha (x.near a).length).1
 rwa [List.take_length] at this
theorem near_step {x : DLand} {s : List Int × List Int} {a b : Int} {j : Nat} (h : (x.near a)[j]? = some b) : ((x.near a).take (j + 1)).foldl (relax a) s = relax a (((x.near a).take j).foldl (relax a) s) b := by
 rw [List.take_add_one, h]
 simp only [Option.toList_some, List.foldl_append, List.foldl_cons, List.foldl_nil]
theorem bfs_step {x : DLand} {n k : Nat} {s : List Int × List Int} {a : Int} (h : s.2[k]? = some a) : bfs x (n + 1) s k = bfs x n (visit x s a) (k + 1) := by
 have hl := (List.getElem?_eq_some_iff.1 h).1
 rw [bfs, if_pos hl, List.getD_eq_getElem?_getD, h]; rfl
theorem bfs_end {x : DLand} {n k : Nat} {s : List Int × List Int} (h : s.2.length <= k) : bfs x n s k = s.1 := by
 cases n with
 | zero => rfl
 | succ n => rw [bfs, if_neg (by omega)]
theorem Bfs.steps {x : DLand} : ∀ (n k : Nat) (s : List Int × List Int), Bfs x s k -> k + n <= 65 -> (bfs x n s k).length = x.cells.length /\ ∀ c ∈ bfs x n s k, -1 <= c /\ c <= 65 := by
 intro n
 induction n with
 | zero => intro k s h hk; exact ⟨h.len, fun c hc => by have := h.bnd c hc; omega⟩
 | succ n ih =>
  intro k s h hk
  cases e : s.2[k]? with
  | none =>
   rw [bfs_end (by simpa using e)]
   exact ⟨h.len, fun c hc => by have := h.bnd c hc; omega⟩
  | some a =>
   rw [bfs_step e]
   exact ih (k + 1) _ (h.visit (by omega) (h.op a (List.mem_of_getElem? e))) (by omega)
theorem stepsZ_len (x : DLand) (l : List Int) : (stepsZ x l).length = x.cells.length := (Bfs.steps 65 0 _ (Bfs.seeds l) (by omega)).1
theorem stepsZ_bnd (x : DLand) (l : List Int) : ∀ c ∈ stepsZ x l, -1 <= c /\ c <= 65 := (Bfs.steps 65 0 _ (Bfs.seeds l) (by omega)).2
noncomputable def daysZ (x : DLand) (a b : Int) : Int := if x.Open a /\ x.Open b then dist (stepsZ x [a]) b else -1
theorem seeds_one {x : DLand} {a : Int} (h : x.Open a) : seeds x [a] = ((List.replicate x.cells.length (-1)).set a.toNat 0, [a]) := by
 have : a.toNat < x.cells.length := by have := h.1.2; omega
 have hd : dist (List.replicate x.cells.length (-1)) a < 0 := by
  unfold dist
  rw [List.getD_eq_getElem?_getD, List.getElem?_replicate, if_pos this]
  decide
 simp only [seeds, List.foldl_cons, List.foldl_nil, seed]
 rw [if_pos ⟨h, hd⟩]; rfl
end Go.Abs
