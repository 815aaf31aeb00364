/- What the walk in breadth finds: from every reached cell a next cell is one step nearer. -/
import Derived.Test.YthobmgkagcampaaGreatDoorAWay
namespace Go.Abs
open Go.RowKit Go.Proofs
set_option linter.all false
set_option maxRecDepth 100000
theorem mem_opt {p : Prop} [Decidable p] {x y : Int} : y ∈ opt p x ↔ p /\ y = x := by
 unfold opt; split
 ·rename_i h; simp [h]
 ·rename_i h; simp [h]
theorem mem_near {x : DLand} {n m : Int} : m ∈ x.near n ↔ ((0 <= n - x.w /\ x.at (n - x.w) ≠ 2) /\ m = n - x.w) \/ ((0 < n % x.w /\ x.at (n - 1) ≠ 2) /\ m = n - 1) \/ ((n % x.w < x.w - 1 /\ x.at (n + 1) ≠ 2) /\ m = n + 1) \/ ((n + x.w < x.cells.length /\ x.at (n + x.w) ≠ 2) /\ m = n + x.w) := by
 unfold DLand.near
 simp only [List.mem_append, mem_opt]
 constructor
 ·rintro (((h | h) | h) | h)
  ·exact .inl h
  ·exact .inr (.inl h)
  ·exact .inr (.inr (.inl h))
  ·exact .inr (.inr (.inr h))
 ·rintro (h | h | h | h)
  ·exact .inl (.inl (.inl h))
  ·exact .inl (.inl (.inr h))
  ·exact .inl (.inr h)
  ·exact .inr h
theorem near_symm {x : DLand} {n m : Int} (hn : x.Open n) (h : m ∈ x.near n) : n ∈ x.near m := by
 obtain ⟨q, r, hq, h1, h2, h3, h4, e1, e2⟩ := DLand.pos hn.1
 obtain ⟨⟨w1, w2⟩, _⟩ := hn.1.1
 rw [mem_near] at h ⊢
 rcases h with ⟨⟨a1, a2⟩, rfl⟩ | ⟨⟨a1, a2⟩, rfl⟩ | ⟨⟨a1, a2⟩, rfl⟩ | ⟨⟨a1, a2⟩, rfl⟩
 ·exact .inr (.inr (.inr ⟨⟨by have := hn.1.2.2; omega, by rw [show n - x.w + x.w = n by omega]; exact hn.2⟩, by omega⟩))
 ·refine .inr (.inr (.inl ⟨⟨?_, by rw [show n - 1 + 1 = n by omega]; exact hn.2⟩, by omega⟩))
  rw [show n - 1 = q * x.w + (r - 1) by omega, (divmod (w := x.w) (q := q) (r := r - 1) (by omega) (by omega)).1]; omega
 ·refine .inr (.inl ⟨⟨?_, by rw [show n + 1 - 1 = n by omega]; exact hn.2⟩, by omega⟩)
  rw [show n + 1 = q * x.w + (r + 1) by omega, (divmod (w := x.w) (q := q) (r := r + 1) (by omega) (by omega)).1]; omega
 ·exact .inl ⟨⟨by have := hn.1.2.1; omega, by rw [show n + x.w - x.w = n by omega]; exact hn.2⟩, by omega⟩
theorem dist_set {d : List Int} {b c v : Int} (hb : b.toNat < d.length) : dist (d.set b.toNat v) c = if c.toNat = b.toNat then v else dist d c := by
 unfold dist
 simp only [List.getD_eq_getElem?_getD, List.getElem?_set]
 by_cases h : c.toNat = b.toNat
 ·rw [if_pos h.symm, if_pos h, if_pos hb]; rfl
 ·rw [if_neg (fun e => h e.symm), if_neg h]
structure Wide (x : DLand) (s : List Int × List Int) (k : Nat) (a : Int) (l : List Int) : Prop where
 mono : ∀ (i j : Nat) (b c : Int), i <= j -> s.2[i]? = some b -> s.2[j]? = some c -> dist s.1 b <= dist s.1 c
 lim : ∀ c ∈ s.2, dist s.1 c <= dist s.1 a + 1
 par : ∀ c ∈ s.2, 0 < dist s.1 c -> ∃ e ∈ s.2, c ∈ x.near e /\ dist s.1 c = dist s.1 e + 1
 zin : ∀ c, x.Cell c -> 0 <= dist s.1 c -> c ∈ s.2
 zero : ∀ c ∈ s.2, dist s.1 c = 0 -> c ∈ l
 clo : ∀ (i : Nat) (e : Int), i < k -> s.2[i]? = some e -> ∀ c ∈ x.near e, 0 <= dist s.1 c /\ dist s.1 c <= dist s.1 e + 1
theorem Wide.relax {x : DLand} {s : List Int × List Int} {k : Nat} {a b : Int} {l : List Int} {K : Int} (h : Wide x s k a l) (hB : Bfs x s K) (ha : a ∈ s.2) (hb : b ∈ x.near a) (hk : k <= s.2.length) : Wide x (relax a s b) k a l := by
 have hao := hB.op a ha
 have hbo := DLand.near_open hao.1.1 hb
 unfold Abs.relax
 split
 ·rename_i hd
  have hl : b.toNat < s.1.length := by rw [hB.len]; have := hbo.1.2; omega
  have hset : ∀ c, dist (s.1.set b.toNat (dist s.1 a + 1)) c = if c.toNat = b.toNat then dist s.1 a + 1 else dist s.1 c := fun c => dist_set hl
  have hne : ∀ c, 0 <= dist s.1 c -> c.toNat ≠ b.toNat := by
   intro c hc e
   unfold dist at hc hd
   rw [e] at hc; omega
  have old : ∀ c, 0 <= dist s.1 c -> dist (s.1.set b.toNat (dist s.1 a + 1)) c = dist s.1 c := fun c hc => by rw [hset, if_neg (hne c hc)]
  have new : dist (s.1.set b.toNat (dist s.1 a + 1)) b = dist s.1 a + 1 := by rw [hset, if_pos rfl]
  have oq : ∀ c ∈ s.2, dist (s.1.set b.toNat (dist s.1 a + 1)) c = dist s.1 c := fun c hc => old c (hB.op c hc).2
  refine ⟨?_, ?_, ?_, ?_, ?_, ?_⟩
  ·intro i j u v hij hu hv
   have lt : ∀ {i : Nat} {u : Int}, (s.2 ++ [b])[i]? = some u -> (s.2[i]? = some u) \/ (i = s.2.length /\ u = b) := by
    intro i u hu
    by_cases hi : i < s.2.length
    ·rw [List.getElem?_append_left hi] at hu; exact .inl hu
    ·rw [List.getElem?_append_right (by omega)] at hu
     have : i - s.2.length = 0 := by
      have := (List.getElem?_eq_some_iff.1 hu).1
      simp at this; omega
     rw [this] at hu
     simp at hu
     exact .inr ⟨by omega, hu.symm⟩
   simp only at hu hv ⊢
   rcases lt hu with hu1 | ⟨hu1, eu⟩
   ·rw [oq u (List.mem_of_getElem? hu1)]
    rcases lt hv with hv1 | ⟨hv1, ev⟩
    ·rw [oq v (List.mem_of_getElem? hv1)]; exact h.mono i j u v hij hu1 hv1
    ·rw [ev, new]; exact h.lim u (List.mem_of_getElem? hu1)
   ·rcases lt hv with hv1 | ⟨hv1, ev⟩
    ·have := (List.getElem?_eq_some_iff.1 hv1).1; omega
    ·rw [eu, ev]; exact Int.le_refl _
  ·intro c hc
   simp only at hc ⊢
   rw [oq a ha]
   rcases List.mem_append.1 hc with hc | hc
   ·rw [oq c hc]; exact h.lim c hc
   ·simp only [List.mem_singleton] at hc; subst hc; rw [new]; omega
  ·intro c hc hp
   simp only at hc hp ⊢
   rcases List.mem_append.1 hc with hc | hc
   ·rw [oq c hc] at hp ⊢
    obtain ⟨e, he, h1, h2⟩ := h.par c hc hp
    exact ⟨e, List.mem_append.2 (.inl he), h1, by rw [oq e he]; exact h2⟩
   ·simp only [List.mem_singleton] at hc; subst hc
    exact ⟨a, List.mem_append.2 (.inl ha), hb, by rw [new, oq a ha]⟩
  ·intro c hc h0
   simp only at h0 ⊢
   rw [hset] at h0
   split at h0
   ·rename_i e
    have : c = b := by have := hc.2.1; have := hbo.1.2.1; omega
    subst this
    exact List.mem_append.2 (.inr (by simp))
   ·exact List.mem_append.2 (.inl (h.zin c hc h0))
  ·intro c hc h0
   simp only at hc h0
   rcases List.mem_append.1 hc with hc | hc
   ·rw [oq c hc] at h0; exact h.zero c hc h0
   ·simp only [List.mem_singleton] at hc; subst hc; rw [new] at h0; have := hao.2; omega
  ·intro i e hi he c hc
   simp only at he ⊢
   have hke : s.2[i]? = some e := by
    by_cases hi2 : i < s.2.length
    ·rwa [List.getElem?_append_left hi2] at he
    ·rw [List.getElem?_append_right (by omega)] at he
     have hz : i - s.2.length = 0 := by
      have := (List.getElem?_eq_some_iff.1 he).1
      simp at this; omega
     rw [hz] at he
     simp at he
     subst he
     exfalso
     exact absurd hi (by omega)
   have := h.clo i e hi hke c hc
   rw [oq e (List.mem_of_getElem? hke), old c this.1]; exact this
 ·exact h
theorem relax_grow {a b : Int} {s : List Int × List Int} : s.2.length <= (relax a s b).2.length := by
 unfold relax; split <;> simp
theorem relax_mem {a b c : Int} {s : List Int × List Int} (h : c ∈ s.2) : c ∈ (relax a s b).2 := by
 unfold relax; split
 ·exact List.mem_append.2 (.inl h)
 ·exact h
theorem Wide.fold {x : DLand} {k : Nat} {a : Int} {l : List Int} (K : Int) (hK : 0 <= K) : ∀ (L : List Int) (s : List Int × List Int), (∀ b ∈ L, b ∈ x.near a) -> Wide x s k a l -> Bfs x s (K + 1) -> a ∈ s.2 -> dist s.1 a <= K -> k <= s.2.length ->
  Wide x (L.foldl (Abs.relax a) s) k a l /\ Bfs x (L.foldl (Abs.relax a) s) (K + 1) /\ a ∈ (L.foldl (Abs.relax a) s).2 /\ (∀ c, 0 <= dist s.1 c -> dist (L.foldl (Abs.relax a) s).1 c = dist s.1 c) /\ ∀ b ∈ L, 0 <= dist (L.foldl (Abs.relax a) s).1 b := by
 intro L
 induction L with
 | nil => intro s _ h hB ha _ _; exact ⟨h, hB, ha, fun c h => rfl, fun b hb => by cases hb⟩
 | cons b L ih =>
  intro s hL h hB ha hd hk
  have hao := hB.op a ha
  have hbn := hL b (List.mem_cons_self ..)
  have hbo := DLand.near_open hao.1.1 hbn
  have hl : b.toNat < s.1.length := by rw [hB.len]; have := hbo.1.2; omega
  have hpos : 0 <= dist (Abs.relax a s b).1 b /\ ∀ c, 0 <= dist s.1 c -> dist (Abs.relax a s b).1 c = dist s.1 c := by
   unfold Abs.relax
   split
   ·rename_i hbd
    refine ⟨by rw [dist_set hl, if_pos rfl]; omega, fun c hc => ?_⟩
    rw [dist_set hl, if_neg]
    intro e
    unfold dist at hc hbd
    rw [e] at hc; omega
   ·exact ⟨by omega, fun c hc => rfl⟩
  have hd2 : dist (Abs.relax a s b).1 a = dist s.1 a := relax_dist (x := x) hao.2
  obtain ⟨r1, r2, r3, r4, r5⟩ := ih (Abs.relax a s b) (fun c hc => hL c (List.mem_cons_of_mem _ hc)) (h.relax hB ha hbn hk) (hB.relax hK hbo ⟨hao.2, hd⟩) (relax_mem ha) (by omega) (Nat.le_trans hk relax_grow)
  refine ⟨r1, r2, r3, fun c hc => by rw [List.foldl_cons, r4 c (by rw [hpos.2 c hc]; exact hc), hpos.2 c hc], fun c hc => ?_⟩
  rcases List.mem_cons.1 hc with rfl | hc
  ·rw [List.foldl_cons, r4 _ hpos.1]; exact hpos.1
  ·exact r5 c hc
structure Far (x : DLand) (s : List Int × List Int) (k : Nat) (l : List Int) : Prop where
 mono : ∀ (i j : Nat) (b c : Int), i <= j -> s.2[i]? = some b -> s.2[j]? = some c -> dist s.1 b <= dist s.1 c
 lim : ∀ e, s.2[k]? = some e -> ∀ c ∈ s.2, dist s.1 c <= dist s.1 e + 1
 par : ∀ c ∈ s.2, 0 < dist s.1 c -> ∃ e ∈ s.2, c ∈ x.near e /\ dist s.1 c = dist s.1 e + 1
 zin : ∀ c, x.Cell c -> 0 <= dist s.1 c -> c ∈ s.2
 zero : ∀ c ∈ s.2, dist s.1 c = 0 -> c ∈ l
 clo : ∀ (i : Nat) (e : Int), i < k -> s.2[i]? = some e -> ∀ c ∈ x.near e, 0 <= dist s.1 c /\ dist s.1 c <= dist s.1 e + 1
theorem Far.visit {x : DLand} {s : List Int × List Int} {k : Nat} {a : Int} {l : List Int} (h : Far x s k l) (hB : Bfs x s k) (ha : s.2[k]? = some a) : Far x (Abs.visit x s a) (k + 1) l /\ ∀ c, 0 <= dist s.1 c -> dist (Abs.visit x s a).1 c = dist s.1 c := by
 have ham := List.mem_of_getElem? ha
 have hk := (List.getElem?_eq_some_iff.1 ha).1
 have hd := hB.dist a (by omega)
 obtain ⟨r1, r2, r3, r4, r5⟩ := Wide.fold (x := x) (k := k) (a := a) (l := l) k (by omega) (x.near a) s (fun b hb => hb) ⟨h.mono, h.lim a ha, h.par, h.zin, h.zero, h.clo⟩ (hB.mono (by omega)) ham hd.2 (by omega)
 have hkq : (Abs.visit x s a).2[k]? = some a := fold_q ha
 refine ⟨⟨r1.mono, fun e he c hc => ?_, r1.par, r1.zin, r1.zero, fun i e hi he c hc => ?_⟩, r4⟩
 ·have h1 : dist (Abs.visit x s a).1 c <= dist (Abs.visit x s a).1 a + 1 := r1.lim c hc
  have h2 : dist (Abs.visit x s a).1 a <= dist (Abs.visit x s a).1 e := r1.mono k (k + 1) a e (by omega) hkq he
  omega
 ·by_cases hik : i = k
  ·subst hik
   have : e = a := by rw [hkq] at he; exact (Option.some.inj he).symm
   subst this
   have hc0 := r5 c hc
   exact ⟨hc0, r1.lim c (r1.zin c (DLand.near_open (hB.op e ham).1.1 hc).1 hc0)⟩
  ·exact r1.clo i e (by omega) he c hc
theorem Far.steps {x : DLand} {l : List Int} : ∀ (n k : Nat) (s : List Int × List Int), Far x s k l -> Bfs x s k -> 65 <= k + n -> x.cells.length <= 64 ->
  ∃ s' k', Far x s' k' l /\ Bfs x s' k' /\ s'.2.length <= k' /\ bfs x n s k = s'.1 /\ ∀ c, 0 <= dist s.1 c -> dist s'.1 c = dist s.1 c := by
 intro n
 induction n with
 | zero => intro k s h hB hk hx; exact ⟨s, k, h, hB, by have := hB.queue; omega, rfl, fun _ _ => rfl⟩
 | succ n ih =>
  intro k s h hB hk hx
  cases e : s.2[k]? with
  | none => exact ⟨s, k, h, hB, by simpa using e, bfs_end (by simpa using e), fun _ _ => rfl⟩
  | some a =>
   rw [bfs_step e]
   obtain ⟨h1, h2⟩ := h.visit hB e
   obtain ⟨s', k', q1, q2, q3, q4, q5⟩ := ih (k + 1) _ h1 (hB.visit (by omega) (hB.op a (List.mem_of_getElem? e))) (by omega) hx
   exact ⟨s', k', q1, q2, q3, q4, fun c hc => by rw [q5 c (by rw [h2 c hc]; exact hc), h2 c hc]⟩
theorem stepsZ_one {x : DLand} {b : Int} (hb : x.Open b) : (∀ c, x.Open c -> 0 <= dist (stepsZ x [b]) c -> (∀ e ∈ x.near c, 0 <= dist (stepsZ x [b]) e /\ dist (stepsZ x [b]) e <= dist (stepsZ x [b]) c + 1) /\
  (0 < dist (stepsZ x [b]) c -> ∃ e ∈ x.near c, dist (stepsZ x [b]) c = dist (stepsZ x [b]) e + 1) /\ (dist (stepsZ x [b]) c = 0 -> c = b)) /\ dist (stepsZ x [b]) b = 0 := by
 have hs := seeds_one hb
 have hl : b.toNat < (List.replicate x.cells.length (-1 : Int)).length := by rw [List.length_replicate]; have := hb.1.2; omega
 have hd : ∀ c, dist ((List.replicate x.cells.length (-1)).set b.toNat 0) c = if c.toNat = b.toNat then 0 else dist (List.replicate x.cells.length (-1)) c := fun c => dist_set hl
 have hneg : ∀ c, x.Cell c -> dist (List.replicate x.cells.length (-1)) c < 0 := by
  intro c hc
  unfold dist
  rw [List.getD_eq_getElem?_getD, List.getElem?_replicate, if_pos (by have := hc.2; omega)]
  decide
 have h0 : Far x (seeds x [b]) 0 [b] := by
  rw [hs]
  refine ⟨?_, ?_, ?_, ?_, ?_, ?_⟩
  ·intro i j u v _ hu hv
   have e1 := List.mem_of_getElem? hu
   have e2 := List.mem_of_getElem? hv
   simp only [List.mem_singleton] at e1 e2
   subst e1; subst e2; exact Int.le_refl _
  ·intro e he c hc
   have e1 := List.mem_of_getElem? he
   simp only [List.mem_singleton] at e1 hc
   subst e1; subst hc; omega
  ·intro c hc hp
   simp only [List.mem_singleton] at hc
   subst hc
   simp only [hd, if_true] at hp; omega
  ·intro c hc hp
   simp only [hd] at hp
   split at hp
   ·rename_i e
    have : c = b := by have := hc.2.1; have := hb.1.2.1; omega
    simp [this]
   ·have := hneg c hc; omega
  ·intro c hc _; exact hc
  ·intro i e hi; omega
 obtain ⟨s', k', hF, hB, hq, he, hst⟩ := Far.steps 65 0 _ h0 (Bfs.seeds _) (by omega) hb.1.1.len.2
 have es : stepsZ x [b] = s'.1 := he
 rw [es]
 refine ⟨fun c hc hp => ?_, ?_⟩
 ·have hm := hF.zin c hc.1 hp
  refine ⟨fun e hen => ?_, fun hp => ?_, fun h0 => by have := hF.zero c hm h0; simpa using this⟩
  ·obtain ⟨i, hi⟩ := List.getElem?_of_mem hm
   have := (List.getElem?_eq_some_iff.1 hi).1
   exact hF.clo i c (by omega) hi e hen
  ·obtain ⟨e, he, h1, h2⟩ := hF.par c hm hp
   exact ⟨e, near_symm (hB.op e he).1 h1, h2⟩
 ·have : dist (seeds x [b]).1 b = 0 := by rw [hs]; simp only; rw [hd, if_pos rfl]
  rw [hst b (by omega), this]
end Go.Abs
