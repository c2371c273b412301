/- Plain: the sorted lists of lines. -/
import Derived.Test.YtddcdopimpfhcaaCf
namespace Go.Proofs.Ytddcdopimpfhcaa

def Srt (l : List (Int × Int)) : Prop := l.Pairwise fun x y => orderI x ≤ orderI y
theorem getD_app_right {pre post : List (Int × Int)} (j : Nat) : (pre ++ post).getD (pre.length + j) (0, 0) = post.getD j (0, 0) := by
  rw [List.getD_eq_getElem?_getD, List.getElem?_append_right (by omega), List.getD_eq_getElem?_getD]
  congr 2
  omega
theorem swap_app (pre : List (Int × Int)) (y x : Int × Int) (post : List (Int × Int)) : swapAt (pre ++ y :: x :: post) (pre.length + 1) = pre ++ x :: y :: post := by
  unfold swapAt
  have h1 : (pre ++ y :: x :: post).getD (pre.length + 1) (0, 0) = x := getD_app_right 1
  have h2 : (pre ++ y :: x :: post).getD (pre.length + 1 - 1) (0, 0) = y := by
    rw [Nat.add_sub_cancel]
    have := getD_app_right (pre := pre) (post := y :: x :: post) 0
    rw [Nat.add_zero] at this
    exact this
  rw [h1, h2, Nat.add_sub_cancel]
  simp
theorem ins_form : ∀ (k : Nat) (pre : List (Int × Int)) (x : Int × Int) (post : List (Int × Int)), pre.length = k → Srt pre →
    ∃ a b, pre = a ++ b ∧ insTo k (pre ++ x :: post) = a ++ x :: (b ++ post) ∧ (∀ y, y ∈ b → orderI x < orderI y) ∧ (∀ y, y ∈ a → orderI y ≤ orderI x)
  | 0, pre, x, post, h, _ => by
    obtain rfl : pre = [] := List.length_eq_zero_iff.1 h
    exact ⟨[], [], rfl, rfl, by simp, by simp⟩
  | k + 1, pre, x, post, h, hs => by
    have hne : pre ≠ [] := by rintro rfl; simp at h
    obtain ⟨q, y, rfl⟩ : ∃ q y, pre = q ++ [y] := ⟨pre.dropLast, pre.getLast hne, (List.dropLast_concat_getLast hne).symm⟩
    have hq : q.length = k := by simpa using h
    have hqs : Srt q := (List.pairwise_append.1 hs).1
    have hqy : ∀ z, z ∈ q → orderI z ≤ orderI y := fun z hz => (List.pairwise_append.1 hs).2.2 z hz y (by simp)
    rw [insTo]
    have e0 : q ++ [y] ++ x :: post = q ++ y :: x :: post := by simp
    rw [e0]
    have g1 : (q ++ y :: x :: post).getD (k + 1) (0, 0) = x := by rw [← hq]; exact getD_app_right 1
    have g2 : (q ++ y :: x :: post).getD k (0, 0) = y := by
      have := getD_app_right (pre := q) (post := y :: x :: post) 0
      rw [Nat.add_zero, hq] at this
      exact this
    rw [g1, g2]
    by_cases hlt : orderI x < orderI y
    · rw [if_pos hlt, ← hq, swap_app, hq]
      obtain ⟨a, b, e1, e2, h3, h4⟩ := ins_form k q x (y :: post) hq hqs
      refine ⟨a, b ++ [y], by rw [e1]; simp, by rw [e2]; simp, fun z hz => ?_, h4⟩
      rcases List.mem_append.1 hz with hz | hz
      · exact h3 z hz
      · rw [List.mem_singleton] at hz; subst hz; exact hlt
    · rw [if_neg hlt]
      refine ⟨q ++ [y], [], by simp, by simp, by simp, fun z hz => ?_⟩
      rcases List.mem_append.1 hz with hz | hz
      · have := hqy z hz; omega
      · rw [List.mem_singleton] at hz; subst hz; omega
theorem sort_form (xs : List (Int × Int)) : ∀ k, k ≤ xs.length → ∃ s, sortTo xs k = s ++ xs.drop k ∧ Srt s ∧ s.Perm (xs.take k)
  | 0, _ => ⟨[], by simp [sortTo], List.Pairwise.nil, by simp⟩
  | k + 1, hk => by
    obtain ⟨s, h1, h2, h3⟩ := sort_form xs k (by omega)
    have hl : s.length = k := by rw [h3.length_eq, List.length_take]; omega
    have hd : xs.drop k = xs[k] :: xs.drop (k + 1) := List.drop_eq_getElem_cons (by omega)
    obtain ⟨a, b, e1, e2, h4, h5⟩ := ins_form k s xs[k] (xs.drop (k + 1)) hl h2
    refine ⟨a ++ xs[k] :: b, ?_, ?_, ?_⟩
    · rw [sortTo, h1, hd, e2]; simp
    · rw [e1] at h2
      have hp := List.pairwise_append.1 h2
      refine List.pairwise_append.2 ⟨hp.1, List.pairwise_cons.2 ⟨fun y hy => Int.le_of_lt (h4 y hy), hp.2.1⟩, fun y hy z hz => ?_⟩
      rcases List.mem_cons.1 hz with rfl | hz
      · exact h5 y hy
      · exact hp.2.2 y hy z hz
    · rw [List.take_succ_eq_append_getElem (by omega)]
      have h6 : (a ++ xs[k] :: b).Perm (xs[k] :: (a ++ b)) := List.perm_middle
      rw [← e1] at h6
      refine h6.trans ?_
      exact (List.Perm.cons _ h3).trans (List.perm_append_singleton _ _).symm
theorem sortL_perm (xs : List (Int × Int)) : (sortL xs).Perm xs := by
  obtain ⟨s, h1, _, h3⟩ := sort_form xs xs.length (Nat.le_refl _)
  rw [List.drop_length, List.append_nil] at h1
  rw [List.take_length] at h3
  unfold sortL
  rw [h1]
  exact h3
theorem sortL_srt (xs : List (Int × Int)) : Srt (sortL xs) := by
  obtain ⟨s, h1, h2, _⟩ := sort_form xs xs.length (Nat.le_refl _)
  rw [List.drop_length, List.append_nil] at h1
  unfold sortL
  rw [h1]
  exact h2
theorem order_inj {x y : Int × Int} (hx : inR x) (hy : inR y) (h : orderI x = orderI y) : x = y := by
  unfold inR at hx hy
  unfold orderI at h
  exact Prod.ext (by omega) (by omega)
/-- Sorted lists of the same lines are the same. -/
theorem srt_eq {xs ys : List (Int × Int)} (hx : Srt xs) (hy : Srt ys) (hp : xs.Perm ys) (hR : ∀ x, x ∈ xs → inR x) : xs = ys := by
  induction xs generalizing ys with
  | nil => exact (List.nil_perm.1 hp).symm
  | cons x xs ih =>
    cases ys with
    | nil => exact absurd (hp.length_eq) (by simp)
    | cons y ys =>
      have hxm : x ∈ y :: ys := hp.mem_iff.1 (by simp)
      have hym : y ∈ x :: xs := hp.mem_iff.2 (by simp)
      have h1 : orderI x ≤ orderI y := by
        rcases List.mem_cons.1 hym with e | e
        · rw [e]; exact Int.le_refl _
        · exact (List.pairwise_cons.1 hx).1 y e
      have h2 : orderI y ≤ orderI x := by
        rcases List.mem_cons.1 hxm with e | e
        · rw [e]; exact Int.le_refl _
        · exact (List.pairwise_cons.1 hy).1 x e
      have hyR : inR y := by
        rcases List.mem_cons.1 hym with e | e
        · rw [e]; exact hR x (by simp)
        · exact hR y (List.mem_cons_of_mem _ e)
      obtain rfl : x = y := order_inj (hR x (by simp)) hyR (by omega)
      rw [ih (List.pairwise_cons.1 hx).2 (List.pairwise_cons.1 hy).2 ((List.perm_cons x).1 hp) (fun z hz => hR z (List.mem_cons_of_mem _ hz))]
theorem bef_order {x y : Int × Int} (hx : inR x) (hy : inR y) : beforeB x y = true ↔ orderI x < orderI y := by
  unfold beforeB orderI
  unfold inR at hx hy
  rw [decide_eq_true_iff]
  omega
theorem rank_form (x : Int × Int) (hxR : inR x) : ∀ (l : List (Int × Int)), Srt l → (∀ y, y ∈ l → inR y) → (∀ y, y ∈ l.take (rankP x l) → orderI y ≤ orderI x) ∧ (∀ y, y ∈ l.drop (rankP x l) → orderI x ≤ orderI y)
  | [], _, _ => by simp
  | y :: l, hs, hR => by
    have hyR := hR y (by simp)
    have hl := List.pairwise_cons.1 hs
    rw [rankP]
    by_cases h : beforeB y x = true
    · rw [if_pos h]
      have ih := rank_form x hxR l hl.2 (fun z hz => hR z (List.mem_cons_of_mem _ hz))
      have h1 := (bef_order hyR hxR).1 h
      refine ⟨fun z hz => ?_, fun z hz => ih.2 z (by simpa using hz)⟩
      rw [List.take_succ_cons] at hz
      rcases List.mem_cons.1 hz with e | e
      · rw [e]; omega
      · exact ih.1 z e
    · rw [if_neg h]
      have h1 : ¬ orderI y < orderI x := fun e => h ((bef_order hyR hxR).2 e)
      refine ⟨fun z hz => by simp at hz, fun z hz => ?_⟩
      rw [List.drop_zero] at hz
      rcases List.mem_cons.1 hz with e | e
      · rw [e]; omega
      · have := hl.1 z e; omega
theorem rputL_perm (l : List (Int × Int)) (x : Int × Int) : (rputL l x).Perm (l ++ [x]) := by
  unfold rputL
  rw [List.append_assoc]
  have h1 : (l.take (rankP x l) ++ ([x] ++ l.drop (rankP x l))).Perm (x :: (l.take (rankP x l) ++ l.drop (rankP x l))) := List.perm_middle
  rw [List.take_append_drop] at h1
  exact h1.trans (List.perm_append_singleton _ _).symm
theorem rputL_srt {l : List (Int × Int)} {x : Int × Int} (hs : Srt l) (hR : ∀ y, y ∈ l → inR y) (hx : inR x) : Srt (rputL l x) := by
  obtain ⟨h1, h2⟩ := rank_form x hx l hs hR
  unfold rputL
  rw [List.append_assoc]
  have hs' := hs
  rw [← List.take_append_drop (rankP x l) l] at hs'
  have hp := List.pairwise_append.1 hs'
  refine List.pairwise_append.2 ⟨hp.1, List.pairwise_cons.2 ⟨h2, hp.2.1⟩, fun y hy z hz => ?_⟩
  rcases List.mem_cons.1 hz with e | e
  · rw [e]; exact h1 y hy
  · exact hp.2.2 y hy z e
theorem sort_put {l : List (Int × Int)} {x : Int × Int} (hs : Srt l) (hR : ∀ y, y ∈ l → inR y) (hx : inR x) : sortL (l ++ [x]) = rputL l x := by
  refine srt_eq (sortL_srt _) (rputL_srt hs hR hx) ((sortL_perm _).trans (rputL_perm _ _).symm) (fun y hy => ?_)
  have := (sortL_perm _).mem_iff.1 hy
  rcases List.mem_append.1 this with e | e
  · exact hR y e
  · rw [List.mem_singleton] at e; rw [e]; exact hx
theorem sortL_of_srt {l : List (Int × Int)} (hs : Srt l) (hR : ∀ y, y ∈ l → inR y) : sortL l = l :=
  srt_eq (sortL_srt _) hs (sortL_perm _) (fun y hy => hR y ((sortL_perm _).mem_iff.1 hy))
theorem line_inR {n : Int} {x : Int × Int} (hn : n ≤ 12) (h : lineP n x) : inR x := by
  unfold lineP at h
  unfold inR
  omega
theorem pair_of_idx {α : Type} {R : α → α → Prop} {d : α} {l : List α} (h : ∀ k i, k < i → i < l.length → R (l.getD k d) (l.getD i d)) : l.Pairwise R := by
  rw [List.pairwise_iff_getElem]
  intro i j hi hj hij
  have := h i j hij hj
  rw [List.getD_eq_getElem?_getD, List.getD_eq_getElem?_getD, List.getElem?_eq_getElem hi, List.getElem?_eq_getElem hj] at this
  exact this
theorem idx_of_pair {α : Type} {R : α → α → Prop} {d : α} {l : List α} (h : l.Pairwise R) : ∀ k i, k < i → i < l.length → R (l.getD k d) (l.getD i d) := by
  rw [List.pairwise_iff_getElem] at h
  intro k i hk hi
  rw [List.getD_eq_getElem?_getD, List.getD_eq_getElem?_getD, List.getElem?_eq_getElem (by omega), List.getElem?_eq_getElem hi]
  exact h k i (by omega) hi hk
theorem all_of_idx {α : Type} {P : α → Prop} {d : α} {l : List α} : (∀ i, i < l.length → P (l.getD i d)) ↔ ∀ x, x ∈ l → P x := by
  constructor
  · intro h x hx
    obtain ⟨i, hi, rfl⟩ := List.getElem_of_mem hx
    have := h i hi
    rw [List.getD_eq_getElem?_getD, List.getElem?_eq_getElem hi] at this
    exact this
  · intro h i hi
    rw [List.getD_eq_getElem?_getD, List.getElem?_eq_getElem hi]
    exact h _ (List.getElem_mem hi)
/-- A brand, by its list alone. -/
structure BrandL (n : Int) (l : List (Int × Int)) : Prop where
  size : 3 ≤ n ∧ n ≤ 12 ∧ (l.length : Int) = n - 3
  line : ∀ x, x ∈ l → lineP n x
  nodup : l.Nodup
  srt : Srt l
  crs : ∀ x, x ∈ l → ∀ y, y ∈ l → ¬ crsP x y
theorem crs_self (x : Int × Int) : ¬ crsP x x := by
  unfold crsP
  omega
theorem brandL_iff (n : Int) (l : List (Int × Int)) : BrandP n l ↔ BrandL n l := by
  constructor
  · intro h
    have hl : ∀ x, x ∈ l → lineP n x := all_of_idx.1 h.line
    have hR : ∀ x, x ∈ l → inR x := fun x hx => line_inR h.size.2.1 (hl x hx)
    have hb : l.Pairwise befP := pair_of_idx h.bef
    have hc : l.Pairwise fun x y => ¬ crsP x y := pair_of_idx h.crs
    refine ⟨h.size, hl, hb.imp (fun h => bef_ne h), ?_, ?_⟩
    · refine hb.imp_of_mem (fun {x y} hx hy hxy => ?_)
      have h1 : beforeB x y = true := by rw [beforeB, decide_eq_true_iff]; exact hxy
      exact Int.le_of_lt ((bef_order (hR x hx) (hR y hy)).1 h1)
    · intro x hx y hy
      obtain ⟨i, hi, rfl⟩ := List.getElem_of_mem hx
      obtain ⟨j, hj, rfl⟩ := List.getElem_of_mem hy
      rw [List.pairwise_iff_getElem] at hc
      rcases Nat.lt_trichotomy i j with e | e | e
      · exact hc i j hi hj e
      · subst e; exact crs_self _
      · exact fun h => hc j i hj hi e (crs_comm.1 h)
  · intro h
    have hR : ∀ x, x ∈ l → inR x := fun x hx => line_inR h.size.2.1 (h.line x hx)
    have hb : l.Pairwise befP := by
      have h1 : l.Pairwise fun x y => orderI x ≤ orderI y ∧ x ≠ y := h.srt.and h.nodup
      refine h1.imp_of_mem (fun {x y} hx hy hxy => ?_)
      have h2 : orderI x ≠ orderI y := fun e => hxy.2 (order_inj (hR x hx) (hR y hy) e)
      have h3 := (bef_order (hR x hx) (hR y hy)).2 (by have := hxy.1; omega)
      rw [beforeB, decide_eq_true_iff] at h3
      exact h3
    refine ⟨h.size, all_of_idx.2 h.line, idx_of_pair hb, fun k i hk hi => ?_⟩
    exact h.crs _ (all_of_idx (P := fun x => x ∈ l).2 (fun x hx => hx) k (by omega)) _ (all_of_idx (P := fun x => x ∈ l).2 (fun x hx => hx) i hi)
/-- Another line instead of the one at i makes a brand exactly if it fits. -/
theorem fits_put {n : Int} {l : List (Int × Int)} (h : BrandL n l) {i : Nat} (hi : i < l.length) (p : Int × Int) (hp : inR p) : fitsB n p (l.eraseIdx i) = rbrandB n (rputL (l.eraseIdx i) p) := by
  have hos : ∀ x, x ∈ l.eraseIdx i → x ∈ l := fun x hx => List.mem_of_mem_eraseIdx hx
  have hsrt : Srt (l.eraseIdx i) := h.srt.sublist (List.eraseIdx_sublist _ _)
  have hnd : (l.eraseIdx i).Nodup := h.nodup.sublist (List.eraseIdx_sublist _ _)
  have hR : ∀ x, x ∈ l.eraseIdx i → inR x := fun x hx => line_inR h.size.2.1 (h.line x (hos x hx))
  have hperm := rputL_perm (l.eraseIdx i) p
  have hmem : ∀ x, x ∈ rputL (l.eraseIdx i) p ↔ x ∈ l.eraseIdx i ∨ x = p := fun x => by rw [hperm.mem_iff, List.mem_append, List.mem_singleton]
  rw [Bool.eq_iff_iff, rbrand_iff, brandL_iff, fits_iff h.size.1 (fun x hx => h.line x (hos x hx))]
  constructor
  · rintro ⟨h1, h2⟩
    refine ⟨⟨h.size.1, h.size.2.1, ?_⟩, ?_, ?_, rputL_srt hsrt hR hp, ?_⟩
    · rw [hperm.length_eq, List.length_append, List.length_eraseIdx_of_lt hi]
      have := h.size.2.2
      simp
      omega
    · intro x hx
      rcases (hmem x).1 hx with e | e
      · exact h.line x (hos x e)
      · rw [e]; exact h1
    · rw [hperm.nodup_iff, List.nodup_append]
      refine ⟨hnd, by simp, fun x hx y hy => ?_⟩
      rw [List.mem_singleton] at hy
      rw [hy]
      exact fun e => (h2 x hx).1 e.symm
    · intro x hx y hy
      rcases (hmem x).1 hx with e | e
      · rcases (hmem y).1 hy with f | f
        · exact h.crs x (hos x e) y (hos y f)
        · rw [f]; exact fun c => (h2 x e).2 (crs_comm.1 c)
      · rcases (hmem y).1 hy with f | f
        · rw [e]; exact (h2 y f).2
        · rw [e, f]; exact crs_self _
  · intro hb
    refine ⟨hb.line p ((hmem p).2 (.inr rfl)), fun x hx => ⟨?_, hb.crs p ((hmem p).2 (.inr rfl)) x ((hmem x).2 (.inl hx))⟩⟩
    have hnd2 := hb.nodup
    rw [hperm.nodup_iff, List.nodup_append] at hnd2
    exact fun e => hnd2.2.2 x hx p (by simp) e.symm
end Go.Proofs.Ytddcdopimpfhcaa
