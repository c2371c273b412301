/- Plain: what Choices computes is the determinant of two corners' vectors. -/
import Derived.Test.YtddcdopimpfhcaaFi
import Derived.Test.YtddcdopimpfhcaaBt
namespace Go.Proofs.Ytddcdopimpfhcaa

/-- The triangles that are not used. -/
def unused (ts : List Tri) (used : Nat) : List Tr := ((List.range ts.length).filter fun i => !used.testBit i).map fun i => triI (ts.getD i (0, 0, 0))
theorem sumTo_range (f : Nat → Nat) : ∀ k, sumTo f k = ((List.range k).map f).sum
  | 0 => rfl
  | k + 1 => by
    rw [sumTo, sumTo_range f k, List.range_succ, List.map_append, List.sum_append_nat]
    simp
theorem sum_filter (p : Nat → Bool) (f : Nat → Nat) (l : List Nat) : ((l.filter p).map f).sum = (l.map fun i => if p i then f i else 0).sum := by
  induction l with
  | nil => rfl
  | cons x l ih =>
    rw [List.filter_cons]
    cases h : p x
    · simp [h, ih]
    · simp [h, ih]
theorem nodup_getD {ts : List Tri} (hn : ts.Nodup) {i j : Nat} (hi : i < ts.length) (hj : j < ts.length) (h : ts.getD i (0, 0, 0) = ts.getD j (0, 0, 0)) : i = j := by
  rw [getD_tri hi, getD_tri hj] at h
  rcases Nat.lt_trichotomy i j with e | e | e
  · exact ((List.pairwise_iff_getElem.1 hn) i j hi hj e h).elim
  · exact e
  · exact ((List.pairwise_iff_getElem.1 hn) j i hj hi e h.symm).elim
theorem unused_nodup {ts : List Tri} (hn : ts.Nodup) (used : Nat) : (unused ts used).Nodup := by
  unfold unused List.Nodup
  rw [List.pairwise_map]
  refine (List.pairwise_lt_range.sublist List.filter_sublist).imp_of_mem fun {i j} hi hj hij e => ?_
  have h1 := List.mem_range.1 (List.mem_filter.1 hi).1
  have h2 := List.mem_range.1 (List.mem_filter.1 hj).1
  have := nodup_getD hn h1 h2 (triI_inj e)
  omega
theorem unused_mem {ts : List Tri} {used : Nat} {t : Tr} : t ∈ unused ts used ↔ ∃ j, j < ts.length ∧ used.testBit j = false ∧ triI (ts.getD j (0, 0, 0)) = t := by
  unfold unused
  rw [List.mem_map]
  constructor
  · rintro ⟨j, hj, rfl⟩
    have := List.mem_filter.1 hj
    exact ⟨j, List.mem_range.1 this.1, by simpa using this.2, rfl⟩
  · rintro ⟨j, h1, h2, rfl⟩
    exact ⟨j, List.mem_filter.2 ⟨List.mem_range.2 h1, by simp [h2]⟩, rfl⟩
theorem bit_add {u i : Nat} (hu : u < 2 ^ 10) (hi : i < 10) (h : u.testBit i = false) (j : Nat) : (u + 2 ^ i).testBit j = (u.testBit j || decide (i = j)) := by
  have h1 := or_bit ⟨u, hu⟩ ⟨i, hi⟩ h
  rw [← h1.1, Nat.testBit_or, Nat.testBit_two_pow]
theorem unused_erase {ts : List Tri} (hn : ts.Nodup) {u i : Nat} (hu : u < 2 ^ 10) (hi : i < ts.length) (hi10 : i < 10) (h : u.testBit i = false) :
    ((unused ts u).erase (triI (ts.getD i (0, 0, 0)))).Perm (unused ts (u + 2 ^ i)) := by
  refine (List.perm_ext_iff_of_nodup ((unused_nodup hn u).erase _) (unused_nodup hn _)).2 fun t => ?_
  rw [(unused_nodup hn u).mem_erase_iff, unused_mem, unused_mem]
  constructor
  · rintro ⟨h1, j, h2, h3, rfl⟩
    refine ⟨j, h2, ?_, rfl⟩
    rw [bit_add hu hi10 h, h3]
    simp only [Bool.false_or, decide_eq_false_iff_not]
    rintro rfl
    exact h1 rfl
  · rintro ⟨j, h2, h3, rfl⟩
    rw [bit_add hu hi10 h, Bool.or_eq_false_iff, decide_eq_false_iff_not] at h3
    exact ⟨fun e => h3.2 (nodup_getD hn hi h2 (triI_inj e.symm)), j, h2, h3.1, rfl⟩
theorem has_contains (t : Tri) (c : Nat) : (triL t).contains (c : Int) = hasT c (triI t) := by
  unfold triL hasT triI
  rw [Bool.eq_iff_iff, List.contains_iff_mem, decide_eq_true_iff]
  simp only [List.mem_cons, List.not_mem_nil, or_false]
  omega
theorem cho_chW (ts : List Tri) (n : Nat) (hn : ts.Nodup) (h10 : ts.length ≤ 10) : ∀ (d c used : Nat), c < n → used < 2 ^ 10 →
    choTo ts n d c used = chW ((List.range d).map fun t => (((c + t) % n : Nat) : Int)) (unused ts used)
  | 0, c, used, _, _ => rfl
  | d + 1, c, used, hc, hu => by
    have hl : (List.range (d + 1)).map (fun t => (((c + t) % n : Nat) : Int)) = (c : Int) :: (List.range d).map (fun t => ((((c + 1) % n + t) % n : Nat) : Int)) := by
      rw [List.range_succ_eq_map, List.map_cons, List.map_map]
      congr 1
      · rw [Nat.add_zero, Nat.mod_eq_of_lt hc]
      · refine List.map_congr_left fun t _ => ?_
        simp only [Function.comp]
        rw [Nat.mod_add_mod, Nat.succ_eq_add_one, show c + 1 + t = c + (t + 1) by omega]
    rw [hl, choTo, sumTo_range, chW, unused, List.map_map, sum_filter]
    congr 1
    refine List.map_congr_left fun i hi => ?_
    have hi' := List.mem_range.1 hi
    rw [has_contains]
    cases hb : used.testBit i
    · have hadd := (or_bit ⟨used, hu⟩ ⟨i, by omega⟩ hb)
      simp only [Bool.not_false, if_true, true_and, Function.comp]
      split
      · rw [cho_chW ts n hn h10 d _ _ (Nat.mod_lt _ (by omega)) (by have := hadd.2; simpa using this)]
        exact (chW_perm _ (unused_erase hn hu hi' (by omega) hb)).symm
      · rfl
    · simp
theorem unused_zero (ts : List Tri) : unused ts 0 = ts.map triI := by
  unfold unused
  have : (List.range ts.length).filter (fun i => !(0 : Nat).testBit i) = List.range ts.length := by
    rw [List.filter_eq_self]
    intro i _
    simp
  rw [this]
  refine List.ext_getElem (by simp) fun i h1 h2 => ?_
  rw [List.length_map, List.length_range] at h1
  rw [List.getElem_map, List.getElem_map, List.getElem_range, getD_tri h1]
/-- The number of choices is the number between the corners. -/
theorem Vecs.choices {n : Nat} {l : List (Int × Int)} {q : List Int} {v : Int → Int × Int} (h : Vecs n l q v) (hn10 : n ≤ 10) (hb : Full (natsI n) l) {i k : Nat} (hi : i < n) (hk : k < n) (hik : i ≠ k) :
    (choI n l i k : Int) = Go.Proofs.Ytddcdopimpfhcaa.eN q (min i k) (max i k - min i k) := by
  have hT := tris_nats n l
  have hn3 := h.n3
  have hlen := (count_tris _ rfl (by rw [natsI_len]; omega) hb hT).1
  rw [natsI_len, List.length_map] at hlen
  unfold choI
  rw [cho_chW (trisOf (jn n l) n) n (trA_nodup _ _ _) (by show (trisOf (jn n l) n).length ≤ 10; omega) _ _ _ (Nat.mod_lt _ (by omega)) (by decide), unused_zero]
  have hmod : ∀ t, t < (k + n - i - 1) % n → (((i + 1) % n + t) % n) = if i + 1 + t < n then i + 1 + t else i + 1 + t - n := by
    intro t ht
    have : (k + n - i - 1) % n < n := Nat.mod_lt _ (by omega)
    rw [Nat.mod_add_mod]
    split
    · rename_i e; exact Nat.mod_eq_of_lt e
    · rename_i e; rw [Nat.mod_eq_sub_mod (by omega), Nat.mod_eq_of_lt (by omega)]
  have hd : (k + n - i - 1) % n = if i < k then k - i - 1 else k + n - i - 1 := by
    split
    · rw [show k + n - i - 1 = k - i - 1 + n by omega, Nat.add_mod_right, Nat.mod_eq_of_lt (by omega)]
    · exact Nat.mod_eq_of_lt (by omega)
  have hp : ((List.range ((k + n - i - 1) % n)).map fun t => ((((i + 1) % n + t) % n : Nat) : Int)).Perm ((natsI n).filter (btw i k)) := by
    refine perm_mem ?_ ((sorted_nodup (nats_sorted n)).sublist List.filter_sublist) fun x => ?_
    · unfold List.Nodup
      rw [List.pairwise_map]
      refine List.pairwise_lt_range.imp_of_mem fun {s t} hs ht hst e => ?_
      have h1 := hmod s (List.mem_range.1 hs)
      have h2 := hmod t (List.mem_range.1 ht)
      have h3 := List.mem_range.1 hs
      have h4 := List.mem_range.1 ht
      rw [h1, h2] at e
      rw [hd] at h3 h4
      by_cases hlt : i < k
      · rw [if_pos hlt] at h3 h4
        split at e <;> split at e <;> omega
      · rw [if_neg hlt] at h3 h4
        split at e <;> split at e <;> omega
    · rw [List.mem_map, List.mem_filter, mem_nats, btw_iff]
      constructor
      · rintro ⟨t, ht, rfl⟩
        have h1 := List.mem_range.1 ht
        rw [hmod t h1]
        rw [hd] at h1
        split at h1 <;> split <;> omega
      · rintro ⟨⟨h1, h2⟩, h3⟩
        obtain ⟨y, rfl⟩ : ∃ y : Nat, x = (y : Int) := ⟨x.toNat, by omega⟩
        by_cases e : i < y
        · refine ⟨y - i - 1, List.mem_range.2 (by rw [hd]; split <;> omega), ?_⟩
          rw [hmod _ (by rw [hd]; split <;> omega), if_pos (by omega)]
          omega
        · refine ⟨y + n - i - 1, List.mem_range.2 (by rw [hd]; split <;> omega), ?_⟩
          rw [hmod _ (by rw [hd]; split <;> omega), if_neg (by omega)]
          omega
  have hnd : ((trisOf (jn n l) n).map triI).Nodup := map_nodup (trA_nodup _ _ _)
  rw [chW_order hp hnd]
  have hB := h.bro _ hT i k (mem_nats.2 (by omega)) (mem_nats.2 (by omega)) (by omega)
  rw [hB, h.eN_in (by omega), show min i k + (max i k - min i k) = max i k by omega]
  unfold dst
  by_cases e : i < k
  · rw [if_pos (by omega), show min i k = i by omega, show max i k = k by omega]
  · rw [if_neg (by omega), show min i k = k by omega, show max i k = i by omega]
theorem tris_few {n : Nat} {l : List (Int × Int)} (h : BrandL n l) : (trisOf (jn n l) n).length ≤ 10 := by
  have hs := h.size
  have h1 := (count_tris _ rfl (by rw [natsI_len]; omega) (full_nats h) (tris_nats n l)).1
  rw [natsI_len, List.length_map] at h1
  generalize (trisOf (jn n l) n).length = k at h1 ⊢
  omega
end Go.Proofs.Ytddcdopimpfhcaa
