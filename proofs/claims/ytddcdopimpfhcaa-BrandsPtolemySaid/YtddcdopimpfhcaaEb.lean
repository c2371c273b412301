/- Plain: what a brand is, for the program and for the specification. -/
import Derived.Test.YtddcdopimpfhcaaCd
namespace Go.Proofs.Ytddcdopimpfhcaa

abbrev atL (l : List (Int × Int)) (i : Nat) : Int × Int := l.getD i (0, 0)
def lineP (n : Int) (x : Int × Int) : Prop := 0 ≤ x.1 ∧ x.1 + 2 ≤ x.2 ∧ x.2 < n ∧ ¬ (x.1 = 0 ∧ x.2 = n - 1)
def befP (x y : Int × Int) : Prop := x.1 < y.1 ∨ x.1 = y.1 ∧ x.2 < y.2
def crsP (x y : Int × Int) : Prop := x.1 < y.1 ∧ y.1 < x.2 ∧ x.2 < y.2 ∨ y.1 < x.1 ∧ x.1 < y.2 ∧ y.2 < x.2
structure BrandP (n : Int) (l : List (Int × Int)) : Prop where
  size : 3 ≤ n ∧ n ≤ 12 ∧ (l.length : Int) = n - 3
  line : ∀ i, i < l.length → lineP n (atL l i)
  bef : ∀ k i, k < i → i < l.length → befP (atL l k) (atL l i)
  crs : ∀ k i, k < i → i < l.length → ¬ crsP (atL l k) (atL l i)
theorem rline_iff (n : Int) (x : Int × Int) : rlineB n x = true ↔ lineP n x := by
  unfold rlineB lineP
  rw [decide_eq_true_iff]
  constructor
  · rintro ⟨h1, h2, h3, h4, h5⟩; exact ⟨h1, by omega, h3, h5⟩
  · rintro ⟨h1, h2, h3, h5⟩; exact ⟨h1, by omega, h3, by omega, h5⟩
theorem bef_trans {x y z : Int × Int} (h : befP x y) (k : befP y z) : befP x z := by
  unfold befP at *
  omega
theorem rstep_iff (n : Int) (l : List (Int × Int)) (i : Nat) : rstepB n l i = true ↔ lineP n (atL l i) ∧ (i = 0 ∨ befP (atL l (i - 1)) (atL l i)) ∧ ∀ k, k < i → ¬ crsP (atL l k) (atL l i) := by
  unfold rstepB
  rw [Bool.and_eq_true, Bool.and_eq_true, rline_iff, Bool.or_eq_true, decide_eq_true_iff, List.all_eq_true]
  unfold beforeB
  rw [decide_eq_true_iff]
  constructor
  · rintro ⟨⟨h1, h2⟩, h3⟩
    refine ⟨h1, h2, fun k hk h => ?_⟩
    have := h3 k (List.mem_range.2 hk)
    rw [Bool.not_eq_true', rcrossB, decide_eq_false_iff_not] at this
    exact this h
  · rintro ⟨h1, h2, h3⟩
    refine ⟨⟨h1, h2⟩, fun k hk => ?_⟩
    rw [Bool.not_eq_true', rcrossB, decide_eq_false_iff_not]
    exact h3 k (List.mem_range.1 hk)
theorem rbrand_iff (n : Int) (l : List (Int × Int)) : rbrandB n l = true ↔ BrandP n l := by
  unfold rbrandB
  rw [Bool.and_eq_true, decide_eq_true_iff, List.all_eq_true]
  constructor
  · rintro ⟨h1, h2⟩
    have hs : ∀ i, i < l.length → lineP n (atL l i) ∧ (i = 0 ∨ befP (atL l (i - 1)) (atL l i)) ∧ ∀ k, k < i → ¬ crsP (atL l k) (atL l i) := fun i hi => (rstep_iff n l i).1 (h2 i (List.mem_range.2 hi))
    refine ⟨h1, fun i hi => (hs i hi).1, fun k i hk hi => ?_, fun k i hk hi => (hs i hi).2.2 k hk⟩
    induction i with
    | zero => omega
    | succ i ih =>
      have h := (hs (i + 1) hi).2.1
      rcases h with h | h
      · omega
      · rw [Nat.add_sub_cancel] at h
        by_cases e : k = i
        · subst e; exact h
        · exact bef_trans (ih (by omega) (by omega)) h
  · intro h
    refine ⟨h.size, fun i hi => (rstep_iff n l i).2 ⟨h.line i (List.mem_range.1 hi), ?_, fun k hk => h.crs k i hk (List.mem_range.1 hi)⟩⟩
    by_cases e : i = 0
    · exact .inl e
    · exact .inr (h.bef (i - 1) i (by omega) (List.mem_range.1 hi))
theorem cross_iff {n : Int} {p q : Int × Int} (hp : lineP n p) (hq : lineP n q) : crossB p q = true ↔ crsP p q := by
  unfold lineP at hp hq
  unfold crossB onB inB crsP
  by_cases h1 : q.1 = p.1 ∨ q.1 = p.2
  · rw [decide_eq_true h1]
    simp
    omega
  · by_cases h2 : q.2 = p.1 ∨ q.2 = p.2
    · rw [decide_eq_false h1, decide_eq_true h2]
      simp
      omega
    · rw [decide_eq_false h1, decide_eq_false h2]
      by_cases h3 : p.1 < q.1 ∧ q.1 < p.2
      · by_cases h4 : p.1 < q.2 ∧ q.2 < p.2
        · rw [decide_eq_true h3, decide_eq_true h4]; simp; omega
        · rw [decide_eq_true h3, decide_eq_false h4]; simp; omega
      · by_cases h4 : p.1 < q.2 ∧ q.2 < p.2
        · rw [decide_eq_false h3, decide_eq_true h4]; simp; omega
        · rw [decide_eq_false h3, decide_eq_false h4]; simp; omega
theorem fit_line {n : Int} {p : Int × Int} (hn : 3 ≤ n) : (decide (0 ≤ p.1 ∧ p.1 < p.2 ∧ p.2 < n) && !nbB n p.1 p.2) = true ↔ lineP n p := by
  unfold nbB lineP
  rw [Bool.and_eq_true, decide_eq_true_iff, Bool.not_eq_true', decide_eq_false_iff_not]
  constructor
  · rintro ⟨h1, h2⟩; refine ⟨h1.1, ?_, h1.2.2, ?_⟩ <;> omega
  · rintro ⟨h1, h2, h3, h4⟩; refine ⟨⟨h1, by omega, h3⟩, ?_⟩; omega
theorem fits_iff {n : Int} {p : Int × Int} {xs : List (Int × Int)} (hn : 3 ≤ n) (hx : ∀ x, x ∈ xs → lineP n x) : fitsB n p xs = true ↔ lineP n p ∧ ∀ x, x ∈ xs → p ≠ x ∧ ¬ crsP p x := by
  rw [fits_any_eq, Bool.and_eq_true, fit_line hn]
  refine and_congr_right fun hp => ?_
  rw [Bool.not_eq_true', List.any_eq_false]
  constructor
  · intro h x hxm
    have := h x hxm
    unfold hitB at this
    rw [Bool.or_eq_true, decide_eq_true_iff, cross_iff hp (hx x hxm)] at this
    exact ⟨fun e => this (.inl e), fun e => this (.inr e)⟩
  · intro h x hxm
    unfold hitB
    rw [Bool.or_eq_true, decide_eq_true_iff, cross_iff hp (hx x hxm)]
    rintro (e | e)
    · exact (h x hxm).1 e
    · exact (h x hxm).2 e
theorem order_lt {n : Int} {x y : Int × Int} (hn : n ≤ 12) (hx : lineP n x) (hy : lineP n y) (hne : x ≠ y) : orderI x ≤ orderI y ↔ befP x y := by
  unfold lineP at hx hy
  unfold orderI befP
  have : ¬ (x.1 = y.1 ∧ x.2 = y.2) := fun e => hne (Prod.ext e.1 e.2)
  omega
theorem take_mem {l : List (Int × Int)} {i : Nat} (hi : i ≤ l.length) (x : Int × Int) : x ∈ l.take i ↔ ∃ k, k < i ∧ x = atL l k := by
  rw [List.mem_iff_getElem]
  constructor
  · rintro ⟨k, hk, rfl⟩
    rw [List.length_take] at hk
    refine ⟨k, by omega, ?_⟩
    rw [List.getElem_take, atL, List.getD_eq_getElem?_getD, List.getElem?_eq_getElem (by omega)]
    rfl
  · rintro ⟨k, hk, rfl⟩
    refine ⟨k, by rw [List.length_take]; omega, ?_⟩
    rw [List.getElem_take, atL, List.getD_eq_getElem?_getD, List.getElem?_eq_getElem (by omega)]
    rfl
theorem crs_comm {x y : Int × Int} : crsP x y ↔ crsP y x := by
  unfold crsP
  omega
theorem bef_ne {x y : Int × Int} (h : befP x y) : x ≠ y := by
  rintro rfl
  unfold befP at h
  omega
theorem brand_iff (n : Int) (l : List (Int × Int)) : brandB n l = true ↔ BrandP n l := by
  unfold brandB
  rw [Bool.and_eq_true, decide_eq_true_iff, List.all_eq_true]
  constructor
  · rintro ⟨h1, h2⟩
    have hs : ∀ i, i < l.length → stepB n l i = true := fun i hi => h2 i (List.mem_range.2 hi)
    have hl : ∀ i, i < l.length → lineP n (atL l i) := fun i hi => by
      have := hs i hi
      rw [stepB, Bool.and_eq_true, fits_any_eq, Bool.and_eq_true, fit_line h1.1] at this
      exact this.1.1
    have hf : ∀ i, i < l.length → ∀ k, k < i → atL l i ≠ atL l k ∧ ¬ crsP (atL l i) (atL l k) := fun i hi k hk => by
      have := hs i hi
      rw [stepB, Bool.and_eq_true] at this
      have h3 := (fits_iff h1.1 (fun x hx => by
        obtain ⟨q, hq, rfl⟩ := (take_mem (by omega) x).1 hx
        exact hl q (by omega))).1 this.1
      exact h3.2 _ ((take_mem (by omega) _).2 ⟨k, hk, rfl⟩)
    refine ⟨h1, hl, fun k i hk hi => ?_, fun k i hk hi h => (hf i hi k hk).2 (crs_comm.1 h)⟩
    induction i with
    | zero => omega
    | succ i ih =>
      have h := hs (i + 1) hi
      rw [stepB, Bool.and_eq_true, Bool.or_eq_true, decide_eq_true_iff, decide_eq_true_iff, Nat.add_sub_cancel] at h
      have h4 : befP (atL l i) (atL l (i + 1)) := by
        rcases h.2 with e | e
        · omega
        · exact (order_lt h1.2.1 (hl i (by omega)) (hl _ hi) (fun e => (hf (i + 1) hi i (by omega)).1 e.symm)).1 e
      by_cases e : k = i
      · subst e; exact h4
      · exact bef_trans (ih (by omega) (by omega)) h4
  · intro h
    refine ⟨h.size, fun i hi => ?_⟩
    have hi := List.mem_range.1 hi
    rw [stepB, Bool.and_eq_true, Bool.or_eq_true, decide_eq_true_iff, decide_eq_true_iff]
    refine ⟨(fits_iff h.size.1 (fun x hx => ?_)).2 ⟨h.line i hi, fun x hx => ?_⟩, ?_⟩
    · obtain ⟨q, hq, rfl⟩ := (take_mem (by omega) x).1 hx
      exact h.line q (by omega)
    · obtain ⟨q, hq, rfl⟩ := (take_mem (by omega) x).1 hx
      exact ⟨fun e => bef_ne (h.bef q i hq hi) e.symm, fun e => h.crs q i hq hi (crs_comm.1 e)⟩
    · by_cases e : i = 0
      · exact .inl e
      · exact .inr ((order_lt h.size.2.1 (h.line _ (by omega)) (h.line i hi) (bef_ne (h.bef (i - 1) i (by omega) hi))).2 (h.bef (i - 1) i (by omega) hi))
theorem brand_eq (n : Int) (l : List (Int × Int)) : brandB n l = rbrandB n l := by
  rw [Bool.eq_iff_iff, brand_iff, rbrand_iff]
theorem triC_congr {J J' : Nat → Nat → Bool} {n a b : Nat} (h : ∀ a b, a < b → b < n → J a b = J' a b) (hab : a < b) (hb : b < n) : ∀ c, c ≤ n → triC J a b c = triC J' a b c
  | 0, _ => rfl
  | c + 1, hc => by
    rw [triC, triC, triC_congr h hab hb c (by omega)]
    by_cases hbc : b < c
    · rw [h a b hab hb, h b c hbc (by omega), h a c (by omega) (by omega)]
    · rw [if_neg (fun e => hbc e.1), if_neg (fun e => hbc e.1)]
theorem triB_congr {J J' : Nat → Nat → Bool} {n a : Nat} (h : ∀ a b, a < b → b < n → J a b = J' a b) : ∀ b, b ≤ n → triB J n a b = triB J' n a b
  | 0, _ => rfl
  | b + 1, hb => by
    rw [triB, triB, triB_congr h b (by omega)]
    by_cases hab : a < b
    · rw [if_pos hab, if_pos hab, triC_congr h hab (by omega) n (Nat.le_refl _)]
    · rw [if_neg hab, if_neg hab]
theorem triA_congr {J J' : Nat → Nat → Bool} {n : Nat} (h : ∀ a b, a < b → b < n → J a b = J' a b) : ∀ a, triA J n a = triA J' n a
  | 0 => rfl
  | a + 1 => by rw [triA, triA, triA_congr h a, triB_congr h n (Nat.le_refl _)]
theorem jn_eq (n : Nat) (l : List (Int × Int)) (a b : Nat) (hab : a < b) (hb : b < n) : jn n l a b = rjn n l a b := by
  unfold jn rjn joinB rnearB nbB
  have h1 : min (a : Int) (b : Int) = a := by omega
  have h2 : max (a : Int) (b : Int) = b := by omega
  have h3 : (a + 1) % n = a + 1 := Nat.mod_eq_of_lt (by omega)
  have h4 : (b + 1) % n = if b + 1 = n then 0 else b + 1 := by
    split
    · rename_i e; rw [e, Nat.mod_self]
    · exact Nat.mod_eq_of_lt (by omega)
  rw [h1, h2, h3, h4]
  congr 1
  rw [Bool.eq_iff_iff, Bool.or_eq_true, decide_eq_true_iff, decide_eq_true_iff, decide_eq_true_iff]
  split <;> omega
theorem tris_eq (n : Nat) (l : List (Int × Int)) : trisOf (jn n l) n = trisOf (rjn n l) n := triA_congr (jn_eq n l) n
theorem round_eq (n : Nat) (l : List (Int × Int)) : roundOf n l = rroundOf n l := by
  unfold roundOf rroundOf
  rw [tris_eq]
end Go.Proofs.Ytddcdopimpfhcaa
