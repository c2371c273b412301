/- A drover with at least the weight of another one turns at least as much; the sums of all. -/
import Derived.Test.YtdbleghnblohgaaPp
namespace Go.Proofs.Ytdbleghnblohgaa

/-- The sum of F over the numbers below k. -/
def upTo (F : Nat → Int) : Nat → Int
  | 0 => 0
  | s + 1 => upTo F s + F s
theorem upTo_congr {F G : Nat → Int} {N : Nat} (h : ∀ s, s < N → F s = G s) : upTo F N = upTo G N := by
  induction N with
  | zero => rfl
  | succ N ih => simp only [upTo, ih fun s hs => h s (by omega), h N (by omega)]
theorem upTo_mono {F G : Nat → Int} {N : Nat} (h : ∀ s, s < N → F s ≤ G s) : upTo F N ≤ upTo G N := by
  induction N with
  | zero => exact Int.le_refl _
  | succ N ih => have := ih fun s hs => h s (by omega)
                 have := h N (by omega)
                 simp only [upTo]; omega
theorem upTo_add (F G : Nat → Int) (N : Nat) : upTo (fun s => F s + G s) N = upTo F N + upTo G N := by
  induction N with
  | zero => rfl
  | succ N ih => simp only [upTo, ih]; omega
theorem upTo_sub (F G : Nat → Int) (N : Nat) : upTo (fun s => F s - G s) N = upTo F N - upTo G N := by
  induction N with
  | zero => rfl
  | succ N ih => simp only [upTo, ih]; omega
theorem upTo_zero (N : Nat) : upTo (fun _ => 0) N = 0 := by
  induction N with
  | zero => rfl
  | succ N ih => simp only [upTo, ih]; rfl
theorem upTo_mul (F : Nat → Int) (c : Int) (N : Nat) : upTo (fun s => F s * c) N = upTo F N * c := by
  induction N with
  | zero => simp [upTo]
  | succ N ih => simp only [upTo, ih, Int.add_mul]
theorem upTo_swap (F : Nat → Nat → Int) (N M : Nat) : upTo (fun i => upTo (fun s => F i s) N) M = upTo (fun s => upTo (fun i => F i s) M) N := by
  induction M with
  | zero => simp only [upTo, upTo_zero]
  | succ M ih => simp only [upTo, ih, upTo_add]
theorem upTo_range (F : Nat → Int) (N : Nat) : upTo F N = (List.range N).foldr (fun s a => F s + a) 0 := by
  have H : ∀ (l : List Nat) (x : Int), l.foldr (fun s a => F s + a) x = l.foldr (fun s a => F s + a) 0 + x := by
    intro l x
    induction l with
    | nil => simp
    | cons y l ih => simp only [List.foldr_cons, ih]; omega
  induction N with
  | zero => rfl
  | succ N ih => rw [List.range_succ, List.foldr_append, H]; simp [upTo, ih]
/-- A sum does not change where its numbers are gone through in another order. -/
theorem upTo_perm (σ : Nat → Nat) (N : Nat) (h1 : ∀ s, s < N → σ s < N) (h2 : ∀ s, s < N → σ (σ s) = s) (F : Nat → Int) : upTo (fun s => F (σ s)) N = upTo F N := by
  have hp : ((List.range N).map σ).Perm (List.range N) := by
    rw [List.perm_ext_iff_of_nodup]
    · intro a
      simp only [List.mem_map, List.mem_range]
      constructor
      · rintro ⟨s, hs, rfl⟩; exact h1 s hs
      · intro ha; exact ⟨σ a, h1 a ha, h2 a ha⟩
    · unfold List.Nodup
      rw [List.pairwise_map]
      refine List.Pairwise.imp_of_mem ?_ List.nodup_range
      intro a b ha hb hne e
      simp only [List.mem_range] at ha hb
      exact hne (by rw [← h2 a ha, ← h2 b hb, e])
    · exact List.nodup_range
  rw [upTo_range F N, upTo_range]
  rw [← List.foldr_map (f := σ) (g := fun s a => F s + a)]
  exact hp.foldr_eq' (fun x _ y _ z => by omega) 0

/-- The sets that a drover turns, one by one. -/
def turnB (p : Int → Bool) (i s : Nat) : Bool := decide ((s : Int) / 2 ^ i % 2 = 0) && (!p s && p (with_ s i))
theorem sumOf_upTo (f : Nat → Nat → Int) (p : Int → Bool) (i N : Nat) : sumOf f (turnsIn p i N) = upTo (fun s => if turnB p i s then f i s else 0) N := by
  induction N with
  | zero => rfl
  | succ N ih =>
    simp only [turnsIn, upTo, ← ih]
    unfold turnB
    split
    · rename_i h; rw [sumOf_snoc]
    · simp
theorem perTo_getD (f : Nat → Nat → Int) (p : Int → Bool) (n : Nat) (i k : Nat) (h : i < k) : (perTo f p n k).getD i 0 = sumOf f (turnsIn p i (2 ^ n)) := by
  induction k with
  | zero => omega
  | succ k ih =>
    have hl := perTo_length f p n k
    simp only [perTo, List.getD_eq_getElem?_getD]
    by_cases e : i = k
    · subst e; rw [List.getElem?_append_right (by omega)]; simp [hl]
    · rw [List.getElem?_append_left (by omega)]
      rw [← List.getD_eq_getElem?_getD]; exact ih (by omega)

/-- The set with two drovers in each other's place. -/
def swapS (i k s : Nat) : Nat := if s / 2 ^ i % 2 = s / 2 ^ k % 2 then s else if s / 2 ^ i % 2 = 1 then s - 2 ^ i + 2 ^ k else s + 2 ^ i - 2 ^ k
theorem swap_all : ∀ i k : Fin 8, ∀ s : Fin 256, swapS i k (swapS i k s) = s.val ∧ popTo ((swapS i k s : Nat) : Int) 8 = popTo ((s.val : Nat) : Int) 8 := by decide +kernel
theorem swap_lt : ∀ n : Fin 9, ∀ i k : Fin 8, i.val < n.val → k.val < n.val → ∀ s : Fin (2 ^ n.val), swapS i k s < 2 ^ n.val := by decide +kernel
theorem swap_in : ∀ i k : Fin 8, ∀ s : Fin 256, s.val / 2 ^ k.val % 2 = 0 → s.val / 2 ^ i.val % 2 = 1 → swapS i k s / 2 ^ i.val % 2 = 0 ∧ with_ (swapS i k s : Nat) i = with_ (s.val : Nat) k := by decide +kernel
theorem swap_off : ∀ i k : Fin 8, ∀ s : Fin 256, s.val / 2 ^ k.val % 2 = 0 → s.val / 2 ^ i.val % 2 = 0 → swapS i k s = s.val := by decide +kernel
theorem with_bits : ∀ i j : Fin 8, ∀ s : Fin 256, s.val / 2 ^ i.val % 2 = 0 → with_ (s.val : Nat) i / 2 ^ j.val % 2 = if j = i then 1 else ((s.val : Nat) : Int) / 2 ^ j.val % 2 := by decide +kernel
theorem sum_with (l : List Int) (i s : Nat) (hi : i < 8) (hs : s < 256) (h0 : s / 2 ^ i % 2 = 0) (k : Nat) (hk : k ≤ 8) : sumTo l (with_ s i) k = sumTo l s k + if i < k then l.getD i 0 else 0 := by
  induction k with
  | zero => simp [sumTo]
  | succ k ih =>
    have hb := with_bits ⟨i, hi⟩ ⟨k, by omega⟩ ⟨s, hs⟩ h0
    simp only [Fin.mk.injEq] at hb
    simp only [sumTo, ih (by omega), hb]
    by_cases e : k = i
    · subst e
      have : (s : Int) / 2 ^ k % 2 = 0 := by exact_mod_cast h0
      rw [this]
      simp
    · simp only [e, if_false]
      by_cases h : i < k
      · rw [if_pos h, if_pos (by omega)]; omega
      · rw [if_neg h, if_neg (by omega)]; omega
theorem castbit (s i : Nat) : (s : Int) / 2 ^ i % 2 = ((s / 2 ^ i % 2 : Nat) : Int) := by simp
theorem turn_more (q : Int) (l : List Int) (i k : Nat) (hi : i < l.length) (hk : k < l.length) (h8 : l.length ≤ 8) (hge : l.getD k 0 ≤ l.getD i 0) (s : Nat) (hs : s < 256)
    (h : turnB (winB q l) k s = true) : turnB (winB q l) i (swapS i k s) = true := by
  simp only [turnB, winB, Bool.and_eq_true, Bool.not_eq_true', decide_eq_true_eq, decide_eq_false_iff_not] at h ⊢
  obtain ⟨h1, h2, h3⟩ := h
  rw [castbit] at h1
  have h1' : s / 2 ^ k % 2 = 0 := by omega
  rw [sum_with l k s (by omega) hs h1' _ h8, if_pos hk] at h3
  by_cases hb : s / 2 ^ i % 2 = 0
  · have e := swap_off ⟨i, by omega⟩ ⟨k, by omega⟩ ⟨s, hs⟩ h1' hb
    simp only at e
    rw [e, castbit]
    rw [sum_with l i s (by omega) hs hb _ h8, if_pos hi]
    exact ⟨by omega, h2, by omega⟩
  · have hb1 : s / 2 ^ i % 2 = 1 := by omega
    obtain ⟨e1, e2⟩ := swap_in ⟨i, by omega⟩ ⟨k, by omega⟩ ⟨s, hs⟩ h1' hb1
    have hlt := swap_lt ⟨8, by omega⟩ ⟨i, by omega⟩ ⟨k, by omega⟩ (by simp; omega) (by simp; omega) ⟨s, hs⟩
    simp only at e1 e2 hlt
    have e3 := sum_with l i (swapS i k s) (by omega) hlt e1 _ h8
    rw [if_pos hi, e2, sum_with l k s (by omega) hs h1' _ h8, if_pos hk] at e3
    rw [e2, castbit, e1, sum_with l k s (by omega) hs h1' _ h8, if_pos hk]
    exact ⟨rfl, by omega, by omega⟩
theorem sum_more (f : Nat → Nat → Int) (q : Int) (l : List Int) (i k : Nat) (hi : i < l.length) (hk : k < l.length) (h8 : l.length ≤ 8) (hge : l.getD k 0 ≤ l.getD i 0)
    (hf : ∀ s, s < 256 → 0 ≤ f i s ∧ f i (swapS i k s) = f k s) : sumOf f (turnsIn (winB q l) k (2 ^ l.length)) ≤ sumOf f (turnsIn (winB q l) i (2 ^ l.length)) := by
  have hp : 2 ^ l.length ≤ 256 := Nat.pow_le_pow_right (n := 2) (by decide) h8
  rw [sumOf_upTo, sumOf_upTo]
  rw [← upTo_perm (swapS i k) (2 ^ l.length) (fun s hs => swap_lt ⟨l.length, by omega⟩ ⟨i, by omega⟩ ⟨k, by omega⟩ hi hk ⟨s, hs⟩)
    (fun s hs => (swap_all ⟨i, by omega⟩ ⟨k, by omega⟩ ⟨s, by omega⟩).1) (fun s => if turnB (winB q l) i s then f i s else 0)]
  refine upTo_mono fun s hs => ?_
  have h1 := hf s (by omega)
  have hlt := swap_lt ⟨8, by omega⟩ ⟨i, by omega⟩ ⟨k, by omega⟩ (by simp; omega) (by simp; omega) ⟨s, (by simp; omega)⟩
  have h2 := hf (swapS i k s) hlt
  cases h : turnB (winB q l) k s
  · simp only [Bool.false_eq_true, if_false]
    split
    · exact h2.1
    · exact Int.le_refl _
  · rw [turn_more q l i k hi hk h8 hge s (by omega) h]
    simp only [if_true, h1.2, Int.le_refl]
theorem order_swap (n i k s : Nat) (hi : i < 8) (hk : k < 8) (hs : s < 256) (a b : Nat) : orderI n a (swapS i k s) = orderI n b s := by
  have := (swap_all ⟨i, hi⟩ ⟨k, hk⟩ ⟨s, hs⟩).2
  unfold orderI
  simp only at this
  rw [this]
/-- All orders in which a drover can turn something are at most all orders. -/
theorem order_all : ∀ n : Fin 9, ∀ i : Fin 8, i.val < n.val → upTo (fun s => if s / 2 ^ i.val % 2 = 0 then orderI n.val 0 s else 0) (2 ^ n.val) = factI n.val := by decide +kernel
theorem order_le (p : Int → Bool) (n i : Nat) (hn : n ≤ 8) (hi : i < n) : sumOf (orderI n) (turnsIn p i (2 ^ n)) ≤ factI n := by
  have h := order_all ⟨n, by omega⟩ ⟨i, by omega⟩ hi
  simp only at h
  rw [← h, sumOf_upTo]
  refine upTo_mono fun s _ => ?_
  have h2 := orderI_range n hn 0 s
  unfold turnB
  rw [castbit]
  by_cases hb : s / 2 ^ i % 2 = 0
  · rw [if_pos hb]
    split
    · exact Int.le_refl _
    · exact h2.1
  · rw [if_neg hb, decide_eq_false (by omega), Bool.false_and, if_neg Bool.false_ne_true]
    exact Int.le_refl _
theorem ratio_le {x y F : Nat} (hF : 0 < F) (h : x ≤ y) : (ratioOf x F).1 * (ratioOf y F).2 ≤ (ratioOf y F).1 * (ratioOf x F).2 := by
  have gx : 0 < Nat.gcd x F := Nat.gcd_pos_of_pos_right _ hF
  have gy : 0 < Nat.gcd y F := Nat.gcd_pos_of_pos_right _ hF
  obtain ⟨a, ha⟩ := Nat.gcd_dvd_left x F
  obtain ⟨b, hb⟩ := Nat.gcd_dvd_right x F
  obtain ⟨c, hc⟩ := Nat.gcd_dvd_left y F
  obtain ⟨d, hd⟩ := Nat.gcd_dvd_right y F
  have e1 : (ratioOf x F).1 = a := by unfold ratioOf; simp only; exact Nat.div_eq_of_eq_mul_right gx ha
  have e2 : (ratioOf x F).2 = b := by unfold ratioOf; simp only; exact Nat.div_eq_of_eq_mul_right gx hb
  have e3 : (ratioOf y F).1 = c := by unfold ratioOf; simp only; exact Nat.div_eq_of_eq_mul_right gy hc
  have e4 : (ratioOf y F).2 = d := by unfold ratioOf; simp only; exact Nat.div_eq_of_eq_mul_right gy hd
  rw [e1, e2, e3, e4]
  generalize Nat.gcd x F = g at *
  generalize Nat.gcd y F = m at *
  have h1 : g * (m * (a * d)) ≤ g * (m * (c * b)) := by
    have e5 : g * (m * (a * d)) = (g * a) * (m * d) := by ac_rfl
    have e6 : g * (m * (c * b)) = (m * c) * (g * b) := by ac_rfl
    rw [e5, e6, ← ha, ← hd, ← hc, ← hb]
    exact Nat.mul_le_mul_right _ h
  exact Nat.le_of_mul_le_mul_left (Nat.le_of_mul_le_mul_left h1 gx) gy
theorem ratio_bounds {x F : Nat} (hF : 0 < F) (hF' : F ≤ 40320) (h : x ≤ F) : (ratioOf x F).1 ≤ 40320 ∧ 1 ≤ (ratioOf x F).2 ∧ (ratioOf x F).2 ≤ 40320 := by
  have gx : 0 < Nat.gcd x F := Nat.gcd_pos_of_pos_right _ hF
  have h1 : x / Nat.gcd x F ≤ x := Nat.div_le_self _ _
  have h2 : F / Nat.gcd x F ≤ F := Nat.div_le_self _ _
  have h3 : 0 < F / Nat.gcd x F := Nat.div_pos (Nat.gcd_le_right x hF) gx
  unfold ratioOf
  omega
end Go.Proofs.Ytdbleghnblohgaa
