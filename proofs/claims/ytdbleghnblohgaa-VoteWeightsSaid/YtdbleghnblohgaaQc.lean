/- The plain law of weights and trades: just one of them is found. -/
import Derived.Test.YtdbleghnblohgaaQb
namespace Go.Proofs.Ytdbleghnblohgaa

theorem rep_len (n : Nat) : (List.replicate n (0 : Int)).length = n := List.length_replicate
theorem sum_all_full {n : Nat} (hn : n ≤ 5) (ls : List Int) : sumTo ls ((2 ^ n - 1 : Nat) : Int) n = allTo ls n := sum_full ls n (by omega) n (Nat.le_refl _)
theorem weighs_sum {p : Int → Bool} {n : Nat} (hn : n ≤ 5) {ws : List Int} {q : Int} (h : Weighs p n ws q) (hf : p ((2 ^ n - 1 : Nat) : Int) = true) (hz : p ((0 : Nat) : Int) = false) : 1 ≤ q ∧ q ≤ allTo ws n ∧ allTo ws n ≤ 9 * n := by
  have hpos := Nat.two_pow_pos n
  have h1 := h.fits (2 ^ n - 1) (by omega)
  have h2 := h.fits 0 hpos
  rw [hf, sum_all_full hn] at h1
  rw [hz, show ((0 : Nat) : Int) = 0 from rfl, sum_zero] at h2
  have h3 := of_decide_eq_true h1.symm
  have h4 := of_decide_eq_false h2.symm
  refine ⟨by omega, h3, ?_⟩
  have : ∀ k, k ≤ n → allTo ws k ≤ 9 * k := by
    intro k
    induction k with
    | zero => intro _; simp [allTo]
    | succ k ih =>
      intro hk
      have := ih (by omega)
      have := h.light k (by omega)
      simp only [allTo]
      omega
  exact this n (Nat.le_refl _)
/-- What the search for weights finds: they fit. -/
theorem search_sound {p : Int → Bool} {n : Nat} (hn1 : 1 ≤ n) (h : 0 < (searchTo p n (9 * n)).1) : Weighs p n (searchTo p n (9 * n)).2 (searchTo p n (9 * n)).1 := by
  unfold searchTo at h ⊢
  obtain ⟨w, hw, e⟩ := tryTo_at h (by omega)
  have hk := tryTo_length (F := fun k l => onF p n (n - 1) 0 l (k + 1)) (n := n) (fun w l hl => onF_length p n (n - 1) 0 l (w + 1) hl) (rep_len n) w
  rw [e] at h ⊢
  have h2 := onF_sound p n (n - 1) 0 _ (w + 1) hk (by omega) (fun j hj => by omega) h
  have h3 := onF_length p n (n - 1) 0 _ (w + 1) hk
  rw [h2.2.2] at h ⊢
  exact fits_sound p n _ h3 h2.1 h
/-- Where some weights fit the search finds weights, with no greater sum. -/
theorem search_least {p : Int → Bool} {n : Nat} (hn1 : 1 ≤ n) (hn : n ≤ 5) {ws : List Int} {q : Int} (h : Weighs p n ws q) (hf : p ((2 ^ n - 1 : Nat) : Int) = true) (hz : p ((0 : Nat) : Int) = false) :
    0 < (searchTo p n (9 * n)).1 ∧ allTo (searchTo p n (9 * n)).2 n ≤ allTo ws n := by
  obtain ⟨h1, h2, h3⟩ := weighs_sum hn h hf hz
  have hfit := fits_pos h hf hz
  obtain ⟨S, hS⟩ := Int.eq_ofNat_of_zero_le (show 0 ≤ allTo ws n by omega)
  have hlen := fun w => tryTo_length (F := fun k l => onF p n (n - 1) 0 l (k + 1)) (n := n) (fun w l hl => onF_length p n (n - 1) 0 l (w + 1) hl) (rep_len n) w
  unfold searchTo
  obtain ⟨h4, h5⟩ := tryTo_found (F := fun k l => onF p n (n - 1) 0 l (k + 1)) (ls := List.replicate n 0) (w := S - 1) (k := 9 * n) (by omega)
    (onF_found p n ws h.len h.light hfit (n - 1) 0 _ (S - 1 + 1) (hlen _) (by omega) (fun j hj => by omega) (by simp only [allTo]; omega))
  refine ⟨h4, ?_⟩
  rw [h5] at h4 ⊢
  obtain ⟨w, hw, e⟩ := tryTo_at h4 (by omega)
  rw [e] at h4 ⊢
  have h6 := onF_sound p n (n - 1) 0 _ (w + 1) (hlen w) (by omega) (fun j hj => by omega) h4
  rw [h6.2.1]
  simp only [allTo]
  omega
theorem sum_swap (ws : List Int) (a b c d : Nat) (h1 : a &&& b = c &&& d) (h2 : a ||| b = c ||| d) (k : Nat) : sumTo ws a k + sumTo ws b k = sumTo ws c k + sumTo ws d k := by
  induction k with
  | zero => rfl
  | succ k ih =>
    have e1 := congrArg (fun x => x.testBit k) h1
    have e2 := congrArg (fun x => x.testBit k) h2
    simp only [Nat.testBit_and, Nat.testBit_or] at e1 e2
    simp only [sumTo, bit_test]
    generalize sumTo ws a k = x at *
    generalize sumTo ws b k = y at *
    generalize sumTo ws c k = z at *
    generalize sumTo ws d k = u at *
    generalize ws.getD k 0 = v at *
    cases ha : a.testBit k <;> cases hb : b.testBit k <;> cases hc : c.testBit k <;> cases hd : d.testBit k <;> rw [ha, hb, hc, hd] at e1 e2 <;> simp at e1 e2 ⊢ <;> omega
theorem weighs_no_trade {p : Int → Bool} {n : Nat} {ws : List Int} {q : Int} (h : Weighs p n ws q) {a b c d : Nat} (t : Trades p n a b c d) : False := by
  have h1 := h.fits a t.la
  have h2 := h.fits b t.lb
  have h3 := h.fits c t.lc
  have h4 := h.fits d t.ld
  rw [t.wa] at h1
  rw [t.wb] at h2
  rw [t.wc] at h3
  rw [t.wd] at h4
  have h1 := of_decide_eq_true h1.symm
  have h2 := of_decide_eq_true h2.symm
  have h3 := of_decide_eq_false h3.symm
  have h4 := of_decide_eq_false h4.symm
  have := sum_swap ws a b c d t.and_ t.or_ n
  omega
theorem Trades.swap {p : Int → Bool} {n a b c d : Nat} (t : Trades p n a b c d) : Trades p n b a c d := ⟨t.lb, t.la, t.lc, t.ld, t.wb, t.wa, t.wc, t.wd, by rw [Nat.and_comm]; exact t.and_, by rw [Nat.or_comm]; exact t.or_⟩
theorem Trades.swap' {p : Int → Bool} {n a b c d : Nat} (t : Trades p n a b c d) : Trades p n a b d c := ⟨t.la, t.lb, t.ld, t.lc, t.wa, t.wb, t.wd, t.wc, by rw [t.and_, Nat.and_comm], by rw [t.or_, Nat.or_comm]⟩
theorem even_nat (a b c d : Nat) : evenB a b c d = true ↔ a &&& b = c &&& d ∧ a ||| b = c ||| d := by
  unfold evenB andI orI
  rw [Bool.and_eq_true, decide_eq_true_iff, decide_eq_true_iff]
  simp only [Int.toNat_natCast]
  constructor <;> rintro ⟨h1, h2⟩ <;> exact ⟨by omega, by omega⟩
theorem firstTo_off {α : Type} {f : Nat → Option α} {k : Nat} (h : firstTo f k = none) : ∀ j, j < k → f j = none := by
  induction k with
  | zero => intro j hj; omega
  | succ k ih =>
    intro j hj
    simp only [firstTo] at h
    cases e : firstTo f k with
    | some x => rw [e] at h; cases h
    | none =>
      rw [e] at h
      by_cases ej : j = k
      · subst ej; exact h
      · exact ih e j (by omega)
theorem firstTo_at {α : Type} {f : Nat → Option α} {k : Nat} {x : α} (h : firstTo f k = some x) : ∃ j, j < k ∧ f j = some x := by
  induction k with
  | zero => cases h
  | succ k ih =>
    simp only [firstTo] at h
    cases e : firstTo f k with
    | some y =>
      rw [e] at h
      cases h
      obtain ⟨j, hj, hf⟩ := ih e
      exact ⟨j, by omega, hf⟩
    | none =>
      rw [e] at h
      exact ⟨k, by omega, h⟩
/-- Trade finds nothing exactly where there is no trade. -/
theorem trade_none {p : Int → Bool} {n : Nat} (hn : n ≤ 5) (h : tradeOf p n = none) {a b c d : Nat} (t : Trades p n a b c d) : False := by
  have h32 : 2 ^ n ≤ 32 := Nat.pow_le_pow_right (n := 2) (by decide) hn
  have H : ∀ a b c d : Nat, a ≤ b → c ≤ d → Trades p n a b c d → False := by
    intro a b c d hab hcd t
    have la := t.la
    have lb := t.lb
    have lc := t.lc
    have ld := t.ld
    have h1 : firstTo (tradeBs p n a) (2 ^ n) = none := by
      have := firstTo_off h a t.la
      simpa [tradeA, t.wa] using this
    have h2 : firstTo (tradeC p a b) (2 ^ n) = none := by
      have := firstTo_off h1 b t.lb
      simpa [tradeBs, t.wb, hab] using this
    have h3 := firstTo_off h2 c t.lc
    have h4 := trade_hit p (a := a) (b := b) (c := c) (d := d) ⟨by omega, by omega⟩ ⟨by omega, by omega⟩ ⟨by omega, by omega⟩ ⟨by omega, by omega⟩ (by omega) (by
      rw [tradeP_I p ⟨by omega, by omega⟩ ⟨by omega, by omega⟩ ⟨by omega, by omega⟩ ⟨by omega, by omega⟩, t.wa, t.wb, t.wc, t.wd, (even_nat a b c d).2 ⟨t.and_, t.or_⟩]
      rfl)
    simp [tradeC, h4.2] at h3
  by_cases hab : a ≤ b
  · by_cases hcd : c ≤ d
    · exact H a b c d hab hcd t
    · exact H a b d c hab (by omega) t.swap'
  · by_cases hcd : c ≤ d
    · exact H b a c d (by omega) hcd t.swap
    · exact H b a d c (by omega) (by omega) t.swap.swap'
/-- What Trade finds is a trade. -/
theorem trade_some {p : Int → Bool} {n : Nat} {a b c : Nat} (h : tradeOf p n = some (a, b, c)) : ∃ d : Nat, fourth a b c = d ∧ Trades p n a b c d := by
  obtain ⟨a', ha, h1⟩ := firstTo_at h
  unfold tradeA at h1
  split at h1
  · rename_i pa
    obtain ⟨b', hb, h2⟩ := firstTo_at h1
    unfold tradeBs at h2
    split at h2
    · rename_i pb
      rw [Bool.and_eq_true] at pb
      obtain ⟨c', hc, h3⟩ := firstTo_at h2
      unfold tradeC at h3
      split at h3
      · rename_i ht
        cases h3
        obtain ⟨d, hd, hdl⟩ := fourth_lt (c := c) ha hb
        unfold tradeB at ht
        rw [hd] at ht
        simp only [Bool.and_eq_true, Bool.not_eq_true', decide_eq_true_eq] at ht
        have he := (even_nat a b c d).1 ht.2.1
        exact ⟨d, hd, ha, hb, hc, hdl, pa, pb.2, ht.2.2.1, ht.2.2.2, he.1, he.2⟩
      · cases h3
    · cases h2
  · cases h1
/-- Weights are found exactly where no trade is. -/
theorem either {p : Int → Bool} {n : Nat} (hn1 : 1 ≤ n) (hn : n ≤ 5) (hmono : Mono p n) (hz : p ((0 : Nat) : Int) = false) (hf : p ((2 ^ n - 1 : Nat) : Int) = true) : 0 < (searchTo p n (9 * n)).1 ↔ tradeOf p n = none := by
  constructor
  · intro h
    have hw := search_sound hn1 h
    cases e : tradeOf p n with
    | none => rfl
    | some x =>
      obtain ⟨a, b, c⟩ := x
      obtain ⟨d, _, t⟩ := trade_some e
      exact (weighs_no_trade hw t).elim
  · intro h
    rcases weights_or_trade p n hn hmono hz hf with ⟨ws, q, hw⟩ | ⟨a, b, c, d, t⟩
    · exact (search_least hn1 hn hw hf hz).1
    · exact (trade_none hn h t).elim
end Go.Proofs.Ytdbleghnblohgaa
