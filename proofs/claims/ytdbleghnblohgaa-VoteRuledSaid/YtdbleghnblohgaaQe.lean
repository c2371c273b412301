/- The plain law of a body's rule: its least sets are a rule, and the search finds weights for it. -/
import Derived.Test.YtdbleghnblohgaaQd
namespace Go.Proofs.Ytdbleghnblohgaa

theorem win_mono' {q : Int} {l : List Int} (hbody : bodyB q l = true) : Mono (winB q l) l.length := by
  obtain ⟨_, hw⟩ := Body.weights hbody
  intro a b _ _ hab hp
  exact win_sub q l hw.out a b hab hp
theorem win_zero {q : Int} {l : List Int} (hbody : bodyB q l = true) : winB q l ((0 : Nat) : Int) = false := by
  have h := of_decide_eq_true hbody
  rw [winB, show ((0 : Nat) : Int) = 0 from rfl, sum_zero]
  exact decide_eq_false (by have := h.2.2.2.1; omega)
theorem win_full {q : Int} {l : List Int} (hbody : bodyB q l = true) : winB q l ((2 ^ l.length - 1 : Nat) : Int) = true := by
  have h := of_decide_eq_true hbody
  rw [winB, sum_full l l.length h.2.1 l.length (Nat.le_refl _)]
  exact decide_eq_true h.2.2.2.2
/-- The rule of a body. -/
def ruleOf (q : Int) (l : List Int) : List Int := leastTo (winB q l) l.length (2 ^ l.length)
theorem ruleOf_rule {q : Int} {l : List Int} (hbody : bodyB q l = true) (h5 : l.length ≤ 5) : isRule l.length (ruleOf q l) = true :=
  least_rule _ _ (of_decide_eq_true hbody).1 h5 (win_mono' hbody) (win_zero hbody) (win_full hbody)
theorem ruleOf_sets {q : Int} {l : List Int} (hbody : bodyB q l = true) (s : Nat) (hs : s < 2 ^ l.length) : ruleB (ruleOf q l) s = winB q l s :=
  rule_least _ _ (Body.weights hbody).1 (win_mono' hbody) s hs
theorem fits_no_trade {p : Int → Bool} {n : Nat} {ws : List Int} {q : Int} (h : ∀ s : Nat, s < 2 ^ n → p s = decide (q ≤ sumTo ws s n)) {a b c d : Nat} (t : Trades p n a b c d) : False := by
  have h1 := h a t.la
  have h2 := h b t.lb
  have h3 := h c t.lc
  have h4 := h d t.ld
  rw [t.wa] at h1
  rw [t.wb] at h2
  rw [t.wc] at h3
  rw [t.wd] at h4
  have h1 := of_decide_eq_true h1.symm
  have h2 := of_decide_eq_true h2.symm
  have h3 := of_decide_eq_false h3.symm
  have h4 := of_decide_eq_false h4.symm
  have := sum_swap ws a b c d t.and_ t.or_ n
  omega
theorem ruleOf_fits {q : Int} {l : List Int} (hbody : bodyB q l = true) : ∀ s : Nat, s < 2 ^ l.length → ruleB (ruleOf q l) s = decide (q ≤ sumTo l s l.length) := fun s hs => ruleOf_sets hbody s hs
theorem ruleOf_found {q : Int} {l : List Int} (hbody : bodyB q l = true) (h5 : l.length ≤ 5) : 0 < (searchTo (ruleB (ruleOf q l)) l.length (9 * l.length)).1 := by
  obtain ⟨h1, h5, hmono, hz, hf⟩ := rule_bounds (ruleOf_rule hbody h5)
  refine (either h1 h5 hmono hz hf).2 ?_
  cases e : tradeOf (ruleB (ruleOf q l)) l.length with
  | none => rfl
  | some t =>
    obtain ⟨a, b, c⟩ := t
    obtain ⟨d, _, tt⟩ := trade_some e
    exact (fits_no_trade (ruleOf_fits hbody) tt).elim
theorem ruleOf_less {q : Int} {l : List Int} (hbody : bodyB q l = true) (h5 : l.length ≤ 5) (hl : LightTo l l.length) : allTo (searchTo (ruleB (ruleOf q l)) l.length (9 * l.length)).2 l.length ≤ allTo l l.length := by
  obtain ⟨h1, h5, _, hz, hf⟩ := rule_bounds (ruleOf_rule hbody h5)
  exact (search_least h1 h5 ⟨rfl, hl, ruleOf_fits hbody⟩ hf hz).2
/-- Are the first k weights at most 9? -/
def lightTo (l : List Int) : Nat → Bool
  | 0 => true
  | k + 1 => lightTo l k && decide (l.getD k 0 ≤ 9)
theorem lightTo_iff (l : List Int) (k : Nat) (h : lightTo l k = true) : ∀ j, j < k → l.getD j 0 ≤ 9 := by
  induction k with
  | zero => intro j hj; omega
  | succ k ih =>
    simp only [lightTo, Bool.and_eq_true, decide_eq_true_eq] at h
    intro j hj
    by_cases e : j = k
    · subst e; exact h.2
    · exact ih h.1 j (by omega)
end Go.Proofs.Ytdbleghnblohgaa
