/- What the found weights of a rule are: a body with the rule's sets. -/
import Derived.Test.YtdbleghnblohgaaQc
import Derived.Test.YtdbleghnblohgaaWg
namespace Go.Proofs.Ytdbleghnblohgaa

theorem weighs_body {p : Int → Bool} {n : Nat} (hn1 : 1 ≤ n) (hn : n ≤ 5) {ws : List Int} {q : Int} (h : Weighs p n ws q) (hf : p ((2 ^ n - 1 : Nat) : Int) = true) (hz : p ((0 : Nat) : Int) = false) : bodyB q ws = true := by
  obtain ⟨h1, h2, _⟩ := weighs_sum hn h hf hz
  have hl := h.len
  refine decide_eq_true ⟨by omega, by omega, fun j hj => ?_, h1, by rw [hl]; exact h2⟩
  have := h.light j (by omega)
  omega
theorem weighs_win {p : Int → Bool} {n : Nat} {ws : List Int} {q : Int} (h : Weighs p n ws q) (s : Nat) (hs : s < 2 ^ n) : winB q ws s = p s := by
  rw [h.fits s hs, winB, h.len]
theorem weighs_least {m : Nat} {l : List Int} (hr : isRule m l = true) {ws : List Int} {q : Int} (h : Weighs (ruleB l) m ws q) : leastTo (winB q ws) ws.length (2 ^ ws.length) = l := by
  have h5 := ((rule_iff m l).1 hr).hi
  rw [h.len, least_congr (winB q ws) (ruleB l) m (by omega) (fun s hs => weighs_win h s hs)]
  exact least_of_rule hr
theorem rule_bounds {m : Nat} {l : List Int} (hr : isRule m l = true) : 1 ≤ m ∧ m ≤ 5 ∧ Mono (ruleB l) m ∧ ruleB l ((0 : Nat) : Int) = false ∧ ruleB l ((2 ^ m - 1 : Nat) : Int) = true := by
  have h := (rule_iff m l).1 hr
  exact ⟨h.lo, h.hi, rule_mono h, rule_zero h, rule_full h⟩
/-- Four sets that are judged a trade are one. -/
theorem judged_trades {p : Int → Bool} {m : Nat} {a b c d : Int} (hin : inFour m a b c d) (h : tradeP p a b c d = true) : ∃ a' b' c' d' : Nat, Trades p m a' b' c' d' := by
  obtain ⟨⟨i0, j0⟩, ⟨i1, j1⟩, ⟨i2, j2⟩, i3, j3⟩ := hin
  have hp := nat_pow m
  obtain ⟨a, rfl⟩ := Int.eq_ofNat_of_zero_le i0
  obtain ⟨b, rfl⟩ := Int.eq_ofNat_of_zero_le i1
  obtain ⟨c, rfl⟩ := Int.eq_ofNat_of_zero_le i2
  obtain ⟨d, rfl⟩ := Int.eq_ofNat_of_zero_le i3
  simp only [tradeP, Bool.and_eq_true, Bool.not_eq_true'] at h
  obtain ⟨h1, h2, h3, h4, h5⟩ := h
  have he := (even_nat a b c d).1 h5
  exact ⟨a, b, c, d, by omega, by omega, by omega, by omega, h1, h2, h3, h4, he.1, he.2⟩
theorem trades_judged {p : Int → Bool} {m : Nat} {a b c d : Nat} (t : Trades p m a b c d) : inFour m a b c d ∧ tradeP p a b c d = true := by
  have hp := nat_pow m
  have h1 := t.la
  have h2 := t.lb
  have h3 := t.lc
  have h4 := t.ld
  refine ⟨⟨⟨by omega, by omega⟩, ⟨by omega, by omega⟩, ⟨by omega, by omega⟩, by omega, by omega⟩, ?_⟩
  simp only [tradeP, t.wa, t.wb, t.wc, t.wd, (even_nat a b c d).2 ⟨t.and_, t.or_⟩]
  rfl
end Go.Proofs.Ytdbleghnblohgaa
