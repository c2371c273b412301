/- The plain law of trades: by the common drovers, and by how many each drover is in. -/
import Derived.Test.YtdbleghnblohgaaWf
import Derived.Test.YtdbleghnblohgaaPo
namespace Go.Proofs.Ytdbleghnblohgaa

def spreadTo (x y : Int) : Int × Int := (andI x y, orI x y)
/-- The common drovers of two sets and all their drovers, from how many of the sets each drover is in. -/
def backTo (g : Int) : Nat → Int × Int
  | 0 => (0, 0)
  | k + 1 => ((backTo g k).1 + (g / 4 ^ k % 4) / 2 * 2 ^ k, (backTo g k).2 + (if g / 4 ^ k % 4 = 0 then 0 else 1) * 2 ^ k)
theorem spread_all : ∀ x y : Fin 32, bothTo ((x.val : Nat) : Int) ((y.val : Nat) : Int) 5 = bothTo (andI ((x.val : Nat) : Int) ((y.val : Nat) : Int)) (orI ((x.val : Nat) : Int) ((y.val : Nat) : Int)) 5 ∧ backTo (bothTo ((x.val : Nat) : Int) ((y.val : Nat) : Int) 5) 5 = (andI ((x.val : Nat) : Int) ((y.val : Nat) : Int), orI ((x.val : Nat) : Int) ((y.val : Nat) : Int)) := by decide +kernel
theorem Set5.nat {x : Int} (h : Set5 x) : ∃ n : Fin 32, x = ((n.val : Nat) : Int) := by
  obtain ⟨n, rfl⟩ := Int.eq_ofNat_of_zero_le h.lo
  exact ⟨⟨n, by have := h.hi; omega⟩, rfl⟩
theorem even_both {a b c d : Int} (ha : Set5 a) (hb : Set5 b) (hc : Set5 c) (hd : Set5 d) : evenB a b c d = decide (bothTo a b 5 = bothTo c d 5) := by
  obtain ⟨a, rfl⟩ := ha.nat
  obtain ⟨b, rfl⟩ := hb.nat
  obtain ⟨c, rfl⟩ := hc.nat
  obtain ⟨d, rfl⟩ := hd.nat
  have h1 := spread_all a b
  have h2 := spread_all c d
  unfold evenB
  by_cases e : bothTo ((a.val : Nat) : Int) ((b.val : Nat) : Int) 5 = bothTo ((c.val : Nat) : Int) ((d.val : Nat) : Int) 5
  · have h3 := h1.2
    rw [e, h2.2] at h3
    have h4 := congrArg Prod.fst h3
    have h5 := congrArg Prod.snd h3
    simp only at h4 h5
    rw [decide_eq_true e, decide_eq_true h4.symm, decide_eq_true h5.symm]
    rfl
  · rw [decide_eq_false e, Bool.and_eq_false_iff]
    by_cases h4 : andI ((a.val : Nat) : Int) ((b.val : Nat) : Int) = andI ((c.val : Nat) : Int) ((d.val : Nat) : Int)
    · right
      refine decide_eq_false fun h5 => e ?_
      rw [h1.1, h2.1, h4, h5]
    · exact Or.inl (decide_eq_false h4)
theorem tradeP_I (p : Int → Bool) {a b c d : Int} (ha : Set5 a) (hb : Set5 b) (hc : Set5 c) (hd : Set5 d) : tradeI p a b c d = (p a && (p b && (!p c && (!p d && evenB a b c d)))) := by
  rw [even_both ha hb hc hd]
  rfl
theorem fourth_back : ∀ c d : Fin 32, orI (andI ((c.val : Nat) : Int) ((d.val : Nat) : Int)) (andNotI (orI ((c.val : Nat) : Int) ((d.val : Nat) : Int)) ((c.val : Nat) : Int)) = ((d.val : Nat) : Int) := by decide +kernel
theorem even_fourth {a b c d : Int} (hc : Set5 c) (hd : Set5 d) (h : evenB a b c d = true) : d = fourth a b c := by
  simp only [evenB, Bool.and_eq_true, decide_eq_true_eq] at h
  obtain ⟨c, rfl⟩ := hc.nat
  obtain ⟨d, rfl⟩ := hd.nat
  unfold fourth
  rw [h.1, h.2]
  exact (fourth_back c d).symm
theorem fourth_lt {n : Nat} {a b c : Nat} (ha : a < 2 ^ n) (hb : b < 2 ^ n) : ∃ d : Nat, fourth a b c = d ∧ d < 2 ^ n := by
  refine ⟨_, rfl, ?_⟩
  have h1 : a &&& b < 2 ^ n := Nat.lt_of_le_of_lt Nat.and_le_left ha
  have h2 : a ||| b < 2 ^ n := Nat.or_lt_two_pow ha hb
  simp only [andI, orI, andNotI, Int.toNat_natCast]
  exact Nat.or_lt_two_pow h1 (by omega)
/-- The fourth set that makes a trade: just the one that is tried. -/
theorem trade_hit (p : Int → Bool) {a b c d : Int} (ha : Set5 a) (hb : Set5 b) (hc : Set5 c) (hd : Set5 d) (hcd : c ≤ d) (h : tradeI p a b c d = true) : d = fourth a b c ∧ tradeB p a b c = true := by
  rw [tradeP_I p ha hb hc hd] at h
  simp only [Bool.and_eq_true, Bool.not_eq_true'] at h
  obtain ⟨_, _, h3, h4, h5⟩ := h
  have e := even_fourth hc hd h5
  refine ⟨e, ?_⟩
  unfold tradeB
  rw [← e, h5, h3, h4, decide_eq_true hcd]
  rfl
theorem trade_miss (p : Int → Bool) (n : Nat) (hn : n ≤ 5) {a b c : Nat} (ha : a < 2 ^ n) (hb : b < 2 ^ n) (hc : c < 2 ^ n) (pa : p a = true) (pb : p b = true) (h : ∀ d : Nat, c ≤ d → d < 2 ^ n → tradeI p a b c d = false) : tradeB p a b c = false := by
  cases e : tradeB p a b c
  · rfl
  · exfalso
    obtain ⟨d, hd, hdl⟩ := fourth_lt (c := c) ha hb
    have h32 : 2 ^ n ≤ 32 := Nat.pow_le_pow_right (n := 2) (by decide) hn
    unfold tradeB at e
    rw [hd] at e
    simp only [Bool.and_eq_true, Bool.not_eq_true', decide_eq_true_eq] at e
    have := h d (by omega) hdl
    rw [tradeP_I p ⟨by omega, by omega⟩ ⟨by omega, by omega⟩ ⟨by omega, by omega⟩ ⟨by omega, by omega⟩, pa, pb, e.2.1, e.2.2.1, e.2.2.2] at this
    cases this
end Go.Proofs.Ytdbleghnblohgaa
