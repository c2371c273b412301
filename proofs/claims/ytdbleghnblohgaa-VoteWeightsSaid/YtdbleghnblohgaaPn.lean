/- Plain definitions: trades. -/
import Derived.Test.YtdbleghnblohgaaPm
namespace Go.Proofs.Ytdbleghnblohgaa

def orI (x s : Int) : Int := ((x.toNat ||| s.toNat : Nat) : Int)
def andNotI (x s : Int) : Int := ((x.toNat - (x.toNat &&& s.toNat) : Nat) : Int)
/-- The drovers of the fourth set: those of a and b that c does not have. -/
def fourth (a b c : Int) : Int := orI (andI a b) (andNotI (orI a b) c)
def evenB (a b c d : Int) : Bool := decide (andI a b = andI c d) && decide (orI a b = orI c d)
def tradeB (p : Int → Bool) (a b c : Int) : Bool := decide (c ≤ fourth a b c) && (evenB a b c (fourth a b c) && (!p c && !p (fourth a b c)))
/-- The first of the numbers below k at which there is something. -/
def firstTo {α : Type} (f : Nat → Option α) : Nat → Option α
  | 0 => none
  | k + 1 => match firstTo f k with
    | some x => some x
    | none => f k
theorem firstTo_some {α : Type} {f : Nat → Option α} {k m : Nat} {x : α} (hk : k ≤ m) (h : firstTo f k = some x) : firstTo f m = some x := by
  induction m with
  | zero => obtain rfl : k = 0 := by omega
            exact h
  | succ m ih =>
    by_cases e : k = m + 1
    · subst e; exact h
    · simp only [firstTo, ih (by omega)]
theorem firstTo_hit {α : Type} {f : Nat → Option α} {k m : Nat} {x : α} (hk : k < m) (h0 : firstTo f k = none) (h : f k = some x) : firstTo f m = some x :=
  firstTo_some (k := k + 1) hk (by simp only [firstTo, h0, h])
theorem firstTo_miss {α : Type} {f : Nat → Option α} {k : Nat} (h0 : firstTo f k = none) (h : f k = none) : firstTo f (k + 1) = none := by simp only [firstTo, h0, h]
theorem firstTo_none {α : Type} {f : Nat → Option α} {k : Nat} (h : ∀ j, j < k → f j = none) : firstTo f k = none := by
  induction k with
  | zero => rfl
  | succ k ih => exact firstTo_miss (ih fun j hj => h j (by omega)) (h k (by omega))
def tradeC (p : Int → Bool) (a b c : Nat) : Option (Nat × Nat × Nat) := if tradeB p a b c then some (a, b, c) else none
def tradeBs (p : Int → Bool) (n a b : Nat) : Option (Nat × Nat × Nat) := if decide (a ≤ b) && p b then firstTo (tradeC p a b) (2 ^ n) else none
def tradeA (p : Int → Bool) (n a : Nat) : Option (Nat × Nat × Nat) := if p a then firstTo (tradeBs p n a) (2 ^ n) else none
def tradeOf (p : Int → Bool) (n : Nat) : Option (Nat × Nat × Nat) := firstTo (tradeA p n) (2 ^ n)
theorem tradeBs_start (p : Int → Bool) (n a : Nat) : firstTo (tradeBs p n a) a = none :=
  firstTo_none fun j hj => by simp [tradeBs, show ¬ a ≤ j by omega]
theorem orI_range (x s : Int) (hx : 0 ≤ x) (hx' : x < 32) (hs : 0 ≤ s) (hs' : s < 32) : 0 ≤ orI x s ∧ orI x s < 32 := by
  have : x.toNat ||| s.toNat < 2 ^ 5 := Nat.or_lt_two_pow (by omega) (by omega)
  unfold orI
  omega
theorem andI_range (x s : Int) (hx' : x < 32) : 0 ≤ andI x s ∧ andI x s < 32 := by
  have : x.toNat &&& s.toNat ≤ x.toNat := Nat.and_le_left
  unfold andI
  omega
theorem andNotI_range (x s : Int) (hx' : x < 32) : 0 ≤ andNotI x s ∧ andNotI x s < 32 := by
  unfold andNotI
  omega
theorem fourth_range (a b c : Int) (ha : 0 ≤ a) (ha' : a < 32) (hb : 0 ≤ b) (hb' : b < 32) : 0 ≤ fourth a b c ∧ fourth a b c < 32 := by
  have h1 := andI_range a b ha'
  have h2 := orI_range a b ha ha' hb hb'
  have h3 := andNotI_range (orI a b) c h2.2
  exact orI_range _ _ h1.1 h1.2 h3.1 h3.2
end Go.Proofs.Ytdbleghnblohgaa
