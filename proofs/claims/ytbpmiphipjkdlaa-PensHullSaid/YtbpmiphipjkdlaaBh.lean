/- Plain: twice the area and the points on the border are both even or both odd; pens that are times as great. -/
import Derived.Test.YtbpmiphipjkdlaaBd
namespace Go.Proofs.Ytbpmiphipjkdlaa
open Go.RowKit Go.Shelf

theorem mul_mod2 (p q : Int) : (p * q) % 2 = if p % 2 = 1 ∧ q % 2 = 1 then 1 else 0 := by
  rw [Int.mul_emod]
  rcases Int.emod_two_eq p with h | h <;> rcases Int.emod_two_eq q with g | g <;> rw [h, g] <;> rfl
theorem gcd_mod2 (a b : Int) : (Int.gcd a b : Int) % 2 = if a % 2 = 0 ∧ b % 2 = 0 then 0 else 1 := by
  have h : (2 : Int) ∣ (Int.gcd a b : Int) ↔ a % 2 = 0 ∧ b % 2 = 0 := by
    rw [Int.dvd_coe_gcd_iff]
    omega
  split
  · next e => have := h.2 e; omega
  · next e => have := mt h.1 e; omega
def phi2 (p : Int × Int) : Int := p.1 + p.2 + p.1 * p.2
theorem side_even (s : (Int × Int) × (Int × Int)) : (crossS s + gcdS s + phi2 s.1 + phi2 s.2) % 2 = 0 := by
  obtain ⟨⟨x, y⟩, z, t⟩ := s
  unfold crossS gcdS phi2 crossP
  simp only
  have h0 := gcd_mod2 (x - z) (y - t)
  have h1 := mul_mod2 x t
  have h2 := mul_mod2 y z
  have h3 := mul_mod2 x y
  have h4 := mul_mod2 z t
  obtain ⟨g, hg⟩ : ∃ g, g = (Int.gcd (x - z) (y - t) : Int) := ⟨_, rfl⟩
  rw [← hg] at h0 ⊢
  rcases Int.emod_two_eq x with a | a <;> rcases Int.emod_two_eq y with b | b <;> rcases Int.emod_two_eq z with c | c <;> rcases Int.emod_two_eq t with d | d <;>
    simp only [a, b, c, d] at h1 h2 h3 h4 <;> split at h0 <;> simp at h1 h2 h3 h4 <;> omega
theorem sum_around (f : Int × Int → Int) (xs : PtL) (h : 1 ≤ xs.length) : sumTo (fun s => f s.2) xs xs.length = sumTo (fun s => f s.1) xs xs.length := by
  have key : ∀ k, k + 1 ≤ xs.length → sumTo (fun s => f s.2) xs k + f (xs.getD 0 (0, 0)) = sumTo (fun s => f s.1) xs k + f (xs.getD k (0, 0)) := by
    intro k
    induction k with
    | zero => intro _; rfl
    | succ k ih =>
      intro hk
      have := ih (by omega)
      have e1 : (sideAt xs k).2 = xs.getD (k + 1) (0, 0) := by unfold sideAt; simp only; rw [Nat.mod_eq_of_lt (by omega)]
      have e2 : (sideAt xs k).1 = xs.getD k (0, 0) := rfl
      rw [sumTo, sumTo, e1, e2]
      omega
  obtain ⟨n, hn⟩ : ∃ n, xs.length = n + 1 := ⟨xs.length - 1, by omega⟩
  have h1 := key n (by omega)
  have e1 : (sideAt xs n).2 = xs.getD 0 (0, 0) := by unfold sideAt; simp only; rw [hn, Nat.mod_self]
  have e2 : (sideAt xs n).1 = xs.getD n (0, 0) := rfl
  rw [hn, sumTo, sumTo, e1, e2]
  omega
theorem sums_even (xs : PtL) : ∀ k, (sumTo crossS xs k + sumTo gcdS xs k + sumTo (fun s => phi2 s.1) xs k + sumTo (fun s => phi2 s.2) xs k) % 2 = 0
  | 0 => rfl
  | k + 1 => by
    have h1 := sums_even xs k
    have h2 := side_even (sideAt xs k)
    simp only [sumTo]
    omega
theorem parity (xs : PtL) (h : 1 ≤ xs.length) : (twiceP xs + borderP xs) % 2 = 0 := by
  have h1 := sums_even xs xs.length
  rw [sum_around phi2 xs h, signedR_eq, borderR_eq] at h1
  omega
theorem even_at (xs : PtL) (h : 1 ≤ xs.length) (t : Int) : (((twiceP xs).natAbs : Int) * t * t - borderP xs * t) % 2 = 0 := by
  have h1 := parity xs h
  obtain ⟨a, ha⟩ : ∃ a : Int, a = (twiceP xs).natAbs := ⟨_, rfl⟩
  obtain ⟨b, hb⟩ : ∃ b, b = borderP xs := ⟨_, rfl⟩
  have h2 : (a + b) % 2 = 0 := by omega
  rw [← ha, ← hb]
  have m1 := mul_mod2 (a * t) t
  have m2 := mul_mod2 a t
  have m3 := mul_mod2 b t
  rcases Int.emod_two_eq t with d | d <;> rcases Int.emod_two_eq a with e | e <;> rcases Int.emod_two_eq b with f | f <;> simp only [d, e, f] at m2 m3 <;> simp at m2 m3 <;> simp only [d, m2] at m1 <;> simp at m1 <;> omega
theorem two_ins (xs : PtL) (h : 1 ≤ xs.length) (t : Int) : 2 * insG xs t = (twiceP xs).natAbs * t * t - borderP xs * t + 2 := by
  have := even_at xs h t
  unfold insG
  have e : ((twiceP xs).natAbs * t * t - borderP xs * t + 2).tdiv 2 * 2 = (twiceP xs).natAbs * t * t - borderP xs * t + 2 := Int.tdiv_mul_cancel (by omega)
  omega
theorem two_all (xs : PtL) (h : 1 ≤ xs.length) (t : Int) : 2 * allG xs t = (twiceP xs).natAbs * t * t + borderP xs * t + 2 := by
  have := even_at xs h t
  unfold allG
  obtain ⟨u, hu⟩ : ∃ u, u = borderP xs * t := ⟨_, rfl⟩
  obtain ⟨v, hv⟩ : ∃ v : Int, v = (twiceP xs).natAbs * t * t := ⟨_, rfl⟩
  rw [← hu, ← hv] at this ⊢
  have e : (v + u + 2).tdiv 2 * 2 = v + u + 2 := Int.tdiv_mul_cancel (by omega)
  omega
theorem ins_all (xs : PtL) (h : 1 ≤ xs.length) (t : Int) : insG xs t + borderP xs * t = allG xs t := by
  have h1 := two_ins xs h t
  have h2 := two_all xs h t
  omega
/-- A pen that is times as great. -/
def bigL (t : Int) (xs : PtL) : PtL := xs.map fun p => (t * p.1, t * p.2)
theorem big_len (t : Int) (xs : PtL) : (bigL t xs).length = xs.length := by unfold bigL; simp
theorem big_at (t : Int) (xs : PtL) (i : Nat) : (bigL t xs).getD i (0, 0) = (t * (xs.getD i (0, 0)).1, t * (xs.getD i (0, 0)).2) := by
  unfold bigL
  rw [List.getD_eq_getElem?_getD, List.getD_eq_getElem?_getD, List.getElem?_map]
  cases xs[i]? <;> simp
theorem big_side (t : Int) (xs : PtL) (i : Nat) : sideAt (bigL t xs) i = ((t * (sideAt xs i).1.1, t * (sideAt xs i).1.2), (t * (sideAt xs i).2.1, t * (sideAt xs i).2.2)) := by
  unfold sideAt
  rw [big_at, big_at, big_len]
theorem big_sums (t : Int) (ht : 0 ≤ t) (xs : PtL) : ∀ k, sumTo crossS (bigL t xs) k = t * t * sumTo crossS xs k ∧ sumTo gcdS (bigL t xs) k = t * sumTo gcdS xs k
  | 0 => by simp [sumTo]
  | k + 1 => by
    obtain ⟨h1, h2⟩ := big_sums t ht xs k
    simp only [sumTo]
    rw [h1, h2, big_side]
    constructor
    · unfold crossS crossP
      simp only
      grind
    · unfold gcdS
      simp only
      rw [← Int.mul_sub, ← Int.mul_sub, Int.gcd_mul_left, Int.natCast_mul, Int.mul_add]
      congr 2
      omega
theorem big_twice (t : Int) (ht : 0 ≤ t) (xs : PtL) : ((twiceP (bigL t xs)).natAbs : Int) = (twiceP xs).natAbs * t * t := by
  have h := (big_sums t ht xs (bigL t xs).length).1
  rw [signedR_eq, big_len, signedR_eq] at h
  rw [h, Int.natAbs_mul, Int.natAbs_mul]
  have : (t.natAbs : Int) = t := by omega
  simp only [Int.natCast_mul, this]
  grind
theorem big_border (t : Int) (ht : 0 ≤ t) (xs : PtL) : borderP (bigL t xs) = borderP xs * t := by
  have h := (big_sums t ht xs (bigL t xs).length).2
  rw [borderR_eq, big_len, borderR_eq] at h
  rw [h, Int.mul_comm]
theorem big_ins (t : Int) (ht : 0 ≤ t) (xs : PtL) : insG (bigL t xs) 1 = insG xs t := by
  unfold insG
  rw [big_twice t ht, big_border t ht]
  simp
end Go.Proofs.Ytbpmiphipjkdlaa
