/- Plain: all turns along a pen. -/
import Derived.Test.YtbpmiphipjkdlaaKa
namespace Go.Proofs.Ytbpmiphipjkdlaa.Pk
/-- Turns over m sides from side J on, seen from p. -/
def rowW (p : V) (v : Nat → V) (J : Nat) : Nat → Int
  | 0 => 0
  | m + 1 => rowW p v J m + W (vsub (v (J + m)) p) (vsub (v (J + m + 1)) p)
theorem rowW_first (p : V) (v : Nat → V) (J : Nat) : ∀ m, rowW p v J (m + 1) = W (vsub (v J) p) (vsub (v (J + 1)) p) + rowW p v (J + 1) m
  | 0 => by simp [rowW]
  | m + 1 => by
    rw [rowW, rowW_first p v J m, rowW, show J + (m + 1) = J + 1 + m by omega]
    omega
theorem rowW_move {p q : V} {v : Nat → V} {J : Nat} : ∀ m, (∀ t, t < m → Sep p q (v (J + t)) (v (J + t + 1))) →
    rowW p v J m + W (vsub (v (J + m)) p) (vsub (v (J + m)) q) = W (vsub (v J) p) (vsub (v J) q) + rowW q v J m
  | 0, _ => by simp [rowW]
  | m + 1, h => by
    have h1 := rowW_move m (fun t ht => h t (by omega))
    have h2 := pl (h m (by omega))
    rw [rowW, rowW, show J + (m + 1) = J + m + 1 by omega]
    omega
theorem rowW_half {n p : V} {v : Nat → V} {J : Nat} : ∀ m, (∀ t, t ≤ m → 0 < dt n (vsub (v (J + t)) p)) → rowW p v J m = W (vsub (v J) p) (vsub (v (J + m)) p)
  | 0, _ => by simp [rowW, W_self]
  | m + 1, h => by
    rw [rowW, rowW_half m (fun t ht => h t (by omega))]
    exact W_trans (h 0 (by omega)) (h m (by omega)) (h (m + 1) (by omega))
theorem rowW_shift {p : V} {v : Nat → V} {n : Nat} (hp : ∀ i, v (i + n) = v i) (J : Nat) : ∀ m, rowW p v (J + n) m = rowW p v J m
  | 0 => rfl
  | m + 1 => by rw [rowW, rowW, rowW_shift hp J m, show J + n + m = J + m + n by omega, show J + m + n + 1 = J + m + 1 + n by omega, hp, hp]
theorem rowW_around {p : V} {v : Nat → V} {n : Nat} (hp : ∀ i, v (i + n) = v i) (J : Nat) : rowW p v (J + 1) n = rowW p v J n := by
  have h1 := rowW_first p v J n
  rw [rowW, show J + n + 1 = J + 1 + n by omega, hp, hp] at h1
  omega
theorem rowW_all {p : V} {v : Nat → V} {n : Nat} (hp : ∀ i, v (i + n) = v i) : ∀ J, rowW p v J n = rowW p v 0 n
  | 0 => rfl
  | J + 1 => by rw [rowW_around hp J, rowW_all hp J]
/-- A pen, as a function of all numbers: sides next to each other don't fold back, all others are parted. -/
structure Pen (n : Nat) (v : Nat → V) : Prop where
  n3 : 3 ≤ n
  per : ∀ i, v (i + n) = v i
  ne : ∀ i, v i ≠ v (i + 1)
  fold : ∀ i, ¬ (crs (vsub (v (i + 1)) (v i)) (vsub (v (i + 2)) (v (i + 1))) = 0 ∧ dt (vsub (v (i + 1)) (v i)) (vsub (v (i + 2)) (v (i + 1))) < 0)
  sep : ∀ i j, i + 2 ≤ j → j + 2 ≤ i + n → Sep (v i) (v (i + 1)) (v j) (v (j + 1))
variable {n : Nat} {v : Nat → V}
/-- The way of a side. -/
def dv (v : Nat → V) (i : Nat) : V := vsub (v (i + 1)) (v i)
/-- The turn behind a side. -/
def tau (v : Nat → V) (i : Nat) : Int := W (dv v i) (dv v (i + 1))
/-- What a post sees. -/
def look (n : Nat) (v : Nat → V) (i : Nat) : Int := rowW (v i) v (i + 1) (n - 2)
theorem vsub_eq (a b c : V) : vsub c a = vadd (vsub b a) (vsub c b) := by unfold vsub vadd; exact Prod.ext (by simp only; omega) (by simp only; omega)
theorem vneg_sub (a b : V) : vneg (vsub a b) = vsub b a := by unfold vsub vneg; exact Prod.ext (by simp only; omega) (by simp only; omega)
theorem W_back (a b c d : V) : W (vsub a b) (vsub c d) = W (vsub b a) (vsub d c) := by rw [← W_neg, vneg_sub, vneg_sub]
theorem W_tri (a b c : V) : W (vsub b a) (vsub c a) + W (vsub c a) (vsub c b) = W (vsub b a) (vsub c b) := by
  rw [vsub_eq a b c]
  exact W_add _ _
theorem look_step (h : Pen n v) (i : Nat) : look n v (i + 1) + tau v i = look n v (i + 2) + tau v (i + 1) := by
  have hn := h.n3
  obtain ⟨m, rfl⟩ : ∃ m, n = m + 3 := ⟨n - 3, by omega⟩
  unfold look tau dv
  rw [show m + 3 - 2 = m + 1 by omega, rowW_first, rowW, show i + 2 + 1 + m = i + (m + 3) by omega, show i + (m + 3) + 1 = i + 1 + (m + 3) by omega, h.per, h.per]
  have h1 := rowW_move (p := v (i + 1)) (q := v (i + 2)) (v := v) (J := i + 3) m (fun t ht => h.sep (i + 1) (i + 3 + t) (by omega) (by omega))
  rw [show i + 3 + m = i + (m + 3) by omega, h.per] at h1
  have h2 := W_tri (v (i + 1)) (v (i + 2)) (v (i + 3))
  have h3 := W_tri (v i) (v (i + 1)) (v (i + 2))
  have h4 : W (vsub (v i) (v (i + 1))) (vsub (v i) (v (i + 2))) = W (vsub (v (i + 1)) (v i)) (vsub (v (i + 2)) (v i)) := W_back _ _ _ _
  have h5 : W (vsub (v i) (v (i + 2))) (vsub (v (i + 1)) (v (i + 2))) = W (vsub (v (i + 2)) (v i)) (vsub (v (i + 2)) (v (i + 1))) := W_back _ _ _ _
  have e1 : i + 1 + 1 + 1 = i + 3 := by omega
  have e2 : i + 1 + 1 = i + 2 := by omega
  simp only [e1, e2] at *
  omega
/-- Twice the direction of a pen. -/
def rho (n : Nat) (v : Nat → V) : Int := look n v 1 + tau v 0
theorem look_tau (h : Pen n v) : ∀ i, look n v (i + 1) + tau v i = rho n v
  | 0 => rfl
  | i + 1 => by rw [← look_step h i]; exact look_tau h i
theorem look_per (h : Pen n v) (i : Nat) : look n v (i + n) = look n v i := by
  unfold look
  rw [h.per, show i + n + 1 = i + 1 + n by omega, rowW_shift h.per]
/-- Sum of the first turns. -/
def taus (v : Nat → V) : Nat → Int
  | 0 => 0
  | m + 1 => taus v m + tau v m
theorem taus_part (h : Pen n v) : ∀ m, m ≤ n - 2 → rowW (v 0) v 1 (n - 2) + rowW (v (n - 1)) v 0 m = taus v m + rowW (v m) v (m + 1) (n - 2 - m)
  | 0, _ => by simp [rowW, taus]
  | m + 1, hm => by
    have hn := h.n3
    have h1 := taus_part h m (by omega)
    obtain ⟨k, hk⟩ : ∃ k, n - 2 - m = k + 1 := ⟨n - 3 - m, by omega⟩
    rw [hk, rowW_first] at h1
    rw [rowW, taus, show n - 2 - (m + 1) = k by omega, Nat.zero_add]
    have h2 := rowW_move (p := v m) (q := v (m + 1)) (v := v) (J := m + 2) k (fun t ht => h.sep m (m + 2 + t) (by omega) (by omega))
    rw [show m + 2 + k = n - 1 by omega] at h2
    have h3 := W_tri (v m) (v (m + 1)) (v (m + 2))
    have h4 : W (vsub (v (n - 1)) (v m)) (vsub (v (n - 1)) (v (m + 1))) = W (vsub (v m) (v (n - 1))) (vsub (v (m + 1)) (v (n - 1))) := W_back _ _ _ _
    have e2 : m + 1 + 1 = m + 2 := by omega
    unfold tau dv
    simp only [e2] at *
    omega
theorem taus_all (h : Pen n v) : taus v n = 2 * rho n v := by
  have hn := h.n3
  have h1 := taus_part h (n - 2) (Nat.le_refl _)
  obtain ⟨m, rfl⟩ : ∃ m, n = m + 3 := ⟨n - 3, by omega⟩
  rw [show m + 3 - 2 - (m + 3 - 2) = 0 by omega, rowW, show m + 3 - 2 = m + 1 by omega, show m + 3 - 1 = m + 2 by omega] at h1
  have h2 := look_tau h (m + 1)
  have h3 := look_tau h (m + 2)
  have h4 : look (m + 3) v (m + 2 + 1) = look (m + 3) v 0 := by
    have := look_per h 0
    rwa [Nat.zero_add] at this
  have h5 : look (m + 3) v (m + 1 + 1) = rowW (v (m + 2)) v 0 (m + 1) := by
    have := rowW_shift (p := v (m + 2)) h.per 0 (m + 1)
    rwa [Nat.zero_add] at this
  have h6 : look (m + 3) v 0 = rowW (v 0) v 1 (m + 1) := rfl
  rw [taus, taus]
  omega
/-- All turns seen from a point. -/
def tot (n : Nat) (v : Nat → V) (p : V) : Int := rowW p v 0 n
theorem W_zero_left (a : V) : W (0, 0) a = 0 := by unfold W crs; simp
theorem W_zero_right (a : V) : W a (0, 0) = 0 := by unfold W crs; simp
theorem vsub_self (a : V) : vsub a a = (0, 0) := by unfold vsub; simp
theorem tot_post (h : Pen n v) (i : Nat) : tot n v (v i) = look n v i := by
  have hn := h.n3
  unfold tot look
  rw [← rowW_all h.per i]
  obtain ⟨m, rfl⟩ : ∃ m, n = m + 3 := ⟨n - 3, by omega⟩
  rw [rowW_first, rowW, vsub_self, W_zero_left, show i + 1 + (m + 1) + 1 = i + (m + 3) by omega, h.per, vsub_self, W_zero_right]
  simp
end Go.Proofs.Ytbpmiphipjkdlaa.Pk
