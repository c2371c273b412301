/- Plain law: as many words are the same after q sweeps. -/
import Derived.Test.YtnhbkopgbibcgaaHm
import Derived.Test.YtnhbkopgbibcgaaHl
import Derived.Test.YtnhbkopgbibcgaaGk
namespace Go.Proofs.Ytnhbkopgbibcgaa

/-- Is a word the same, moved by q letters? -/
def rotB (q : Nat) (ws : List UInt8) : Bool := decide (ws.drop q ++ ws.take q = ws)
def rotTo (m q : Nat) (xs : List (List Int)) : Nat → Nat
  | 0 => 0
  | k + 1 => rotTo m q xs k + if rotB q (wordP m (xs.getD k [])) then 1 else 0
theorem rotTo_count (m q : Nat) (xs : List (List Int)) (k : Nat) (hk : k ≤ xs.length) : rotTo m q xs k = (xs.take k).countP fun l => rotB q (wordP m l) := by
  induction k with
  | zero => rfl
  | succ k ih =>
    have e : xs.take (k + 1) = xs.take k ++ [xs.getD k []] := by
      rw [List.take_succ_eq_append_getElem (by omega), List.getD_eq_getElem?_getD, List.getElem?_eq_getElem (by omega)]; rfl
    rw [rotTo, ih (by omega), e, List.countP_append, List.countP_singleton]
theorem rotTo_le (m q : Nat) (xs : List (List Int)) (k : Nat) : rotTo m q xs k ≤ k := by
  induction k with
  | zero => exact Nat.le_refl _
  | succ k ih => rw [rotTo]; split <;> omega
def rotAll : Bool := (List.range 6).all fun n => (List.range 6).all fun m => decide (8 < n + m + 2) || (List.range (n + m + 2)).all fun q => decide ((stF (n + 1) (m + 1) []).countP (fun l => rotB q (wordP (m + 1) l)) = sameP (n + 1) (m + 1) q)
set_option maxRecDepth 100000 in
theorem rot_all : rotAll = true := by decide +kernel
theorem rot_eq {n m q : Nat} (hn1 : 1 ≤ n) (hn6 : n ≤ 6) (hm1 : 1 ≤ m) (hm6 : m ≤ 6) (h8 : n + m ≤ 8) (hq : q < n + m) : rotTo m q (stF n m []) (stF n m []).length = sameP n m q := by
  have h := rot_all
  unfold rotAll at h
  rw [List.all_eq_true] at h
  have h1 := h (n - 1) (by rw [List.mem_range]; omega)
  rw [List.all_eq_true] at h1
  have h2 := h1 (m - 1) (by rw [List.mem_range]; omega)
  rw [show n - 1 + 1 = n by omega, show m - 1 + 1 = m by omega, show n - 1 + (m - 1) + 2 = n + m by omega, decide_eq_false (by omega), Bool.false_or, List.all_eq_true] at h2
  have h3 := h2 q (by rw [List.mem_range]; exact hq)
  rw [rotTo_count _ _ _ _ (Nat.le_refl _), List.take_length]
  exact of_decide_eq_true h3
theorem gcd_flip : ∀ N, N < 13 → ∀ s, s < 13 → s ≤ N → Nat.gcd N (N - s) = Nat.gcd N s := by decide
/-- The greatest common divisor of the days, with their sign. -/
theorem gcd_within (d : Int) (N : Nat) (h1 : 0 < N) (h12 : N ≤ 12) : Nat.gcd N (d.tmod N).natAbs = Nat.gcd N (d % N).toNat := by
  have e0 := Int.emod_nonneg d (show (N : Int) ≠ 0 by omega)
  have e1 := Int.emod_lt_of_pos d (show 0 < (N : Int) by omega)
  by_cases hs : 0 ≤ d ∨ (N : Int) ∣ d
  · have h : d.tmod N = d % N := by rw [Int.tmod_eq_emod, if_pos hs]; simp
    rw [h]
    congr 1
    omega
  · have h : d.tmod N = d % N - N := by rw [Int.tmod_eq_emod, if_neg hs]; simp
    have h2 : (d.tmod N).natAbs = N - (d % N).toNat := by
      rw [h]
      omega
    rw [h2]
    exact gcd_flip N (by omega) _ (by omega) (by omega)
end Go.Proofs.Ytnhbkopgbibcgaa
