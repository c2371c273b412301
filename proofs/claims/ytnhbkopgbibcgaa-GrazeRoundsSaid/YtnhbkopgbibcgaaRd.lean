/- Plain laws: days come around. -/
import Derived.Test.YtnhbkopgbibcgaaRb
import Derived.Test.YtnhbkopgbibcgaaRc
import Derived.Test.YtnhbkopgbibcgaaRf
import Derived.Test.YtnhbkopgbibcgaaHg
namespace Go.Proofs.Ytnhbkopgbibcgaa

theorem six6 {P : Nat → Nat → Prop} (h11 : P 1 1) (h12 : P 1 2) (h13 : P 1 3) (h14 : P 1 4) (h15 : P 1 5) (h16 : P 1 6) (h21 : P 2 1) (h22 : P 2 2) (h23 : P 2 3) (h24 : P 2 4) (h25 : P 2 5) (h26 : P 2 6)
    (h31 : P 3 1) (h32 : P 3 2) (h33 : P 3 3) (h34 : P 3 4) (h35 : P 3 5) (h36 : P 3 6) (h41 : P 4 1) (h42 : P 4 2) (h43 : P 4 3) (h44 : P 4 4) (h45 : P 4 5) (h46 : P 4 6)
    (h51 : P 5 1) (h52 : P 5 2) (h53 : P 5 3) (h54 : P 5 4) (h55 : P 5 5) (h56 : P 5 6) (h61 : P 6 1) (h62 : P 6 2) (h63 : P 6 3) (h64 : P 6 4) (h65 : P 6 5) (h66 : P 6 6)
    {n m : Nat} (hn1 : 1 ≤ n) (hn6 : n ≤ 6) (hm1 : 1 ≤ m) (hm6 : m ≤ 6) : P n m := by
  have a : n = 1 ∨ n = 2 ∨ n = 3 ∨ n = 4 ∨ n = 5 ∨ n = 6 := by omega
  have b : m = 1 ∨ m = 2 ∨ m = 3 ∨ m = 4 ∨ m = 5 ∨ m = 6 := by omega
  rcases a with rfl | rfl | rfl | rfl | rfl | rfl <;> rcases b with rfl | rfl | rfl | rfl | rfl | rfl <;> assumption
theorem dy_all {n m : Nat} (hn1 : 1 ≤ n) (hn6 : n ≤ 6) (hm1 : 1 ≤ m) (hm6 : m ≤ 6) : (stF n m []).all (daysB n m) = true :=
  six6 (P := fun n m => (stF n m []).all (daysB n m) = true) dy11 dy12 dy13 dy14 dy15 dy16 dy21 dy22 dy23 dy24 dy25 dy26 dy31 dy32 dy33 dy34 dy35 dy36 dy41 dy42 dy43 dy44 dy45 dy46 dy51 dy52 dy53 dy54 dy55 dy56 dy61 dy62 dy63 dy64 dy65 dy66 hn1 hn6 hm1 hm6
/-- The sum of the first k numbers. -/
def sumF (f : Nat → Int) : Nat → Int
  | 0 => 0
  | k + 1 => sumF f k + f k
theorem sumF_front (f : Nat → Int) (k : Nat) : sumF f (k + 1) = f 0 + sumF (fun i => f (i + 1)) k := by
  induction k with
  | zero => simp [sumF]
  | succ k ih => rw [sumF, ih, sumF]; omega
theorem sumF_congr {f g : Nat → Int} (k : Nat) (h : ∀ i, i < k → f i = g i) : sumF f k = sumF g k := by
  induction k with
  | zero => rfl
  | succ k ih => rw [sumF, sumF, ih (fun i hi => h i (by omega)), h k (by omega)]
theorem sumF_split (f : Nat → Int) (a k : Nat) : sumF f (a + k) = sumF f a + sumF (fun i => f (a + i)) k := by
  induction k with
  | zero => simp [sumF]
  | succ k ih => rw [← Nat.add_assoc, sumF, ih, sumF]; omega
theorem sumF_mul (f : Nat → Int) (k : Nat) (hp : ∀ i, f (k + i) = f i) (q : Nat) : sumF f (k * q) = q * sumF f k := by
  induction q with
  | zero => simp [sumF]
  | succ q ih =>
    rw [Nat.mul_succ, Nat.add_comm, sumF_split, sumF_congr (k * q) (fun i _ => hp i), ih]
    simp only [Int.natCast_add, Int.natCast_one, Int.add_mul, Int.one_mul]
    omega
theorem iterDay_add (b : Nat) (l : List Int) (i j : Nat) : iterDay b (iterDay b l i) j = iterDay b l (i + j) := by
  induction j with
  | zero => rfl
  | succ j ih => rw [← Nat.add_assoc]; show dayP b _ = dayP b _; rw [ih]
/-- A run of days, by the program's day. -/
theorem runM_days {n m : Nat} (hn1 : 1 ≤ n) (hn6 : n ≤ 6) (hm1 : 1 ≤ m) (hm6 : m ≤ 6) (l : List Int) : ∀ (k : Nat) (cur : List Int) (g : Int) (e : Nat), stateB n m cur = true → runM n m l k cur g e = true →
    iterDay m cur k = l ∧ 2 * (g + sumF (fun i => sumL (iterDay m cur i)) k) = (n * m * (n + m) : Nat) ∧ (e : Int) + sumF (fun i => ((endPlots m (iterDay m cur i)).length : Int)) k = (n * m : Nat)
  | 0, cur, g, e, _, h => by
    simp only [runM, Bool.and_eq_true, decide_eq_true_eq] at h
    refine ⟨h.1.1, ?_, ?_⟩
    · rw [← h.1.2]; simp [sumF]
    · rw [h.2]; simp [sumF]
  | k + 1, cur, g, e, hs, h => by
    have hd := day_state hn1 hn6 hm1 hm6 hs
    rw [runM, ← hd.1] at h
    obtain ⟨h1, h2, h3⟩ := runM_days hn1 hn6 hm1 hm6 l k (dayP m cur) (g + sumL cur) (e + endsTo cur cur.length) hd.2 h
    have e1 : ∀ i, iterDay m (dayP m cur) i = iterDay m cur (i + 1) := fun i => by
      rw [show dayP m cur = iterDay m cur 1 from rfl, iterDay_add, Nat.add_comm]
    rw [e1] at h1
    rw [sumF_congr k (fun i _ => by rw [e1 i])] at h2
    rw [sumF_congr k (fun i _ => by rw [e1 i])] at h3
    refine ⟨h1, ?_, ?_⟩
    · rw [sumF_front, ← h2]
      show 2 * (g + (sumL cur + _)) = _
      rw [Int.add_assoc]
    · rw [sumF_front, ← h3]
      show (e : Int) + (((endPlots m cur).length : Int) + _) = _
      rw [ends_len hs, Int.natCast_add, Int.add_assoc]
theorem days_of {n m : Nat} {l : List Int} (hn1 : 1 ≤ n) (hn6 : n ≤ 6) (hm1 : 1 ≤ m) (hm6 : m ≤ 6) (hs : stateB n m l = true) :
    iterDay m l (n + m) = l ∧ 2 * sumF (fun i => sumL (iterDay m l i)) (n + m) = (n * m * (n + m) : Nat) ∧ sumF (fun i => ((endPlots m (iterDay m l i)).length : Int)) (n + m) = (n * m : Nat) ∧ backP m (dayP m l) = l := by
  have h := List.all_eq_true.1 (dy_all hn1 hn6 hm1 hm6) l (state_mem hs)
  simp only [daysB, Bool.and_eq_true, decide_eq_true_eq] at h
  obtain ⟨h1, h2, h3⟩ := runM_days hn1 hn6 hm1 hm6 l (n + m) l 0 0 hs h.1
  have hd := day_state hn1 hn6 hm1 hm6 hs
  refine ⟨h1, by simpa using h2, by simpa using h3, ?_⟩
  rw [backP_q hd.2, hd.1]
  exact h.2
theorem iter_states {n m : Nat} {l : List Int} (hn1 : 1 ≤ n) (hn6 : n ≤ 6) (hm1 : 1 ≤ m) (hm6 : m ≤ 6) (hs : stateB n m l = true) (k : Nat) : stateB n m (iterDay m l k) = true := by
  induction k with
  | zero => exact hs
  | succ k ih => exact (day_state hn1 hn6 hm1 hm6 ih).2
theorem iter_mul {m : Nat} {l : List Int} {k : Nat} (h : iterDay m l k = l) (q : Nat) : iterDay m l (k * q) = l := by
  induction q with
  | zero => rfl
  | succ q ih => rw [Nat.mul_succ, ← iterDay_add, ih, h]
theorem iter_mod {m : Nat} {l : List Int} {k : Nat} (h : iterDay m l k = l) (x : Nat) : iterDay m l (x % k) = iterDay m l x := by
  have e := Nat.div_add_mod x k
  rw [← e, ← iterDay_add, iter_mul h, Nat.mul_add_mod]
  congr 1
  exact Nat.mod_mod x k
theorem per_dvd {m : Nat} {l : List Int} {k N : Nat} (h : IsPer m l k) (hN : iterDay m l N = l) : N % k = 0 := by
  rcases Nat.eq_zero_or_pos (N % k) with e | e
  · exact e
  · exact absurd ((iter_mod h.back N).trans hN) (h.first _ e (Nat.mod_lt _ h.pos))
theorem means_of {n m : Nat} {l : List Int} {k : Nat} (hn1 : 1 ≤ n) (hn6 : n ≤ 6) (hm1 : 1 ≤ m) (hm6 : m ≤ 6) (hs : stateB n m l = true) (hp : IsPer m l k) :
    2 * sumF (fun i => sumL (iterDay m l i)) k = (n : Int) * m * k ∧ ((n : Int) + m) * sumF (fun i => ((endPlots m (iterDay m l i)).length : Int)) k = (n : Int) * m * k := by
  obtain ⟨h1, h2, h3, _⟩ := days_of hn1 hn6 hm1 hm6 hs
  have hd := per_dvd hp h1
  obtain ⟨q, hq⟩ : ∃ q, n + m = k * q := ⟨(n + m) / k, by have := Nat.div_add_mod (n + m) k; omega⟩
  have hq0 : (0 : Int) < q := by
    rcases Nat.eq_zero_or_pos q with e | e
    · rw [e] at hq; omega
    · omega
  have hper : ∀ i, iterDay m l (k + i) = iterDay m l i := fun i => by rw [← iterDay_add, hp.back]
  rw [hq, sumF_mul _ k (fun i => by rw [hper])] at h2
  rw [hq, sumF_mul _ k (fun i => by rw [hper])] at h3
  have hc : ((n : Int) + m) = k * q := by have := congrArg (Nat.cast (R := Int)) hq; simpa using this
  constructor
  · apply Int.eq_of_mul_eq_mul_left (a := (q : Int)) (by omega)
    have e : ((n * m * (k * q) : Nat) : Int) = (q : Int) * ((n : Int) * m * k) := by
      simp only [Int.natCast_mul]
      rw [← Int.mul_assoc ((n : Int) * m), Int.mul_comm _ (q : Int)]
    rw [← e, ← h2, ← Int.mul_assoc, Int.mul_comm (q : Int) 2, Int.mul_assoc]
  · rw [hc]
    have e : ((n * m : Nat) : Int) = (n : Int) * m := by simp
    rw [e] at h3
    rw [← h3, Int.mul_assoc, Int.mul_comm (q * _) (k : Int)]
end Go.Proofs.Ytnhbkopgbibcgaa
