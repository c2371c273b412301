/- Plain: lists whose numbers close: their sum is at most 3 n - 6, and where it is 3 n - 6 they are cut ear by ear. -/
import Derived.Test.YtddcdopimpfhcaaFa
namespace Go.Proofs.Ytddcdopimpfhcaa

/-- The step of the numbers between corners, along a list. -/
def runL : List Int → Int × Int → Int × Int
  | [], p => p
  | x :: xs, p => runL xs (x * p.1 - p.2, p.1)
theorem runL_app (xs ys : List Int) (p : Int × Int) : runL (xs ++ ys) p = runL ys (runL xs p) := by
  induction xs generalizing p with
  | nil => rfl
  | cons x xs ih => exact ih _
theorem runL_neg (xs : List Int) : ∀ p : Int × Int, runL xs (-p.1, -p.2) = (-(runL xs p).1, -(runL xs p).2) := by
  induction xs with
  | nil => intro p; rfl
  | cons x xs ih =>
    intro p
    rw [runL, runL, ← ih]
    simp only [Int.mul_neg]
    congr 2
    omega
theorem runL_lin (xs : List Int) : ∀ (p r : Int × Int) (m : Int), runL xs (p.1 + m * r.1, p.2 + m * r.2) = ((runL xs p).1 + m * (runL xs r).1, (runL xs p).2 + m * (runL xs r).2) := by
  induction xs with
  | nil => intro p r m; rfl
  | cons x xs ih =>
    intro p r m
    rw [runL, runL, runL, ← ih]
    congr 2
    simp only [Int.mul_add, Int.mul_sub]
    rw [Int.mul_left_comm]
    omega
/-- Along the list all is as before, or the negative of it. -/
def Mon (s : Int) (q : List Int) : Prop := ∀ p : Int × Int, runL q p = (s * p.1, s * p.2)
theorem Mon.one {s x : Int} {q : List Int} (h : Mon s (x :: q)) : Mon s (q ++ [x]) := by
  intro p
  have h1 := h (p.2, x * p.2 - p.1)
  rw [runL] at h1
  simp only at h1
  rw [show (x * p.2 - (x * p.2 - p.1), p.2) = p by ext <;> simp only <;> omega] at h1
  rw [runL_app, h1]
  simp only [runL]
  rw [Int.mul_left_comm, Int.mul_sub]
  congr 1
  omega
theorem Mon.rot {s : Int} : ∀ (xs ys : List Int), Mon s (xs ++ ys) → Mon s (ys ++ xs)
  | [], ys, h => by rwa [List.append_nil]
  | x :: xs, ys, h => by
    have h1 := Mon.one (q := xs ++ ys) h
    rw [List.append_assoc] at h1
    have h2 := Mon.rot xs (ys ++ [x]) h1
    rw [List.append_assoc] at h2
    exact h2
/-- A 1 is cut off. -/
theorem run_ear (x y : Int) (q : List Int) (p : Int × Int) : runL (x :: 1 :: y :: q) p = runL ((x - 1) :: (y - 1) :: q) p := by
  simp only [runL]
  congr 2
  · simp only [Int.sub_mul, Int.one_mul, Int.mul_sub]
    omega
  · simp only [Int.sub_mul, Int.one_mul]
    omega
theorem run_two (x y : Int) (q : List Int) (p : Int × Int) : runL (x :: 1 :: 1 :: y :: q) p = (-(runL ((x + y - 1) :: q) p).1, -(runL ((x + y - 1) :: q) p).2) := by
  rw [runL.eq_2 _ (x + y - 1), ← runL_neg]
  simp only [runL]
  congr 2
  · simp only [Int.sub_mul, Int.one_mul, Int.mul_sub, Int.add_mul]
    omega
  · simp only [Int.one_mul]
    omega
def PosL (q : List Int) : Prop := ∀ x, x ∈ q → (1 : Int) ≤ x
theorem run_grows : ∀ (q : List Int) (p : Int × Int), (∀ x, x ∈ q → 2 ≤ x) → 0 ≤ p.2 → p.2 < p.1 → 0 ≤ (runL q p).2 ∧ (runL q p).2 < (runL q p).1 ∧ (q ≠ [] → 1 ≤ (runL q p).2)
  | [], p, _, h1, h2 => ⟨h1, h2, fun h => (h rfl).elim⟩
  | x :: q, p, h, h1, h2 => by
    have hx := h x (by simp)
    have hm : 2 * p.1 ≤ x * p.1 := Int.mul_le_mul_of_nonneg_right hx (by omega)
    obtain ⟨h3, h4, h5⟩ := run_grows q (x * p.1 - p.2, p.1) (fun y hy => h y (List.mem_cons_of_mem _ hy)) (by simp only; omega) (by simp only; omega)
    rw [runL]
    refine ⟨h3, h4, fun _ => ?_⟩
    by_cases e : q = []
    · subst e; simp only [runL]; omega
    · exact h5 e
theorem mon_has_one {s : Int} {q : List Int} (h : Mon s q) (hp : PosL q) (hne : q ≠ []) : (1 : Int) ∈ q := by
  refine Classical.byContradiction fun hno => ?_
  have h2 : ∀ x, x ∈ q → 2 ≤ x := fun x hx => by
    have := hp x hx
    by_cases e : x = 1
    · subst e; exact (hno hx).elim
    · omega
  have h3 := (run_grows q (1, 0) h2 (by simp) (by simp)).2.2 hne
  rw [h (1, 0)] at h3
  simp at h3
theorem sum_app (xs ys : List Int) : (xs ++ ys).sum = xs.sum + ys.sum := List.sum_append_int
/-- The sum of a list that closes. -/
theorem mon_sum : ∀ (n : Nat) (q : List Int) (s : Int), q.length = n → q ≠ [] → (s = 1 ∨ s = -1) → PosL q → Mon s q → q.sum + 6 ≤ 3 * (n : Int) := by
  intro n
  induction n using Nat.strongRecOn with
  | _ n ih =>
    intro q s hl hne hs hp hm
    -- two neighbouring ones
    have two : ∀ (x : Int) (mid : List Int), (x :: 1 :: 1 :: mid).length = n → PosL (x :: 1 :: 1 :: mid) → Mon s (x :: 1 :: 1 :: mid) → (x :: 1 :: 1 :: mid).sum + 6 ≤ 3 * (n : Int) := by
      intro x mid hl hp hm
      have hx := hp x (by simp)
      rcases mid with _ | ⟨z, mid⟩
      · have h1 := hm (1, 0)
        simp [runL] at h1
        simp at hl
        simp
        omega
      · have hz := hp z (by simp)
        have hm' : Mon (-s) ((x + z - 1) :: mid) := by
          intro p
          have h1 := hm p
          rw [run_two] at h1
          have h2 := congrArg Prod.fst h1
          have h3 := congrArg Prod.snd h1
          simp only at h2 h3
          rw [Int.neg_mul, Int.neg_mul]
          exact Prod.ext (by simp only; omega) (by simp only; omega)
        simp at hl
        have h4 := ih (n - 3) (by omega) ((x + z - 1) :: mid) (-s) (by simp; omega) (by simp) (by omega) (fun y hy => by
          rcases List.mem_cons.1 hy with rfl | hy
          · omega
          · exact hp y (by simp [hy])) hm'
        simp at h4 ⊢
        omega
    obtain ⟨pre, post, rfl⟩ := List.append_of_mem (mon_has_one hm hp hne)
    have hm1 := Mon.rot _ _ hm
    have hl1 : ((1 :: post) ++ pre).length = n := by rw [← hl]; simp; omega
    have hp1 : PosL ((1 :: post) ++ pre) := fun x hx => hp x (List.perm_append_comm.mem_iff.1 hx)
    have hs1 : ((1 :: post) ++ pre).sum = (pre ++ 1 :: post).sum := by rw [sum_app, sum_app]; omega
    rw [← hs1]
    obtain ⟨r, hr⟩ : ∃ r, r = post ++ pre := ⟨_, rfl⟩
    rw [List.cons_append, ← hr] at hm1 hl1 hp1 ⊢
    clear hr hs1 hm hp hl hne
    rcases r with _ | ⟨y, r⟩
    · have := hm1 (1, 0)
      simp [runL] at this
    · have hy := hp1 y (by simp)
      by_cases hr : r = []
      · subst hr
        have := hm1 (0, 1)
        simp [runL] at this
        omega
      · obtain ⟨mid, x, rfl⟩ : ∃ mid x, r = mid ++ [x] := ⟨r.dropLast, r.getLast hr, (List.dropLast_concat_getLast hr).symm⟩
        have hx := hp1 x (by simp)
        have hm2 : Mon s (x :: 1 :: y :: mid) := Mon.rot (1 :: y :: mid) [x] (by simpa using hm1)
        have hp2 : PosL (x :: 1 :: y :: mid) := fun z hz => hp1 z ((List.perm_append_comm (l₁ := [x]) (l₂ := 1 :: y :: mid)).mem_iff.1 hz)
        have hl2 : (x :: 1 :: y :: mid).length = n := by rw [← hl1]; simp
        have hs2 : (1 :: y :: (mid ++ [x])).sum = (x :: 1 :: y :: mid).sum := by
          simp only [List.sum_cons, sum_app, List.sum_nil]; omega
        rw [hs2]
        clear hs2 hm1 hp1 hl1 hr
        by_cases hy1 : y = 1
        · subst hy1
          exact two x mid hl2 hp2 hm2
        · by_cases hx1 : x = 1
          · subst hx1
            -- the list goes on from its last number
            obtain ⟨pre', z, hz⟩ : ∃ pre' z, y :: mid = pre' ++ [z] := ⟨(y :: mid).dropLast, (y :: mid).getLast (by simp), (List.dropLast_concat_getLast (by simp)).symm⟩
            rw [hz] at hm2 hp2 hl2 ⊢
            have hm3 : Mon s (z :: 1 :: 1 :: pre') := Mon.rot (1 :: 1 :: pre') [z] (by simpa using hm2)
            have h5 := two z pre' (by rw [← hl2]; simp) (fun w hw => hp2 w ((List.perm_append_comm (l₁ := [z]) (l₂ := 1 :: 1 :: pre')).mem_iff.1 hw)) hm3
            simp only [List.sum_cons, sum_app, List.sum_nil] at h5 ⊢
            omega
          · have hm' : Mon s ((x - 1) :: (y - 1) :: mid) := fun p => by rw [← run_ear, hm2 p]
            have h4 := ih (n - 1) (by simp at hl2; omega) ((x - 1) :: (y - 1) :: mid) s (by simp at hl2 ⊢; omega) (by simp) hs (fun z hz => by
              simp only [List.mem_cons] at hz
              rcases hz with rfl | rfl | hz
              · omega
              · omega
              · exact hp2 z (by simp [hz])) hm'
            simp at hl2
            simp only [List.sum_cons] at h4 ⊢
            omega
/-- At the greatest sum no two neighbours are 1. -/
theorem mon_apart {x s : Int} {mid : List Int} (hm : Mon s (x :: 1 :: 1 :: mid)) (hs : s = 1 ∨ s = -1) (hp : PosL (x :: 1 :: 1 :: mid)) (h4 : mid ≠ []) : (x :: 1 :: 1 :: mid).sum + 12 ≤ 3 * ((x :: 1 :: 1 :: mid).length : Int) := by
  rcases mid with _ | ⟨z, mid⟩
  · exact (h4 rfl).elim
  have hx := hp x (by simp)
  have hz := hp z (by simp)
  have hm' : Mon (-s) ((x + z - 1) :: mid) := by
    intro p
    have h1 := hm p
    rw [run_two] at h1
    have h2 := congrArg Prod.fst h1
    have h3 := congrArg Prod.snd h1
    simp only at h2 h3
    rw [Int.neg_mul, Int.neg_mul]
    exact Prod.ext (by simp only; omega) (by simp only; omega)
  have h4 := mon_sum _ ((x + z - 1) :: mid) (-s) rfl (by simp) (by omega) (fun y hy => by
    rcases List.mem_cons.1 hy with rfl | hy
    · omega
    · exact hp y (by simp [hy])) hm'
  simp at h4 ⊢
  omega
/-- The list begun ahead of a 1: both neighbours are at least 2, and the list without the 1 closes, too. -/
theorem mon_cut {x y s : Int} {mid : List Int} (hm : Mon s (x :: 1 :: y :: mid)) (hs : s = 1 ∨ s = -1) (hp : PosL (x :: 1 :: y :: mid)) (h4 : mid ≠ []) (hsum : (x :: 1 :: y :: mid).sum + 6 = 3 * ((x :: 1 :: y :: mid).length : Int)) :
    2 ≤ x ∧ 2 ≤ y ∧ Mon s ((x - 1) :: (y - 1) :: mid) := by
  have hx := hp x (by simp)
  have hy := hp y (by simp)
  have hy1 : y ≠ 1 := by
    rintro rfl
    have := mon_apart hm hs hp h4
    omega
  have hx1 : x ≠ 1 := by
    rintro rfl
    obtain ⟨pre', z, rfl⟩ : ∃ pre' z, mid = pre' ++ [z] := ⟨mid.dropLast, mid.getLast h4, (List.dropLast_concat_getLast h4).symm⟩
    have hm3 : Mon s (z :: 1 :: 1 :: y :: pre') := Mon.rot (1 :: 1 :: y :: pre') [z] (by simpa using hm)
    have h5 := mon_apart hm3 hs (fun w hw => hp w ((List.perm_append_comm (l₁ := [z]) (l₂ := 1 :: 1 :: y :: pre')).mem_iff.1 hw)) (by simp)
    simp only [List.sum_cons, sum_app, List.sum_nil, List.length_cons, List.length_append, List.length_nil] at h5 hsum
    omega
  exact ⟨by omega, by omega, fun p => by rw [← run_ear, hm p]⟩
end Go.Proofs.Ytddcdopimpfhcaa
