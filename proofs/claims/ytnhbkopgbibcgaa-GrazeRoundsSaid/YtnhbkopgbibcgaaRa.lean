/- Plain laws: ends and the state ahead of a day, row by row. -/
import Derived.Test.YtnhbkopgbibcgaaHq
import Derived.Test.YtnhbkopgbibcgaaHp
namespace Go.Proofs.Ytnhbkopgbibcgaa

/-- Is a row's last grazed plot an end? -/
def corner (l : List Int) (i : Nat) : Bool := decide (1 ≤ l.getD i 0) && (decide (i + 1 = l.length) || decide (l.getD (i + 1) 0 < l.getD i 0))
theorem end_corner (l : List Int) (i : Nat) (j : Nat) : endB l i j = true ↔ corner l i = true ∧ l.getD i 0 = (j : Int) + 1 := by
  simp only [endB, corner, Bool.and_eq_true, Bool.or_eq_true, decide_eq_true_eq]
  constructor
  · rintro ⟨h1, h2⟩
    exact ⟨⟨by omega, by rcases h2 with h | h; exact .inl h; exact .inr (by omega)⟩, h1⟩
  · rintro ⟨⟨h1, h2⟩, h3⟩
    exact ⟨h3, by rcases h2 with h | h; exact .inl h; exact .inr (by omega)⟩
theorem rowIn_ends (l : List Int) (i j : Nat) : (rowIn (fun i j => endB l i (j : Nat)) i j).length = if corner l i = true ∧ l.getD i 0 ≤ j then 1 else 0 := by
  induction j with
  | zero =>
    rw [if_neg]
    · rfl
    · rintro ⟨h1, h2⟩
      simp only [corner, Bool.and_eq_true, decide_eq_true_eq] at h1
      omega
  | succ j ih =>
    rw [rowIn, List.length_append, ih]
    by_cases hc : corner l i = true
    · by_cases h : l.getD i 0 = (j : Int) + 1
      · rw [if_neg (by omega), if_pos ((end_corner l i j).2 ⟨hc, h⟩), if_pos ⟨hc, by omega⟩]; rfl
      · rw [if_neg (fun e => h ((end_corner l i j).1 e).2)]
        by_cases h2 : l.getD i 0 ≤ j
        · rw [if_pos ⟨hc, h2⟩, if_pos ⟨hc, by omega⟩]; rfl
        · rw [if_neg (by omega), if_neg (by omega)]; rfl
    · rw [if_neg (fun e => hc e.1), if_neg (fun e => hc ((end_corner l i j).1 e).1), if_neg (fun e => hc e.1)]; rfl
def endsTo (l : List Int) : Nat → Nat
  | 0 => 0
  | i + 1 => endsTo l i + if corner l i then 1 else 0
theorem ends_len {n b : Nat} {l : List Int} (h : stateB n b l = true) : (endPlots b l).length = endsTo l l.length := by
  have : ∀ i, i ≤ l.length → (rowsTo (fun i j => endB l i (j : Nat)) b i).length = endsTo l i := by
    intro i
    induction i with
    | zero => intro _; rfl
    | succ i ih =>
      intro hi
      rw [rowsTo, List.length_append, ih (by omega), rowIn_ends, endsTo]
      have hr := (state_range h (show i < l.length by omega)).2
      by_cases hc : corner l i = true
      · rw [if_pos ⟨hc, hr⟩, if_pos hc]
      · rw [if_neg (fun e => hc e.1), if_neg hc]
  exact this _ (Nat.le_refl _)
theorem rbCol_ends (l : List Int) (k j : Nat) (x : Int) : rbCol (fun i j => endB l i (j : Nat)) k j x = if corner l k = true ∧ l.getD k 0 ≤ j then min x (l.getD k 0 - 1) else x := by
  induction j with
  | zero =>
    rw [if_neg]
    · rfl
    · rintro ⟨h1, h2⟩
      simp only [corner, Bool.and_eq_true, decide_eq_true_eq] at h1
      omega
  | succ j ih =>
    rw [rbCol, ih]
    by_cases hc : corner l k = true
    · by_cases h : l.getD k 0 = (j : Int) + 1
      · rw [if_pos ((end_corner l k j).2 ⟨hc, h⟩), if_neg (by omega), if_pos ⟨hc, by omega⟩, h]
        congr 1
        omega
      · rw [if_neg (fun e => h ((end_corner l k j).1 e).2)]
        by_cases h2 : l.getD k 0 ≤ j
        · rw [if_pos ⟨hc, h2⟩, if_pos ⟨hc, by omega⟩]
        · rw [if_neg (by omega), if_neg (by omega)]
    · rw [if_neg (fun e => hc ((end_corner l k j).1 e).1), if_neg (fun e => hc e.1), if_neg (fun e => hc e.1)]
/-- The state ahead of a day, row by row. -/
def rbQ (l : List Int) : Nat → Int → Int
  | 0, x => x
  | k + 1, x => if corner l k then min (rbQ l k x) (l.getD k 0 - 1) else rbQ l k x
def backQ (m : Nat) (l : List Int) : List Int := (List.range l.length).map fun i => rbQ l (i + 1) m
theorem backP_q {n b : Nat} {l : List Int} (h : stateB n b l = true) : backP b l = backQ b l := by
  have hr : ∀ k x, k ≤ l.length → rbRow (fun i j => endB l i (j : Nat)) b k x = rbQ l k x := by
    intro k
    induction k with
    | zero => intro x _; rfl
    | succ k ih =>
      intro x hk
      rw [rbRow, ih x (by omega), rbCol_ends, rbQ]
      have hr := (state_range h (show k < l.length by omega)).2
      by_cases hc : corner l k = true
      · rw [if_pos ⟨hc, hr⟩, if_pos hc]
      · rw [if_neg (fun e => hc e.1), if_neg hc]
  rw [← back_eq]
  unfold rback backQ
  refine getD_ext (by rw [rbTo_length]; simp) fun i hi => ?_
  rw [rbTo_length] at hi
  rw [rbTo_at _ _ _ _ hi, hr (i + 1) b (by omega)]
  simp [List.getD_eq_getElem?_getD, hi]
def sumL : List Int → Int
  | [] => 0
  | x :: t => x + sumL t
/-- All days up to a + b: back at the state; the grazed plots, the ends. -/
def runM (n m : Nat) (l : List Int) : Nat → List Int → Int → Nat → Bool
  | 0, cur, g, e => decide (cur = l) && decide (2 * g = (n * m * (n + m) : Nat)) && decide (e = n * m)
  | k + 1, cur, g, e => runM n m l k (dayF m cur) (g + sumL cur) (e + endsTo cur cur.length)
def daysB (n m : Nat) (l : List Int) : Bool := runM n m l (n + m) l 0 0 && decide (backQ m (dayF m l) = l)
end Go.Proofs.Ytnhbkopgbibcgaa
