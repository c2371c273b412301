/- Contracts: field, next, end, Clone. -/
import Derived.Test.YtnhbkopgbibcgaaGa
import Derived.Laws.AppendOwnNone
namespace Go.Proofs.Ytnhbkopgbibcgaa
open Go.RowKit Go.Shelf

/-- A pasture: 1 to 6 rows and columns. -/
def fieldB (a b : Int) : Bool := decide ((1 ≤ a ∧ 1 ≤ b) ∧ a ≤ 6 ∧ b ≤ 6)
/-- A state of a pasture: as many numbers as rows, from 0 to the columns, none above the one ahead of it. -/
def stateB (a b : Int) (l : List Int) : Bool := decide ((l.length : Int) = a ∧ ∀ j, j < l.length → (0 ≤ l.getD j 0 ∧ l.getD j 0 ≤ b) ∧ (0 < j → l.getD j 0 ≤ l.getD (j - 1) 0))
def askedB (a b : Int) (l : List Int) : Bool := fieldB a b && stateB a b l
/-- Is a plot next? -/
def nextB (l : List Int) (i : Nat) (j : Int) : Bool := decide (l.getD i 0 = j) && (decide (i = 0) || decide (j < l.getD (i - 1) 0))
/-- Is a plot an end? -/
def endB (l : List Int) (i : Nat) (j : Int) : Bool := decide (l.getD i 0 = j + 1) && (decide (i + 1 = l.length) || decide (l.getD (i + 1) 0 ≤ j))

set_option maxHeartbeats 1000000 in
theorem field_any (a b : Int) (w : World) : Calls Try.prog 46 #[.int .i64 a, .int .i64 b] w fun e w' => e = .returned (.tuple #[.agg #[.int .i64 a, .int .i64 b], .bool (fieldB a b)]) ∧ Below w.heap.size w w' := by
  have hB : Below w.heap.size w (w.alloc (.cells #[.int .i64 0, .int .i64 0] 62)) := (Below.refl _ _).alloc (Nat.le_refl _) _
  obtain ⟨⟨c0, c1⟩, f0, f1⟩ := two_facts (block_new w (.cells #[.int .i64 0, .int .i64 0] 62))
  clear c0 c1 f0 f1 hB
  by_cases hf : (1 ≤ a ∧ 1 ≤ b) ∧ a ≤ 6 ∧ b ≤ 6
  · have HF : Off (fieldB a b = true) := ⟨decide_eq_true hf⟩
    obtain ⟨⟨h1, h2⟩, h3, h4⟩ := hf
    go_enter Try.func46, Try.ntmps46
    go_wp2
    all_goals
      refine bodyPost_ret (v := .tuple #[.agg #[.int .i64 a, .int .i64 b], .bool true]) ?_ rfl ⟨by rw [HF.out], (Below.refl _ _).alloc (Nat.le_refl _) _⟩
      simp [results, Try.results46, go_sem]
      try omega
  · have HF : Off (fieldB a b = false) := ⟨decide_eq_false hf⟩
    have hd : (a < 1 ∨ b < 1) ∨ (1 ≤ a ∧ 1 ≤ b ∧ (6 < a ∨ 6 < b)) := by omega
    clear hf
    rcases hd with (h | h) | ⟨h1, h2, h | h⟩
    all_goals
      go_enter Try.func46, Try.ntmps46
      go_wp2
      all_goals
        refine bodyPost_ret (v := .tuple #[.agg #[.int .i64 a, .int .i64 b], .bool false]) ?_ rfl ⟨by rw [HF.out], (Below.refl _ _).alloc (Nat.le_refl _) _⟩
        simp [results, Try.results46, go_sem]
        try omega

set_option maxHeartbeats 1000000 in
theorem next_any (l : List Int) (A : Option Addr) (c i : Nat) (j : Int) (w : World) (hl : IntsAt w A l) (hi : i < l.length) :
    Calls Try.prog 70 #[.slice A l.length c, .int .i64 (i : Int), .int .i64 j] w fun e w' => e = .returned (.bool (nextB l i j)) ∧ w' = w := by
  have hlen := hl.len
  obtain ⟨ad, rfl, hc⟩ := hl.cell i hi
  have HN : Off (nextB l i j = (decide (l.getD i 0 = j) && (decide (i = 0) || decide (j < l.getD (i - 1) 0)))) := ⟨rfl⟩
  obtain ⟨x, hx⟩ : ∃ x, x = l.getD i 0 := ⟨_, rfl⟩
  rw [← hx] at hc HN
  clear hx
  have hi0 : (0 : Int) ≤ (i : Int) := by omega
  have hil : (i : Int) < (l.length : Int) := by omega
  by_cases hj : x = j
  · have hj' : (x == j) = true := beq_iff_eq.2 hj
    by_cases h0 : i = 0
    · subst h0
      rw [Addr.add_zero'] at hc
      have HT : Off (nextB l 0 j = true) := ⟨by rw [HN.out, decide_eq_true hj]; rfl⟩
      clear hj
      go_enter Try.func70, Try.ntmps70
      go_wp2
      go_ret
      exact ⟨by rw [HT.out]; rfl, rfl⟩
    · obtain ⟨ad', e, hp⟩ := hl.cell (i - 1) (by omega)
      cases e
      have h0' : ((i : Int) == 0) = false := by rw [beq_eq_false_iff_ne]; omega
      have hw1 : IntKind.i64.wrap ((i : Int) - 1) = (i : Int) - 1 := by rw [IntKind.wrap_i64]; omega
      have hw2 : ((i : Int) - 1).toNat = i - 1 := by omega
      have hw3 : (0 : Int) ≤ (i : Int) - 1 := by omega
      have hw4 : (i : Int) - 1 < (l.length : Int) := by omega
      obtain ⟨y, hy⟩ : ∃ y, y = l.getD (i - 1) 0 := ⟨_, rfl⟩
      rw [← hy] at hp HN
      have HT : Off (nextB l i j = decide (j < y)) := ⟨by rw [HN.out, decide_eq_true hj, decide_eq_false h0]; rfl⟩
      clear hj h0 hy
      go_enter Try.func70, Try.ntmps70
      go_wp2
      go_ret
      exact ⟨by rw [HT.out]; rfl, rfl⟩
  · have hj' : (x == j) = false := beq_eq_false_iff_ne.2 hj
    have HT : Off (nextB l i j = false) := ⟨by rw [HN.out, decide_eq_false hj]; rfl⟩
    clear hj
    go_enter Try.func70, Try.ntmps70
    go_wp2
    go_ret
    exact ⟨by rw [HT.out]; rfl, rfl⟩

set_option maxHeartbeats 1000000 in
theorem end_any (l : List Int) (A : Option Addr) (c i : Nat) (j : Int) (w : World) (hl : IntsAt w A l) (hi : i < l.length) (hj0 : 0 ≤ j) (hj1 : j ≤ 100) :
    Calls Try.prog 69 #[.slice A l.length c, .int .i64 (i : Int), .int .i64 j] w fun e w' => e = .returned (.bool (endB l i j)) ∧ w' = w := by
  have hlen := hl.len
  obtain ⟨ad, rfl, hc⟩ := hl.cell i hi
  have HN : Off (endB l i j = (decide (l.getD i 0 = j + 1) && (decide (i + 1 = l.length) || decide (l.getD (i + 1) 0 ≤ j)))) := ⟨rfl⟩
  obtain ⟨x, hx⟩ : ∃ x, x = l.getD i 0 := ⟨_, rfl⟩
  rw [← hx] at hc HN
  clear hx
  have hi0 : (0 : Int) ≤ (i : Int) := by omega
  have hil : (i : Int) < (l.length : Int) := by omega
  by_cases hj : x = j + 1
  · have hj' : (x == j + 1) = true := beq_iff_eq.2 hj
    by_cases h0 : i + 1 = l.length
    · have HT : Off (endB l i j = true) := ⟨by rw [HN.out, decide_eq_true hj, decide_eq_true h0]; rfl⟩
      have h0' : ((i : Int) == (l.length : Int) - 1) = true := by rw [beq_iff_eq]; omega
      clear hj h0
      go_enter Try.func69, Try.ntmps69
      go_wp2
      go_ret
      exact ⟨by rw [HT.out]; rfl, rfl⟩
    · obtain ⟨ad', e, hp⟩ := hl.cell (i + 1) (by omega)
      cases e
      have h0' : ((i : Int) == (l.length : Int) - 1) = false := by rw [beq_eq_false_iff_ne]; omega
      obtain ⟨y, hy⟩ : ∃ y, y = l.getD (i + 1) 0 := ⟨_, rfl⟩
      rw [← hy] at hp HN
      have HT : Off (endB l i j = decide (y ≤ j)) := ⟨by rw [HN.out, decide_eq_true hj, decide_eq_false h0]; rfl⟩
      have hi1 : (i : Int) + 1 < (l.length : Int) := by omega
      rw [Addr.add_succ'] at hp
      clear hj h0 hy
      go_enter Try.func69, Try.ntmps69
      go_wp2
      go_ret
      exact ⟨by rw [HT.out]; rfl, rfl⟩
  · have hj' : (x == j + 1) = false := beq_eq_false_iff_ne.2 hj
    have HT : Off (endB l i j = false) := ⟨by rw [HN.out, decide_eq_false hj]; rfl⟩
    clear hj
    go_enter Try.func69, Try.ntmps69
    go_wp2
    go_ret
    exact ⟨by rw [HT.out]; rfl, rfl⟩
end Go.Proofs.Ytnhbkopgbibcgaa
