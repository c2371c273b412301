/- Contracts: turn, has, the sweep's closure. -/
import Derived.Test.YtnhbkopgbibcgaaGf
namespace Go.Proofs.Ytnhbkopgbibcgaa
open Go.RowKit Go.Shelf

/-- A row of numbers of length n that the call owns, at block r, with room for c. -/
structure RowC (w : World) (base r n c : Nat) (xs : List Int) : Prop where
  len : xs.length = n
  own : w.ownsRow base 3 1 (.slice (some ⟨r, 0, none⟩) n c) n (nums xs)
theorem RowC.cell {w : World} {base r n c : Nat} {xs : List Int} (h : RowC w base r n c xs) {i : Nat} (hi : i < n) : w.cell? ⟨r, i, none⟩ = some (.int .i64 (xs.getD i 0)) := by
  rw [h.own.cellAt i (by omega)]
  exact nums_at _ _ (by rw [h.len]; exact hi)
theorem RowC.frozen {w : World} {base r n c : Nat} {xs : List Int} (h : RowC w base r n c xs) (i : Nat) : w.frozen? ⟨r, i, none⟩ = false := h.own.frozenAt i
theorem RowC.below {w w1 : World} {base r n c : Nat} {xs : List Int} (h : RowC w base r n c xs) (hb : Below w.heap.size w w1) : RowC w1 base r n c xs := ⟨h.len, owns_below h.own hb⟩
theorem RowC.stored {w : World} {base r n c : Nat} {xs : List Int} (h : RowC w base r n c xs) (i : Nat) (x : Int) : RowC (w.setCell ⟨r, i, none⟩ (.int .i64 x)) base r n c (xs.set i x) ∧ Keeps r w (w.setCell ⟨r, i, none⟩ (.int .i64 x)) := by
  obtain ⟨ho, hg⟩ := h.own.stored i (.int .i64 x)
  exact ⟨⟨by simpa using h.len, by rw [nums_set]; exact ho⟩, ⟨hg⟩⟩
theorem RowC.own_of {w : World} {base r n c : Nat} {xs : List Int} (h : RowC w base r n c xs) : Own w base (.slice (some ⟨r, 0, none⟩) n c) xs := ⟨by rw [h.len]; exact h.own⟩
theorem RowC.lt {w : World} {base r n c : Nat} {xs : List Int} (h : RowC w base r n c xs) : r < w.heap.size := owns_lt h.own
theorem RowC.ints {w : World} {base r n c : Nat} {xs : List Int} (h : RowC w base r n c xs) (hx : n ≤ 140737488351232) : IntsAt w (some ⟨r, 0, none⟩) xs := by
  refine ⟨by rw [h.len]; exact hx, fun j hj => ⟨_, rfl, ?_⟩⟩
  rw [Addr.add_lit, Nat.zero_add]
  exact h.cell (by rw [← h.len]; exact hj)
theorem own_row {w : World} {base : Nat} {v : Value} {xs : List Int} (h : Own w base v xs) (hn : 0 < xs.length) : ∃ r c, v = .slice (some ⟨r, 0, none⟩) xs.length c ∧ base ≤ r ∧ RowC w base r xs.length c xs := by
  have h' := h.out
  rcases h.out.2 with ⟨rfl, h1⟩ | ⟨g, cap, cur, rfl, hb, _⟩
  · omega
  · exact ⟨g, cap, rfl, hb, rfl, h'⟩

/-- A plot is turned. -/
def turnS (l : List Int) (i : Nat) (j : Int) : List Int :=
  if nextB l i j then l.set i (l.getD i 0 + 1) else if endB l i j then l.set i (l.getD i 0 - 1) else l
theorem turnS_length (l : List Int) (i : Nat) (j : Int) : (turnS l i j).length = l.length := by
  unfold turnS
  split
  · simp
  · split <;> simp
theorem getD_set (l : List Int) (i j : Nat) (x : Int) : (l.set i x).getD j 0 = if i = j ∧ j < l.length then x else l.getD j 0 := by
  rw [List.getD_eq_getElem?_getD, List.getElem?_set, List.getD_eq_getElem?_getD]
  by_cases h : i = j
  · subst h
    by_cases h2 : i < l.length
    · simp [h2]
    · simp [h2]
  · simp [h]
theorem turnS_state {a b : Int} {l : List Int} (h : stateB a b l = true) (i : Nat) (j : Int) (hi : i < l.length) (hj : 0 ≤ j) (hjb : j < b) : stateB a b (turnS l i j) = true := by
  have hs := of_decide_eq_true h
  refine decide_eq_true ⟨by rw [turnS_length]; exact hs.1, fun k hk => ?_⟩
  rw [turnS_length] at hk
  have h0 := hs.2 i hi
  have h1 := hs.2 k hk
  have h2 : 0 < k → (0 ≤ l.getD (k - 1) 0 ∧ l.getD (k - 1) 0 ≤ b) := fun _ => (hs.2 (k - 1) (by omega)).1
  unfold turnS
  split
  · rename_i hn
    simp only [nextB, Bool.and_eq_true, Bool.or_eq_true, decide_eq_true_eq] at hn
    rw [getD_set, getD_set]
    by_cases e1 : i = k
    · subst e1
      rw [if_pos ⟨rfl, hk⟩]
      refine ⟨by omega, fun h3 => ?_⟩
      rw [if_neg (by omega)]
      have := hn.2
      omega
    · rw [if_neg (by omega)]
      refine ⟨h1.1, fun h3 => ?_⟩
      have h4 := h1.2 h3
      by_cases e2 : i = k - 1
      · subst e2; rw [if_pos ⟨rfl, by omega⟩]; omega
      · rw [if_neg (by omega)]; exact h4
  · split
    · rename_i hn
      simp only [endB, Bool.and_eq_true, Bool.or_eq_true, decide_eq_true_eq] at hn
      rw [getD_set, getD_set]
      by_cases e1 : i = k
      · subst e1
        rw [if_pos ⟨rfl, hk⟩]
        refine ⟨by omega, fun h3 => ?_⟩
        rw [if_neg (by omega)]
        have := h1.2 h3
        omega
      · rw [if_neg (by omega)]
        refine ⟨h1.1, fun h3 => ?_⟩
        have h4 := h1.2 h3
        by_cases e2 : i = k - 1
        · subst e2
          rw [if_pos ⟨rfl, by omega⟩]
          have := hn.2
          rw [show k - 1 + 1 = k by omega] at this
          omega
        · rw [if_neg (by omega)]; exact h4
    · exact h1

set_option maxHeartbeats 1000000 in
theorem turn_any (l : List Int) (base r c i : Nat) (j : Int) (W : World) (h : RowC W base r l.length c l) (hi : i < l.length) (hj : 0 ≤ j) (hj6 : j ≤ 100) (hr : 0 ≤ l.getD i 0 ∧ l.getD i 0 ≤ 100) (hl6 : l.length ≤ 6) :
    Calls Try.prog 65 #[.slice (some ⟨r, 0, none⟩) l.length c, .int .i64 (i : Int), .int .i64 j] W fun e w' => e = .returned (.tuple #[]) ∧ RowC w' base r l.length c (turnS l i j) ∧ Keeps r W w' := by
  have hI := h.ints (by omega)
  have hc := h.cell hi
  have hf := h.frozen i
  have HT : Off (turnS l i j = if nextB l i j then l.set i (l.getD i 0 + 1) else if endB l i j then l.set i (l.getD i 0 - 1) else l) := ⟨rfl⟩
  have C1 : Off (∀ W, IntsAt W (some ⟨r, 0, none⟩) l → Calls Try.prog 70 #[.slice (some ⟨r, 0, none⟩) l.length c, .int .i64 (i : Int), .int .i64 j] W fun e w' => e = .returned (.bool (nextB l i j)) ∧ w' = W) := ⟨fun W hW => next_any l _ c i j W hW hi⟩
  have C2 : Off (∀ W, IntsAt W (some ⟨r, 0, none⟩) l → Calls Try.prog 69 #[.slice (some ⟨r, 0, none⟩) l.length c, .int .i64 (i : Int), .int .i64 j] W fun e w' => e = .returned (.bool (endB l i j)) ∧ w' = W) := ⟨fun W hW => end_any l _ c i j W hW hi hj hj6⟩
  obtain ⟨x, hx⟩ : ∃ x, x = l.getD i 0 := ⟨_, rfl⟩
  rw [← hx] at hc HT hr
  have H := Off.mk h
  have HI := Off.mk hI
  have hi0 : (0 : Int) ≤ (i : Int) := by omega
  have hi1 : (i : Int) < (l.length : Int) := by omega
  clear hx h hI
  cases hn : nextB l i j
  · rw [hn] at HT C1
    cases he : endB l i j
    · rw [he] at HT C2
      have HT' : Off (turnS l i j = l) := ⟨by rw [HT.out]; rfl⟩
      clear hn he
      go_enter Try.func65, Try.ntmps65
      go_wp2_with (first
        | (go_at_call 70; refine (C1.out _ HI.out).mono ?_; rintro e w1 ⟨rfl, hw⟩; subst w1)
        | (go_at_call 69; refine (C2.out _ HI.out).mono ?_; rintro e w1 ⟨rfl, hw⟩; subst w1))
      go_end0
      exact ⟨rfl, by rw [HT'.out]; exact H.out, Keeps.refl _ _⟩
    · rw [he] at HT C2
      have HT' : Off (turnS l i j = l.set i (x - 1)) := ⟨by rw [HT.out]; rfl⟩
      clear hn he
      go_enter Try.func65, Try.ntmps65
      go_wp2_with (first
        | (go_at_call 70; refine (C1.out _ HI.out).mono ?_; rintro e w1 ⟨rfl, hw⟩; subst w1)
        | (go_at_call 69; refine (C2.out _ HI.out).mono ?_; rintro e w1 ⟨rfl, hw⟩; subst w1))
      go_end0
      obtain ⟨h1, h2⟩ := H.out.stored i (x - 1)
      exact ⟨rfl, by rw [HT'.out]; exact h1, h2⟩
  · rw [hn] at HT C1
    have HT' : Off (turnS l i j = l.set i (x + 1)) := ⟨by rw [HT.out]; rfl⟩
    clear hn
    go_enter Try.func65, Try.ntmps65
    go_wp2_with (go_at_call 70; refine (C1.out _ HI.out).mono ?_; rintro e w1 ⟨rfl, hw⟩; subst w1)
    go_end0
    obtain ⟨h1, h2⟩ := H.out.stored i (x + 1)
    exact ⟨rfl, by rw [HT'.out]; exact h1, h2⟩

/-- Is there a plot? -/
def hasB (a b x y : Int) : Bool := decide ((0 ≤ x ∧ x < a) ∧ 0 ≤ y ∧ y < b)
set_option maxHeartbeats 1000000 in
theorem has_any (a b x y : Int) (v : Bool) (hv : hasB a b x y = v) (w : World) : Calls Try.prog 64 #[.agg #[.int .i64 a, .int .i64 b], .agg #[.int .i64 x, .int .i64 y]] w fun e w' => e = .returned (.bool v) ∧ Below w.heap.size w w' := by
  have HB : Off (∀ o o', Below w.heap.size w ((w.alloc o).alloc o')) := ⟨fun o o' => belowA ((Below.refl _ _).alloc (Nat.le_refl _) _) _⟩
  cases v
  · have hd : x < 0 ∨ (0 ≤ x ∧ a ≤ x) ∨ ((0 ≤ x ∧ x < a) ∧ y < 0) ∨ ((0 ≤ x ∧ x < a) ∧ 0 ≤ y ∧ b ≤ y) := by
      have := of_decide_eq_false hv
      omega
    clear hv
    rcases hd with h | ⟨h, h1⟩ | ⟨⟨h, h1⟩, h2⟩ | ⟨⟨h, h1⟩, h2, h3⟩
    all_goals
      go_enter Try.func64, Try.ntmps64
      go_wp2
      go_ret
      exact ⟨by first | rfl | (congr; simp; omega), HB.out _ _⟩
  · obtain ⟨⟨h1, h2⟩, h3, h4⟩ := of_decide_eq_true hv
    clear hv
    go_enter Try.func64, Try.ntmps64
    go_wp2
    go_ret
    exact ⟨by first | rfl | (congr; simp; omega), HB.out _ _⟩
end Go.Proofs.Ytnhbkopgbibcgaa
