/- Plain laws: words of states. -/
import Derived.Test.YtnhbkopgbibcgaaHp
import Derived.Test.YtnhbkopgbibcgaaHj
namespace Go.Proofs.Ytnhbkopgbibcgaa

/-- All words with n letters u and m letters r. -/
def wdG (f : Nat → List (List UInt8)) : Nat → List (List UInt8)
  | 0 => (f 0).map (117 :: ·)
  | m + 1 => (f (m + 1)).map (117 :: ·) ++ (wdG f m).map (114 :: ·)
def wdF : Nat → Nat → List (List UInt8)
  | 0 => fun m => [List.replicate m 114]
  | n + 1 => wdG (wdF n)
theorem mem_wdF : ∀ (ws : List UInt8) (n m : Nat), ws.length = n + m → ws.count 117 = n → ws.count 114 = m → ws ∈ wdF n m
  | [], n, m, h, h1, h2 => by
    simp at h
    obtain ⟨rfl, rfl⟩ : n = 0 ∧ m = 0 := by omega
    simp [wdF]
  | x :: ws, n, m, h, h1, h2 => by
    have hc := count_two ws
    rw [List.length_cons] at h
    rw [List.count_cons] at h1 h2
    by_cases e1 : x = 117
    · subst e1
      simp only [BEq.rfl, if_true] at h1
      rw [if_neg (by decide)] at h2
      obtain ⟨n, rfl⟩ : ∃ k, n = k + 1 := ⟨n - 1, by omega⟩
      have := mem_wdF ws n m (by omega) (by omega) (by omega)
      show 117 :: ws ∈ wdG (wdF n) m
      cases m with
      | zero => rw [wdG]; exact List.mem_map.2 ⟨ws, this, rfl⟩
      | succ m => rw [wdG]; exact List.mem_append.2 (.inl (List.mem_map.2 ⟨ws, this, rfl⟩))
    · by_cases e2 : x = 114
      · subst e2
        simp only [BEq.rfl, if_true] at h2
        rw [if_neg (by decide)] at h1
        obtain ⟨m, rfl⟩ : ∃ k, m = k + 1 := ⟨m - 1, by omega⟩
        have := mem_wdF ws n m (by omega) (by omega) (by omega)
        cases n with
        | zero =>
          have h3 : ws ∈ [List.replicate m 114] := this
          rw [List.mem_singleton] at h3
          show 114 :: ws ∈ [List.replicate (m + 1) 114]
          rw [h3, List.replicate_succ]
          exact List.mem_singleton.2 rfl
        | succ n =>
          show 114 :: ws ∈ wdG (wdF n) (m + 1)
          rw [wdG]
          exact List.mem_append.2 (.inr (List.mem_map.2 ⟨ws, this, rfl⟩))
      · rw [if_neg (by simpa using e1)] at h1
        rw [if_neg (by simpa using e2)] at h2
        omega
def allWords (P : Nat → Nat → List UInt8 → Bool) : Bool := (List.range 6).all fun n => (List.range 6).all fun m => (wdF (n + 1) (m + 1)).all (P (n + 1) (m + 1))
theorem for_words {P : Nat → Nat → List UInt8 → Bool} (h : allWords P = true) {n m : Nat} {ws : List UInt8} (hn1 : 1 ≤ n) (hn6 : n ≤ 6) (hb1 : 1 ≤ m) (hb6 : m ≤ 6) (hs : wordB n m ws = true) : P n m ws = true := by
  obtain ⟨h1', h2', h3'⟩ := of_decide_eq_true hs
  unfold allWords at h
  rw [List.all_eq_true] at h
  have h1 := h (n - 1) (by rw [List.mem_range]; omega)
  rw [List.all_eq_true] at h1
  have h2 := h1 (m - 1) (by rw [List.mem_range]; omega)
  rw [show n - 1 + 1 = n by omega, show m - 1 + 1 = m by omega, List.all_eq_true] at h2
  exact h2 ws (mem_wdF ws n m h1' h2' h3')
set_option maxRecDepth 100000 in
theorem words_all : allWords (fun n m ws => decide (wordP m (ofP n ws) = ws) && stateB n m (ofP n ws)) = true := by decide +kernel
theorem word_of {n m : Nat} {ws : List UInt8} (hn1 : 1 ≤ n) (hn6 : n ≤ 6) (hb1 : 1 ≤ m) (hb6 : m ≤ 6) (hs : wordB n m ws = true) : wordP m (ofP n ws) = ws ∧ stateB n m (ofP n ws) = true := by
  have := for_words words_all hn1 hn6 hb1 hb6 hs
  simpa only [Bool.and_eq_true, decide_eq_true_eq] using this
end Go.Proofs.Ytnhbkopgbibcgaa
