/- Plain: the program's read is the specification's IsPen. -/
import Derived.Test.YtbpmiphipjkdlaaBf
namespace Go.Proofs.Ytbpmiphipjkdlaa
open Go.RowKit Go.Shelf

theorem mod_next {n i : Nat} (h : i < n) : (i + 1) % n = if i + 1 = n then 0 else i + 1 := by
  split
  · next e => rw [e, Nat.mod_self]
  · exact Nat.mod_eq_of_lt (by omega)
/-- What the program does not let in, for two sides. -/
theorem sideBad_iff (xs : PtL) (i : Nat) : sideBad xs i = false ↔ (sideAt xs i).1 ≠ (sideAt xs i).2 ∧ ∀ k, k < xs.length → pairBad xs i k = false := by
  unfold sideBad
  rw [Bool.or_eq_false_iff, List.any_eq_false]
  constructor
  · rintro ⟨h1, h2⟩
    refine ⟨by simpa using h1, fun k hk => ?_⟩
    have := h2 ⟨k, hk⟩ (List.mem_finRange _)
    simpa using this
  · rintro ⟨h1, h2⟩
    refine ⟨by simpa using h1, fun k _ => ?_⟩
    have := h2 k.val k.isLt
    simp [this]
theorem eqP_false (p q : Int × Int) : eqP p q = false ↔ p ≠ q := by
  unfold eqP
  rw [← Bool.not_eq_true, Bool.and_eq_true, decide_eq_true_eq, decide_eq_true_eq]
  exact not_congr (by rw [Prod.ext_iff])
theorem far_in (p : Int × Int) : farP p = false ↔ inB 50 p := by
  unfold farP farB inB
  simp only [Bool.or_eq_false_iff, decide_eq_false_iff_not]
  omega
theorem rowR_iff (xs : PtL) (i : Nat) : rowR xs i = false ↔ inB 50 (xs.getD i (0, 0)) ∧ (sideAt xs i).1 ≠ (sideAt xs i).2 := by
  unfold rowR
  rw [Bool.or_eq_false_iff, eqP_false, Bool.not_eq_eq_eq_not, Bool.not_false, decide_eq_true_eq]
  exact Iff.rfl
theorem turnR_iff (xs : PtL) (i : Nat) (h3 : 3 ≤ xs.length) (hi : i < xs.length) (hne : ∀ i, i < xs.length → (sideAt xs i).1 ≠ (sideAt xs i).2) : turnR xs i = false ↔ pairBad xs i ((i + 1) % xs.length) = false := by
  have hm := Nat.mod_lt (i + 1) (show 0 < xs.length by omega)
  have h1 := hne i hi
  have h2 := hne _ hm
  have e2 : ((i + 1) % xs.length + 1) % xs.length = (i + 2) % xs.length := by rw [Nat.mod_add_mod]
  have hki : (i + 1) % xs.length ≠ i := by
    rw [mod_next hi]
    split <;> omega
  unfold pairBad
  rw [if_neg hki, if_pos rfl]
  unfold sideAt at h1 h2 ⊢
  simp only [e2] at h1 h2 ⊢
  have hf := fold_iff (xs.getD i (0, 0)) (xs.getD ((i + 1) % xs.length) (0, 0)) (xs.getD ((i + 2) % xs.length) (0, 0)) h1 h2
  unfold turnR postAt
  rw [Bool.or_eq_false_iff, ← Bool.not_eq_true, ← Bool.not_eq_true, onR_iff _ _ _ h1, onR_iff _ _ _ h2, ← not_or, hf]
  rw [← Bool.not_eq_true, Bool.and_eq_true, beq_iff_eq, decide_eq_true_eq]
  exact Iff.rfl
theorem sideR_iff (xs : PtL) (i k : Nat) (hi : i < xs.length) (hk : k < xs.length) (hik : i + 2 ≤ k) (hne : ∀ i, i < xs.length → (sideAt xs i).1 ≠ (sideAt xs i).2) : sideR xs i k = false ↔ pairBad xs i k = false := by
  have h1 := hne i hi
  have h2 := hne k hk
  have hki : k ≠ i := by omega
  have hkn : k ≠ (i + 1) % xs.length := by rw [mod_next hi]; split <;> omega
  unfold sideR pairBad
  rw [if_neg hki, if_neg hkn]
  by_cases e : i = (k + 1) % xs.length
  · rw [if_pos e]
    simp [e.symm]
  · rw [if_neg e, decide_eq_true (Ne.symm e), Bool.true_and]
    unfold sideAt at h1 h2 ⊢
    unfold postAt
    rw [meet_eq _ _ _ _ h1 h2]
theorem pairBad_comm (xs : PtL) (i k : Nat) (h1 : k ≠ (i + 1) % xs.length) (h2 : i ≠ (k + 1) % xs.length) : pairBad xs i k = pairBad xs k i := by
  unfold pairBad
  by_cases e : k = i
  · rw [if_pos e, if_pos e.symm]
  · rw [if_neg e, if_neg (Ne.symm e), if_neg h1, if_neg h2, if_neg h2, if_neg h1, meetS_comm]
theorem readP_iff (xs : PtL) : readP xs = true ↔ GoodR xs := by
  unfold readP
  simp only [Bool.and_eq_true, decide_eq_true_eq, Bool.not_eq_true']
  constructor
  · rintro ⟨⟨⟨h1, h2⟩, h3⟩, h4⟩
    have hin : ∀ i, i < xs.length → inB 50 (xs.getD i (0, 0)) := fun i hi => by
      rw [← far_in, List.getD_eq_getElem?_getD, List.getElem?_eq_getElem hi]
      have := List.any_eq_false.1 h3 xs[i] (List.getElem_mem hi)
      simpa using this
    have hsb : ∀ i, i < xs.length → sideBad xs i = false := fun i hi => by
      have := List.any_eq_false.1 h4 ⟨i, hi⟩ (List.mem_finRange _)
      simpa using this
    have hne : ∀ i, i < xs.length → (sideAt xs i).1 ≠ (sideAt xs i).2 := fun i hi => ((sideBad_iff xs i).1 (hsb i hi)).1
    have hpb : ∀ i, i < xs.length → ∀ k, k < xs.length → pairBad xs i k = false := fun i hi => ((sideBad_iff xs i).1 (hsb i hi)).2
    refine ⟨⟨h1, h2⟩, fun i hi => (rowR_iff xs i).2 ⟨hin i hi, hne i hi⟩, fun i hi => (turnR_iff xs i h1 hi hne).2 (hpb i hi _ (Nat.mod_lt _ (by omega))), fun i hi k hik hk => (sideR_iff xs i k hi hk hik hne).2 (hpb i hi k hk)⟩
  · rintro ⟨⟨h1, h2⟩, hr, ht, hs⟩
    have hne : ∀ i, i < xs.length → (sideAt xs i).1 ≠ (sideAt xs i).2 := fun i hi => ((rowR_iff xs i).1 (hr i hi)).2
    refine ⟨⟨⟨h1, h2⟩, ?_⟩, ?_⟩
    · rw [List.any_eq_false]
      intro x hx
      obtain ⟨i, hi, rfl⟩ := List.getElem_of_mem hx
      have := (far_in _).2 ((rowR_iff xs i).1 (hr i hi)).1
      rw [List.getD_eq_getElem?_getD, List.getElem?_eq_getElem hi] at this
      rw [show farP xs[i] = false from this]
      exact Bool.false_ne_true
    · rw [List.any_eq_false]
      intro i _
      have : sideBad xs i.val = false := by
        rw [sideBad_iff]
        refine ⟨hne _ i.isLt, fun k hk => ?_⟩
        have hi := i.isLt
        by_cases e1 : k = i.val
        · unfold pairBad; rw [if_pos e1]
        by_cases e2 : k = (i.val + 1) % xs.length
        · rw [e2]; exact (turnR_iff xs i.val h1 hi hne).1 (ht _ hi)
        by_cases e3 : i.val = (k + 1) % xs.length
        · unfold pairBad; rw [if_neg e1, if_neg e2, if_pos e3]
        by_cases e4 : i.val < k
        · have : i.val + 2 ≤ k := by
            rw [mod_next hi] at e2
            split at e2 <;> omega
          exact (sideR_iff xs i.val k hi hk this hne).1 (hs _ hi k this hk)
        · rw [pairBad_comm xs i.val k e2 e3]
          have : k + 2 ≤ i.val := by
            rw [mod_next hk] at e3
            split at e3 <;> omega
          exact (sideR_iff xs k i.val hk hi this hne).1 (hs _ hk _ this hi)
      simp [this]
/-- IsPen of the specification, by the program's judgement. -/
theorem isPenR_read (xs : PtL) (A : Option Addr) (c : Nat) (w : World) (v : Bool) (hv : readP xs = v) (hx : PairsI w A xs) :
    Calls Try.prog 20 #[.slice A xs.length c] w fun e w' => e = .returned (.bool v) ∧ Below w.heap.size w w' := by
  refine (isPenR_any xs A c w hx).mono ?_
  rintro e w' ⟨⟨u, rfl, hu⟩, hb⟩
  refine ⟨ret_bool ?_, hb⟩
  rw [← hv, Bool.eq_iff_iff, hu, readP_iff]
end Go.Proofs.Ytbpmiphipjkdlaa
