/- Plain laws: a sweep moves the word's first letter to its end. -/
import Derived.Test.YtnhbkopgbibcgaaQb
import Derived.Test.YtnhbkopgbibcgaaQc
import Derived.Test.YtnhbkopgbibcgaaQe
import Derived.Test.YtnhbkopgbibcgaaQf
import Derived.Test.YtnhbkopgbibcgaaHp
namespace Go.Proofs.Ytnhbkopgbibcgaa

theorem six {P : Nat → Nat → Prop} (h11 : P 1 1) (h12 : P 1 2) (h13 : P 1 3) (h14 : P 1 4) (h15 : P 1 5) (h16 : P 1 6) (h21 : P 2 1) (h22 : P 2 2) (h23 : P 2 3) (h24 : P 2 4) (h25 : P 2 5) (h26 : P 2 6)
    (h31 : P 3 1) (h32 : P 3 2) (h33 : P 3 3) (h34 : P 3 4) (h35 : P 3 5) (h36 : P 3 6) (h41 : P 4 1) (h42 : P 4 2) (h43 : P 4 3) (h44 : P 4 4) (h45 : P 4 5) (h46 : P 4 6)
    (h51 : P 5 1) (h52 : P 5 2) (h53 : P 5 3) (h54 : P 5 4) (h55 : P 5 5) (h56 : P 5 6) (h61 : P 6 1) (h62 : P 6 2) (h63 : P 6 3) (h64 : P 6 4) (h65 : P 6 5) (h66 : P 6 6)
    {n m : Nat} (hn1 : 1 ≤ n) (hn6 : n ≤ 6) (hm1 : 1 ≤ m) (hm6 : m ≤ 6) : P n m := by
  have a : n = 1 ∨ n = 2 ∨ n = 3 ∨ n = 4 ∨ n = 5 ∨ n = 6 := by omega
  have b : m = 1 ∨ m = 2 ∨ m = 3 ∨ m = 4 ∨ m = 5 ∨ m = 6 := by omega
  rcases a with rfl | rfl | rfl | rfl | rfl | rfl <;> rcases b with rfl | rfl | rfl | rfl | rfl | rfl <;> assumption
theorem sw_all {n m : Nat} (hn1 : 1 ≤ n) (hn6 : n ≤ 6) (hm1 : 1 ≤ m) (hm6 : m ≤ 6) : (stF n m []).all (fun l => decide (sweepP m l = swF m l)) = true :=
  six (P := fun n m => (stF n m []).all (fun l => decide (sweepP m l = swF m l)) = true) sw11 sw12 sw13 sw14 sw15 sw16 sw21 sw22 sw23 sw24 sw25 sw26 sw31 sw32 sw33 sw34 sw35 sw36 sw41 sw42 sw43 sw44 sw45 sw46 sw51 sw52 sw53 sw54 sw55 sw56 sw61 sw62 sw63 sw64 sw65 sw66 hn1 hn6 hm1 hm6
theorem wd_all {n m : Nat} (hn1 : 1 ≤ n) (hn6 : n ≤ 6) (hm1 : 1 ≤ m) (hm6 : m ≤ 6) : (stF n m []).all (movedB n m) = true :=
  six (P := fun n m => (stF n m []).all (movedB n m) = true) wd11 wd12 wd13 wd14 wd15 wd16 wd21 wd22 wd23 wd24 wd25 wd26 wd31 wd32 wd33 wd34 wd35 wd36 wd41 wd42 wd43 wd44 wd45 wd46 wd51 wd52 wd53 wd54 wd55 wd56 wd61 wd62 wd63 wd64 wd65 wd66 hn1 hn6 hm1 hm6
theorem sweep_state {n b : Nat} {l : List Int} (h : stateB n b l = true) : stateB n b (sweepP b l) = true := sweepTo_state h rfl _
theorem moved_of {n m : Nat} {l : List Int} (hn1 : 1 ≤ n) (hn6 : n ≤ 6) (hb1 : 1 ≤ m) (hb6 : m ≤ 6) (hs : stateB n m l = true) : ofP n (wordP m l) = l ∧ wordB n m (wordP m l) = true ∧ wordP m (sweepP m l) = (wordP m l).drop 1 ++ (wordP m l).take 1 := by
  have h1 := List.all_eq_true.1 (sw_all hn1 hn6 hb1 hb6) l (state_mem hs)
  have h2 := List.all_eq_true.1 (wd_all hn1 hn6 hb1 hb6) l (state_mem hs)
  simp only [movedB, Bool.and_eq_true, decide_eq_true_eq] at h1 h2
  exact ⟨h2.1.1, h2.1.2, by rw [h1]; exact h2.2⟩
def iterSweep (m : Nat) (l : List Int) : Nat → List Int
  | 0 => l
  | k + 1 => sweepP m (iterSweep m l k)
theorem iterSweep_state {n m : Nat} {l : List Int} (h : stateB n m l = true) (k : Nat) : stateB n m (iterSweep m l k) = true := by
  induction k with
  | zero => exact h
  | succ k ih => exact sweep_state ih
theorem iterSweep_word {n m : Nat} {l : List Int} (hn1 : 1 ≤ n) (hn6 : n ≤ 6) (hb1 : 1 ≤ m) (hb6 : m ≤ 6) (hs : stateB n m l = true) (k : Nat) (hk : k ≤ n + m) : wordP m (iterSweep m l k) = (wordP m l).drop k ++ (wordP m l).take k := by
  have hw := (of_decide_eq_true (moved_of hn1 hn6 hb1 hb6 hs).2.1).1
  obtain ⟨ws, hws⟩ : ∃ ws, ws = wordP m l := ⟨_, rfl⟩
  rw [← hws] at hw ⊢
  induction k with
  | zero => simp [iterSweep, hws]
  | succ k ih =>
    have h := (moved_of hn1 hn6 hb1 hb6 (iterSweep_state hs k)).2.2
    rw [iterSweep, h, ih (by omega)]
    have e : ws.drop k = ws[k]'(by omega) :: ws.drop (k + 1) := List.drop_eq_getElem_cons (by omega)
    rw [e, show ws.take (k + 1) = ws.take k ++ [ws[k]'(by omega)] from List.take_succ_eq_append_getElem (by omega)]
    generalize ws.drop (k + 1) = D
    generalize ws.take k = T
    generalize ws[k]'(by omega) = x
    simp
theorem iterSweep_back {n m : Nat} {l : List Int} (hn1 : 1 ≤ n) (hn6 : n ≤ 6) (hb1 : 1 ≤ m) (hb6 : m ≤ 6) (hs : stateB n m l = true) : iterSweep m l (n + m) = l := by
  have h1 := iterSweep_word hn1 hn6 hb1 hb6 hs (n + m) (Nat.le_refl _)
  have hw := (of_decide_eq_true (moved_of hn1 hn6 hb1 hb6 hs).2.1).1
  rw [List.drop_of_length_le (by omega), List.take_of_length_le (by omega), List.nil_append] at h1
  have h2 := (moved_of hn1 hn6 hb1 hb6 (iterSweep_state hs (n + m))).1
  rw [h1, (moved_of hn1 hn6 hb1 hb6 hs).1] at h2
  exact h2.symm
end Go.Proofs.Ytnhbkopgbibcgaa
