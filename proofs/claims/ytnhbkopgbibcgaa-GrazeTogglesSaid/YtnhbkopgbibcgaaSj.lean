/- Plain law: a day is all plots, turned line by line. -/
import Derived.Test.YtnhbkopgbibcgaaSg
import Derived.Test.YtnhbkopgbibcgaaSh
import Derived.Test.YtnhbkopgbibcgaaSi
namespace Go.Proofs.Ytnhbkopgbibcgaa

theorem six7 {P : Nat → Nat → Prop} (h11 : P 1 1) (h12 : P 1 2) (h13 : P 1 3) (h14 : P 1 4) (h15 : P 1 5) (h16 : P 1 6) (h21 : P 2 1) (h22 : P 2 2) (h23 : P 2 3) (h24 : P 2 4) (h25 : P 2 5) (h26 : P 2 6)
    (h31 : P 3 1) (h32 : P 3 2) (h33 : P 3 3) (h34 : P 3 4) (h35 : P 3 5) (h36 : P 3 6) (h41 : P 4 1) (h42 : P 4 2) (h43 : P 4 3) (h44 : P 4 4) (h45 : P 4 5) (h46 : P 4 6)
    (h51 : P 5 1) (h52 : P 5 2) (h53 : P 5 3) (h54 : P 5 4) (h55 : P 5 5) (h56 : P 5 6) (h61 : P 6 1) (h62 : P 6 2) (h63 : P 6 3) (h64 : P 6 4) (h65 : P 6 5) (h66 : P 6 6)
    {n m : Nat} (hn1 : 1 ≤ n) (hn6 : n ≤ 6) (hm1 : 1 ≤ m) (hm6 : m ≤ 6) : P n m := by
  have a : n = 1 ∨ n = 2 ∨ n = 3 ∨ n = 4 ∨ n = 5 ∨ n = 6 := by omega
  have b : m = 1 ∨ m = 2 ∨ m = 3 ∨ m = 4 ∨ m = 5 ∨ m = 6 := by omega
  rcases a with rfl | rfl | rfl | rfl | rfl | rfl <;> rcases b with rfl | rfl | rfl | rfl | rfl | rfl <;> assumption
theorem dc_all {n m : Nat} (hn1 : 1 ≤ n) (hn6 : n ≤ 6) (hm1 : 1 ≤ m) (hm6 : m ≤ 6) : (stF n m []).all (dayCB n m) = true :=
  six7 (P := fun n m => (stF n m []).all (dayCB n m) = true) dc11 dc12 dc13 dc14 dc15 dc16 dc21 dc22 dc23 dc24 dc25 dc26 dc31 dc32 dc33 dc34 dc35 dc36 dc41 dc42 dc43 dc44 dc45 dc46 dc51 dc52 dc53 dc54 dc55 dc56 dc61 dc62 dc63 dc64 dc65 dc66 hn1 hn6 hm1 hm6
theorem day_canon {n m : Nat} {l : List Int} (hn1 : 1 ≤ n) (hn6 : n ≤ 6) (hm1 : 1 ≤ m) (hm6 : m ≤ 6) (hs : stateB n m l = true) : canonF n m l = dayP m l := by
  have h := List.all_eq_true.1 (dc_all hn1 hn6 hm1 hm6) l (state_mem hs)
  unfold dayCB at h
  rw [(day_state hn1 hn6 hm1 hm6 hs).1]
  exact (of_decide_eq_true h).symm
end Go.Proofs.Ytnhbkopgbibcgaa
