/- The closed example of the layer is met. -/
import Derived.Test.YtdbleghnblohgaaVo
namespace Go.Proofs.Ytdbleghnblohgaa
open Go.RowKit Go.Shelf

theorem k_body : bodyB 3 [2, 1, 1] = true := by decide +kernel
theorem k_least : leastTo (winB 3 [2, 1, 1]) 3 (2 ^ 3) = [3, 5] := by decide +kernel
theorem k_turns : tally 3 (fun _ _ => 1) (turnsTo (winB 3 [2, 1, 1]) 3 3) = [3, 1, 1] := by decide +kernel
theorem k_power : powersOf 3 (ordersOf 3 [2, 1, 1]) = [(2, 3), (1, 6), (1, 6)] := by decide +kernel
theorem k_rule4 : isRule 4 [3, 12] = true := by decide +kernel
theorem k_rule3 : isRule 3 [3, 5] = true := by decide +kernel
theorem k_trade : tradeOf (ruleB [3, 12]) 4 = some (3, 12, 5) := by decide +kernel
theorem k_fourth : fourth 3 12 5 = 10 := by decide +kernel
theorem k_search : searchTo (ruleB [3, 5]) 3 (9 * 3) = (3, [2, 1, 1]) := by decide +kernel

def L3 : List Int := [2, 1, 1]
theorem c_least (W : World) (A : Option Addr) (c : Nat) (h : IntsAt W A [2, 1, 1]) : Calls Try.prog 27 #[.agg #[.int .i64 3, .slice A 3 c]] W fun e w' => ∃ A' c', e = .returned (.tuple #[.slice A' 2 c', .int .i64 0]) ∧ IntsAt w' A' [3, 5] ∧ Below W.heap.size W w' := by
  refine (Least_yes 3 [2, 1, 1] A c W h k_body).mono ?_
  rintro e w' ⟨v, rfl, hO, hb⟩
  replace hO : Own w' W.heap.size v (leastTo (winB 3 [2, 1, 1]) 3 (2 ^ 3)) := hO
  rw [k_least] at hO
  obtain ⟨A', c', rfl, hI, _⟩ := own_ints hO (by simp)
  exact ⟨A', c', rfl, hI, hb⟩
theorem c_turns (W : World) (A : Option Addr) (c : Nat) (h : IntsAt W A [2, 1, 1]) : Calls Try.prog 17 #[.agg #[.int .i64 3, .slice A 3 c]] W fun e w' => ∃ A' c', e = .returned (.tuple #[.slice A' 3 c', .int .i64 0]) ∧ IntsAt w' A' [3, 1, 1] ∧ Below W.heap.size W w' := by
  refine (Turns_yes 3 [2, 1, 1] A c W h k_body).mono ?_
  rintro e w' ⟨v, rfl, hO, hb⟩
  replace hO : Own w' W.heap.size v (tally 3 (fun _ _ => 1) (turnsTo (winB 3 [2, 1, 1]) 3 3)) := hO
  rw [k_turns] at hO
  obtain ⟨A', c', rfl, hI, _⟩ := own_ints hO (by simp)
  exact ⟨A', c', rfl, hI, hb⟩
theorem c_power (W : World) (A : Option Addr) (c : Nat) (h : IntsAt W A [2, 1, 1]) : Calls Try.prog 20 #[.agg #[.int .i64 3, .slice A 3 c]] W fun e w' => ∃ g c', e = .returned (.tuple #[.slice (some ⟨g, 0, none⟩) 3 c', .int .i64 0]) ∧
    w'.cell? ⟨g, 0, none⟩ = some (.int .i64 2) ∧ w'.cell? ⟨g, 1, none⟩ = some (.int .i64 3) ∧ Below W.heap.size W w' := by
  refine (Power_yes 3 [2, 1, 1] A c W h k_body).mono ?_
  rintro e w' ⟨v, rfl, hO, hb⟩
  replace hO : OwnR w' W.heap.size v (powersOf 3 (ordersOf 3 [2, 1, 1])) := hO
  rw [k_power] at hO
  obtain ⟨g, c', rfl, _, _, hc⟩ := ownR_cells hO (by simp)
  exact ⟨g, c', rfl, (hc 0 (by simp)).1, (hc 0 (by simp)).2, hb⟩
theorem c_trade (W : World) (A : Option Addr) (c : Nat) (hc : 2 ≤ c) (h : IntsAt W A [3, 12]) : Calls Try.prog 29 #[.int .i64 4, .slice A 2 c] W fun e w' => e = .returned (.tuple #[.agg #[.int .i64 3, .int .i64 12, .int .i64 5, .int .i64 10], .int .i64 0]) ∧ Below W.heap.size W w' := by
  refine (Trade_yes 4 [3, 12] A c W h hc k_rule4).mono ?_
  rintro e w' ⟨rfl, hb⟩
  refine ⟨?_, hb⟩
  rw [tradeVal, k_trade]
  rfl
theorem c_weights (W : World) (A : Option Addr) (c : Nat) (hc : 2 ≤ c) (h : IntsAt W A [3, 5]) : Calls Try.prog 22 #[.int .i64 3, .slice A 2 c] W fun e w' => ∃ A' c', e = .returned (.tuple #[.agg #[.int .i64 3, .slice A' 3 c'], .int .i64 0]) ∧ IntsAt w' A' [2, 1, 1] ∧ Below W.heap.size W w' := by
  refine (Weights_yes 3 [3, 5] A c W h hc k_rule3).mono ?_
  rintro e w' ⟨h | h, hb⟩
  · obtain ⟨_, v, rfl, hO⟩ := h
    rw [k_search] at hO ⊢
    obtain ⟨A', c', rfl, hI, _⟩ := own_ints hO (by simp)
    exact ⟨A', c', rfl, hI, hb⟩
  · have := h.1
    rw [k_search] at this
    exact absurd (by decide) this
theorem c_same (xs : List Int) (n : Nat) (hn : xs.length = n) (W : World) (A B : Option Addr) (c d : Nat) (h : IntsAt W A xs) (k : IntsAt W B xs) : Calls Try.prog 19 #[.slice A n c, .slice B n d] W fun e w' => e = .returned (.bool true) ∧ Below W.heap.size W w' := by
  subst hn
  have := same_any xs xs A B c d W h k
  rw [decide_eq_true rfl] at this
  exact this

theorem eq_trade (w : World) : Sem.run Try.prog (Op.equalIn 10000 43 (.agg #[.int .i64 3, .int .i64 12, .int .i64 5, .int .i64 10]) (.agg #[.int .i64 3, .int .i64 12, .int .i64 5, .int .i64 10])) w = .ok true w := by kernel_rfl

set_option maxHeartbeats 2000000 in
theorem alive_any (w : World) : Calls Try.prog 16 #[] w fun e w' => e = .returned (.bool true) ∧ Below w.heap.size w w' := by
  go_enter Try.func16, Try.ntmps16
  go_wp2_with fail
  refine (three_any _).mono ?_
  rintro e w1 ⟨rfl, hI1, hb1⟩
  go_wp2_with fail
  refine (c_least _ _ _ hI1).mono ?_
  rintro e w2 ⟨A2, c2, rfl, hI2, hb2⟩
  go_wp2_with fail
  refine (three_any _).mono ?_
  rintro e w3 ⟨rfl, hI3, hb3⟩
  go_wp2_with fail
  refine (c_turns _ _ _ hI3).mono ?_
  rintro e w4 ⟨A4, c4, rfl, hI4, hb4⟩
  go_wp2_with fail
  refine (three_any _).mono ?_
  rintro e w5 ⟨rfl, hI5, hb5⟩
  go_wp2_with fail
  refine (c_power _ _ _ hI5).mono ?_
  rintro e w6 ⟨g6, c6, rfl, hr0, hr1, hb6⟩
  go_wp2_with fail
  have hI7 : IntsAt (w6.alloc (.cells #[.int .i64 3, .int .i64 12] 3)) (some ⟨w6.heap.size, 0, none⟩) [3, 12] := ints_lit (t := 3) (block_new w6 _) (by simp)
  refine (c_trade _ _ _ (by omega) hI7).mono ?_
  rintro e w7 ⟨rfl, hb7⟩
  have hq0 := cellB hb7 (cellB ((Below.refl _ _).alloc (Nat.le_refl _) (.cells #[.int .i64 3, .int .i64 12] 3)) hr0)
  have hq1 := cellB hb7 (cellB ((Below.refl _ _).alloc (Nat.le_refl _) (.cells #[.int .i64 3, .int .i64 12] 3)) hr1)
  go_wp2_with fail
  have hI8 : IntsAt ((w7.alloc (.cells #[.int .i64 3, .int .i64 12, .int .i64 5, .int .i64 10] 43)).alloc (.cells #[.int .i64 3, .int .i64 5] 3)) (some ⟨w7.heap.size + 1, 0, none⟩) [3, 5] := by
    have := ints_lit (xs := [3, 5]) (t := 3) (block_new (w7.alloc (.cells #[.int .i64 3, .int .i64 12, .int .i64 5, .int .i64 10] 43)) (.cells #[.int .i64 3, .int .i64 5] 3)) (by simp)
    simpa using this
  refine (c_weights _ _ _ (by omega) hI8).mono ?_
  rintro e w8 ⟨A8, c8, rfl, hI8', hb8⟩
  have hs8 : w8.heap[w7.heap.size]? = some (.cells #[.int .i64 3, .int .i64 12, .int .i64 5, .int .i64 10] 43 (0, 0)) := blockB hb8 (alloc_old (block_new w7 _))
  have hp0 := cellB hb8 (cellB ((Below.refl _ _).alloc (Nat.le_refl _) (.cells #[.int .i64 3, .int .i64 5] 3)) (cellB ((Below.refl _ _).alloc (Nat.le_refl _) (.cells #[.int .i64 3, .int .i64 12, .int .i64 5, .int .i64 10] 43)) hq0))
  have hp1 := cellB hb8 (cellB ((Below.refl _ _).alloc (Nat.le_refl _) (.cells #[.int .i64 3, .int .i64 5] 3)) (cellB ((Below.refl _ _).alloc (Nat.le_refl _) (.cells #[.int .i64 3, .int .i64 12, .int .i64 5, .int .i64 10] 43)) hq1))
  have H6 : Below w6.heap.size w6 w8 := belowC (belowA (belowA (belowC (belowA (Below.refl _ _) _) hb7) _) _) hb8
  have H2 : Below w2.heap.size w2 w8 := belowC (belowC (belowC (belowC hb3 hb4) hb5) hb6) H6
  have H4 : Below w4.heap.size w4 w8 := belowC (belowC hb5 hb6) H6
  have H0 : Below w.heap.size w w8 := belowC (belowC hb1 hb2) H2
  have J2 := Off.mk (hI2.below H2)
  have J4 := Off.mk (hI4.below H4)
  have J8 := Off.mk hI8'
  have HS8 := Off.mk hs8
  have HP0 := Off.mk hp0
  have HP1 := Off.mk hp1
  have HH0 := Off.mk H0
  clear hI1 hI2 hI3 hI4 hI5 hI7 hI8 hI8' hb1 hb2 hb3 hb4 hb5 hb6 hb7 hb8 hr0 hr1 hq0 hq1 hs8 hp0 hp1 H6 H2 H4 H0
  go_wp2_with fail
  have K8 : ∀ o, Below w8.heap.size w8 (w8.alloc o) := fun o => (Below.refl _ _).alloc (Nat.le_refl _) o
  have hl9 : IntsAt ((w8.alloc (.cells #[.int .i64 3, .slice A8 3 c8] 24)).alloc (.cells #[.int .i64 3, .int .i64 5] 3)) (some ⟨w8.heap.size + 1, 0, none⟩) [3, 5] := by
    simpa using ints_lit (xs := [3, 5]) (t := 3) (block_new (w8.alloc (.cells #[.int .i64 3, .slice A8 3 c8] 24)) (.cells #[.int .i64 3, .int .i64 5] 3)) (by simp)
  refine (c_same [3, 5] 2 rfl _ _ _ _ _ (J2.out.below (belowA (K8 _) _)) hl9).mono ?_
  rintro e w9 ⟨rfl, hb9⟩
  have B9 : Off (Below w8.heap.size w8 w9) := ⟨belowC (belowA (K8 _) _) hb9⟩
  have hB9 : Off (w9.heap[w8.heap.size]? = some (.cells #[.int .i64 3, .slice A8 3 c8] 24 (0, 0))) := ⟨blockB hb9 (alloc_old (block_new w8 _))⟩
  clear hl9 hb9 K8
  go_wp2_with fail
  have hl10 : IntsAt (w9.alloc (.cells #[.int .i64 3, .int .i64 1, .int .i64 1] 3)) (some ⟨w9.heap.size, 0, none⟩) [3, 1, 1] := ints_lit (t := 3) (block_new w9 _) (by simp)
  refine (c_same [3, 1, 1] 3 rfl _ _ _ _ _ (J4.out.below (belowA B9.out _)) hl10).mono ?_
  rintro e w10 ⟨rfl, hb10⟩
  have B10 : Below w8.heap.size w8 w10 := belowC (belowA B9.out _) hb10
  have hr0 := cellB B10 HP0.out
  have hr1 := cellB B10 HP1.out
  obtain ⟨⟨a0, a1, a2, a3⟩, _⟩ := four_facts (blockB B10 HS8.out)
  obtain ⟨⟨b0, b1⟩, _⟩ := two_facts (blockB hb10 (alloc_old hB9.out))
  have HB10 := Off.mk B10
  clear hl10 hb10 B10
  have heq := fun w => eq_trade w
  go_wp2_with fail
  clear heq
  have hl11 : IntsAt (w10.alloc (.cells #[.int .i64 2, .int .i64 1, .int .i64 1] 3)) (some ⟨w10.heap.size, 0, none⟩) [2, 1, 1] := ints_lit (t := 3) (block_new w10 _) (by simp)
  refine (c_same [2, 1, 1] 3 rfl _ _ _ _ _ (J8.out.below (belowA HB10.out _)) hl11).mono ?_
  rintro e w11 ⟨rfl, hb11⟩
  have B11 : Off (Below w.heap.size w w11) := ⟨belowC HH0.out (belowC (belowA HB10.out _) hb11)⟩
  clear hl11 hb11
  go_wp2
  go_ret
  exact ⟨rfl, B11.out⟩
end Go.Proofs.Ytdbleghnblohgaa
