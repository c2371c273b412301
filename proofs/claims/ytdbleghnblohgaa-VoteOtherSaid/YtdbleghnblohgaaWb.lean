/- The law VoteOther: its walk. -/
import Derived.Test.YtdbleghnblohgaaVv
import Derived.Test.YtdbleghnblohgaaWa
import Derived.Test.YtdbleghnblohgaaPw
namespace Go.Proofs.Ytdbleghnblohgaa
open Go.RowKit Go.Shelf

set_option maxHeartbeats 2000000 in
theorem vother_many (n : Int) (l : List Int) (A : Option Addr) (c : Nat) (b : Int) (w : World) (h60 : 60 < l.length) :
    Calls Try.prog 11 #[.int .i64 n, .slice A l.length c, .int .u8 b] w fun e w' => e = .returned (.bool true) ∧ Below w.heap.size w w' := by
  go_enter Try.func11, Try.ntmps11
  go_wp2_with (go_at_call 16; refine (alive_any _).mono ?_; rintro e w2 ⟨rfl, hb2⟩)
  go_ret
  exact ⟨rfl, hb2⟩

set_option maxHeartbeats 2000000 in
theorem vother_no (n : Int) (l : List Int) (A : Option Addr) (c : Nat) (b : Int) (w : World) (hl : IntsAt w A l) (hlc : l.length ≤ c) (h60 : l.length ≤ 60) (hr : isRule n l = false) :
    Calls Try.prog 11 #[.int .i64 n, .slice A l.length c, .int .u8 b] w fun e w' => e = .returned (.bool true) ∧ Below w.heap.size w w' := by
  go_enter Try.func11, Try.ntmps11
  go_wp2_with fail
  refine (rIsRule n l A c _ hl hlc).mono ?_
  rw [hr]
  rintro e w1 ⟨rfl, hb1⟩
  go_wp2_with (go_at_call 16; refine (alive_any _).mono ?_; rintro e w2 ⟨rfl, hb2⟩)
  go_ret
  exact ⟨rfl, belowC hb1 hb2⟩

set_option maxHeartbeats 4000000 in
theorem vother_yes (m : Nat) (l : List Int) (A : Option Addr) (c : Nat) (b : Nat) (hb : b < 256) (w : World) (hl : IntsAt w A l) (hlc : l.length ≤ c) (h60 : l.length ≤ 60) (hr : isRule m l = true) :
    Calls Try.prog 11 #[.int .i64 m, .slice A l.length c, .int .u8 (b : Int)] w fun e w' => e = .returned (.bool true) ∧ Below w.heap.size w w' := by
  obtain ⟨⟨m', e, hm1, hm⟩, _⟩ := isRule_range hr
  obtain rfl : m = m' := by omega
  clear e
  have hpos : 0 < 2 ^ m := Nat.two_pow_pos m
  have hcast : ((2 ^ m : Nat) : Int) = 2 ^ m := by simp
  obtain ⟨s, hs⟩ : ∃ s, s = b % 2 ^ m := ⟨_, rfl⟩
  have hslt : s < 2 ^ m := by rw [hs]; exact Nat.mod_lt _ hpos
  have es : Off ((b : Int) % 2 ^ m = (s : Int)) := ⟨by rw [hs]; simp⟩
  have hp := pow_le m (by omega)
  have hslt' : (s : Int) < 2 ^ m := by omega
  have HO := Off.mk (other_rule hr)
  have HB := Off.mk (other_back hr)
  have HN := Off.mk (other_not hr s hslt)
  have hol : (otherOf m l).length ≤ 256 := by
    have h1 := leastTo_length (otherB l m) m (2 ^ m)
    have h2 := pow_256 (show m ≤ 8 by omega)
    unfold otherOf
    omega
  clear hs
  go_enter Try.func11, Try.ntmps11
  go_wp2_with fail
  refine (rIsRule m l A c _ hl hlc).mono ?_
  rw [hr]
  rintro e w1 ⟨rfl, hb1⟩
  go_wp2_with fail
  refine (Other_yes m l A c _ (hl.below hb1) hlc hr).mono ?_
  rintro e w2 ⟨v2, rfl, hO2, hb2⟩
  change Own w2 w1.heap.size v2 (otherOf m l) at hO2
  obtain ⟨A2, c2, rfl, hI2, hc2⟩ := own_ints hO2 (by omega)
  have B2 := belowC hb1 hb2
  clear hO2
  go_wp2_with fail
  refine (Other_yes m (otherOf m l) A2 c2 _ hI2 hc2 HO.out).mono ?_
  rintro e w3 ⟨v3, rfl, hO3, hb3⟩
  change Own w3 w2.heap.size v3 (otherOf m (otherOf m l)) at hO3
  rw [HB.out] at hO3
  obtain ⟨A3, c3, rfl, hI3, _⟩ := own_ints hO3 (by omega)
  have B3 := belowC B2 hb3
  clear hO3
  go_wp2_with fail
  rw [es.out]
  refine (Rules_yes m (s : Int) (otherOf m l) A2 c2 _ (hI2.below hb3) hc2 HO.out (by omega) hslt').mono ?_
  rintro e w4 ⟨rfl, hb4⟩
  have B4 := belowC B3 hb4
  go_wp2_with fail
  refine (Rules_yes m (2 ^ m - 1 - (s : Int)) l A c _ (hl.below B4) hlc hr (by omega) (by omega)).mono ?_
  rintro e w5 ⟨rfl, hb5⟩
  have B5 := belowC B4 hb5
  go_wp2_with fail
  refine (same_any l l A3 A c3 c _ (hI3.below (belowC hb4 hb5)) (hl.below B5)).mono ?_
  rw [decide_eq_true rfl]
  rintro e w6 ⟨rfl, hb6⟩
  have B6 := belowC B5 hb6
  obtain ⟨x, hx⟩ : ∃ x, x = ruleB (otherOf m l) (s : Int) := ⟨_, rfl⟩
  obtain ⟨y, hy⟩ : ∃ y, y = ruleB l (2 ^ m - 1 - (s : Int)) := ⟨_, rfl⟩
  have hxy : (x != y) = true := by rw [hx, hy]; exact HN.out
  rw [← hx, ← hy]
  clear hx hy HN HB HO
  cases x <;> cases y
  · cases hxy
  · go_wp2_with (go_at_call 16; refine (alive_any _).mono ?_; rintro e w7 ⟨rfl, hb7⟩)
    go_ret
    exact ⟨rfl, belowC B6 hb7⟩
  · go_wp2_with (go_at_call 16; refine (alive_any _).mono ?_; rintro e w7 ⟨rfl, hb7⟩)
    go_ret
    exact ⟨rfl, belowC B6 hb7⟩
  · cases hxy
end Go.Proofs.Ytdbleghnblohgaa
