/- Contracts: is a pair among pairs; joined. -/
import Derived.Test.YtddcdopimpfhcaaBg
namespace Go.Proofs.Ytddcdopimpfhcaa
open Go.RowKit Go.Shelf

set_option maxHeartbeats 1000000 in
theorem index_pair (p0 p1 : Int) (xs : List (Int × Int)) (A : Option Addr) (c : Nat) (w : World) (hx : PairsI w A xs) :
    Calls Try.prog 94 #[.slice A xs.length c, .agg #[.int .i64 p0, .int .i64 p1]] w fun e w' => ∃ r : Int, e = .returned (.int .i64 r) ∧ decide (0 ≤ r) = xs.contains (p0, p1) ∧ Below w.heap.size w w' := by
  have hlen := hx.len
  have hP := block_new w (.cells #[.int .i64 p0, .int .i64 p1] 36)
  have hB0 : Below w.heap.size w (w.alloc (.cells #[.int .i64 p0, .int .i64 p1] 36)) := (Below.refl _ _).alloc (Nat.le_refl _) _
  obtain ⟨⟨q0, q1⟩, _, _⟩ := two_facts hP
  obtain ⟨w1, hw1⟩ : ∃ w1, w1 = w.alloc (.cells #[.int .i64 p0, .int .i64 p1] 36) := ⟨_, rfl⟩
  obtain ⟨z, hz⟩ : ∃ z, z = w.heap.size := ⟨_, rfl⟩
  rw [← hw1, ← hz] at q0 q1
  rw [← hw1] at hB0
  have HB0 := Off.mk hB0
  have HX := Off.mk hx
  clear hx hP
  go_enter Try.func94, Try.ntmps94
  go_wp2
  rw [← hw1, ← hz]
  clear hw1 hz
  go_loopw [8] (fun i wr => ∃ k : Nat, k ≤ xs.length ∧ i = .int .i64 k ∧ Off (Below w1.heap.size w1 wr) ∧ Off (∀ j, j < k → xs.getD j (0, 0) ≠ (p0, p1))) (fun i _ => xs.length - (intOf i).toNat)
  case atStart => exact ⟨0, by omega, rfl, ⟨Below.refl _ _⟩, ⟨fun j hj => by omega⟩⟩
  case round =>
    obtain ⟨k, hk, rfl, HB, hno⟩ := hrel
    have HBw := Off.mk (belowC HB0.out HB.out)
    have r0 := cellB HB.out q0
    have r1 := cellB HB.out q1
    by_cases hlt : k < xs.length
    · have hki : (k : Int) < (xs.length : Int) := by omega
      obtain ⟨ad, rfl, cA, cB⟩ := (HX.out.below HBw.out).cell k hlt
      have HH : Off (xs.getD k (0, 0) = (p0, p1) → xs.contains (p0, p1) = true) := ⟨fun hv => by
        rw [List.contains_iff_mem, ← hv, List.getD_eq_getElem?_getD, List.getElem?_eq_getElem hlt]
        exact List.getElem_mem hlt⟩
      have HN : Off (xs.getD k (0, 0) ≠ (p0, p1) → ∀ j, j < k + 1 → xs.getD j (0, 0) ≠ (p0, p1)) := ⟨fun h j hj => by
        by_cases e : j = k
        · rw [e]; exact h
        · exact hno.out j (by omega)⟩
      obtain ⟨x, hx⟩ : ∃ x, x = xs.getD k (0, 0) := ⟨_, rfl⟩
      rw [← hx] at cA cB HH HN
      clear hx hno hB0 q0 q1
      by_cases e0 : p0 = x.1
      · by_cases e1 : p1 = x.2
        · have HO := Off.mk (HH.out (by rw [e0, e1]))
          subst e0
          subst e1
          clear HH HN
          go_wp2
          go_quiet (fail)
          go_wp2
          go_ret
          exact ⟨k, rfl, by rw [HO.out]; simp, below_drewN' HBw.out _⟩
        · have HO := Off.mk (HN.out (by rintro rfl; exact e1 rfl))
          subst e0
          have hd : decide (p1 = x.2) = false := decide_eq_false e1
          clear HH HN
          go_wp2
          go_quiet (fail)
          go_wp2
          go_roundw
          case rel => exact ⟨k + 1, by omega, by go_num, ⟨below_drewN' HB.out _⟩, HO⟩
          case measure => simp only [intOf]; omega
      · have HO := Off.mk (HN.out (by rintro rfl; exact e0 rfl))
        have hd : decide (p0 = x.1) = false := decide_eq_false e0
        clear HH HN
        go_wp2
        go_quiet (fail)
        go_wp2
        go_roundw
        case rel => exact ⟨k + 1, by omega, by go_num, ⟨below_drewN' HB.out _⟩, HO⟩
        case measure => simp only [intOf]; omega
    · obtain rfl : k = xs.length := by omega
      have HO : Off (xs.contains (p0, p1) = false) := ⟨by
        rw [Bool.eq_false_iff, ne_eq, List.contains_iff_mem]
        intro hm
        obtain ⟨j, hj, e⟩ := List.getElem_of_mem hm
        refine hno.out j hj ?_
        rw [List.getD_eq_getElem?_getD, List.getElem?_eq_getElem hj]
        exact e⟩
      go_wp2
      go_ret
      exact ⟨-1, rfl, by rw [HO.out]; rfl, HBw.out⟩
set_option maxHeartbeats 1000000 in
theorem contains_pair (p0 p1 : Int) (xs : List (Int × Int)) (A : Option Addr) (c : Nat) (v : Bool) (hv : xs.contains (p0, p1) = v) (w : World) (hx : PairsI w A xs) :
    Calls Try.prog 86 #[.slice A xs.length c, .agg #[.int .i64 p0, .int .i64 p1]] w fun e w' => e = .returned (.bool v) ∧ Below w.heap.size w w' := by
  have hB0 : Below w.heap.size w (w.alloc (.cells #[.int .i64 p0, .int .i64 p1] 36)) := (Below.refl _ _).alloc (Nat.le_refl _) _
  have HB0 := Off.mk hB0
  have CI := Off.mk (index_pair p0 p1 xs A c _ (hx.below hB0))
  have HV := Off.mk hv
  clear hx hv hB0
  go_enter Try.func86, Try.ntmps86
  go_wp2_with (go_at_call 94; refine CI.out.mono ?_; rintro e w1 ⟨r, rfl, hr, hb1⟩)
  go_ret
  exact ⟨ret_bool (by rw [← HV.out]; simp), belowC HB0.out hb1⟩
def joinB (n : Int) (l : List (Int × Int)) (a b : Int) : Bool := nbB n a b || l.contains (a, b)
set_option maxHeartbeats 1000000 in
theorem joined_any (n a b : Int) (l : List (Int × Int)) (A : Option Addr) (c : Nat) (v : Bool) (hv : joinB n l a b = v) (hn : 3 ≤ n ∧ n ≤ 12) (ha : 0 ≤ a ∧ a < 12) (hb : 0 ≤ b ∧ b < 12) (w : World) (hx : PairsI w A l) :
    Calls Try.prog 74 #[.int .i64 n, .slice A l.length c, .int .i64 a, .int .i64 b] w fun e w' => e = .returned (.bool v) ∧ Below w.heap.size w w' := by
  have CN := Off.mk (fun v hv => neigh_any n a b hn ha hb v hv w)
  have CC := Off.mk (fun v hv => contains_pair a b l A c v hv w hx)
  obtain ⟨b1, h1⟩ : ∃ x, nbB n a b = x := ⟨_, rfl⟩
  obtain ⟨b2, h2⟩ : ∃ x, l.contains (a, b) = x := ⟨_, rfl⟩
  unfold joinB at hv
  rw [h1, h2] at hv
  have CN' := Off.mk (CN.out _ h1)
  have CC' := Off.mk (CC.out _ h2)
  clear CN CC h1 h2 hx
  cases b1
  · rw [Bool.false_or] at hv
    subst hv
    go_enter Try.func74, Try.ntmps74
    go_wp2_with (first
      | (go_at_call 75; refine CN'.out.mono ?_; rintro e w1 ⟨rfl, hw⟩; subst w1)
      | (go_at_call 86; refine CC'.out.mono ?_; rintro e w2 ⟨rfl, hb⟩))
    go_ret
    exact ⟨rfl, hb⟩
  · rw [Bool.true_or] at hv
    subst hv
    go_enter Try.func74, Try.ntmps74
    go_wp2_with (go_at_call 75; refine CN'.out.mono ?_; rintro e w1 ⟨rfl, hw⟩; subst w1)
    go_ret
    exact ⟨rfl, Below.refl _ _⟩
end Go.Proofs.Ytddcdopimpfhcaa
