/- Contract: Days. -/
import Derived.Test.YtnhbkopgbibcgaaGi
namespace Go.Proofs.Ytnhbkopgbibcgaa
open Go.RowKit Go.Shelf

/-- The state after k days. -/
def iterDay (b : Nat) (l : List Int) : Nat → List Int
  | 0 => l
  | k + 1 => dayP b (iterDay b l k)
theorem dayP_length (b : Nat) (l : List Int) : (dayP b l).length = l.length := dayOf_length _ _ _
theorem iterDay_length (b : Nat) (l : List Int) (k : Nat) : (iterDay b l k).length = l.length := by
  induction k with
  | zero => rfl
  | succ k ih => rw [iterDay, dayP_length, ih]
theorem tmod_range (d n : Int) (hn : 0 < n) : -n < Int.tmod d n ∧ Int.tmod d n < n := by
  constructor
  · rw [Int.tmod_eq_emod]; have := Int.emod_nonneg d (show n ≠ 0 by omega); have := Int.emod_lt_of_pos d hn; split <;> omega
  · exact Int.tmod_lt_of_pos d hn
theorem within_eq (d n : Int) (hn : 0 < n) : (Int.tmod d n + n) % n = d % n := by
  rw [Int.tmod_eq_emod]
  split
  · simp
  · rename_i h
    have : (n.natAbs : Int) = n := by omega
    rw [this]
    simp
theorem iter_moves (b : Nat) (l : List Int) (k : Nat) (h6 : l.length ≤ 6) (hb6 : b ≤ 6) (W : World) (B : Nat) (v : Value) (hO : Own W B v (iterDay b l k)) :
    Calls Try.prog 57 #[.agg #[.int .i64 (l.length : Int), .int .i64 (b : Int)], v] W fun e w' => ∃ v', e = .returned v' ∧ Own w' W.heap.size v' (iterDay b l (k + 1)) ∧ Below W.heap.size W w' := by
  obtain ⟨A, c, rfl, hI, _⟩ := own_ints hO (by rw [iterDay_length]; omega)
  have := day_any (iterDay b l k) A c b W hI (by rw [iterDay_length]; exact h6) hb6
  rw [iterDay_length] at this
  rw [iterDay_length]
  exact this

set_option maxHeartbeats 4000000 in
set_option maxRecDepth 100000 in
theorem Days_any (a b : Int) (l : List Int) (A : Option Addr) (c : Nat) (d : Int) (w : World) (hl : IntsAt w A l) (hlc : l.length ≤ c) (hA : A = none → c = 0) :
    Calls Try.prog 27 #[.int .i64 a, .int .i64 b, .slice A l.length c, .int .i64 d] w fun e w' => MovedPost a b l (iterDay b.toNat l (d % (a + b)).toNat) w e w' := by
  have CR := Off.mk (read_any a b l A c w hl hlc hA)
  clear hl
  cases hk : askedB a b l
  · have HK := Off.mk hk
    clear hk
    go_enter Try.func27, Try.ntmps27
    go_wp2_with fail
    refine CR.out.mono ?_
    rintro e w1 ⟨v1, rfl, _, hv, hb1⟩
    obtain rfl := hv HK.out
    rw [HK.out]
    go_wp2
    go_ret2
    exact ⟨_, by rw [HK.out]; rfl, by rw [HK.out]; exact ⟨World.ownsRow_nil _ _ _ _⟩, belowA hb1 _⟩
  · have HK := Off.mk hk
    obtain ⟨n, m, rfl, rfl, hn, hn1, hn6, hm1, hm6, hs⟩ := asked_nat hk
    have HN := Off.mk hn
    have CM : Off (∀ k W B v, Own W B v (iterDay m l k) → Calls Try.prog 57 #[.agg #[.int .i64 (n : Int), .int .i64 (m : Int)], v] W fun e w' => ∃ v', e = .returned v' ∧ Own w' W.heap.size v' (iterDay m l (k + 1)) ∧ Below W.heap.size W w') := ⟨fun k W B v hO => by
      have := iter_moves m l k (by omega) hm6 W B v hO
      rw [hn] at this
      exact this⟩
    obtain ⟨t, ht⟩ : ∃ t, t = Int.tmod d ((n : Int) + m) := ⟨_, rfl⟩
    have hr := tmod_range d ((n : Int) + m) (by omega)
    rw [← ht] at hr
    obtain ⟨hr1, hr2⟩ := hr
    obtain ⟨q, hq⟩ : ∃ q : Nat, (q : Int) = (t + ((n : Int) + m)) % ((n : Int) + m) := ⟨((t + ((n : Int) + m)) % ((n : Int) + m)).toNat, by
      have := Int.emod_nonneg (t + ((n : Int) + m)) (show ((n : Int) + m) ≠ 0 by omega)
      omega⟩
    have HQ : Off ((d % ((n : Int) + m)).toNat = q) := ⟨by
      have := within_eq d ((n : Int) + m) (by omega)
      rw [← ht, ← hq] at this
      omega⟩
    have hq2 : q < n + m := by
      have := Int.emod_lt_of_pos (t + ((n : Int) + m)) (show 0 < ((n : Int) + m) by omega)
      omega
    have HW : Off ((wrap64 (d.tmod (↑n + ↑m) + (↑n + ↑m))).tmod (↑n + ↑m) = (q : Int)) := ⟨by
      rw [← ht, IntWalk.wrap64_in _ (by omega), Int.tmod_eq_emod_of_nonneg (by omega), hq]⟩
    clear hk hs hn hq ht
    go_enter Try.func27, Try.ntmps27
    go_wp2_with fail
    refine CR.out.mono ?_
    rintro e w1 ⟨v1, rfl, hO, _, hb1⟩
    have HO1 := own_below (hO HK.out) ((Below.refl _ _).alloc (Nat.le_refl _) (.cells #[.int .i64 (n : Int), .int .i64 (m : Int)] 62))
    rw [HK.out]
    obtain ⟨⟨c0, c1⟩, _, _⟩ := two_facts (block_new w1 (.cells #[.int .i64 (n : Int), .int .i64 (m : Int)] 62))
    have hb2 := belowA hb1 (.cells #[.int .i64 (n : Int), .int .i64 (m : Int)] 62)
    obtain ⟨w2, hw2⟩ : ∃ w2, w2 = w1.alloc (.cells #[.int .i64 (n : Int), .int .i64 (m : Int)] 62) := ⟨_, rfl⟩
    rw [← hw2] at HO1 hb2 c0 c1
    have hp1 : w.heap.size ≤ w1.heap.size := hb1.size
    clear hO
    obtain ⟨p, hp⟩ : ∃ p, p = w1.heap.size := ⟨_, rfl⟩
    rw [← hp] at c0 c1 hp1
    go_wp2_with fail
    rw [← hw2, ← hp]
    clear hp hb1 hw2
    rw [HW.out]
    go_loopw [11, 36] (fun v iv wr => ∃ k : Nat, k ≤ q ∧ iv = .int .i64 k ∧ Own wr w.heap.size v (iterDay m l k) ∧ wr.cell? ⟨p, 0, none⟩ = some (.int .i64 (n : Int)) ∧ wr.cell? ⟨p, 1, none⟩ = some (.int .i64 (m : Int)) ∧ Below w.heap.size w wr) (fun _ iv _ => q - (intOf iv).toNat)
    case atStart => exact ⟨0, by omega, rfl, HO1, c0, c1, hb2⟩
    case round =>
      clear c0 c1 HO1 hb2
      obtain ⟨k, hk, rfl, hO, c0, c1, hb⟩ := hrel
      obtain ⟨wo, rfl⟩ : ∃ wo : World, wo = wr := ⟨_, rfl⟩
      have hws := hb.size
      by_cases hkl : k < q
      · have hki : (k : Int) < (q : Int) := by omega
        go_wp2_with fail
        refine (CM.out k _ _ _ hO).mono ?_
        rintro e w3 ⟨v3, rfl, hO3, hb3⟩
        have d0 := cellB hb3 c0
        have d1 := cellB hb3 c1
        have hb4 := belowC hb hb3
        clear hO c0 c1 hb hb3
        go_wp2
        go_roundw
        case rel => exact ⟨k + 1, by omega, by go_num, own_mono hO3 hws, d0, d1, hb4⟩
        case measure => simp only [intOf]; omega
      · obtain rfl : k = q := by omega
        go_wp2
        go_ret2
        exact ⟨_, by rw [HK.out]; rfl, by rw [HK.out, HQ.out]; exact hO, hb⟩
end Go.Proofs.Ytnhbkopgbibcgaa
