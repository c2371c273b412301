/- Contracts: the specification's Day, within, after, Days. -/
import Derived.Test.YtnhbkopgbibcgaaHc
namespace Go.Proofs.Ytnhbkopgbibcgaa
open Go.RowKit Go.Shelf

set_option maxHeartbeats 1000000 in
theorem rDay_any (a b : Int) (l : List Int) (A : Option Addr) (c : Nat) (w : World) (hl : IntsAt w A l) :
    Calls Try.prog 23 #[.int .i64 a, .int .i64 b, .slice A l.length c] w fun e w' => MovedPost a b l (dayP b.toNat l) w e w' := by
  cases hk : askedB a b l
  · have CA := Off.mk (asked_any a b l A c false hk w hl)
    have HK := Off.mk hk
    clear hk
    go_enter Try.func23, Try.ntmps23
    go_wp2_with (go_at_call 58; refine CA.out.mono ?_; rintro e w1 ⟨rfl, hb⟩; simp only [askedErr])
    go_ret2
    exact ⟨_, by rw [HK.out]; rfl, by rw [HK.out]; exact ⟨World.ownsRow_nil _ _ _ _⟩, hb⟩
  · have CA := Off.mk (asked_any a b l A c true hk w hl)
    have HK := Off.mk hk
    obtain ⟨n, m, rfl, rfl, hn, hn1, hn6, hm1, hm6, hs⟩ := asked_nat hk
    have CD : Off (∀ W, Below w.heap.size w W → Calls Try.prog 59 #[.int .i64 (n : Int), .int .i64 (m : Int), .slice A l.length c] W fun e w' => ∃ v, e = .returned v ∧ Own w' W.heap.size v (dayP m l) ∧ Below W.heap.size W w') := ⟨fun W hW => by
      have := rday_any l A c m W (hl.below hW) (by omega) hm6
      rw [hn] at this ⊢
      exact this⟩
    clear hk hs hn hl
    go_enter Try.func23, Try.ntmps23
    go_wp2_with (first
      | (go_at_call 58; refine CA.out.mono ?_; rintro e w1 ⟨rfl, hb⟩; simp only [askedErr])
      | (go_at_call 59; refine (CD.out _ hb).mono ?_; rintro e w2 ⟨v, rfl, hO, hb2⟩; have hsz := hb.size))
    go_ret2
    exact ⟨_, by rw [HK.out]; rfl, by rw [HK.out]; exact own_mono hO hsz, belowC hb hb2⟩

set_option maxHeartbeats 1000000 in
theorem within_any (n m : Nat) (d : Int) (h1 : 1 ≤ n) (h6 : n ≤ 6) (hm1 : 1 ≤ m) (hm6 : m ≤ 6) (w : World) :
    Calls Try.prog 50 #[.int .i64 (n : Int), .int .i64 (m : Int), .int .i64 d] w fun e w' => e = .returned (.int .i64 ((d % ((n : Int) + m)).toNat : Int)) ∧ w' = w := by
  have hr := tmod_range d ((n : Int) + m) (by omega)
  have hw := within_eq d ((n : Int) + m) (by omega)
  have hp := Int.emod_nonneg d (show ((n : Int) + m) ≠ 0 by omega)
  obtain ⟨t, ht⟩ : ∃ t, t = Int.tmod d ((n : Int) + m) := ⟨_, rfl⟩
  rw [← ht] at hr hw
  obtain ⟨hr1, hr2⟩ := hr
  obtain ⟨q, hq⟩ : ∃ q : Nat, q = (d % ((n : Int) + m)).toNat := ⟨_, rfl⟩
  rw [← hq]
  have HT := Off.mk ht.symm
  by_cases h : t < 0
  · have HR : Off (t + ((n : Int) + m) = (q : Int)) := ⟨by
      rw [Int.emod_eq_of_lt (by omega) (by omega)] at hw
      omega⟩
    have hd : decide (Int.tmod d ((n : Int) + m) < 0) = true := by rw [← ht]; exact decide_eq_true h
    have hx1 : -((n : Int) + m) < Int.tmod d ((n : Int) + m) := by omega
    have hx2 : Int.tmod d ((n : Int) + m) < (n : Int) + m := by omega
    have hx3 : Int.tmod d ((n : Int) + m) < 0 := by omega
    clear hw hp ht hq
    go_enter Try.func50, Try.ntmps50
    go_wp2
    go_ret
    exact ⟨ret_int (by rw [HT.out]; exact HR.out), rfl⟩
  · have HR : Off (t = (q : Int)) := ⟨by
      rw [Int.add_emod_right, Int.emod_eq_of_lt (by omega) (by omega)] at hw
      omega⟩
    have hx2 : Int.tmod d ((n : Int) + m) < (n : Int) + m := by omega
    have hx3 : ¬ Int.tmod d ((n : Int) + m) < 0 := by omega
    have hx4 : 0 ≤ Int.tmod d ((n : Int) + m) := by omega
    clear hw hp ht hq
    go_enter Try.func50, Try.ntmps50
    go_wp2
    go_ret
    exact ⟨ret_int (by rw [HT.out]; exact HR.out), rfl⟩

set_option maxHeartbeats 2000000 in
set_option maxRecDepth 100000 in
theorem after_any (l : List Int) (A : Option Addr) (c b q : Nat) (w : World) (hl : IntsAt w A l) (hlc : l.length ≤ c) (hA : A = none → c = 0) (h6 : l.length ≤ 6) (hb6 : b ≤ 6) (hq : q ≤ 100) :
    Calls Try.prog 49 #[.int .i64 (l.length : Int), .int .i64 (b : Int), .slice A l.length c, .int .i64 (q : Int)] w fun e w' => ∃ v, e = .returned v ∧ Own w' w.heap.size v (iterDay b l q) ∧ Below w.heap.size w w' := by
  have CD : Off (∀ k W B v, Own W B v (iterDay b l k) → Calls Try.prog 59 #[.int .i64 (l.length : Int), .int .i64 (b : Int), v] W fun e w' => ∃ v', e = .returned v' ∧ Own w' W.heap.size v' (iterDay b l (k + 1)) ∧ Below W.heap.size W w') := ⟨fun k W B v hO => by
    obtain ⟨A, c, rfl, hI, _⟩ := own_ints hO (by rw [iterDay_length]; omega)
    have := rday_any (iterDay b l k) A c b W hI (by rw [iterDay_length]; exact h6) hb6
    rw [iterDay_length] at this
    rw [iterDay_length]
    exact this⟩
  go_enter Try.func49, Try.ntmps49
  go_wp2_with (at_builtin; refine wpList_copy rfl _ _ rfl A l c hl hlc (by omega) hA rfl rfl ?_)
  intro v1 w1 hO1 B1
  have hO0 : Own w1 w.heap.size v1 (iterDay b l 0) := hO1
  clear hO1
  go_wp2
  go_loopw [9, 10] (fun v iv wr => ∃ k : Nat, k ≤ q ∧ iv = .int .i64 k ∧ Own wr w.heap.size v (iterDay b l k) ∧ Below w.heap.size w wr) (fun _ iv _ => q - (intOf iv).toNat)
  case atStart => exact ⟨0, by omega, rfl, hO0, B1⟩
  case round =>
    clear hO0 B1
    obtain ⟨k, hk, rfl, hO, hb⟩ := hrel
    obtain ⟨wo, rfl⟩ : ∃ wo : World, wo = wr := ⟨_, rfl⟩
    have hws := hb.size
    by_cases hkq : k < q
    · have hki : (k : Int) < (q : Int) := by omega
      go_wp2_with fail
      ((with_reducible refine (CD.out k _ _ _ hO).mono ?_))
      rintro e w3 ⟨v3, rfl, hO3, hb3⟩
      go_wp2
      go_roundw
      case rel => exact ⟨k + 1, by omega, by go_num, own_mono hO3 hws, belowC hb hb3⟩
      case measure => simp only [intOf]; omega
    · obtain rfl : k = q := by omega
      go_wp2
      go_ret
      exact ⟨_, rfl, hO, hb⟩

set_option maxHeartbeats 1000000 in
theorem rDays_any (a b : Int) (l : List Int) (A : Option Addr) (c : Nat) (d : Int) (w : World) (hl : IntsAt w A l) (hlc : l.length ≤ c) (hA : A = none → c = 0) :
    Calls Try.prog 28 #[.int .i64 a, .int .i64 b, .slice A l.length c, .int .i64 d] w fun e w' => MovedPost a b l (iterDay b.toNat l (d % (a + b)).toNat) w e w' := by
  cases hk : askedB a b l
  · have CA := Off.mk (asked_any a b l A c false hk w hl)
    have HK := Off.mk hk
    clear hk
    go_enter Try.func28, Try.ntmps28
    go_wp2_with (go_at_call 58; refine CA.out.mono ?_; rintro e w1 ⟨rfl, hb⟩; simp only [askedErr])
    go_ret2
    exact ⟨_, by rw [HK.out]; rfl, by rw [HK.out]; exact ⟨World.ownsRow_nil _ _ _ _⟩, hb⟩
  · have CA := Off.mk (asked_any a b l A c true hk w hl)
    have HK := Off.mk hk
    obtain ⟨n, m, rfl, rfl, hn, hn1, hn6, hm1, hm6, hs⟩ := asked_nat hk
    have CW := Off.mk (fun W => within_any n m d hn1 hn6 hm1 hm6 W)
    obtain ⟨q, hq⟩ : ∃ q : Nat, q = (d % ((n : Int) + m)).toNat := ⟨_, rfl⟩
    have hq2 : q ≤ 12 := by
      have := Int.emod_lt_of_pos d (show 0 < ((n : Int) + m) by omega)
      omega
    rw [← hq] at CW ⊢
    have CD : Off (∀ W, Below w.heap.size w W → Calls Try.prog 49 #[.int .i64 (n : Int), .int .i64 (m : Int), .slice A l.length c, .int .i64 (q : Int)] W fun e w' => ∃ v, e = .returned v ∧ Own w' W.heap.size v (iterDay m l q) ∧ Below W.heap.size W w') := ⟨fun W hW => by
      have := after_any l A c m q W (hl.below hW) hlc hA (by omega) hm6 (by omega)
      rw [hn] at this ⊢
      exact this⟩
    clear hk hs hn hl hq
    go_enter Try.func28, Try.ntmps28
    go_wp2_with fail
    refine CA.out.mono ?_
    rintro e w1 ⟨rfl, hb⟩
    simp only [askedErr]
    have hsz := hb.size
    go_wp2_with fail
    refine (CW.out _).mono ?_
    rintro e w2 ⟨rfl, hw⟩
    subst w2
    go_wp2_with fail
    refine (CD.out _ hb).mono ?_
    rintro e w2 ⟨v, rfl, hO, hb2⟩
    go_wp2
    go_ret2
    exact ⟨_, by rw [HK.out]; rfl, by rw [HK.out]; exact own_mono hO hsz, belowC hb hb2⟩
end Go.Proofs.Ytnhbkopgbibcgaa
