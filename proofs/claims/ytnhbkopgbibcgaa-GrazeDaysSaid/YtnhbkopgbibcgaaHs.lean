/- The law GrazeDays: its walk. -/
import Derived.Test.YtnhbkopgbibcgaaHr
import Derived.Test.YtnhbkopgbibcgaaHd
import Derived.Test.YtnhbkopgbibcgaaHq
import Derived.Test.YtnhbkopgbibcgaaHo
namespace Go.Proofs.Ytnhbkopgbibcgaa
open Go.RowKit Go.Shelf

theorem backP_length (b : Nat) (l : List Int) : (backP b l).length = l.length := befOf_length _ _ _ _
set_option maxHeartbeats 4000000 in
set_option maxRecDepth 100000 in
theorem days_walk (a b : Int) (l : List Int) (A : Option Addr) (c : Nat) (d : Int) (w : World) (hI : l.length ≤ 140737488351232 → IntsAt w A l) (hlc : l.length ≤ c) (hA : A = none → c = 0) :
    Calls Try.prog 5 #[.int .i64 a, .int .i64 b, .slice A l.length c, .int .i64 d] w fun e w' => e = .returned (.bool true) ∧ Below w.heap.size w w' := by
  by_cases h20 : 20 < l.length
  · clear hI hA hlc
    go_enter Try.func5, Try.ntmps5
    go_wp2_with (go_at_call 17; refine (alive_any _).mono ?_; rintro e w2 ⟨rfl, hb2⟩)
    go_ret
    exact ⟨rfl, hb2⟩
  · have hl := hI (by omega)
    have hll : l.length ≤ 20 := by omega
    have HD : Off (∀ (A : Option Addr) (c : Nat) (W : World), IntsAt W A l → l.length ≤ c → (A = none → c = 0) → Calls Try.prog 22 #[.int .i64 a, .int .i64 b, .slice A l.length c] W fun e w' => Gets (resOf a b l (dayP b.toNat l)) (errOf a b l) W e w') := ⟨fun A c W h1 h2 h3 =>
      (Day_any a b l A c W h1 h2 h3).mono fun _ _ h => moved_gets (fun hk => by rw [dayP_length]; have := asked_len hk; omega) h⟩
    have HrD : Off (∀ (A : Option Addr) (c : Nat) (W : World), IntsAt W A l → l.length ≤ c → (A = none → c = 0) → Calls Try.prog 23 #[.int .i64 a, .int .i64 b, .slice A l.length c] W fun e w' => Gets (resOf a b l (dayP b.toNat l)) (errOf a b l) W e w') := ⟨fun A c W h1 h2 h3 =>
      (rDay_any a b l A c W h1).mono fun _ _ h => moved_gets (fun hk => by rw [dayP_length]; have := asked_len hk; omega) h⟩
    have HB : Off (∀ (A : Option Addr) (c : Nat) (W : World), IntsAt W A l → l.length ≤ c → (A = none → c = 0) → Calls Try.prog 25 #[.int .i64 a, .int .i64 b, .slice A l.length c] W fun e w' => Gets (resOf a b l (backP b.toNat l)) (errOf a b l) W e w') := ⟨fun A c W h1 h2 h3 =>
      (Back_any a b l A c W h1 h2 h3).mono fun _ _ h => moved_gets (fun hk => by rw [backP_length]; have := asked_len hk; omega) h⟩
    have HrB : Off (∀ (A : Option Addr) (c : Nat) (W : World), IntsAt W A l → l.length ≤ c → (A = none → c = 0) → Calls Try.prog 26 #[.int .i64 a, .int .i64 b, .slice A l.length c] W fun e w' => Gets (resOf a b l (backP b.toNat l)) (errOf a b l) W e w') := ⟨fun A c W h1 h2 h3 => by
      have := rBack_any a b l A c W h1
      rw [back_eq] at this
      exact this.mono fun _ _ h => moved_gets (fun hk => by rw [backP_length]; have := asked_len hk; omega) h⟩
    have HY : Off (∀ (A : Option Addr) (c : Nat) (W : World), IntsAt W A l → l.length ≤ c → (A = none → c = 0) → Calls Try.prog 27 #[.int .i64 a, .int .i64 b, .slice A l.length c, .int .i64 d] W fun e w' => Gets (resOf a b l (iterDay b.toNat l (d % (a + b)).toNat)) (errOf a b l) W e w') := ⟨fun A c W h1 h2 h3 =>
      (Days_any a b l A c d W h1 h2 h3).mono fun _ _ h => moved_gets (fun hk => by rw [iterDay_length]; have := asked_len hk; omega) h⟩
    have HrY : Off (∀ (A : Option Addr) (c : Nat) (W : World), IntsAt W A l → l.length ≤ c → (A = none → c = 0) → Calls Try.prog 28 #[.int .i64 a, .int .i64 b, .slice A l.length c, .int .i64 d] W fun e w' => Gets (resOf a b l (iterDay b.toNat l (d % (a + b)).toNat)) (errOf a b l) W e w') := ⟨fun A c W h1 h2 h3 =>
      (rDays_any a b l A c d W h1 h2 h3).mono fun _ _ h => moved_gets (fun hk => by rw [iterDay_length]; have := asked_len hk; omega) h⟩
    obtain ⟨R1, hR1⟩ : ∃ R, R = resOf a b l (dayP b.toNat l) := ⟨_, rfl⟩
    obtain ⟨R2, hR2⟩ : ∃ R, R = resOf a b l (backP b.toNat l) := ⟨_, rfl⟩
    obtain ⟨R3, hR3⟩ : ∃ R, R = resOf a b l (iterDay b.toNat l (d % (a + b)).toNat) := ⟨_, rfl⟩
    obtain ⟨z, hz⟩ : ∃ z, z = errOf a b l := ⟨_, rfl⟩
    rw [← hR1, ← hz] at HD HrD
    rw [← hR2, ← hz] at HB HrB
    rw [← hR3, ← hz] at HY HrY
    have HI := Off.mk hl
    clear hR1 hR2 hR3 hz hI
    go_enter Try.func5, Try.ntmps5
    go_wp2_with (at_builtin; refine wpList_copy rfl _ _ rfl A l c hl hlc (by omega) hA rfl rfl ?_)
    intro v1 w1 hO1 b1
    obtain ⟨A1, c1, rfl, hI1, hlc1, hA1⟩ := own_ints' hO1 (by omega)
    clear hl
    go_wp2_with fail
    refine (HD.out _ _ _ hI1 hlc1 hA1).mono ?_
    rintro e w2 ⟨A2, c2, rfl, hI2, _, _, h2⟩
    have b2 := belowC b1 h2
    have hI1 := hI1.below h2
    clear h2 b1
    go_wp2_with fail
    refine (HrD.out _ _ _ (HI.out.below b2) hlc hA).mono ?_
    rintro e w3 ⟨A3, c3, rfl, hI3, _, _, h3⟩
    have b3 := belowC b2 h3
    have hI1 := hI1.below h3
    have hI2 := hI2.below h3
    clear h3 b2
    go_wp2_with fail
    refine (same_self R1 _ _ _ _ _ hI2 hI3).mono ?_
    rintro e w4 ⟨rfl, h4⟩
    have b4 := belowC b3 h4
    have hI1 := hI1.below h4
    clear h4 b3 hI2 hI3
    go_wp2_with fail
    refine (HB.out _ _ _ hI1 hlc1 hA1).mono ?_
    rintro e w5 ⟨A5, c5, rfl, hI5, _, _, h5⟩
    have b5 := belowC b4 h5
    have hI1 := hI1.below h5
    clear h5 b4
    go_wp2_with fail
    refine (HrB.out _ _ _ (HI.out.below b5) hlc hA).mono ?_
    rintro e w6 ⟨A6, c6, rfl, hI6, _, _, h6⟩
    have b6 := belowC b5 h6
    have hI1 := hI1.below h6
    have hI5 := hI5.below h6
    clear h6 b5
    go_wp2_with fail
    refine (same_self R2 _ _ _ _ _ hI5 hI6).mono ?_
    rintro e w7 ⟨rfl, h7⟩
    have b7 := belowC b6 h7
    have hI1 := hI1.below h7
    clear h7 b6 hI5 hI6
    go_wp2_with fail
    refine (HY.out _ _ _ hI1 hlc1 hA1).mono ?_
    rintro e w8 ⟨A8, c8, rfl, hI8, _, _, h8⟩
    have b8 := belowC b7 h8
    have hI1 := hI1.below h8
    clear h8 b7
    go_wp2_with fail
    refine (HrY.out _ _ _ (HI.out.below b8) hlc hA).mono ?_
    rintro e w9 ⟨A9, c9, rfl, hI9, _, _, h9⟩
    have b9 := belowC b8 h9
    have hI1 := hI1.below h9
    have hI8 := hI8.below h9
    clear h9 b8
    go_wp2_with fail
    refine (same_self R3 _ _ _ _ _ hI8 hI9).mono ?_
    rintro e w10 ⟨rfl, h10⟩
    have b10 := belowC b9 h10
    have hI1 := hI1.below h10
    clear h10 b9 hI8 hI9
    go_wp2_with fail
    refine (same_self l _ _ _ _ _ hI1 (HI.out.below b10)).mono ?_
    rintro e w11 ⟨rfl, h11⟩
    have b11 := belowC b10 h11
    clear h11 b10
    go_wp2_with (go_at_call 17; refine (alive_any _).mono ?_; rintro e w12 ⟨rfl, hb12⟩)
    go_ret
    exact ⟨rfl, belowC b11 hb12⟩
end Go.Proofs.Ytnhbkopgbibcgaa
