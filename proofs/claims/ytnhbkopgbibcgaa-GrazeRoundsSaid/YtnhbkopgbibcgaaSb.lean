/- The law GrazeRounds: its walk. -/
import Derived.Test.YtnhbkopgbibcgaaSa
import Derived.Test.YtnhbkopgbibcgaaHo
namespace Go.Proofs.Ytnhbkopgbibcgaa
open Go.RowKit Go.Shelf

theorem ends_post_len {a b : Int} {l : List Int} {p : Nat → Nat → Bool} (hk : askedB a b l = true) : (rowsTo p b.toNat l.length).length ≤ 36 := by
  obtain ⟨n, m, rfl, rfl, hn, hn1, hn6, hm1, hm6, hs⟩ := asked_nat hk
  have h1 := rowsTo_len p (m : Int).toNat l.length
  rw [Int.toNat_natCast] at h1 ⊢
  have h3 : l.length * m ≤ 6 * 6 := Nat.mul_le_mul (by omega) hm6
  omega

set_option maxHeartbeats 8000000 in
set_option maxRecDepth 100000 in
theorem rounds_walk (a b : Int) (l : List Int) (A : Option Addr) (c : Nat) (w : World) (hI : l.length ≤ 140737488351232 → IntsAt w A l) (hlc : l.length ≤ c) (hA : A = none → c = 0) :
    Calls Try.prog 9 #[.int .i64 a, .int .i64 b, .slice A l.length c] w fun e w' => e = .returned (.bool true) ∧ Below w.heap.size w w' := by
  by_cases h20 : 20 < l.length
  · clear hI hA hlc
    go_enter Try.func9, Try.ntmps9
    go_wp2_with (go_at_call 17; refine (alive_any _).mono ?_; rintro e w2 ⟨rfl, hb2⟩)
    go_ret
    exact ⟨rfl, hb2⟩
  · have hl := hI (by omega)
    have HRd : Off (∀ (A : Option Addr) (c : Nat) (W : World), IntsAt W A l → l.length ≤ c → (A = none → c = 0) → Calls Try.prog 36 #[.int .i64 a, .int .i64 b, .slice A l.length c] W fun e w' => RoundAll a b l W e w') := ⟨fun A c W h1 h2 h3 => Round_all a b l A c W h1 h2 h3⟩
    have HrR : Off (∀ (W : World), IntsAt W A l → Calls Try.prog 35 #[.int .i64 a, .int .i64 b, .slice A l.length c] W fun e w' => RoundAll a b l W e w') := ⟨fun W h1 => rRound_all a b l A c W h1 hlc⟩
    obtain ⟨E1, hE1⟩ : ∃ E, E = (if askedB a b l then endPlots b.toNat l else []) := ⟨_, rfl⟩
    obtain ⟨E2, hE2⟩ : ∃ E, E = (if askedB a b l then nextPlots b.toNat l else []) := ⟨_, rfl⟩
    have hl1 : E1.length ≤ 1000 := by
      rw [hE1]; split
      · rename_i hk; exact Nat.le_trans (ends_post_len hk) (by omega)
      · simp
    have hl2 : E2.length ≤ 1000 := by
      rw [hE2]; split
      · rename_i hk; exact Nat.le_trans (ends_post_len hk) (by omega)
      · simp
    obtain ⟨z, hz⟩ : ∃ z, z = errOf a b l := ⟨_, rfl⟩
    have hEnds : ∀ (w' W : World) (e : Ending), EndsPost a b l W e w' → ∃ A1 c1 A2 c2, e = .returned (.tuple #[.slice A1 E1.length c1, .slice A2 E2.length c2, .int .i64 z]) ∧ PairsAt w' A1 E1 ∧ PairsAt w' A2 E2 ∧ Below W.heap.size W w' := fun w' W e h => by
      obtain ⟨v1, v2, he, h1, h2, hb⟩ := h
      rw [← hE1] at h1
      rw [← hE2] at h2
      obtain ⟨A1, c1, rfl, g1, _⟩ := ownP_pairs h1
      obtain ⟨A2, c2, rfl, g2, _⟩ := ownP_pairs h2
      exact ⟨A1, c1, A2, c2, by rw [hz]; exact he, g1, g2, hb⟩
    have HEd : Off (∀ (A : Option Addr) (c : Nat) (W : World), IntsAt W A l → l.length ≤ c → (A = none → c = 0) → Calls Try.prog 37 #[.int .i64 a, .int .i64 b, .slice A l.length c] W fun e w' => ∃ A1 c1 A2 c2, e = .returned (.tuple #[.slice A1 E1.length c1, .slice A2 E2.length c2, .int .i64 z]) ∧ PairsAt w' A1 E1 ∧ PairsAt w' A2 E2 ∧ Below W.heap.size W w') := ⟨fun A c W h1 h2 h3 => (Ends_any a b l A c W h1 h2 h3).mono fun e w' h => hEnds w' W e h⟩
    have HrE : Off (∀ (W : World), IntsAt W A l → Calls Try.prog 38 #[.int .i64 a, .int .i64 b, .slice A l.length c] W fun e w' => ∃ A1 c1 A2 c2, e = .returned (.tuple #[.slice A1 E1.length c1, .slice A2 E2.length c2, .int .i64 z]) ∧ PairsAt w' A1 E1 ∧ PairsAt w' A2 E2 ∧ Below W.heap.size W w') := ⟨fun W h1 => (rEnds_any a b l A c W h1).mono fun e w' h => hEnds w' W e h⟩
    unfold RoundAll at HRd HrR
    rw [← hz] at HRd HrR
    have HI := Off.mk hl
    have HUn : Off (∀ j k, PerOr a b l j → PerOr a b l k → j = k) := ⟨fun j k h i => perOr_unique h i⟩
    have HLn : Off (∀ k, (iterDay b.toNat l k).length = l.length) := ⟨fun k => iterDay_length _ _ _⟩
    clear hE1 hE2 hz hEnds hI
    go_enter Try.func9, Try.ntmps9
    go_wp2_with (at_builtin; refine wpList_copy rfl _ _ rfl A l c hl hlc (by omega) hA rfl rfl ?_)
    intro v1 w1 hO1 b1
    obtain ⟨A1, c1, rfl, hI1, hlc1, hA1⟩ := own_ints' hO1 (by omega)
    clear hO1 hl
    go_wp2_with fail
    refine (HrR.out _ (HI.out.below b1)).mono ?_
    rintro e w2 ⟨Ay, cy, k, rs, cs, rfl, hP, hk12, hkl, hTy, hRy, h2⟩
    have HI1 := Off.mk (hI1.below h2)
    have b2 := belowC b1 h2
    have HTy := Off.mk hTy
    have HRy := Off.mk hRy
    have HP := Off.mk hP
    have HB2 := Off.mk b2
    obtain ⟨By, hBy⟩ : ∃ B, B = w1.heap.size := ⟨_, rfl⟩
    rw [← hBy] at HTy HRy
    clear h2 hTy hRy hP b1 b2 hI1 hBy
    have g1 : ((k : Int) != (k : Int)) = false := by rw [bne_eq_false_iff_eq]
    have g2 : (z != z) = false := by rw [bne_eq_false_iff_eq]
    go_wp2
    go_loopw [10] (fun jv wr => ∃ j : Nat, j ≤ 2 ∧ jv = .int .i64 j ∧ Off (Tab wr By (.slice Ay k cy) l.length k rs cs) ∧ Off (Rows wr By l.length k rs cs (iterDay b.toNat l)) ∧ Off (IntsAt wr A1 l) ∧ Off (Below w.heap.size w wr)) (fun jv _ => 2 - (intOf jv).toNat)
    case atStart => exact ⟨0, by omega, rfl, HTy, HRy, HI1, HB2⟩
    case round =>
      clear HTy HRy HI1 HB2
      obtain ⟨j, hj2, rfl, HTy, HRy, HI1, HB⟩ := hrel
      obtain ⟨wo, rfl⟩ : ∃ wo : World, wo = wr := ⟨_, rfl⟩
      by_cases hjl : j < 2
      · have hj' : (j : Int) < 2 := by omega
        go_wp2_with fail
        refine (HRd.out _ _ _ HI1.out hlc1 hA1).mono ?_
        rintro e w3 ⟨Ax, cx, k', rx, cx', rfl, hP3, _, _, hTx, hRx, h3⟩
        obtain rfl : k = k' := HUn.out _ _ HP.out hP3
        have HTx := Off.mk hTx
        have HRx := Off.mk (fun i (hi : i < k) => (hRx.row i hi))
        have HInc := Off.mk hRx.inc
        have HB3 := Off.mk h3
        obtain ⟨Bx, hBx⟩ : ∃ B, B = wo.heap.size := ⟨_, rfl⟩
        have HBx := Off.mk hBx
        rw [← hBx] at HTx HRx
        clear h3 hTx hRx hP3 hBx
        go_wp2
        go_loopw [13] (fun iv wr => ∃ i : Nat, i ≤ k ∧ iv = .int .i64 i ∧ Off (Tab wr Bx (.slice Ax k cx) l.length k rx cx') ∧ Off (∀ q, i ≤ q → q < k → Bx ≤ rx q ∧ RowC wr Bx (rx q) l.length (cx' q) (iterDay b.toNat l q)) ∧ Off (Below wo.heap.size wo wr)) (fun iv _ => k - (intOf iv).toNat)
        case atStart => exact ⟨0, by omega, rfl, HTx, ⟨fun q _ hq => HRx.out q hq⟩, HB3⟩
        case round =>
          clear HTx HRx HB3
          obtain ⟨i, hik, rfl, HTx, HRx, HB3⟩ := hrel
          obtain ⟨wq, rfl⟩ : ∃ wo : World, wo = wr := ⟨_, rfl⟩
          by_cases hil : i < k
          · have hki : (i : Int) < (k : Int) := by omega
            have hi0 : (0 : Int) ≤ (i : Int) := by omega
            obtain ⟨hl0, hl6⟩ := hkl (by omega)
            obtain ⟨adx, rfl, hcx⟩ := tab_cell' HTx.out hil
            obtain ⟨ady, rfl, hcy⟩ := tab_cell' (HTy.out.below HB3.out) hil
            obtain ⟨hbr, hRxi⟩ := HRx.out i (Nat.le_refl _) hil
            have hRyi := ((HRy.out.below HB3.out).row i hil).2
            have KS := Off.mk (fun W (hW : Below wq.heap.size wq W) => same_self (iterDay b.toNat l i) _ _ (cx' i) (cs i) W ((hRxi.below hW).ints (by omega)) ((hRyi.below hW).ints (by omega)))
            rw [HLn.out] at KS
            have HRxi := Off.mk hRxi
            clear hRxi hRyi
            go_wp2_with fail
            first
              | go_region_held3 (fun w' => w'.cell? (adx.add i) = some (.slice (some ⟨rx i, 0, none⟩) l.length (cx' i)) ∧ w'.cell? (ady.add i) = some (.slice (some ⟨rs i, 0, none⟩) l.length (cs i)))
                  (first | go_keep | exact ⟨hcx, hcy⟩)
                  (first | (go_at_call 24; refine (KS.out _ (below_drewN' (Below.refl _ _) _)).mono ?_; rintro e w5 ⟨rfl, h5⟩; have hcx := cellB h5 hcx; have hcy := cellB h5 hcy))
              | fail
            have hW5 : Below wq.heap.size wq w5 := belowC (below_drewN' (Below.refl wq.heap.size wq) _) h5
            have HR5 := Off.mk (HRxi.out.below hW5)
            have HT5 := Off.mk (HTx.out.below hW5)
            have HRx5 := Off.mk (fun q (h1 : i ≤ q) (h2 : q < k) => (show Bx ≤ rx q ∧ RowC w5 Bx (rx q) l.length (cx' q) (iterDay b.toNat l q) from ⟨(HRx.out q h1 h2).1, (HRx.out q h1 h2).2.below hW5⟩))
            have HB5 := Off.mk (belowC HB3.out hW5)
            have hc0 := HR5.out.cell hl0
            have hf0 := HR5.out.frozen 0
            clear h5 hW5 HRxi HTx HRx HB3 hcy KS
            go_wp2
            obtain ⟨hR6, hK6⟩ := HR5.out.stored 0 (-8)
            have HT6 := Off.mk (HT5.out.keeps HR5.out hK6)
            have HB6 : Off (Below wo.heap.size wo (w5.setCell ⟨rx i, 0, none⟩ (.int .i64 (-8)))) := ⟨hK6.below HB5.out HB5.out.size (by rw [← HBx.out]; exact hbr)⟩
            have HRx6 : Off (∀ q, i + 1 ≤ q → q < k → Bx ≤ rx q ∧ RowC (w5.setCell ⟨rx i, 0, none⟩ (.int .i64 (-8))) Bx (rx q) l.length (cx' q) (iterDay b.toNat l q)) := ⟨fun q h1 h2 => ⟨(HRx5.out q (by omega) h2).1, (HRx5.out q (by omega) h2).2.keeps hK6 (by have := HInc.out i q (by omega) h2; omega)⟩⟩
            clear hR6 hK6 HR5 HT5 HB5 HRx5
            go_roundw
            case rel => exact ⟨i + 1, by omega, by go_num, HT6, HRx6, HB6⟩
            case measure => simp only [intOf]; omega
          · obtain rfl : i = k := by omega
            have HTy' := Off.mk (HTy.out.below HB3.out)
            have HRy' := Off.mk (HRy.out.below HB3.out)
            have HI1' := Off.mk (HI1.out.below HB3.out)
            have HB' := Off.mk (belowC HB.out HB3.out)
            clear HTx HRx
            go_wp2
            go_roundw
            case rel => exact ⟨j + 1, by omega, by go_num, HTy', HRy', HI1', HB'⟩
            case measure => simp only [intOf]; omega
      · obtain rfl : j = 2 := by omega
        clear HTy HRy
        go_wp2_with fail
        refine (HEd.out _ _ _ HI1.out hlc1 hA1).mono ?_
        rintro e w7 ⟨A7, c7, A8, c8, rfl, hp7, hp8, h7⟩
        have HB7 := Off.mk (belowC HB.out h7)
        have HI7 := Off.mk (HI1.out.below h7)
        clear h7 HB HI1
        go_wp2_with fail
        refine (HrE.out _ (HI.out.below HB7.out)).mono ?_
        rintro e w9 ⟨A9, c9, A10, c10, rfl, hp9, hp10, h9⟩
        have B9 := Off.mk (belowC HB7.out h9)
        have HI9 := Off.mk (HI7.out.below h9)
        have P7 := Off.mk (hp7.below h9)
        have P8 := Off.mk (hp8.below h9)
        have P9 := Off.mk hp9
        have P10 := Off.mk hp10
        clear h9 HB7 HI7 hp7 hp8 hp9 hp10
        go_wp2_with fail
        refine (pairs_self E1 _ _ _ _ _ hl1 P7.out P9.out).mono ?_
        rintro e w11 ⟨rfl, h11⟩
        have B11 := Off.mk (belowC B9.out h11)
        have HI11 := Off.mk (HI9.out.below h11)
        have P8 := Off.mk (P8.out.below h11)
        have P10 := Off.mk (P10.out.below h11)
        clear h11 B9 HI9 P7 P9
        go_wp2_with fail
        refine (pairs_self E2 _ _ _ _ _ hl2 P8.out P10.out).mono ?_
        rintro e w12 ⟨rfl, h12⟩
        have B12 := Off.mk (belowC B11.out h12)
        have HI12 := Off.mk (HI11.out.below h12)
        clear h12 B11 HI11 P8 P10
        go_wp2_with fail
        refine (same_self l _ _ _ _ _ HI12.out (HI.out.below B12.out)).mono ?_
        rintro e w13 ⟨rfl, h13⟩
        have B13 := Off.mk (belowC B12.out h13)
        clear h13 B12 HI12
        go_wp2_with (go_at_call 17; refine (alive_any _).mono ?_; rintro e w16 ⟨rfl, hb16⟩)
        go_ret
        exact ⟨rfl, belowC B13.out hb16⟩
end Go.Proofs.Ytnhbkopgbibcgaa
