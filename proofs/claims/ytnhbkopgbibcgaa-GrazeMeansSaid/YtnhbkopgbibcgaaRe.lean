/- The law GrazePeriod: its walk. -/
import Derived.Test.YtnhbkopgbibcgaaHr
import Derived.Test.YtnhbkopgbibcgaaRd
import Derived.Test.YtnhbkopgbibcgaaHo
namespace Go.Proofs.Ytnhbkopgbibcgaa
open Go.RowKit Go.Shelf

theorem backP_len (b : Nat) (l : List Int) : (backP b l).length = l.length := befOf_length _ _ _ _
theorem asked_ok {n m : Nat} {l : List Int} (hn1 : 1 ≤ n) (hn6 : n ≤ 6) (hm1 : 1 ≤ m) (hm6 : m ≤ 6) (hs : stateB n m l = true) : askedB n m l = true := by
  unfold askedB
  rw [hs, Bool.and_true]
  exact decide_eq_true ⟨⟨by omega, by omega⟩, by omega, by omega⟩
/-- A call hands back a list of n numbers, and no error. -/
def GetsN (n : Nat) (R : List Int) (w : World) (e : Ending) (w' : World) : Prop := ∃ A c, e = .returned (.tuple #[.slice A n c, .int .i64 0]) ∧ IntsAt w' A R ∧ n ≤ c ∧ (A = none → c = 0) ∧ Below w.heap.size w w'
theorem gets_n {n m : Nat} {l out : List Int} {w : World} {e : Ending} {w' : World} (hk : askedB n m l = true) (hl : out.length = n) (h6 : n ≤ 6) (h : MovedPost n m l out w e w') : GetsN n out w e w' := by
  have h2 := moved_gets (fun _ => by omega) h
  unfold resOf errOf at h2
  rw [hk, if_pos rfl, if_pos rfl] at h2
  obtain ⟨A, c, rfl, h3, h4, h5, h7⟩ := h2
  exact ⟨A, c, by rw [hl], h3, by omega, h5, h7⟩
theorem same_n (n : Nat) (R S : List Int) (A B : Option Addr) (c d : Nat) (w : World) (hR : R.length = n) (hS : S.length = n) (v : Bool) (hv : decide (R = S) = v) (h : IntsAt w A R) (k : IntsAt w B S) : Calls Try.prog 24 #[.slice A n c, .slice B n d] w fun e w' => e = .returned (.bool v) ∧ Below w.heap.size w w' := by
  have := same_any R S A B c d w h k
  rw [hR, hS, hv] at this
  exact this
theorem tab_cell {w : World} {base n k : Nat} {v : Value} {rs cs : Nat → Nat} (h : Tab w base v n k rs cs) {j : Nat} (hj : j < k) : ∃ g cap, v = .slice (some ⟨g, 0, none⟩) k cap ∧ w.cell? ⟨g, j, none⟩ = some (.slice (some ⟨rs j, 0, none⟩) n (cs j)) := by
  rcases h.out.2 with ⟨rfl, h1⟩ | ⟨g, cap, cur, rfl, hb, _⟩
  · omega
  · refine ⟨g, cap, rfl, ?_⟩
    rw [h.out.cellAt j (by omega)]
    simp [rowVals, hj]
theorem row_cap {w : World} {base r n c : Nat} {xs : List Int} (h : RowC w base r n c xs) : n ≤ c := by
  rcases h.own.2 with ⟨h', _⟩ | ⟨g, cap, cur, h', _, _, hc, _⟩
  · cases h'
  · cases h'; exact hc

set_option maxHeartbeats 8000000 in
set_option maxRecDepth 100000 in
theorem period_walk (a b : Int) (l : List Int) (A : Option Addr) (c : Nat) (f g : Int) (w : World) (hI : l.length ≤ 140737488351232 → IntsAt w A l) (hlc : l.length ≤ c) (hA : A = none → c = 0) (hf : -32768 ≤ f ∧ f < 32768) (hg : -32768 ≤ g ∧ g < 32768) :
    Calls Try.prog 11 #[.int .i64 a, .int .i64 b, .slice A l.length c, .int .i16 f, .int .i16 g] w fun e w' => e = .returned (.bool true) ∧ Below w.heap.size w w' := by
  by_cases h20 : 20 < l.length
  · clear hI hA hlc hf hg
    go_enter Try.func11, Try.ntmps11
    go_wp2_with (go_at_call 17; refine (alive_any _).mono ?_; rintro e w2 ⟨rfl, hb2⟩)
    go_ret
    exact ⟨rfl, hb2⟩
  · have hl := hI (by omega)
    cases hk : askedB a b l
    · have CG := Off.mk (good_any a b l A c false hk w hl)
      clear hk hI hA hlc hf hg
      go_enter Try.func11, Try.ntmps11
      go_wp2_with (first
        | (go_at_call 29; refine CG.out.mono ?_; rintro e w1 ⟨rfl, hb1⟩)
        | (go_at_call 17; refine (alive_any _).mono ?_; rintro e w2 ⟨rfl, hb2⟩))
      go_ret
      exact ⟨rfl, belowC hb1 hb2⟩
    · have CG := Off.mk (good_any a b l A c true hk w hl)
      obtain ⟨n, m, rfl, rfl, hn, hn1, hn6, hm1, hm6, hs⟩ := asked_nat hk
      obtain ⟨hper, _, _, hback⟩ := days_of hn1 hn6 hm1 hm6 hs
      have hst := iter_states hn1 hn6 hm1 hm6 hs
      have hlen : ∀ k, (iterDay m l k).length = n := fun k => by rw [iterDay_length]; exact hn
      have HDay : Off (∀ (k : Nat) (A : Option Addr) (c : Nat) (W : World), IntsAt W A (iterDay m l k) → n ≤ c → (A = none → c = 0) → Calls Try.prog 22 #[.int .i64 (n : Int), .int .i64 (m : Int), .slice A n c] W fun e w' => GetsN n (iterDay m l (k + 1)) W e w') := ⟨fun k A c W h1 h2 h3 => by
        have := (Day_any n m (iterDay m l k) A c W h1 (by rw [hlen]; exact h2) h3).mono fun _ _ h => gets_n (asked_ok hn1 hn6 hm1 hm6 (hst k)) (by rw [dayP_length]; exact hlen k) hn6 h
        rw [hlen, Int.toNat_natCast] at this
        exact this⟩
      have HDays : Off (∀ (k : Nat) (d : Int) (A : Option Addr) (c : Nat) (W : World), IntsAt W A (iterDay m l k) → n ≤ c → (A = none → c = 0) → Calls Try.prog 27 #[.int .i64 (n : Int), .int .i64 (m : Int), .slice A n c, .int .i64 d] W fun e w' => GetsN n (iterDay m l (k + (d % ((n : Int) + m)).toNat)) W e w') := ⟨fun k d A c W h1 h2 h3 => by
        have := (Days_any n m (iterDay m l k) A c d W h1 (by rw [hlen]; exact h2) h3).mono fun _ _ h => gets_n (asked_ok hn1 hn6 hm1 hm6 (hst k)) (by rw [iterDay_length]; exact hlen k) hn6 h
        rw [hlen, Int.toNat_natCast, iterDay_add] at this
        exact this⟩
      have HBack : Off (∀ (A : Option Addr) (c : Nat) (W : World), IntsAt W A (iterDay m l 1) → n ≤ c → (A = none → c = 0) → Calls Try.prog 25 #[.int .i64 (n : Int), .int .i64 (m : Int), .slice A n c] W fun e w' => GetsN n l W e w') := ⟨fun A c W h1 h2 h3 => by
        have := (Back_any n m (iterDay m l 1) A c W h1 (by rw [hlen]; exact h2) h3).mono fun _ _ h => gets_n (asked_ok hn1 hn6 hm1 hm6 (hst 1)) (by rw [backP_len]; exact hlen 1) hn6 h
        rw [hlen, Int.toNat_natCast, show iterDay m l 1 = dayP m l from rfl, hback] at this
        exact this⟩
      have HRound : Off (∀ W, Below w.heap.size w W → Calls Try.prog 36 #[.int .i64 (n : Int), .int .i64 (m : Int), .slice A n c] W fun e w' => RoundPost m l n W e w') := ⟨fun W hW => by
        have := Round_yes n m l A c W (hl.below hW) hlc hA hk hper
        rw [hn] at this
        exact this⟩
      have HPer := Off.mk hper
      have HLen := Off.mk hlen
      have HI := Off.mk (show IntsAt w A (iterDay m l 0) from hl)
      have Z0 : Off (0 + (((n : Int) + m) % ((n : Int) + m)).toNat = 0) := ⟨by rw [Int.emod_self]; rfl⟩
      obtain ⟨p1, hp1⟩ : ∃ p, p = (f % ((n : Int) + m)).toNat := ⟨_, rfl⟩
      obtain ⟨p2, hp2⟩ : ∃ p, p = (g % ((n : Int) + m)).toNat := ⟨_, rfl⟩
      obtain ⟨p3, hp3⟩ : ∃ p, p = ((f + g) % ((n : Int) + m)).toNat := ⟨_, rfl⟩
      have hsum : Off (iterDay m l (p1 + p2) = iterDay m l p3) := ⟨by
        have e1 := Int.emod_nonneg f (show ((n : Int) + m) ≠ 0 by omega)
        have e2 := Int.emod_nonneg g (show ((n : Int) + m) ≠ 0 by omega)
        have e3 := Int.emod_nonneg (f + g) (show ((n : Int) + m) ≠ 0 by omega)
        have e4 : (p1 + p2) % (n + m) = p3 := by
          have h5 : (((p1 + p2) % (n + m) : Nat) : Int) = (p3 : Int) := by
            rw [Int.natCast_emod, Int.natCast_add, Int.natCast_add, hp1, hp2, hp3, Int.toNat_of_nonneg e1, Int.toNat_of_nonneg e2, Int.toNat_of_nonneg e3, ← Int.add_emod]
          omega
        rw [← e4, iter_mod hper]⟩
      have HD1 := Off.mk (fun A c W h1 h2 h3 => HDays.out 0 f A c W h1 h2 h3)
      have HD2 := Off.mk (fun A c W h1 h2 h3 => HDays.out p1 g A c W h1 h2 h3)
      have HD3 := Off.mk (fun A c W h1 h2 h3 => HDays.out 0 (f + g) A c W h1 h2 h3)
      rw [← hp1, Nat.zero_add] at HD1
      rw [← hp2, hsum.out] at HD2
      rw [← hp3, Nat.zero_add] at HD3
      rw [hn] at hlc CG ⊢
      have h20' : ¬ (20 < n) := by omega
      clear hp1 hp2 hp3 hs hk hI hl hback hper hst hlen h20 hsum hn
      go_enter Try.func11, Try.ntmps11
      go_wp2_with (go_at_call 29; refine CG.out.mono ?_; rintro e w1 ⟨rfl, b1⟩)
      refine (HDays.out 0 ((n : Int) + m) A c _ (HI.out.below b1) hlc hA).mono ?_
      rw [Z0.out]
      rintro e w2 ⟨A2, c2, rfl, hI2, _, _, h2⟩
      have b2 := belowC b1 h2
      clear h2 b1
      go_wp2_with fail
      refine (HRound.out _ b2).mono ?_
      rintro e w3 ⟨v, k, rs, cs, rfl, hP, hkn, hT, hR, h3⟩
      obtain ⟨gb, cap, rfl, _⟩ := tab_cell hT (show 0 < k from hP.pos)
      have hI2 := hI2.below h3
      have b3 := belowC b2 h3
      have HT := Off.mk hT
      have HR := Off.mk hR
      have HP := Off.mk hP
      have hk1 := hP.pos
      clear h3 b2 hT hR hP
      go_wp2_with fail
      refine (HDay.out 0 A c _ (HI.out.below b3) hlc hA).mono ?_
      rintro e w4 ⟨A4, c4, rfl, hI4, hc4, hA4, h4⟩
      have hI2 := hI2.below h4
      have b4 := belowC b3 h4
      have HT := Off.mk (HT.out.below h4)
      have HR := Off.mk (HR.out.below h4)
      clear h4 b3
      go_wp2_with fail
      refine (HBack.out A4 c4 _ hI4 hc4 hA4).mono ?_
      rintro e w5 ⟨A5, c5, rfl, hI5, _, _, h5⟩
      have hI2 := hI2.below h5
      have b5 := belowC b4 h5
      have HT := Off.mk (HT.out.below h5)
      have HR := Off.mk (HR.out.below h5)
      clear h5 b4 hI4
      go_wp2_with fail
      refine (same_n n (iterDay m l 0) (iterDay m l 0) _ _ _ _ _ (HLen.out 0) (HLen.out 0) true (decide_eq_true rfl) hI2 (HI.out.below b5)).mono ?_
      rintro e w6 ⟨rfl, h6⟩
      have hI5 := hI5.below h6
      have b6 := belowC b5 h6
      have HT := Off.mk (HT.out.below h6)
      have HR := Off.mk (HR.out.below h6)
      clear h6 b5 hI2
      go_wp2_with fail
      refine (same_n n (iterDay m l 0) (iterDay m l 0) _ _ _ _ _ (HLen.out 0) (HLen.out 0) true (decide_eq_true rfl) hI5 (HI.out.below b6)).mono ?_
      rintro e w7 ⟨rfl, h7⟩
      have b7 := belowC b6 h7
      have HT := Off.mk (HT.out.below h7)
      have HR := Off.mk (HR.out.below h7)
      clear h7 b6 hI5
      have k0 : ((k : Int) == 0) = false := by rw [beq_eq_false_iff_ne]; omega
      have k00 : ¬ k = 0 := by omega
      have hdv : Off ((n + m) % k = 0) := ⟨per_dvd HP.out HPer.out⟩
      have k1 : (((n : Int) + m) % (k : Int) != 0) = false := by
        rw [bne_eq_false_iff_eq, ← Int.natCast_add, ← Int.natCast_emod, hdv.out]; rfl
      obtain ⟨gb', cap', e0, hc0⟩ := tab_cell HT.out (show 0 < k from hk1)
      cases e0
      have hR0 := (HR.out.row 0 hk1).2
      have hk12 : k ≤ 12 := by omega
      go_wp2_with fail
      refine (same_n n (iterDay m l 0) (iterDay m l 0) _ _ _ _ _ (HLen.out 0) (HLen.out 0) true (decide_eq_true rfl) (hR0.ints (by omega)) (HI.out.below b7)).mono ?_
      rintro e w8 ⟨rfl, h8⟩
      have b8 := belowC b7 h8
      have HT := Off.mk (HT.out.below h8)
      have HR := Off.mk (HR.out.below h8)
      have B8 := Off.mk b8
      clear h8 b7 hR0 hc0 k1 b8
      have hw3 : w2.heap.size ≤ w2.heap.size := Nat.le_refl _
      clear hw3
      obtain ⟨base, hbase⟩ : ∃ base, base = w2.heap.size := ⟨_, rfl⟩
      rw [← hbase] at HT HR
      clear hbase
      go_wp2
      go_loopw [19] (fun iv wr => ∃ i : Nat, i ≤ k ∧ iv = .int .i64 i ∧ Off (Tab wr base (.slice (some ⟨gb, 0, none⟩) k cap) n k rs cs) ∧ Off (Rows wr base n k rs cs (iterDay m l)) ∧ Off (Below w.heap.size w wr)) (fun iv _ => k - (intOf iv).toNat)
      case atStart => exact ⟨0, by omega, rfl, HT, HR, B8⟩
      case round =>
        clear HT HR B8
        obtain ⟨i, hik, rfl, HT, HR, HB⟩ := hrel
        obtain ⟨wo, rfl⟩ : ∃ wo : World, wo = wr := ⟨_, rfl⟩
        by_cases hlt : i < k
        · have hki : (i : Int) < (k : Int) := by omega
          have hi0 : (0 : Int) ≤ (i : Int) := by omega
          obtain ⟨gb', cap', e0, hci⟩ := tab_cell HT.out hlt
          cases e0
          have hRi := (HR.out.row i hlt).2
          have CD := Off.mk (HDay.out i _ _ wo (hRi.ints (by omega)) (row_cap hRi) (fun e => by cases e))
          obtain ⟨j, hj, hjk, hjd⟩ : ∃ j : Nat, ((i : Int) + 1) % (k : Int) = (j : Int) ∧ j < k ∧ iterDay m l (i + 1) = iterDay m l j := by
            by_cases hl : i + 1 < k
            · exact ⟨i + 1, by rw [Int.emod_eq_of_lt (by omega) (by omega)]; simp, hl, rfl⟩
            · refine ⟨0, ?_, by omega, ?_⟩
              · rw [show (i : Int) + 1 = (k : Int) by omega, Int.emod_self]; rfl
              · rw [show i + 1 = k by omega]; exact HP.out.back
          have HJD := Off.mk hjd
          have hj2 : ((i : Int) + 1).tmod (k : Int) = (j : Int) := by rw [Int.tmod_eq_emod_of_nonneg (by omega)]; exact hj
          have hj0 : (0 : Int) ≤ (j : Int) := by omega
          have hjk' : (j : Int) < (k : Int) := by omega
          clear hjd hRi
          go_wp2_with fail
          refine CD.out.mono ?_
          rintro e w9 ⟨A9, c9, rfl, hI9, _, _, h9⟩
          have B9 := Off.mk (belowC HB.out h9)
          have HT9 := Off.mk (HT.out.below h9)
          have HR9 := Off.mk (HR.out.below h9)
          obtain ⟨gb', cap', e0, hcj⟩ := tab_cell HT9.out hjk
          cases e0
          have hRj := (HR9.out.row j hjk).2
          clear h9 HT HR HB hci CD
          rw [HJD.out] at hI9
          go_wp2_with fail
          refine (same_n n (iterDay m l j) (iterDay m l j) _ _ _ _ _ (HLen.out j) (HLen.out j) true (decide_eq_true rfl) hI9 (hRj.ints (by omega))).mono ?_
          rintro e w10 ⟨rfl, h10⟩
          have B10 := Off.mk (belowC B9.out h10)
          have HT10 := Off.mk (HT9.out.below h10)
          have HR10 := Off.mk (HR9.out.below h10)
          clear h10 HT9 HR9 B9 hRj hcj hI9 hj hj2
          by_cases hi1 : 0 < i
          · have hi2 : (0 : Int) < (i : Int) := by omega
            obtain ⟨gb', cap', e0, hci⟩ := tab_cell HT10.out hlt
            cases e0
            have hRi := (HR10.out.row i hlt).2
            have hne : decide (iterDay m l i = iterDay m l 0) = false := decide_eq_false (HP.out.first i hi1 hlt)
            have HNE := Off.mk hne
            clear hne
            go_wp2_with fail
            refine (same_n n (iterDay m l i) (iterDay m l 0) _ _ _ _ _ (HLen.out i) (HLen.out 0) false HNE.out (hRi.ints (by omega)) (HI.out.below B10.out)).mono ?_
            rintro e w11 ⟨rfl, h11⟩
            have B11 := Off.mk (belowC B10.out h11)
            have HT11 := Off.mk (HT10.out.below h11)
            have HR11 := Off.mk (HR10.out.below h11)
            clear h11 HT10 HR10 B10 hRi hci
            go_wp2
            go_roundw
            case rel => exact ⟨i + 1, by omega, by go_num, HT11, HR11, B11⟩
            case measure => simp only [intOf]; omega
          · obtain rfl : i = 0 := by omega
            go_wp2
            go_roundw
            case rel => exact ⟨1, by omega, rfl, HT10, HR10, B10⟩
            case measure => simp only [intOf]; omega
        · obtain rfl : i = k := by omega
          have X1 : IntKind.i64.wrap f = f := by rw [IntKind.wrap_i64]; omega
          have X2 : IntKind.i64.wrap g = g := by rw [IntKind.wrap_i64]; omega
          have X3 : IntKind.i64.wrap (f + g) = f + g := by rw [IntKind.wrap_i64]; omega
          clear HT HR
          go_wp2_with fail
          refine (HD1.out A c _ (HI.out.below HB.out) hlc hA).mono ?_
          rintro e w12 ⟨A12, c12, rfl, hI12, hc12, hA12, h12⟩
          have B12 := Off.mk (belowC HB.out h12)
          clear h12 HB
          go_wp2_with fail
          refine (HD2.out A12 c12 _ hI12 hc12 hA12).mono ?_
          rintro e w13 ⟨A13, c13, rfl, hI13, _, _, h13⟩
          have B13 := Off.mk (belowC B12.out h13)
          clear h13 B12 hI12
          go_wp2_with fail
          refine (HD3.out A c _ (HI.out.below B13.out) hlc hA).mono ?_
          rintro e w14 ⟨A14, c14, rfl, hI14, _, _, h14⟩
          have B14 := Off.mk (belowC B13.out h14)
          have hI13 := hI13.below h14
          clear h14 B13
          go_wp2_with fail
          refine (same_n n (iterDay m l p3) (iterDay m l p3) _ _ _ _ _ (HLen.out p3) (HLen.out p3) true (decide_eq_true rfl) hI13 hI14).mono ?_
          rintro e w15 ⟨rfl, h15⟩
          have B15 := Off.mk (belowC B14.out h15)
          clear h15 B14 hI13 hI14
          go_wp2_with (go_at_call 17; refine (alive_any _).mono ?_; rintro e w16 ⟨rfl, hb16⟩)
          go_ret
          exact ⟨rfl, belowC B15.out hb16⟩
end Go.Proofs.Ytnhbkopgbibcgaa
