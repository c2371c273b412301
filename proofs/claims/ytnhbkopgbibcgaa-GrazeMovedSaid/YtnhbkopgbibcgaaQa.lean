/- The law GrazeMoved: its walk. -/
import Derived.Test.YtnhbkopgbibcgaaHt
import Derived.Test.YtnhbkopgbibcgaaHy
namespace Go.Proofs.Ytnhbkopgbibcgaa
open Go.RowKit Go.Shelf

theorem asked_of {n m : Nat} {l : List Int} (hn1 : 1 ≤ n) (hn6 : n ≤ 6) (hm1 : 1 ≤ m) (hm6 : m ≤ 6) (hs : stateB n m l = true) : askedB n m l = true := by
  unfold askedB
  rw [hs, Bool.and_true]
  exact decide_eq_true ⟨⟨by omega, by omega⟩, by omega, by omega⟩
theorem gets_ok {n m : Nat} {l out : List Int} {w : World} {e : Ending} {w' : World} (hk : askedB n m l = true) (h : Gets (resOf n m l out) (errOf n m l) w e w') : Gets out 0 w e w' := by
  unfold resOf errOf at h
  rw [hk, if_pos rfl, if_pos rfl] at h
  exact h

set_option maxHeartbeats 4000000 in
set_option maxRecDepth 100000 in
theorem moved_walk (a b : Int) (l : List Int) (A : Option Addr) (c : Nat) (w : World) (hI : l.length ≤ 140737488351232 → IntsAt w A l) (hlc : l.length ≤ c) (hA : A = none → c = 0) :
    Calls Try.prog 13 #[.int .i64 a, .int .i64 b, .slice A l.length c] w fun e w' => e = .returned (.bool true) ∧ Below w.heap.size w w' := by
  by_cases h20 : 20 < l.length
  · clear hI hA hlc
    go_enter Try.func13, Try.ntmps13
    go_wp2_with (go_at_call 17; refine (alive_any _).mono ?_; rintro e w2 ⟨rfl, hb2⟩)
    go_ret
    exact ⟨rfl, hb2⟩
  · have hl := hI (by omega)
    cases hk : askedB a b l
    · have CG := Off.mk (good_any a b l A c false hk w hl)
      clear hk hI hA hlc
      go_enter Try.func13, Try.ntmps13
      go_wp2_with (first
        | (go_at_call 29; refine CG.out.mono ?_; rintro e w1 ⟨rfl, hb1⟩)
        | (go_at_call 17; refine (alive_any _).mono ?_; rintro e w2 ⟨rfl, hb2⟩))
      go_ret
      exact ⟨rfl, belowC hb1 hb2⟩
    · have CG := Off.mk (good_any a b l A c true hk w hl)
      obtain ⟨n, m, rfl, rfl, hn, hn1, hn6, hm1, hm6, hs⟩ := asked_nat hk
      obtain ⟨f1, f2, f3⟩ := moved_of hn1 hn6 hm1 hm6 hs
      have hwl := (of_decide_eq_true f2).1
      obtain ⟨tx, htx⟩ : ∃ tx : ByteArray, tx = ⟨(wordP m l).toArray⟩ := ⟨_, rfl⟩
      have htl : tx.data.toList = wordP m l := by rw [htx]
      have hts : tx.size = n + m := by rw [← word_len, htl]; exact hwl
      obtain ⟨ty, hty⟩ : ∃ ty : ByteArray, ty = ⟨(wordP m (sweepP m l)).toArray⟩ := ⟨_, rfl⟩
      have HW1 : Off (∀ W, Below w.heap.size w W → Calls Try.prog 21 #[.int .i64 (n : Int), .int .i64 (m : Int), .slice A l.length c] W fun e w' => e = .returned (.tuple #[.string tx, .int .i64 0]) ∧ Below W.heap.size W w') := ⟨fun W hW => by
        have := Word_yes n m l A c W (hl.below hW) hlc hA hk
        rw [Int.toNat_natCast, ← htx] at this
        exact this⟩
      have hsw := sweep_state hs
      have HW2 : Off (∀ (A : Option Addr) (c : Nat) (W : World), IntsAt W A (sweepP m l) → l.length ≤ c → (A = none → c = 0) → Calls Try.prog 21 #[.int .i64 (n : Int), .int .i64 (m : Int), .slice A l.length c] W fun e w' => e = .returned (.tuple #[.string ty, .int .i64 0]) ∧ Below W.heap.size W w') := ⟨fun A c W h1 h2 h3 => by
        have hle : (sweepP m l).length = l.length := sweepP_length m l
        have := Word_yes n m (sweepP m l) A c W h1 (by omega) h3 (asked_of hn1 hn6 hm1 hm6 hsw)
        rw [Int.toNat_natCast, ← hty, hle] at this
        exact this⟩
      have HO : Off (∀ W, Calls Try.prog 43 #[.int .i64 (n : Int), .int .i64 (m : Int), .string tx] W fun e w' => Gets l 0 W e w') := ⟨fun W => by
        have := (Of_any n m tx W (by omega)).mono fun _ _ h => of_gets h
        have hE : ofErr n m tx.data.toList = 0 := by
          unfold ofErr
          rw [if_pos (show fieldB (n : Int) (m : Int) = true from decide_eq_true ⟨⟨by omega, by omega⟩, by omega, by omega⟩), Int.toNat_natCast, Int.toNat_natCast, htl, f2, if_pos rfl]
        rw [hE, if_pos rfl, Int.toNat_natCast, htl, f1] at this
        exact this⟩
      have HS : Off (∀ (k : Nat) (A : Option Addr) (c : Nat) (W : World), IntsAt W A (iterSweep m l k) → l.length ≤ c → (A = none → c = 0) → Calls Try.prog 40 #[.int .i64 (n : Int), .int .i64 (m : Int), .slice A l.length c] W fun e w' => ∃ A' c', e = .returned (.tuple #[.slice A' l.length c', .int .i64 0]) ∧ IntsAt w' A' (iterSweep m l (k + 1)) ∧ l.length ≤ c' ∧ (A' = none → c' = 0) ∧ Below W.heap.size W w') := ⟨fun k A c W h1 h2 h3 => by
        have hst := iterSweep_state hs k
        have hle : (iterSweep m l k).length = l.length := by
          have := (of_decide_eq_true hst).1
          omega
        have hle2 : (iterSweep m l (k + 1)).length = l.length := by
          have := (of_decide_eq_true (iterSweep_state hs (k + 1))).1
          omega
        have := (Sweep_any n m (iterSweep m l k) A c W h1 (by omega) h3).mono fun _ _ h => gets_ok (asked_of hn1 hn6 hm1 hm6 hst) (moved_gets (fun hk => by rw [sweepP_length]; have := asked_len hk; omega) h)
        rw [hle, Int.toNat_natCast] at this
        refine this.mono fun e w' h => ?_
        obtain ⟨A', c', he, h4, h5, h6, h7⟩ := h
        rw [show (sweepP m (iterSweep m l k)).length = l.length from hle2] at he h5
        exact ⟨A', c', he, h4, h5, h6, h7⟩⟩
      have hback := iterSweep_back hn1 hn6 hm1 hm6 hs
      have hvv : ty = tx.extract 1 tx.size ++ tx.extract 0 1 := by
        apply ByteArray.ext
        have h1 : tx.data.toList.length = n + m := by rw [htl]; exact hwl
        rw [hty, f3, ← htl, ByteArray.data_append, ByteArray.data_extract, ByteArray.data_extract]
        apply Array.ext'
        simp
        exact (List.take_of_length_le (by rw [List.length_tail, word_len]; omega)).symm
      have HBk := Off.mk hback
      rw [hvv] at HW2
      have HI := Off.mk hl
      have hL : (sweepP m l).length = l.length := sweepP_length m l
      have HL := Off.mk hL
      have HT := Off.mk hts
      obtain ⟨R, hR⟩ : ∃ R, R = sweepP m l := ⟨_, rfl⟩
      have HR := Off.mk hR
      rw [← hR] at HW2
      have g1 : ((tx.size : Int) != (n : Int) + m) = false := by rw [bne_eq_false_iff_eq]; omega
      clear hvv hty htx htl hback hL hR hwl f1 f2 f3 hs hn hk hsw hI hts
      go_enter Try.func13, Try.ntmps13
      go_wp2_with (go_at_call 29; refine CG.out.mono ?_; rintro e w1 ⟨rfl, b1⟩)
      refine (HW1.out _ b1).mono ?_
      rintro e w2 ⟨rfl, h2⟩
      have b2 := belowC b1 h2
      clear h2 b1
      go_wp2_with fail
      refine (HO.out _).mono ?_
      rintro e w3 ⟨A3, c3, rfl, hI3, _, _, h3⟩
      have b3 := belowC b2 h3
      clear h3 b2
      go_wp2_with fail
      refine (HS.out 0 A c _ (HI.out.below b3) hlc hA).mono ?_
      rintro e w4 ⟨A4, c4, rfl, hI4, hl4, hA4, h4⟩
      have b4 := belowC b3 h4
      have hI3 := hI3.below h4
      have hI4' : IntsAt w4 A4 R := by rw [HR.out]; exact hI4
      clear h4 b3 hI4
      go_wp2_with fail
      refine (HW2.out _ _ _ hI4' hl4 hA4).mono ?_
      rintro e w5 ⟨rfl, h5⟩
      have b5 := belowC b4 h5
      have hI3 := hI3.below h5
      clear h5 b4 hI4'
      have g3 : IntKind.i64.wrap ((n : Int) + m) = (n : Int) + m := by rw [IntKind.wrap_i64]; omega
      have g4 : ¬ (tx.size : Int) < 1 := by have := HT.out; omega
      have g5 : 1 ≤ tx.size := by have := HT.out; omega
      go_wp2_with fail
      obtain ⟨sa, hsa⟩ : ∃ sa, tx.extract 1 tx.size = sa := ⟨_, rfl⟩
      obtain ⟨sb, hsb⟩ : ∃ sb, tx.extract 0 1 = sb := ⟨_, rfl⟩
      have g6 : ¬ (9223372036854775807 < sa.size + sb.size) := by
        have := HT.out
        rw [← hsa, ← hsb, ByteArray.size_extract, ByteArray.size_extract]
        omega
      go_region_held3 (fun _ => True) (first | go_keep | trivial)
            (first
              | (go_at_call 24; with_reducible refine (same_self l _ _ _ _ w5 hI3 (HI.out.below b5)).mono ?_; rintro e w6 ⟨rfl, h6⟩; have b6 := belowC b5 h6)
              | (go_at_call 24; with_reducible refine (same_self l _ _ _ _ w5.drew (hI3.below (Below.refl _ _).drew) (HI.out.below b5.drew)).mono ?_; rintro e w6 ⟨rfl, h6⟩; have b6 := belowC b5.drew h6))
      have hI0 : IntsAt w6 A (iterSweep m l 0) := HI.out.below b6
      go_wp2
      go_loopw [15, 16] (fun v iv wr => ∃ (k : Nat) (A' : Option Addr) (c' : Nat), k ≤ n + m ∧ iv = .int .i64 k ∧ v = .slice A' l.length c' ∧ IntsAt wr A' (iterSweep m l k) ∧ l.length ≤ c' ∧ (A' = none → c' = 0) ∧ Below w.heap.size w wr) (fun _ iv _ => n + m - (intOf iv).toNat)
      case atStart => exact ⟨0, A, c, by omega, rfl, rfl, hI0, hlc, hA, b6⟩
      case round =>
        clear hI0 b6
        obtain ⟨k, A', c', hk, rfl, rfl, hIk, hlk, hAk, hb⟩ := hrel
        obtain ⟨wo, rfl⟩ : ∃ wo : World, wo = wr := ⟨_, rfl⟩
        by_cases hkl : k < n + m
        · have hki : (k : Int) < (n : Int) + m := by omega
          have CS := Off.mk (HS.out k A' c' wo hIk hlk hAk)
          clear hIk hlk hAk
          go_wp2_with fail
          refine CS.out.mono ?_
          rintro e w7 ⟨A7, c7, rfl, hI7, hl7, hA7, h7⟩
          have b7 := belowC hb h7
          clear h7 hb
          go_wp2
          go_roundw
          case rel => exact ⟨k + 1, A7, c7, by omega, by go_num, rfl, hI7, hl7, hA7, b7⟩
          case measure => simp only [intOf]; omega
        · obtain rfl : k = n + m := by omega
          rw [HBk.out] at hIk
          have hcast : ((n + m : Nat) : Int) = (n : Int) + m := by omega
          rw [hcast]
          go_wp2_with fail
          refine (same_self l _ _ _ _ _ hIk (HI.out.below hb)).mono ?_
          rintro e w8 ⟨rfl, h8⟩
          have b8 := belowC hb h8
          go_wp2_with (go_at_call 17; refine (alive_any _).mono ?_; rintro e w12 ⟨rfl, hb12⟩)
          go_ret
          exact ⟨rfl, belowC b8 hb12⟩
end Go.Proofs.Ytnhbkopgbibcgaa
