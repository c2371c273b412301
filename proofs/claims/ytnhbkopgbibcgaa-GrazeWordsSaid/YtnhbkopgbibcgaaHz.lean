/- The law GrazeWords: its walk. -/
import Derived.Test.YtnhbkopgbibcgaaHt
import Derived.Test.YtnhbkopgbibcgaaHx
namespace Go.Proofs.Ytnhbkopgbibcgaa
open Go.RowKit Go.Shelf

set_option maxHeartbeats 4000000 in
set_option maxRecDepth 100000 in
theorem words_walk (a b : Int) (s : ByteArray) (w : World) : Calls Try.prog 14 #[.int .i64 a, .int .i64 b, .string s] w fun e w' => e = .returned (.bool true) ∧ Below w.heap.size w w' := by
  by_cases h40 : 40 < s.size
  · go_enter Try.func14, Try.ntmps14
    go_wp2_with (go_at_call 17; refine (alive_any _).mono ?_; rintro e w2 ⟨rfl, hb2⟩)
    go_ret
    exact ⟨rfl, hb2⟩
  · have hs : s.size ≤ 40 := by omega
    cases hf : fieldB a b
    · have CP := Off.mk (pasture_any a b false hf w)
      clear hf
      go_enter Try.func14, Try.ntmps14
      go_wp2_with (first
        | (go_at_call 45; refine CP.out.mono ?_; rintro e w1 ⟨rfl, hw⟩; subst w1)
        | (go_at_call 17; refine (alive_any _).mono ?_; rintro e w2 ⟨rfl, hb2⟩))
      go_ret
      exact ⟨rfl, hb2⟩
    · have CP := Off.mk (pasture_any a b true hf w)
      obtain ⟨n, m, rfl, rfl, hn1, hn6, hm1, hm6⟩ := field_nat hf
      have HO := Off.mk ((Of_any n m s w hs).mono fun _ _ h => of_gets h)
      have HLw := word_len s
      have HEr : ofErr n m s.data.toList = if wordB n m s.data.toList then 0 else 5 := by unfold ofErr; rw [hf, if_pos rfl, Int.toNat_natCast, Int.toNat_natCast]
      have HBy : Off (∀ k (h : k < s.size), s[k] = s.data.toList.getD k 0) := ⟨fun k h => byte_at s k h⟩
      have HWB : wordB n m s.data.toList = decide (s.data.toList.length = n + m ∧ s.data.toList.count 117 = n ∧ s.data.toList.count 114 = m) := rfl
      have HWo := Off.mk (fun h => word_of hn1 hn6 hm1 hm6 (ws := s.data.toList) h)
      have hstr : s = ⟨s.data.toList.toArray⟩ := by rfl
      have HStr := Off.mk hstr
      rw [Int.toNat_natCast] at HO
      obtain ⟨ws, hws⟩ : ∃ ws, ws = s.data.toList := ⟨_, rfl⟩
      rw [← hws] at HO HLw HEr HBy HWB HWo HStr
      have HLw := Off.mk HLw
      have HEr := Off.mk HEr
      have HWB := Off.mk HWB
      have X0 : Off ((upsK ws 0 : Int) = 0 ∧ (haveK ws 0 : Int) = 0) := ⟨rfl, rfl⟩
      clear hf hws hstr
      go_enter Try.func14, Try.ntmps14
      go_wp2_with (go_at_call 45; refine CP.out.mono ?_; rintro e w1 ⟨rfl, hw⟩; subst w1)
      go_loop [7, 8, 9] (fun uv hv iv => ∃ k : Nat, k ≤ s.size ∧ iv = .int .i64 k ∧ uv = .int .i64 (upsK ws k : Nat) ∧ hv = .int .i64 (haveK ws k : Nat)) (fun _ _ iv => s.size - (intOf iv).toNat)
      case atStart => exact ⟨0, by omega, rfl, by rw [X0.out.1], by rw [X0.out.2]⟩
      case round =>
        obtain ⟨k, hk, rfl, rfl, rfl⟩ := hrel
        have hul : upsK ws k ≤ k := Nat.le_trans List.count_le_length (List.length_take_le _ _)
        have hhl := have_le ws k
        by_cases hkl : k < s.size
        · have hki : (k : Int) < (s.size : Int) := by omega
          have hlt : k < ws.length := by rw [HLw.out]; exact hkl
          have hby := HBy.out k hkl
          have HH := Off.mk (have_succ ws k hlt)
          have HU1 := Off.mk (ups_succ ws k hlt)
          rw [← hby] at HH HU1
          obtain ⟨u, hu⟩ : ∃ u, u = upsK ws k := ⟨_, rfl⟩
          obtain ⟨h, hh⟩ : ∃ h, h = haveK ws k := ⟨_, rfl⟩
          rw [← hu] at hul HU1 ⊢
          rw [← hh] at hhl HH ⊢
          clear hu hh hby hlt
          by_cases c1 : s[k] = 117
          · have e1 : ((s[k].toNat : Int) == 117) = true := by rw [c1]; rfl
            have e2 : ((s[k].toNat : Int) == 114) = false := by rw [c1]; rfl
            have H1 : Off (upsK ws (k + 1) = u + 1) := ⟨by rw [HU1.out, c1]; rfl⟩
            have H2 : Off (haveK ws (k + 1) = h) := ⟨by rw [HH.out, c1]; rfl⟩
            clear c1 HH HU1
            go_wp2
            go_round
            case rel => exact ⟨k + 1, by omega, by go_num, by rw [H1.out]; go_num, by rw [H2.out]⟩
            case measure => simp only [intOf]; omega
          · have e1 : ((s[k].toNat : Int) == 117) = false := by
              have := toNat_of s[k] 117
              rw [decide_eq_false c1] at this
              exact this
            have H1 : Off (upsK ws (k + 1) = u) := ⟨by rw [HU1.out, if_neg c1]; rfl⟩
            by_cases c2 : s[k] = 114
            · have e2 : ((s[k].toNat : Int) == 114) = true := by rw [c2]; rfl
              have H2 : Off (haveK ws (k + 1) = h + 1) := ⟨by rw [HH.out, c2]; rfl⟩
              clear c1 c2 HH HU1
              go_wp2
              go_round
              case rel => exact ⟨k + 1, by omega, by go_num, by rw [H1.out], by rw [H2.out]; go_num⟩
              case measure => simp only [intOf]; omega
            · have e2 : ((s[k].toNat : Int) == 114) = false := by
                have := toNat_of s[k] 114
                rw [decide_eq_false c2] at this
                exact this
              have H2 : Off (haveK ws (k + 1) = h) := ⟨by rw [HH.out, if_neg c2]; rfl⟩
              clear c1 c2 HH HU1
              go_wp2
              go_round
              case rel => exact ⟨k + 1, by omega, by go_num, by rw [H1.out], by rw [H2.out]⟩
              case measure => simp only [intOf]; omega
        · obtain rfl : k = s.size := by omega
          have hua : upsK ws s.size = ws.count 117 := by rw [← HLw.out]; exact ups_all ws
          have hha : haveK ws s.size = ws.count 114 := by rw [← HLw.out]; exact have_all ws
          have hL := HLw.out
          cases hw : wordB n m ws
          · have hE := HEr.out
            rw [hw] at hE
            rw [hE, if_neg (by decide)] at HO
            have hd := of_decide_eq_false (HWB.out.symm.trans hw)
            have hd2 : upsK ws s.size ≠ n ∨ (upsK ws s.size = n ∧ haveK ws s.size ≠ m) ∨ (upsK ws s.size = n ∧ haveK ws s.size = m ∧ s.size ≠ n + m) := by omega
            obtain ⟨u, hu⟩ : ∃ u, u = upsK ws s.size := ⟨_, rfl⟩
            obtain ⟨h, hh⟩ : ∃ h, h = haveK ws s.size := ⟨_, rfl⟩
            rw [← hu, ← hh] at hd2
            rw [← hu] at hul ⊢
            rw [← hh] at hhl ⊢
            clear hu hh hua hha hL hE hd hw
            rcases hd2 with c1 | ⟨c1, c2⟩ | ⟨c1, c2, c3⟩
            · have g1 : ((u : Int) != (n : Int)) = true := by rw [bne_iff_ne]; omega
              clear c1
              go_wp2_with fail
              refine HO.out.mono ?_
              rintro e w2 ⟨A2, c2, rfl, hI2, _, _, b2⟩
              go_wp2_with (go_at_call 17; refine (alive_any _).mono ?_; rintro e w3 ⟨rfl, hb3⟩)
              go_ret
              exact ⟨rfl, belowC b2 hb3⟩
            · have g1 : ((u : Int) != (n : Int)) = false := by rw [bne_eq_false_iff_eq]; omega
              have g2 : ((h : Int) != (m : Int)) = true := by rw [bne_iff_ne]; omega
              clear c1 c2
              go_wp2_with fail
              refine HO.out.mono ?_
              rintro e w2 ⟨A2, c2, rfl, hI2, _, _, b2⟩
              go_wp2_with (go_at_call 17; refine (alive_any _).mono ?_; rintro e w3 ⟨rfl, hb3⟩)
              go_ret
              exact ⟨rfl, belowC b2 hb3⟩
            · have g1 : ((u : Int) != (n : Int)) = false := by rw [bne_eq_false_iff_eq]; omega
              have g2 : ((h : Int) != (m : Int)) = false := by rw [bne_eq_false_iff_eq]; omega
              have g3 : ((s.size : Int) != (n : Int) + m) = true := by rw [bne_iff_ne]; omega
              clear c1 c2 c3
              go_wp2_with fail
              refine HO.out.mono ?_
              rintro e w2 ⟨A2, c2, rfl, hI2, _, _, b2⟩
              go_wp2_with (go_at_call 17; refine (alive_any _).mono ?_; rintro e w3 ⟨rfl, hb3⟩)
              go_ret
              exact ⟨rfl, belowC b2 hb3⟩
          · have hE := HEr.out
            rw [hw] at hE
            rw [hE, if_pos rfl, if_pos rfl] at HO
            obtain ⟨hd1, hd2, hd3⟩ := of_decide_eq_true (HWB.out.symm.trans hw)
            obtain ⟨f1, f2⟩ := HWo.out hw
            have hk : askedB n m (ofP n ws) = true := by
              unfold askedB
              rw [f2, Bool.and_true]
              exact decide_eq_true ⟨⟨by omega, by omega⟩, by omega, by omega⟩
            have hlo : (ofP n ws).length = n := ofP_length n ws
            have HWd : Off (∀ (A : Option Addr) (c : Nat) (W : World), IntsAt W A (ofP n ws) → (ofP n ws).length ≤ c → (A = none → c = 0) → Calls Try.prog 21 #[.int .i64 (n : Int), .int .i64 (m : Int), .slice A (ofP n ws).length c] W fun e w' => e = .returned (.tuple #[.string s, .int .i64 0]) ∧ Below W.heap.size W w') := ⟨fun A c W h1 h2 h3 => by
              have := Word_yes n m (ofP n ws) A c W h1 h2 h3 hk
              rw [Int.toNat_natCast, f1, ← HStr.out] at this
              exact this⟩
            have HIs : Off (∀ (A : Option Addr) (c : Nat) (W : World), IntsAt W A (ofP n ws) → Calls Try.prog 31 #[.int .i64 (n : Int), .int .i64 (m : Int), .slice A (ofP n ws).length c] W fun e w' => e = .returned (.bool true) ∧ Below W.heap.size W w') := ⟨fun A c W h1 => by
              have := isState_any n m (ofP n ws) A c W h1
              rw [f2] at this
              exact this⟩
            obtain ⟨R, hR⟩ : ∃ R, R = ofP n ws := ⟨_, rfl⟩
            rw [← hR] at HO HWd HIs
            have c1 : upsK ws s.size = n := by omega
            have c2 : haveK ws s.size = m := by omega
            rw [c1, c2]
            have g1 : ((n : Int) != (n : Int)) = false := by rw [bne_eq_false_iff_eq]
            have g2 : ((m : Int) != (m : Int)) = false := by rw [bne_eq_false_iff_eq]
            have g3 : ((s.size : Int) != (n : Int) + m) = false := by rw [bne_eq_false_iff_eq]; omega
            clear hR hk hlo f1 f2 hE hd1 hd2 hd3 hw c1 c2 hua hha hL
            go_wp2_with fail
            refine HO.out.mono ?_
            rintro e w2 ⟨A2, c2, rfl, hI2, hl2, hA2, b2⟩
            go_wp2_with fail
            refine (HWd.out _ _ _ hI2 hl2 hA2).mono ?_
            rintro e w3 ⟨rfl, h3⟩
            have b3 := belowC b2 h3
            have hI3 := hI2.below h3
            go_wp2_with fail
            refine (HIs.out _ _ _ hI3).mono ?_
            rintro e w4 ⟨rfl, h4⟩
            have b4 := belowC b3 h4
            go_wp2_with (go_at_call 17; refine (alive_any _).mono ?_; rintro e w5 ⟨rfl, hb5⟩)
            go_ret
            exact ⟨rfl, belowC b4 hb5⟩
end Go.Proofs.Ytnhbkopgbibcgaa
