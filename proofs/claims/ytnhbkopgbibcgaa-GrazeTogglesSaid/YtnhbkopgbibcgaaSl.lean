/- The law GrazeToggles: its walk. -/
import Derived.Test.YtnhbkopgbibcgaaSm
import Derived.Test.YtnhbkopgbibcgaaSj
namespace Go.Proofs.Ytnhbkopgbibcgaa
open Go.RowKit Go.Shelf

set_option maxHeartbeats 8000000 in
set_option maxRecDepth 100000 in
theorem toggles_walk (a b : Int) (l : List Int) (A : Option Addr) (c : Nat) (bs : List Nat) (Ab : Option Addr) (cb : Nat) (w : World) (hI : l.length ≤ 140737488351232 → IntsAt w A l) (hlc : l.length ≤ c) (hA : A = none → c = 0) (hbs : BytesAt w Ab bs ∧ ∀ j, bs.getD j 0 < 256) :
    Calls Try.prog 6 #[.int .i64 a, .int .i64 b, .slice A l.length c, .slice Ab bs.length cb] w fun e w' => e = .returned (.bool true) ∧ Below w.heap.size w w' := by
  obtain ⟨hby, hb256⟩ := hbs
  by_cases h20 : 20 < l.length
  · clear hI hA hlc hby hb256
    go_enter Try.func6, Try.ntmps6
    go_wp2_with (go_at_call 17; refine (alive_any _).mono ?_; rintro e w2 ⟨rfl, hb2⟩)
    go_ret
    exact ⟨rfl, hb2⟩
  · by_cases h100 : 100 < bs.length
    · clear hI hA hlc hby hb256
      go_enter Try.func6, Try.ntmps6
      go_wp2_with (go_at_call 17; refine (alive_any _).mono ?_; rintro e w2 ⟨rfl, hb2⟩)
      go_ret
      exact ⟨rfl, hb2⟩
    · have hl := hI (by omega)
      cases hk : askedB a b l
      · have CG := Off.mk (good_any a b l A c false hk w hl)
        clear hk hI hA hlc hby hb256
        go_enter Try.func6, Try.ntmps6
        go_wp2_with (first
          | (go_at_call 29; refine CG.out.mono ?_; rintro e w1 ⟨rfl, hb1⟩)
          | (go_at_call 17; refine (alive_any _).mono ?_; rintro e w2 ⟨rfl, hb2⟩))
        go_ret
        exact ⟨rfl, belowC hb1 hb2⟩
      · have CG := Off.mk (good_any a b l A c true hk w hl)
        obtain ⟨n, m, rfl, rfl, hn, hn1, hn6, hm1, hm6, hs⟩ := asked_nat hk
        have hcan := day_canon hn1 hn6 hm1 hm6 hs
        have hds := (day_state hn1 hn6 hm1 hm6 hs).2
        have hdl : (dayP m l).length = l.length := by
          have h1 := (of_decide_eq_true hds).1
          omega
        have HDay : Off (∀ W, Below w.heap.size w W → Calls Try.prog 22 #[.int .i64 (n : Int), .int .i64 (m : Int), .slice A l.length c] W fun e w' => Gets (dayP m l) 0 W e w') := ⟨fun W hW => by
          have := (Day_any n m l A c W (hl.below hW) hlc hA).mono fun _ _ h => moved_gets (fun _ => by rw [Int.toNat_natCast, hdl]; omega) h
          unfold resOf errOf at this
          rw [hk, if_pos rfl, if_pos rfl, Int.toNat_natCast] at this
          exact this⟩
        have HTurns : Off (∀ (zs : List (Nat × Nat)) (Az : Option Addr) (cz : Nat) (W : World), Below w.heap.size w W → PairsAt W Az zs → zs.length ≤ 200 → (∀ x ∈ zs, x.1 < n ∧ x.2 < m) → turnL l zs = dayP m l → Calls Try.prog 30 #[.int .i64 (n : Int), .int .i64 (m : Int), .slice A l.length c, .slice Az zs.length cz] W fun e w' => Gets (dayP m l) 0 W e w') := ⟨fun zs Az cz W hW hP hz hr ht => by
          have := Turns_any n m l A c (zs.map fun x => ((x.1 : Int), (x.2 : Int))) Az cz W (hl.below hW) hlc hA (pairs_int hP (by omega))
          rw [List.length_map] at this
          refine this.mono fun e w' h => ?_
          obtain ⟨v, rfl, hO, hb⟩ := h
          have hE : turnsErr n m l (zs.map fun x => ((x.1 : Int), (x.2 : Int))) = 0 := by
            unfold turnsErr
            rw [hk, if_pos rfl, if_neg (by rw [List.length_map]; omega), out_map hr]
            rfl
          rw [hE, if_pos rfl, turnsP_map, ht] at hO
          obtain ⟨A', c', rfl, h3, h4, h5⟩ := own_ints' hO (by omega)
          exact ⟨A', c', by rw [hE], h3, h4, h5, hb⟩⟩
        have HIs : Off (∀ (A : Option Addr) (c : Nat) (W : World), IntsAt W A (dayP m l) → Calls Try.prog 31 #[.int .i64 (n : Int), .int .i64 (m : Int), .slice A (dayP m l).length c] W fun e w' => e = .returned (.bool true) ∧ Below W.heap.size W w') := ⟨fun A c W h1 => by
          have := isState_any n m (dayP m l) A c W h1
          rw [hds] at this
          exact this⟩
        obtain ⟨R, hR⟩ : ∃ R, R = dayP m l := ⟨_, rfl⟩
        rw [← hR] at HDay HTurns HIs hcan
        have HCan : Off (turnL l (canonTo n m (n + m - 1)) = R) := ⟨hcan⟩
        have HBy := Off.mk hby
        have HB256 := Off.mk hb256
        clear hcan hds hdl hR hs hk hI hl hA hlc hby hb256 hn
        go_enter Try.func6, Try.ntmps6
        go_wp2_with (go_at_call 29; refine CG.out.mono ?_; rintro e w1 ⟨rfl, b1⟩)
        have O0 : Off (OwnP w1 w.heap.size (.slice none 0 0) []) := ⟨ownP_nil _ _⟩
        have T0 : Off (turnL l [] = turnL l (canonTo n m 0)) := ⟨rfl⟩
        have M0 : Off (∀ x ∈ ([] : List (Nat × Nat)), x.1 < n ∧ x.2 < m) := ⟨fun x hx => by simp at hx⟩
        have B1 := Off.mk b1
        clear b1 CG
        go_loopw [9, 10, 11] (fun v tv dv wr => ∃ (k t : Nat) (zs : List (Nat × Nat)), k ≤ n + m - 1 ∧ t ≤ 6 * k ∧ tv = .int .i64 t ∧ dv = .int .i64 ((n : Int) + m - 2 - k) ∧ zs.length ≤ 6 * k ∧ Off (OwnP wr w.heap.size v zs) ∧ Off (turnL l zs = turnL l (canonTo n m k)) ∧ Off (∀ x ∈ zs, x.1 < n ∧ x.2 < m) ∧ Off (Below w.heap.size w wr)) (fun _ _ dv _ => (intOf dv + 1).toNat)
        case atStart => exact ⟨0, 0, [], by omega, by omega, rfl, by go_num, by simp, O0, T0, M0, B1⟩
        case round =>
          clear O0 T0 M0 B1
          obtain ⟨k, t, zs, hk, ht, rfl, rfl, hzl, HO, HT, HM, HB⟩ := hrel
          obtain ⟨wo, rfl⟩ : ∃ wo : World, wo = wr := ⟨_, rfl⟩
          by_cases hkl : k < n + m - 1
          · have HD2 : Off ((n : Int) + m - 2 - (k + 1 : Nat) = (n : Int) + m - 2 - k - 1) := ⟨by omega⟩
            have HC1 : Off (canonTo n m (k + 1) = canonTo n m k ++ diagTo m (n + m - 2 - k) n) := ⟨rfl⟩
            obtain ⟨d, hd⟩ : ∃ d : Nat, d = n + m - 2 - k := ⟨_, rfl⟩
            have hd2 : (n : Int) + m - 2 - k = (d : Int) := by omega
            have hd10 : d ≤ 10 := by omega
            have hdp := diag_pos hn1 hm1 (show d ≤ n + m - 2 by omega)
            have HDp := Off.mk hdp
            rw [hd2] at HD2 ⊢
            rw [← hd] at HC1
            have R0 : Off (OwnP wo w.heap.size (.slice none 0 0) (diagTo m d 0)) := ⟨ownP_nil _ _⟩
            have A0 : Off (Apart (.slice none 0 0) u9) := ⟨.inl rfl⟩
            clear hd hd2 hdp
            go_wp2
            go_loopw [12, 13] (fun rv iv wr => ∃ i : Nat, i ≤ n ∧ iv = .int .i64 i ∧ Off (OwnP wr w.heap.size rv (diagTo m d i)) ∧ Off (Apart rv u9) ∧ Off (OwnP wr w.heap.size u9 zs) ∧ Off (Below w.heap.size w wr)) (fun _ iv _ => n - (intOf iv).toNat)
            case atStart => exact ⟨0, by omega, rfl, R0, A0, HO, HB⟩
            case round =>
              clear R0 A0 HO HB
              obtain ⟨i, hi, rfl, HR, HA, HO, HB⟩ := hrel
              obtain ⟨wq, rfl⟩ : ∃ wo : World, wo = wr := ⟨_, rfl⟩
              have hdl := diagTo_length m d i
              by_cases hin : i < n
              · have hi1 : (i : Int) < (n : Int) := by omega
                have HS : Off (diagTo m d (i + 1) = diagTo m d i ++ if i ≤ d ∧ d - i < m then [(i, d - i)] else []) := ⟨rfl⟩
                obtain ⟨ys, hys⟩ : ∃ ys, ys = diagTo m d i := ⟨_, rfl⟩
                rw [← hys] at HR HS hdl
                clear hys
                by_cases hc1 : i ≤ d
                · by_cases hc2 : d - i < m
                  · have HS2 : Off (diagTo m d (i + 1) = ys ++ [(i, d - i)]) := ⟨by rw [HS.out, if_pos ⟨hc1, hc2⟩]⟩
                    have hx1 : (0 : Int) ≤ (d : Int) - i := by omega
                    have hx2 : (d : Int) - i < (m : Int) := by omega
                    have HX : Off ((d : Int) - i = ((d - i : Nat) : Int)) := ⟨by omega⟩
                    obtain ⟨j, hj⟩ : ∃ j, j = d - i := ⟨_, rfl⟩
                    rw [← hj] at HS2 HX
                    clear hj hc2 HS
                    go_wp2_with (at_builtin; rw [HX.out]; refine wpList_plot rfl _ _ rfl w.heap.size _ ys i j HR.out HB.out.size (by omega) rfl rfl ?_)
                    intro v5 w5 hO5 hb5 hot5
                    obtain ⟨h6, h7⟩ := hot5 _ _ HO.out HA.out
                    have HO5 := Off.mk hO5
                    have HO6 := Off.mk h6
                    have HA6 := Off.mk h7
                    have HB6 := Off.mk (HB.out.trans hb5)
                    clear hO5 hb5 hot5 h6 h7 HR HA HO HB
                    go_wp2
                    go_roundw
                    case rel => exact ⟨i + 1, by omega, by go_num, by rw [HS2.out]; exact HO5, HA6, HO6, HB6⟩
                    case measure => simp only [intOf]; omega
                  · have HS2 : Off (diagTo m d (i + 1) = ys) := ⟨by rw [HS.out, if_neg (fun e => hc2 e.2), List.append_nil]⟩
                    have hx1 : (0 : Int) ≤ (d : Int) - i := by omega
                    have hx2 : ¬ (d : Int) - i < (m : Int) := by omega
                    clear hc2 HS
                    go_wp2
                    go_roundw
                    case rel => exact ⟨i + 1, by omega, by go_num, by rw [HS2.out]; exact HR, HA, HO, HB⟩
                    case measure => simp only [intOf]; omega
                · have HS2 : Off (diagTo m d (i + 1) = ys) := ⟨by rw [HS.out, if_neg (fun e => hc1 e.1), List.append_nil]⟩
                  have hx1 : ¬ (0 : Int) ≤ (d : Int) - i := by omega
                  clear hc1 HS
                  go_wp2
                  go_roundw
                  case rel => exact ⟨i + 1, by omega, by go_num, by rw [HS2.out]; exact HR, HA, HO, HB⟩
                  case measure => simp only [intOf]; omega
              · obtain rfl : i = n := by omega
                obtain ⟨r, c2, rfl, hr, hPR⟩ := ownP_row HR.out HDp.out
                have HPR := Off.mk hPR
                have hAp : (u9).ownBlock ≠ some r := by
                  rcases HA.out with e | e
                  · cases e
                  · exact fun x => e x.symm
                have HAp := Off.mk hAp
                obtain ⟨K, hK⟩ : ∃ K, K = (diagTo m d i).length := ⟨_, rfl⟩
                obtain ⟨ys, hys⟩ : ∃ ys, ys = diagTo m d i := ⟨_, rfl⟩
                have HYs := Off.mk hys
                have HK := Off.mk hK
                have HPm : Off (ys.Perm ys) := ⟨List.Perm.refl _⟩
                rw [← hK] at HPR hdl ⊢
                rw [← hys] at HPR
                have hK1 : 0 < K := by rw [hK]; exact HDp.out
                clear hK hys hPR HR HA hAp
                go_wp2_with fail
                go_loopw [10, 14] (fun tv iv wr => ∃ (t' j : Nat) (xs : List (Nat × Nat)), j ≤ K ∧ Off (t' = t + j) ∧ tv = .int .i64 t' ∧ iv = .int .i64 j ∧ Off (PRow wr w.heap.size r K c2 xs) ∧ Off (xs.Perm ys) ∧ Off (OwnP wr w.heap.size u9 zs) ∧ Off (Below w.heap.size w wr)) (fun _ iv _ => K - (intOf iv).toNat)
                case atStart => exact ⟨t, 0, ys, by omega, ⟨by omega⟩, rfl, rfl, HPR, HPm, HO, HB⟩
                case round =>
                  clear HPR HPm HO HB
                  obtain ⟨t', j, xs, hj, ht', rfl, rfl, HPR, HPm, HO, HB⟩ := hrel
                  obtain ⟨wz, rfl⟩ : ∃ wo : World, wo = wr := ⟨_, rfl⟩
                  have ht6 : t' ≤ 100 := by have := ht'.out; omega
                  by_cases hjK : j < K
                  · have hj1 : (j : Int) < (K : Int) := by omega
                    have hj0 : (0 : Int) ≤ (j : Int) := by omega
                    have hlx := Off.mk HPR.out.len
                    obtain ⟨cj0, cj1⟩ := HPR.out.cells hjK
                    by_cases hto : t' < bs.length
                    · have hto1 : (t' : Int) < (bs.length : Int) := by omega
                      have hto0 : (0 : Int) ≤ (t' : Int) := by omega
                      obtain ⟨ad, rfl, hcb⟩ := (HBy.out.below HB.out).cell t' hto
                      have hb2 := HB256.out t'
                      obtain ⟨β, hβ⟩ : ∃ β, β = bs.getD t' 0 := ⟨_, rfl⟩
                      rw [← hβ] at hcb hb2
                      obtain ⟨s, hs⟩ : ∃ s, s = β % (K - j) := ⟨_, rfl⟩
                      have hsK : s < K - j := by rw [hs]; exact Nat.mod_lt _ (by omega)
                      have hs1 : (β : Int) % ((K : Int) - j) = (s : Int) := by
                        rw [hs, show (K : Int) - j = ((K - j : Nat) : Int) by omega]; simp
                      have hs2 : (β : Int).tmod ((K : Int) - j) = (s : Int) := by rw [Int.tmod_eq_emod_of_nonneg (by omega)]; exact hs1
                      have hx1 : (0 : Int) < (K : Int) - j := by omega
                      have hX : IntKind.i64.wrap (β : Int) = (β : Int) := by rw [IntKind.wrap_i64]; omega
                      obtain ⟨p, hp⟩ : ∃ p, p = j + s := ⟨_, rfl⟩
                      have hpK : p < K := by omega
                      have hp1 : (j : Int) + (s : Int) = (p : Int) := by omega
                      obtain ⟨cp0, cp1⟩ := HPR.out.cells hpK
                      have fj0 := HPR.out.frozen (j * 2)
                      have fj1 := HPR.out.frozen (j * 2 + 1)
                      have fp0 := HPR.out.frozen (p * 2)
                      have fp1 := HPR.out.frozen (p * 2 + 1)
                      have hrz := HPR.out.lt
                      have hne : wz.heap.size ≠ r := by omega
                      have hsw := Off.mk (swap_perm xs j p (by rw [hlx.out]; exact hjK) (by rw [hlx.out]; exact hpK))
                      obtain ⟨X, hX0⟩ : ∃ X, X = xs.getD j (0, 0) := ⟨_, rfl⟩
                      obtain ⟨Y, hY0⟩ : ∃ Y, Y = xs.getD p (0, 0) := ⟨_, rfl⟩
                      rw [← hX0] at cj0 cj1 hsw
                      rw [← hY0] at cp0 cp1 hsw
                      have hXY : p = j → X = Y := fun e => by rw [hX0, hY0, e]
                      have HSW := Off.mk (swap_world HPR.out hjK hpK HO.out HAp.out HB.out hr X Y (.cells #[.int .i64 (X.1 : Int), .int .i64 (X.2 : Int)] 43))
                      have HPM := Off.mk (hsw.out.trans HPm.out)
                      clear hX0 hY0 hsw
                      have hp0 : (0 : Int) ≤ (p : Int) := by omega
                      have hpK1 : (p : Int) < (K : Int) := by omega
                      clear hβ hs hp
                      by_cases hpj : p = j
                      · subst hpj
                        obtain rfl := hXY rfl
                        clear hXY
                        go_wp2
                        go_roundw
                        case rel => exact ⟨t' + 1, p + 1, (xs.set p X).set p X, by omega, ⟨by have := ht'.out; omega⟩, by go_num, by go_num, ⟨HSW.out.1⟩, HPM, ⟨HSW.out.2.1⟩, ⟨HSW.out.2.2⟩⟩
                        case measure => simp only [intOf]; omega
                      · have z1 : ¬ j = p := fun e => hpj e.symm
                        have z2 : ¬ j * 2 + 1 = p * 2 := by omega
                        have z3 : ¬ j * 2 = p * 2 + 1 := by omega
                        have z4 : ¬ p * 2 + 1 = j * 2 := by omega
                        have z5 : ¬ p * 2 = j * 2 + 1 := by omega
                        clear hXY
                        go_wp2
                        go_roundw
                        case rel => exact ⟨t' + 1, j + 1, (xs.set j Y).set p X, by omega, ⟨by have := ht'.out; omega⟩, by go_num, by go_num, ⟨HSW.out.1⟩, HPM, ⟨HSW.out.2.1⟩, ⟨HSW.out.2.2⟩⟩
                        case measure => simp only [intOf]; omega
                    · have hto1 : ¬ (t' : Int) < (bs.length : Int) := by omega
                      have fj0 := HPR.out.frozen (j * 2)
                      have fj1 := HPR.out.frozen (j * 2 + 1)
                      have hrz := HPR.out.lt
                      have hne : wz.heap.size ≠ r := by omega
                      have hsw := Off.mk (swap_perm xs j j (by rw [hlx.out]; exact hjK) (by rw [hlx.out]; exact hjK))
                      obtain ⟨X, hX0⟩ : ∃ X, X = xs.getD j (0, 0) := ⟨_, rfl⟩
                      rw [← hX0] at cj0 cj1 hsw
                      have HSW := Off.mk (swap_world HPR.out hjK hjK HO.out HAp.out HB.out hr X X (.cells #[.int .i64 (X.1 : Int), .int .i64 (X.2 : Int)] 43))
                      have HPM := Off.mk (hsw.out.trans HPm.out)
                      clear hX0 hsw hto
                      go_wp2
                      go_roundw
                      case rel => exact ⟨t' + 1, j + 1, (xs.set j X).set j X, by omega, ⟨by have := ht'.out; omega⟩, by go_num, by go_num, ⟨HSW.out.1⟩, HPM, ⟨HSW.out.2.1⟩, ⟨HSW.out.2.2⟩⟩
                      case measure => simp only [intOf]; omega
                  · have hjk : j = K := by omega
                    subst hjk
                    have ht2 : t' ≤ 6 * (k + 1) := by have := ht'.out; omega
                    have hzx : (zs ++ xs).length ≤ 6 * (k + 1) := by rw [List.length_append, HPR.out.len]; omega
                    have HT2 : Off (turnL l (zs ++ xs) = turnL l (canonTo i m (k + 1))) := ⟨by rw [turnL_append, HT.out, HC1.out, turnL_append, turn_perm (by rw [← HYs.out]; exact HPm.out)]⟩
                    have HM2 : Off (∀ x ∈ zs ++ xs, x.1 < i ∧ x.2 < m) := ⟨fun x hx => by
                      rcases List.mem_append.1 hx with h | h
                      · exact HM.out x h
                      · have := HPm.out.mem_iff.1 h
                        rw [HYs.out] at this
                        have := diagTo_mem m d i x this
                        exact ⟨this.1, this.2.1⟩⟩
                    have hz3 : zs.length + j ≤ 1000 := by omega
                    have hjn : ¬ (j : Int) < (j : Int) := by omega
                    obtain ⟨q0, hq, hq0, hq1, hq2⟩ := info_parts info43
                    go_wp2_with (at_builtin; refine wpList_append_own _ rfl _ _ 41 rfl w.heap.size 43 q0 _ 2 16 Try.underlying41 hq hq0 hq1 hq2 rfl (by decide) _ _ _ rfl HO.out.out ⟨r, 0, none⟩ j c2 (pairCells xs) rfl ?cl ?c1 ?c2 ?c3 ?c4 ?c5 ?_)
                    case cl => rw [pairCells_len, HPR.out.len]
                    case c1 => intro q u hu; have := HPR.out.own.cells rfl q u hu; rwa [Addr.add_lit, Nat.zero_add] at this
                    case c2 => exact pairCells_one xs
                    case c3 => unfold maxLen; omega
                    case c4 => omega
                    case c5 => exact HB.out.size
                    intro v7 w7 hO7 hg7 _
                    have HB7 := Off.mk (HB.out.grown hg7 HB.out.size (fun k e => ownP_base HO.out e))
                    have HO7 : Off (OwnP w7 w.heap.size v7 (zs ++ xs)) := ⟨⟨by rw [List.length_append, HPR.out.len]; simpa [pairCells] using hO7⟩⟩
                    clear hO7 hg7 hq hq0 hq1 hq2
                    go_wp2
                    go_roundw
                    case rel => exact ⟨k + 1, t', zs ++ xs, by omega, ht2, rfl, by rw [HD2.out], hzx, HO7, HT2, HM2, HB7⟩
                    case measure => simp only [intOf]; omega
          · have hkk : k = n + m - 1 := by omega
            have e1 : (n : Int) + m - 2 - k = -1 := by omega
            have HT' : Off (turnL l zs = R) := ⟨by rw [HT.out, hkk]; exact HCan.out⟩
            have hz200 : zs.length ≤ 200 := by omega
            obtain ⟨Az, cz, rfl, hPz, hcz⟩ := ownP_pairs HO.out
            have HPz := Off.mk hPz
            rw [e1]
            clear hPz hkl HO HT HBy HB256
            go_wp2_with fail
            refine (HDay.out _ HB.out).mono ?_
            rintro e w2 ⟨A2, d2, rfl, hI2, _, _, h2⟩
            have b2 := Off.mk (belowC HB.out h2)
            have HI2 := Off.mk hI2
            have H2 := Off.mk h2
            clear hI2 h2
            go_wp2_with fail
            refine (HTurns.out zs Az cz _ b2.out (HPz.out.below H2.out) hz200 HM.out HT'.out).mono ?_
            rintro e w3 ⟨A3, d3, rfl, hI3, _, _, h3⟩
            have b3 := Off.mk (belowC b2.out h3)
            have HI3 := Off.mk hI3
            have HI23 := Off.mk (HI2.out.below h3)
            clear hI3 h3
            go_wp2_with fail
            refine (same_self R _ _ _ _ _ HI23.out HI3.out).mono ?_
            rintro e w4 ⟨rfl, h4⟩
            have b4 := Off.mk (belowC b3.out h4)
            have HI24 := Off.mk (HI23.out.below h4)
            clear h4
            go_wp2_with fail
            refine (HIs.out _ _ _ HI24.out).mono ?_
            rintro e w5 ⟨rfl, h5⟩
            have b5 := Off.mk (belowC b4.out h5)
            clear h5
            go_wp2_with (go_at_call 17; refine (alive_any _).mono ?_; rintro e w6 ⟨rfl, h6⟩)
            go_ret
            exact ⟨rfl, belowC b5.out h6⟩
end Go.Proofs.Ytnhbkopgbibcgaa
