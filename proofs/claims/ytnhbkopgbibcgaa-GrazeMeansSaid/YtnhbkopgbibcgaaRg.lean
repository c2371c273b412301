/- The law GrazeMeans: its walk. -/
import Derived.Test.YtnhbkopgbibcgaaRe
namespace Go.Proofs.Ytnhbkopgbibcgaa
open Go.RowKit Go.Shelf

def sumTo (l : List Int) : Nat → Int
  | 0 => 0
  | j + 1 => sumTo l j + l.getD j 0
theorem sumTo_cons (x : Int) (l : List Int) (j : Nat) : sumTo (x :: l) (j + 1) = x + sumTo l j := by
  induction j with
  | zero => simp [sumTo]
  | succ j ih => rw [sumTo, ih, sumTo, List.getD_cons_succ]; omega
theorem sumTo_all : ∀ l : List Int, sumTo l l.length = sumL l
  | [] => rfl
  | x :: l => by rw [List.length_cons, sumTo_cons, sumTo_all l]; rfl
theorem sumTo_bound {l : List Int} (h : ∀ j, j < l.length → 0 ≤ l.getD j 0 ∧ l.getD j 0 ≤ 6) (k : Nat) (hk : k ≤ l.length) : 0 ≤ sumTo l k ∧ sumTo l k ≤ 6 * k := by
  induction k with
  | zero => simp [sumTo]
  | succ k ih =>
    have h1 := h k (by omega)
    have h2 := ih (by omega)
    rw [sumTo]
    omega
theorem sumF_bound {f : Nat → Int} (h : ∀ i, 0 ≤ f i ∧ f i ≤ 36) (k : Nat) : 0 ≤ sumF f k ∧ sumF f k ≤ 36 * k := by
  induction k with
  | zero => simp [sumF]
  | succ k ih =>
    have h1 := h k
    rw [sumF]
    omega

set_option maxHeartbeats 8000000 in
set_option maxRecDepth 100000 in
theorem means_walk (a b : Int) (l : List Int) (A : Option Addr) (c : Nat) (w : World) (hI : l.length ≤ 140737488351232 → IntsAt w A l) (hlc : l.length ≤ c) (hA : A = none → c = 0) :
    Calls Try.prog 10 #[.int .i64 a, .int .i64 b, .slice A l.length c] w fun e w' => e = .returned (.bool true) ∧ Below w.heap.size w w' := by
  by_cases h20 : 20 < l.length
  · clear hI hA hlc
    go_enter Try.func10, Try.ntmps10
    go_wp2_with (go_at_call 17; refine (alive_any _).mono ?_; rintro e w2 ⟨rfl, hb2⟩)
    go_ret
    exact ⟨rfl, hb2⟩
  · have hl := hI (by omega)
    cases hk : askedB a b l
    · have CG := Off.mk (good_any a b l A c false hk w hl)
      clear hk hI hA hlc
      go_enter Try.func10, Try.ntmps10
      go_wp2_with (first
        | (go_at_call 29; refine CG.out.mono ?_; rintro e w1 ⟨rfl, hb1⟩)
        | (go_at_call 17; refine (alive_any _).mono ?_; rintro e w2 ⟨rfl, hb2⟩))
      go_ret
      exact ⟨rfl, belowC hb1 hb2⟩
    · have CG := Off.mk (good_any a b l A c true hk w hl)
      obtain ⟨n, m, rfl, rfl, hn, hn1, hn6, hm1, hm6, hs⟩ := asked_nat hk
      obtain ⟨hper, _, _, _⟩ := days_of hn1 hn6 hm1 hm6 hs
      have hst := iter_states hn1 hn6 hm1 hm6 hs
      have hlen : ∀ k, (iterDay m l k).length = n := fun k => by rw [iterDay_length]; exact hn
      have hrng : ∀ i j, j < n → 0 ≤ (iterDay m l i).getD j 0 ∧ (iterDay m l i).getD j 0 ≤ 6 := fun i j hj => by
        have := state_range (hst i) (show j < (iterDay m l i).length by rw [hlen]; exact hj)
        omega
      have HEnds : Off (∀ (k : Nat) (A : Option Addr) (c : Nat) (W : World), IntsAt W A (iterDay m l k) → n ≤ c → (A = none → c = 0) → Calls Try.prog 37 #[.int .i64 (n : Int), .int .i64 (m : Int), .slice A n c] W fun e w' => ∃ A1 c1 v2, e = .returned (.tuple #[.slice A1 (endPlots m (iterDay m l k)).length c1, v2, .int .i64 0]) ∧ Below W.heap.size W w') := ⟨fun k A c W h1 h2 h3 => by
        have := Ends_any n m (iterDay m l k) A c W h1 (by rw [hlen]; exact h2) h3
        rw [hlen] at this
        refine this.mono ?_
        rintro e w' ⟨v1, v2, he, hO, _, hb⟩
        rw [asked_ok hn1 hn6 hm1 hm6 (hst k), if_pos rfl] at hO he
        obtain ⟨A1, c1, rfl, _⟩ := ownP_pairs hO
        exact ⟨A1, c1, v2, he, hb⟩⟩
      have HRound : Off (∀ W, Below w.heap.size w W → Calls Try.prog 36 #[.int .i64 (n : Int), .int .i64 (m : Int), .slice A n c] W fun e w' => RoundPost m l n W e w') := ⟨fun W hW => by
        have := Round_yes n m l A c W (hl.below hW) hlc hA hk hper
        rw [hn] at this
        exact this⟩
      have HM : Off (∀ k, IsPer m l k → 2 * sumF (fun i => sumL (iterDay m l i)) k = (n : Int) * m * k ∧ ((n : Int) + m) * sumF (fun i => ((endPlots m (iterDay m l i)).length : Int)) k = (n : Int) * m * k) := ⟨fun k hp => means_of hn1 hn6 hm1 hm6 hs hp⟩
      have hbE : ∀ i, 0 ≤ ((endPlots m (iterDay m l i)).length : Int) ∧ ((endPlots m (iterDay m l i)).length : Int) ≤ 36 := fun i => by
        have h1 := rowsTo_len (fun i j => endB (iterDay m l 0) i (j : Nat)) m n
        have h2 : (endPlots m (iterDay m l i)).length ≤ (iterDay m l i).length * m := rowsTo_len _ _ _
        rw [hlen] at h2
        have h3 : n * m ≤ 6 * 6 := Nat.mul_le_mul hn6 hm6
        omega
      have hbG : ∀ i, 0 ≤ sumL (iterDay m l i) ∧ sumL (iterDay m l i) ≤ 36 := fun i => by
        rw [← sumTo_all]
        have := sumTo_bound (l := iterDay m l i) (fun j hj => hrng i j (by rw [← hlen i]; exact hj)) _ (Nat.le_refl _)
        rw [hlen] at this ⊢
        omega
      have HBE := Off.mk (fun k => sumF_bound hbE k)
      have HBG := Off.mk (fun k => sumF_bound hbG k)
      have HbE := Off.mk hbE
      have HTo : Off (∀ i j, j ≤ n → 0 ≤ sumTo (iterDay m l i) j ∧ sumTo (iterDay m l i) j ≤ 6 * j) := ⟨fun i j hj => sumTo_bound (fun j hj => hrng i j (by rw [← hlen i]; exact hj)) j (by rw [hlen]; exact hj)⟩
      have HTA : Off (∀ i, sumTo (iterDay m l i) n = sumL (iterDay m l i)) := ⟨fun i => by rw [← sumTo_all, hlen]⟩
      have HRng := Off.mk hrng
      rw [hn] at hlc CG ⊢
      have h20' : ¬ (20 < n) := by omega
      have hnm : (n : Int) * m ≤ 36 ∧ 0 ≤ (n : Int) * m := by
        have h3 : n * m ≤ 6 * 6 := Nat.mul_le_mul hn6 hm6
        have h4 : ((n * m : Nat) : Int) = (n : Int) * m := by simp
        omega
      clear hs hk hI hl hper hst hlen h20 hn hbE hbG hrng
      go_enter Try.func10, Try.ntmps10
      go_wp2_with (go_at_call 29; refine CG.out.mono ?_; rintro e w1 ⟨rfl, b1⟩)
      refine (HRound.out _ b1).mono ?_
      rintro e w3 ⟨v, k, rs, cs, rfl, hP, hkn, hT, hR, h3⟩
      obtain ⟨gb, cap, rfl, _⟩ := tab_cell hT (show 0 < k from hP.pos)
      have b3 := belowC b1 h3
      have HT := Off.mk hT
      have HR := Off.mk hR
      have HP := Off.mk hP
      have HB3 := Off.mk b3
      have hk1 := hP.pos
      have hk12 : k ≤ 12 := by omega
      have k0 : ((k : Int) == 0) = false := by rw [beq_eq_false_iff_ne]; omega
      have k00 : ¬ k = 0 := by omega
      obtain ⟨base, hbase⟩ : ∃ base, base = w1.heap.size := ⟨_, rfl⟩
      rw [← hbase] at HT HR
      clear h3 b1 hT hR hP hbase b3
      have Y0 : Off (sumF (fun i => sumL (iterDay m l i)) 0 = 0 ∧ sumF (fun i => ((endPlots m (iterDay m l i)).length : Int)) 0 = 0) := ⟨rfl, rfl⟩
      go_wp2
      go_loopw [9, 10, 11] (fun gv ev iv wr => ∃ i : Nat, i ≤ k ∧ iv = .int .i64 i ∧ gv = .int .i64 (sumF (fun i => sumL (iterDay m l i)) i) ∧ ev = .int .i64 (sumF (fun i => ((endPlots m (iterDay m l i)).length : Int)) i) ∧ Off (Tab wr base (.slice (some ⟨gb, 0, none⟩) k cap) n k rs cs) ∧ Off (Rows wr base n k rs cs (iterDay m l)) ∧ Off (Below w.heap.size w wr)) (fun _ _ iv _ => k - (intOf iv).toNat)
      case atStart => exact ⟨0, by omega, rfl, by rw [Y0.out.1], by rw [Y0.out.2], HT, HR, HB3⟩
      case round =>
        clear HT HR HB3
        obtain ⟨i, hik, rfl, rfl, rfl, HT, HR, HB⟩ := hrel
        obtain ⟨wo, rfl⟩ : ∃ wo : World, wo = wr := ⟨_, rfl⟩
        have hg := HBG.out i
        have he := HBE.out i
        by_cases hlt : i < k
        · have hki : (i : Int) < (k : Int) := by omega
          have hi0 : (0 : Int) ≤ (i : Int) := by omega
          obtain ⟨gb', cap', e0, hci⟩ := tab_cell HT.out hlt
          cases e0
          have hRi := (HR.out.row i hlt).2
          have CE := Off.mk (HEnds.out i _ _ wo (hRi.ints (by omega)) (row_cap hRi) (fun e => by cases e))
          have hl := HbE.out i
          have SG : Off (sumF (fun i => sumL (iterDay m l i)) (i + 1) = sumF (fun i => sumL (iterDay m l i)) i + sumL (iterDay m l i)) := ⟨rfl⟩
          have SE : Off (sumF (fun i => ((endPlots m (iterDay m l i)).length : Int)) (i + 1) = sumF (fun i => ((endPlots m (iterDay m l i)).length : Int)) i + ((endPlots m (iterDay m l i)).length : Int)) := ⟨rfl⟩
          obtain ⟨G, hG⟩ : ∃ G, G = sumF (fun i => sumL (iterDay m l i)) i := ⟨_, rfl⟩
          obtain ⟨E, hE⟩ : ∃ E, E = sumF (fun i => ((endPlots m (iterDay m l i)).length : Int)) i := ⟨_, rfl⟩
          obtain ⟨t, ht⟩ : ∃ t, t = (endPlots m (iterDay m l i)).length := ⟨_, rfl⟩
          rw [← hG] at hg SG ⊢
          rw [← hE] at he SE ⊢
          rw [← ht] at hl SE CE
          have HTo1 := Off.mk (HTo.out i)
          have HTA1 := Off.mk (HTA.out i)
          have hts : Off (∀ j, sumTo (iterDay m l i) (j + 1) = sumTo (iterDay m l i) j + (iterDay m l i).getD j 0) := ⟨fun j => rfl⟩
          have Z0 : Off (G + sumTo (iterDay m l i) 0 = G) := ⟨Int.add_zero G⟩
          have HRngi := Off.mk (HRng.out i)
          clear hG hE ht hRi
          go_wp2_with fail
          refine CE.out.mono ?_
          rintro e w9 ⟨A9, c9, v9, rfl, h9⟩
          have B9 := Off.mk (belowC HB.out h9)
          have HT9 := Off.mk (HT.out.below h9)
          have HR9 := Off.mk (HR.out.below h9)
          clear h9 HT HR HB hci CE
          go_wp2_with fail
          obtain ⟨gb', cap', e0, hci⟩ := tab_cell HT9.out hlt
          cases e0
          have hRi := Off.mk ((HR9.out.row i hlt).2)
          go_loop [9, 15] (fun gv jv => ∃ j : Nat, j ≤ n ∧ jv = .int .i64 j ∧ gv = .int .i64 (G + sumTo (iterDay m l i) j)) (fun _ jv => n - (intOf jv).toNat)
          case atStart => exact ⟨0, by omega, rfl, by rw [Z0.out]⟩
          case round =>
            obtain ⟨j, hj, rfl, rfl⟩ := hrel
            have hto := HTo1.out j hj
            by_cases hjn : j < n
            · have hjn' : (j : Int) < (n : Int) := by omega
              have hj0 : (0 : Int) ≤ (j : Int) := by omega
              have hcr := hRi.out.cell hjn
              have hrr := HRngi.out j hjn
              have HS := Off.mk (hts.out j)
              obtain ⟨y, hy⟩ : ∃ y, y = (iterDay m l i).getD j 0 := ⟨_, rfl⟩
              obtain ⟨s, hs⟩ : ∃ s, s = sumTo (iterDay m l i) j := ⟨_, rfl⟩
              rw [← hy] at hcr hrr HS
              rw [← hs] at hto HS ⊢
              have HA : Off (G + (s + y) = G + s + y) := ⟨by omega⟩
              clear hy hs
              go_wp2
              go_round
              case rel => exact ⟨j + 1, by omega, by go_num, by rw [HS.out, HA.out]⟩
              case measure => simp only [intOf]; omega
            · obtain rfl : j = n := by omega
              rw [HTA1.out, ← SG.out]
              go_wp2
              go_roundw
              case rel => exact ⟨i + 1, by omega, by go_num, rfl, by rw [SE.out], HT9, HR9, B9⟩
              case measure => simp only [intOf]; omega
        · obtain rfl : i = k := by omega
          obtain ⟨m1, m2⟩ := HM.out i HP.out
          obtain ⟨G, hG⟩ : ∃ G, G = sumF (fun i => sumL (iterDay m l i)) i := ⟨_, rfl⟩
          obtain ⟨E, hE⟩ : ∃ E, E = sumF (fun i => ((endPlots m (iterDay m l i)).length : Int)) i := ⟨_, rfl⟩
          rw [← hG] at hg m1 ⊢
          rw [← hE] at he m2 ⊢
          have e1 : (2 * G == (n : Int) * m * i) = true := by rw [beq_iff_eq]; exact m1
          have e2 : (((n : Int) + m) * E == (n : Int) * m * i) = true := by rw [beq_iff_eq]; exact m2
          have q1 : 0 ≤ (n : Int) * m * i ∧ (n : Int) * m * i ≤ 1000 := by rw [← m1]; omega
          obtain ⟨q2, q3⟩ := q1
          have q4 : 0 ≤ ((n : Int) + m) * E ∧ ((n : Int) + m) * E ≤ 1000 := by rw [m2]; exact ⟨q2, q3⟩
          obtain ⟨q5, q6⟩ := q4
          obtain ⟨q7, q8⟩ := hnm
          clear hG hE m1 m2 HT HR
          go_wp2_with (go_at_call 17; refine (alive_any _).mono ?_; rintro e w16 ⟨rfl, hb16⟩)
          go_ret
          exact ⟨rfl, belowC HB.out hb16⟩
end Go.Proofs.Ytnhbkopgbibcgaa
