/- Contracts: the laws' gcd, choose. The law GrazeSieve: its walk. -/
import Derived.Test.YtnhbkopgbibcgaaSc
import Derived.Test.YtnhbkopgbibcgaaHo
import Derived.Test.YtnhbkopgbibcgaaHj
import Derived.Laws.Strings
namespace Go.Proofs.Ytnhbkopgbibcgaa
open Go.RowKit Go.Shelf

set_option maxHeartbeats 1000000 in
theorem gcd_any (a : Nat) (b : Int) (ha : a ≤ 12) (hb : b.natAbs ≤ 12) (w : World) : Calls Try.prog 18 #[.int .i64 (a : Int), .int .i64 b] w fun e w' => e = .returned (.int .i64 (Nat.gcd a b.natAbs : Nat)) ∧ w' = w := by
  go_enter Try.func18, Try.ntmps18
  go_wp2
  go_loop [0, 1] (fun av bv => ∃ x y : Int, av = .int .i64 x ∧ bv = .int .i64 y ∧ x.natAbs ≤ 12 ∧ y.natAbs ≤ 12 ∧ Off (Nat.gcd x.natAbs y.natAbs = Nat.gcd a b.natAbs)) (fun _ bv => (intOf bv).natAbs)
  case atStart => exact ⟨a, b, rfl, rfl, by omega, hb, ⟨by simp⟩⟩
  case round =>
    obtain ⟨x, y, rfl, rfl, hx, hy, hG⟩ := hrel
    by_cases h0 : y = 0
    · subst h0
      have hg : x.natAbs = Nat.gcd a b.natAbs := by have := hG.out; simpa using this
      have HG : Off ((Nat.gcd a b.natAbs : Int) = max x (-x)) := ⟨by rw [← hg]; omega⟩
      have hx2 : -12 ≤ x ∧ x ≤ 12 := by omega
      clear hg hG
      by_cases hs : x < -x
      · go_wp2
        go_ret
        exact ⟨ret_int (HG.out.trans (by omega)).symm, rfl⟩
      · go_wp2
        go_ret
        exact ⟨ret_int (HG.out.trans (by omega)).symm, rfl⟩
    · have g1 : (y != 0) = true := by rw [bne_iff_ne]; exact h0
      have hm : (x.tmod y).natAbs = x.natAbs % y.natAbs := Int.natAbs_tmod x y
      have hlt : x.natAbs % y.natAbs < y.natAbs := Nat.mod_lt _ (by omega)
      have HN : Off (Nat.gcd y.natAbs (x.tmod y).natAbs = Nat.gcd a b.natAbs) := ⟨by rw [hm, ← hG.out]; exact ((Nat.gcd_comm _ _).trans (Nat.gcd_rec _ _).symm).trans (Nat.gcd_comm _ _)⟩
      have HL : Off ((x.tmod y).natAbs < y.natAbs) := ⟨by rw [hm]; exact hlt⟩
      have hb2 : (x.tmod y).natAbs ≤ 12 := by have := HL.out; omega
      clear hm hlt
      go_wp2
      go_round
      case rel => exact ⟨y, _, rfl, rfl, hy, hb2, HN⟩
      case measure => simp only [intOf]; exact HL.out

set_option maxHeartbeats 1000000 in
theorem lchoose_any (n k : Nat) (hn : n ≤ 12) (hk : k ≤ n) (w : World) : Calls Try.prog 19 #[.int .i64 (n : Int), .int .i64 (k : Int)] w fun e w' => e = .returned (.int .i64 (chTo n k : Nat)) ∧ w' = w := by
  have HC : Off (∀ i, i < 13 → chTo n i ≤ 1000) := ⟨fun i hi => chTo_small n (by omega) i hi⟩
  go_enter Try.func19, Try.ntmps19
  go_wp2
  go_loop [5, 6] (fun o iv => ∃ i : Nat, i ≤ k ∧ iv = .int .i64 ((i : Int) + 1) ∧ o = .int .i64 (chTo n i : Nat)) (fun _ iv => k + 1 - (intOf iv).toNat)
  case atStart => exact ⟨0, by omega, rfl, rfl⟩
  case round =>
    obtain ⟨i, hi, rfl, rfl⟩ := hrel
    by_cases hik : i < k
    · have h1 := HC.out i (by omega)
      have HS : Off (chTo n (i + 1) = chTo n i * (n - i) / (i + 1)) := ⟨rfl⟩
      obtain ⟨o, ho⟩ : ∃ o, o = chTo n i := ⟨_, rfl⟩
      rw [← ho] at h1 HS ⊢
      have hm : o * (n - i) ≤ 1000 * 12 := Nat.mul_le_mul h1 (by omega)
      have HM : Off ((o : Int) * ((n : Int) - ((i : Int) + 1) + 1) = ((o * (n - i) : Nat) : Int)) := ⟨by rw [Int.natCast_mul, Int.natCast_sub (by omega)]; congr 1; omega⟩
      have hp1 : (o : Int) * ((n : Int) - ((i : Int) + 1) + 1) ≤ 12000 := by rw [HM.out]; omega
      have hp0 : 0 ≤ (o : Int) * ((n : Int) - ((i : Int) + 1) + 1) := by rw [HM.out]; omega
      clear ho hm
      go_wp2
      go_round
      case rel => exact ⟨i + 1, by omega, by go_num, by rw [HS.out, HM.out]; congr 1⟩
      case measure => simp [intOf]; omega
    · obtain rfl : i = k := by omega
      go_wp2
      go_ret
      exact ⟨rfl, rfl⟩

theorem str_beq (x y : ByteArray) (v : Bool) (h : decide (x = y) = v) : (x.toList == y.toList) = v := by
  rw [ByteArray.toList_eq, ByteArray.toList_eq, ← h]
  by_cases e : x = y
  · subst e; simp
  · rw [decide_eq_false e, beq_eq_false_iff_ne]
    exact fun e2 => e (ByteArray.ext (Array.toList_inj.1 e2))
theorem rot_str (tx : ByteArray) (q : Nat) : decide (tx.extract q tx.size ++ tx.extract 0 q = tx) = rotB q tx.data.toList := by
  unfold rotB
  have e : (tx.extract q tx.size ++ tx.extract 0 q).data.toList = tx.data.toList.drop q ++ tx.data.toList.take q := by
    rw [ByteArray.data_append, ByteArray.data_extract, ByteArray.data_extract]
    simp
    rw [List.take_of_length_le (by rw [List.length_drop]; simp)]
  by_cases h : tx.data.toList.drop q ++ tx.data.toList.take q = tx.data.toList
  · rw [decide_eq_true h]
    refine decide_eq_true (ByteArray.ext (Array.toList_inj.1 ?_))
    rw [e, h]
  · rw [decide_eq_false h]
    refine decide_eq_false fun e2 => h ?_
    rw [← e, e2]

theorem stF_state2 : ∀ (d most : Nat) (now l : List Int), l ∈ stF d most now → ∃ t, l = now ++ t ∧ t.length = d ∧ (∀ j, j < t.length → 0 ≤ t.getD j 0 ∧ t.getD j 0 ≤ most) ∧ (∀ j, 0 < j → j < t.length → t.getD j 0 ≤ t.getD (j - 1) 0)
  | 0, most, now, l, h => by
    simp [stF] at h
    exact ⟨[], by simp [h], rfl, fun j hj => by simp at hj, fun j _ hj => by simp at hj⟩
  | d + 1, most, now, l, h => by
    rw [stF, List.mem_flatMap] at h
    obtain ⟨x, hx, h⟩ := h
    rw [List.mem_range] at hx
    obtain ⟨t, e, hl, h1, h2⟩ := stF_state2 d x (now ++ [(x : Int)]) l h
    refine ⟨(x : Int) :: t, by rw [e]; simp, by simp [hl], fun j hj => ?_, fun j h0 hj => ?_⟩
    · cases j with
      | zero => simp only [List.getD_cons_zero]; omega
      | succ j =>
        have := h1 j (by simpa using hj)
        simp only [List.getD_cons_succ]; omega
    · cases j with
      | zero => omega
      | succ j =>
        cases j with
        | zero =>
          have := h1 0 (by simpa using hj)
          simp only [List.getD_cons_succ, Nat.zero_add, Nat.sub_self, List.getD_cons_zero]
          exact this.2
        | succ j =>
          have := h2 (j + 1) (by omega) (by simpa using hj)
          simpa only [List.getD_cons_succ, Nat.add_sub_cancel] using this
theorem mem_state2 {n b : Nat} {l : List Int} (h : l ∈ stF n b []) : stateB n b l = true := by
  obtain ⟨t, e, hl, h1, h2⟩ := stF_state2 n b [] l h
  rw [List.nil_append] at e
  subst e
  exact decide_eq_true ⟨by omega, fun j hj => ⟨h1 j hj, fun h0 => h2 j h0 hj⟩⟩
theorem wordP_len {n m : Nat} {l : List Int} (h : stateB n m l = true) : (wordP m l).length = n + m := by
  have h1 := textAt_len h l.length (Nat.le_refl _)
  have h2 := have_range h (by omega) l.length (Nat.le_refl _)
  have h3 := (of_decide_eq_true h).1
  unfold wordP
  rw [List.length_append, List.length_replicate]
  omega

set_option maxHeartbeats 8000000 in
set_option maxRecDepth 100000 in
theorem sieve_walk (x y d : Int) (w : World) (hx : 0 ≤ x ∧ x < 256) (hy : 0 ≤ y ∧ y < 256) : Calls Try.prog 4 #[.int .u8 x, .int .u8 y, .int .i64 d] w fun e w' => e = .returned (.bool true) ∧ Below w.heap.size w w' := by
  obtain ⟨n, hn⟩ : ∃ n : Nat, (n : Int) = 1 + x % 6 := ⟨(1 + x % 6).toNat, by omega⟩
  obtain ⟨m, hm⟩ : ∃ n : Nat, (n : Int) = 1 + y % 6 := ⟨(1 + y % 6).toNat, by omega⟩
  obtain ⟨hn1, hn6, hm1, hm6⟩ : 1 ≤ n ∧ n ≤ 6 ∧ 1 ≤ m ∧ m ≤ 6 := by omega
  have hf : fieldB n m = true := decide_eq_true ⟨⟨by omega, by omega⟩, by omega, by omega⟩
  have HS : Off (∀ W, Calls Try.prog 15 #[.int .i64 (n : Int), .int .i64 (m : Int), .int .i64 d] W fun e w' => e = .returned (.tuple #[.int .i64 (sameP n m (d % ((n : Int) + m)).toNat : Nat), .int .i64 0]) ∧ Below W.heap.size W w') := ⟨fun W => (Same_any n m d W).mono fun e w' h => by
    obtain ⟨he, hb⟩ := h
    rw [hf, if_pos rfl, if_pos rfl] at he
    exact ⟨he, hb⟩⟩
  have hgw := gcd_within d (n + m) (by omega) (by omega)
  have hcast : ((n + m : Nat) : Int) = (n : Int) + m := by omega
  rw [hcast] at hgw
  obtain ⟨q, hq⟩ : ∃ q, q = (d % ((n : Int) + m)).toNat := ⟨_, rfl⟩
  have hq2 : q < n + m := by
    have h0 := Int.emod_nonneg d (show (n : Int) + m ≠ 0 by omega)
    have h1 := Int.emod_lt_of_pos d (show 0 < (n : Int) + m by omega)
    omega
  rw [← hq] at HS hgw
  obtain ⟨t, ht⟩ : ∃ t, t = d.tmod ((n : Int) + m) := ⟨_, rfl⟩
  have htr := tmod_range d ((n : Int) + m) (by omega)
  have htq : (t < 0 → t + ((n : Int) + m) = q) ∧ (¬ t < 0 → t = q) := by
    have h0 := Int.emod_nonneg d (show (n : Int) + m ≠ 0 by omega)
    have hw := within_eq d ((n : Int) + m) (by omega)
    rw [← ht] at hw htr
    constructor
    · intro h
      rw [Int.emod_eq_of_lt (by omega) (by omega)] at hw
      omega
    · intro h
      rw [Int.add_emod_right, Int.emod_eq_of_lt (by omega) (by omega)] at hw
      omega
  rw [← ht] at htr hgw
  obtain ⟨g, hg⟩ : ∃ g, g = Nat.gcd (n + m) q := ⟨_, rfl⟩
  have HG : Off (∀ W, Calls Try.prog 18 #[.int .i64 ((n : Int) + m), .int .i64 t] W fun e w' => e = .returned (.int .i64 (g : Int)) ∧ w' = W) := ⟨fun W => by
    have := gcd_any (n + m) t (by omega) (by omega) W
    rw [hgw, ← hg, hcast] at this
    exact this⟩
  have hgd : g ∣ n + m := by rw [hg]; exact Nat.gcd_dvd_left _ _
  have hgp : 0 < g := by
    rcases Nat.eq_zero_or_pos g with h | h
    · subst h; have := Nat.eq_zero_of_zero_dvd hgd; omega
    · exact h
  have hg12 : g ≤ n + m := Nat.le_of_dvd (by omega) hgd
  have hsp : sameP n m q = if n * g % (n + m) = 0 then chTo g (n * g / (n + m)) else 0 := by unfold sameP; rw [← hg]
  have HSt := Off.mk (fun W => states_any n m hn1 hn6 hm1 hm6 n m [] none 0 W (by simp) hm6 (.inl ⟨rfl, rfl, rfl, rfl⟩))
  have HRot : Off (n + m ≤ 8 → rotTo m q (stF n m []) (stF n m []).length = sameP n m q) := ⟨fun h => rot_eq hn1 hn6 hm1 hm6 h hq2⟩
  have hng : n * g ≤ 6 * 12 := Nat.mul_le_mul hn6 (by omega)
  have HM : Off ((n : Int) * (g : Int) = ((n * g : Nat) : Int)) := ⟨by rw [Int.natCast_mul]⟩
  have hp1 : (n : Int) * (g : Int) ≤ 72 := by rw [HM.out]; omega
  have hp0 : 0 ≤ (n : Int) * (g : Int) := by rw [HM.out]; omega
  have HD : Off (((n : Int) * (g : Int)) % ((n : Int) + m) = ((n * g % (n + m) : Nat) : Int)) := ⟨by rw [HM.out]; simp⟩
  have HV : Off (((n : Int) * (g : Int)) / ((n : Int) + m) = ((n * g / (n + m) : Nat) : Int)) := ⟨by rw [HM.out]; simp⟩
  have HWn : Off (1 + x % 6 = (n : Int)) := ⟨hn.symm⟩
  have HWm : Off (1 + y % 6 = (m : Int)) := ⟨hm.symm⟩
  have HSp := Off.mk hsp
  have HTq := Off.mk htq
  have HT := Off.mk ht.symm
  obtain ⟨hx1, hx2⟩ := hx
  obtain ⟨hy1, hy2⟩ := hy
  clear hn hm hf hgw hq ht htq hg hgd hsp hcast
  go_enter Try.func4, Try.ntmps4
  go_wp2_with fail
  rw [HWn.out, HWm.out]
  refine (HS.out _).mono ?_
  rintro e w1 ⟨rfl, b1⟩
  obtain ⟨S, hS⟩ : ∃ S, S = sameP n m q := ⟨_, rfl⟩
  rw [← hS] at HSp HRot ⊢
  clear hS HS
  obtain ⟨tr1, tr2⟩ := htr
  have s0 : ¬ ((n : Int) + m = 0) := by omega
  go_wp2_with fail
  rw [HT.out]
  refine (HG.out _).mono ?_
  rintro e w2 ⟨rfl, hw⟩
  subst w2
  have B := Off.mk b1
  clear HG b1
  by_cases hz : n * g % (n + m) = 0
  · have hk : n * g / (n + m) ≤ g := by
      refine Nat.div_le_of_le_mul ?_
      exact Nat.mul_le_mul_right _ (by omega)
    have e1 : (((n : Int) * (g : Int)) % ((n : Int) + m) == 0) = true := by rw [HD.out, hz]; rfl
    have CC : Off (∀ W, Calls Try.prog 19 #[.int .i64 (g : Int), .int .i64 ((n * g / (n + m) : Nat) : Int)] W fun e w' => e = .returned (.int .i64 (S : Nat)) ∧ w' = W) := ⟨fun W => by
      have := lchoose_any g (n * g / (n + m)) (by omega) hk W
      have h2 := HSp.out
      rw [if_pos hz] at h2
      rw [h2]
      exact this⟩
    have hk0 : 0 ≤ ((n : Int) * (g : Int)) / ((n : Int) + m) := by rw [HV.out]; exact Int.natCast_nonneg _
    have hk1 : ((n : Int) * (g : Int)) / ((n : Int) + m) ≤ 12 := by rw [HV.out]; exact Int.ofNat_le.2 (Nat.le_trans hk (show g ≤ 12 by omega))
    have gS1 : (((S : Nat) : Int) != ((S : Nat) : Int)) = false := by rw [bne_eq_false_iff_eq]
    clear hk hz
    go_wp2_with fail
    rw [HV.out]
    refine (CC.out _).mono ?_
    rintro e w3 ⟨rfl, hw⟩
    subst w3
    clear CC hk0 hk1 e1
    by_cases h8 : 8 < n + m
    · have h8' : (8 : Int) < (n : Int) + m := by omega
      go_wp2_with (go_at_call 17; refine (alive_any _).mono ?_; rintro e w12 ⟨rfl, hb12⟩)
      go_ret
      exact ⟨rfl, belowC B.out hb12⟩
    · have h8' : ¬ (8 : Int) < (n : Int) + m := by omega
      have t1 : -((n : Int) + m) < d.tmod ((n : Int) + m) := by rw [HT.out]; omega
      have t2 : d.tmod ((n : Int) + m) < (n : Int) + m := by rw [HT.out]; omega
      by_cases ht0 : t < 0
      · have t3 : d.tmod ((n : Int) + m) < 0 := by rw [HT.out]; exact ht0
        have hq3 := Off.mk (HTq.out.1 ht0)
        go_wp2_with fail
        rw [HT.out, hq3.out]
        clear t1 t2 t3 ht0
        refine (HSt.out _).mono ?_
        rintro e w5 ⟨v5, rfl, hT, h5⟩
        have b5 := belowC B.out h5
        obtain ⟨vs, how, hL⟩ := hT.out
        obtain ⟨xs, hxs⟩ : ∃ xs, xs = stF n m [] := ⟨_, rfl⟩
        have HMem : Off (∀ k, k < xs.length → stateB n m (xs.getD k []) = true) := ⟨fun k hk => by
          refine mem_state2 (n := n) (b := m) ?_
          rw [← hxs, List.getD_eq_getElem?_getD, List.getElem?_eq_getElem hk]
          exact List.getElem_mem hk⟩
        rw [← hxs] at how hL HRot
        have hx2 : xs.length ≤ 117649 := by
          have h7 : 7 ^ n ≤ 7 ^ 6 := Nat.pow_le_pow_right (by omega) hn6
          have e7 : 7 ^ 6 = 117649 := rfl
          have := stF_length n m [] hm6
          rw [hxs]
          omega
        have hvl : ∃ A c, v5 = .slice A xs.length c := by
          rcases how.2 with ⟨rfl, h⟩ | ⟨g, cap, cur, rfl, _⟩
          · exact ⟨none, 0, by rw [h]⟩
          · exact ⟨_, _, rfl⟩
        obtain ⟨A1, c1, rfl⟩ := hvl
        have HC : Off (∀ W, Below w5.heap.size w5 W → ∀ j, j < xs.length → ∃ ad r c, A1 = some ad ∧ n ≤ c ∧ W.cell? (ad.add j) = some (.slice (some ⟨r, 0, none⟩) n c) ∧ (xs.getD j []).length = n ∧ Blk W r (xs.getD j [])) := ⟨fun W hW j hj => by
          rcases how.2 with ⟨e, h⟩ | ⟨g, cap, cur, e, hg, _⟩
          · omega
          · cases e
            obtain ⟨r, c, h1, h2, h3, h4⟩ := hL.row j hj
            refine ⟨_, r, c, rfl, h1, ?_, h3, h4.below hW⟩
            exact cellB hW ((how.cells (g := g) rfl) j _ h2)⟩
        have B5 := Off.mk b5
        clear hT how hL h5 b5 B hxs
        go_wp2
        go_loopw [14, 16] (fun mv iv wr => ∃ k : Nat, k ≤ xs.length ∧ iv = .int .i64 k ∧ mv = .int .i64 (rotTo m q xs k : Nat) ∧ Below w5.heap.size w5 wr) (fun _ iv _ => xs.length - (intOf iv).toNat)
        case atStart => exact ⟨0, by omega, rfl, rfl, Below.refl _ _⟩
        case round =>
          obtain ⟨k, hk, rfl, rfl, hb⟩ := hrel
          obtain ⟨wo, rfl⟩ : ∃ wo : World, wo = wr := ⟨_, rfl⟩
          have hfl := rotTo_le m q xs k
          by_cases hkl : k < xs.length
          · have hki : (k : Int) < (xs.length : Int) := by omega
            have hk0 : (0 : Int) ≤ (k : Int) := by omega
            obtain ⟨ad, r, c, rfl, hc, hcell, hxl, hB⟩ := HC.out wo hb k hkl
            have HF1 : Off (rotTo m q xs (k + 1) = rotTo m q xs k + if rotB q (wordP m (xs.getD k [])) then 1 else 0) := ⟨rfl⟩
            have hst := HMem.out k hkl
            obtain ⟨f, hf⟩ : ∃ f, f = rotTo m q xs k := ⟨_, rfl⟩
            obtain ⟨l, hlx⟩ : ∃ l, l = xs.getD k [] := ⟨_, rfl⟩
            rw [← hlx] at hxl hB HF1 hst
            rw [← hf] at HF1 hfl ⊢
            obtain ⟨tx, htx⟩ : ∃ tx : ByteArray, tx = ⟨(wordP m l).toArray⟩ := ⟨_, rfl⟩
            have htl : tx.data.toList = wordP m l := by rw [htx]
            have hts : tx.size = n + m := by rw [← word_len, htl]; exact wordP_len hst
            have hk1 : askedB n m l = true := by
              unfold askedB
              rw [hst, Bool.and_true]
              exact decide_eq_true ⟨⟨by omega, by omega⟩, by omega, by omega⟩
            have CW : Off (Calls Try.prog 21 #[.int .i64 (n : Int), .int .i64 (m : Int), .slice (some ⟨r, 0, none⟩) n c] wo fun e w' => e = .returned (.tuple #[.string tx, .int .i64 0]) ∧ Below wo.heap.size wo w') := ⟨by
              have := Word_yes n m l (some ⟨r, 0, none⟩) c wo (hB.ints (by omega)) (by omega) (fun e => by cases e) hk1
              rw [hxl, Int.toNat_natCast, ← htx] at this
              exact this⟩
            have hrs := rot_str tx q
            rw [htl] at hrs
            obtain ⟨z, hz⟩ : ∃ z, z = rotB q (wordP m l) := ⟨_, rfl⟩
            rw [← hz] at HF1 hrs
            obtain ⟨sa, hsa⟩ : ∃ sa, tx.extract q tx.size = sa := ⟨_, rfl⟩
            obtain ⟨sb, hsb⟩ : ∃ sb, tx.extract 0 q = sb := ⟨_, rfl⟩
            have g6 : ¬ (9223372036854775807 < sa.size + sb.size) := by
              rw [← hsa, ← hsb, ByteArray.size_extract, ByteArray.size_extract]
              omega
            rw [hsa, hsb] at hrs
            have hcmp := str_beq _ _ _ hrs
            have g1 : ((tx.size : Int) != (n : Int) + m) = false := by rw [bne_eq_false_iff_eq]; omega
            have g2 : (0 : Int) ≤ (q : Int) := by omega
            have g3 : (q : Int) ≤ (tx.size : Int) := by omega
            have g4 : q ≤ tx.size := by omega
            clear hf hlx hB hxl hz htx htl hst hk1 hrs hts
            go_wp2_with fail
            refine CW.out.mono ?_
            rintro e w6 ⟨rfl, h6⟩
            have b6 := hb.trans (h6.mono hb.size)
            clear h6 hb CW hcell
            cases z
            · rw [if_neg (by decide)] at HF1
              go_wp2
              first
                | go_quiet (fail)
                | fail
              go_wp2
              go_roundw
              case rel => exact ⟨k + 1, by omega, by go_num, by rw [HF1.out]; rfl, below_drewN' b6 _⟩
              case measure => simp only [intOf]; omega
            · rw [if_pos rfl] at HF1
              go_wp2
              first
                | go_quiet (fail)
                | fail
              go_wp2
              go_roundw
              case rel => exact ⟨k + 1, by omega, by go_num, by rw [HF1.out]; go_num, below_drewN' b6 _⟩
              case measure => simp only [intOf]; omega
          · obtain rfl : k = xs.length := by omega
            have hS2 := HRot.out (by omega)
            rw [hS2]
            have gS : (((S : Nat) : Int) == ((S : Nat) : Int)) = true := by rw [beq_iff_eq]
            clear hS2
            have b6 := belowC B5.out hb
            go_wp2_with (go_at_call 17; refine (alive_any _).mono ?_; rintro e w12 ⟨rfl, hb12⟩)
            go_ret
            exact ⟨rfl, belowC b6 hb12⟩
      · have t3 : ¬ d.tmod ((n : Int) + m) < 0 := by rw [HT.out]; exact ht0
        have t4 : 0 ≤ d.tmod ((n : Int) + m) := by omega
        have hq3 := Off.mk (HTq.out.2 (by omega))
        go_wp2_with fail
        rw [HT.out, hq3.out]
        clear t1 t2 t3 ht0 t4
        refine (HSt.out _).mono ?_
        rintro e w5 ⟨v5, rfl, hT, h5⟩
        have b5 := belowC B.out h5
        obtain ⟨vs, how, hL⟩ := hT.out
        obtain ⟨xs, hxs⟩ : ∃ xs, xs = stF n m [] := ⟨_, rfl⟩
        have HMem : Off (∀ k, k < xs.length → stateB n m (xs.getD k []) = true) := ⟨fun k hk => by
          refine mem_state2 (n := n) (b := m) ?_
          rw [← hxs, List.getD_eq_getElem?_getD, List.getElem?_eq_getElem hk]
          exact List.getElem_mem hk⟩
        rw [← hxs] at how hL HRot
        have hx2 : xs.length ≤ 117649 := by
          have h7 : 7 ^ n ≤ 7 ^ 6 := Nat.pow_le_pow_right (by omega) hn6
          have e7 : 7 ^ 6 = 117649 := rfl
          have := stF_length n m [] hm6
          rw [hxs]
          omega
        have hvl : ∃ A c, v5 = .slice A xs.length c := by
          rcases how.2 with ⟨rfl, h⟩ | ⟨g, cap, cur, rfl, _⟩
          · exact ⟨none, 0, by rw [h]⟩
          · exact ⟨_, _, rfl⟩
        obtain ⟨A1, c1, rfl⟩ := hvl
        have HC : Off (∀ W, Below w5.heap.size w5 W → ∀ j, j < xs.length → ∃ ad r c, A1 = some ad ∧ n ≤ c ∧ W.cell? (ad.add j) = some (.slice (some ⟨r, 0, none⟩) n c) ∧ (xs.getD j []).length = n ∧ Blk W r (xs.getD j [])) := ⟨fun W hW j hj => by
          rcases how.2 with ⟨e, h⟩ | ⟨g, cap, cur, e, hg, _⟩
          · omega
          · cases e
            obtain ⟨r, c, h1, h2, h3, h4⟩ := hL.row j hj
            refine ⟨_, r, c, rfl, h1, ?_, h3, h4.below hW⟩
            exact cellB hW ((how.cells (g := g) rfl) j _ h2)⟩
        have B5 := Off.mk b5
        clear hT how hL h5 b5 B hxs
        go_wp2
        go_loopw [14, 16] (fun mv iv wr => ∃ k : Nat, k ≤ xs.length ∧ iv = .int .i64 k ∧ mv = .int .i64 (rotTo m q xs k : Nat) ∧ Below w5.heap.size w5 wr) (fun _ iv _ => xs.length - (intOf iv).toNat)
        case atStart => exact ⟨0, by omega, rfl, rfl, Below.refl _ _⟩
        case round =>
          obtain ⟨k, hk, rfl, rfl, hb⟩ := hrel
          obtain ⟨wo, rfl⟩ : ∃ wo : World, wo = wr := ⟨_, rfl⟩
          have hfl := rotTo_le m q xs k
          by_cases hkl : k < xs.length
          · have hki : (k : Int) < (xs.length : Int) := by omega
            have hk0 : (0 : Int) ≤ (k : Int) := by omega
            obtain ⟨ad, r, c, rfl, hc, hcell, hxl, hB⟩ := HC.out wo hb k hkl
            have HF1 : Off (rotTo m q xs (k + 1) = rotTo m q xs k + if rotB q (wordP m (xs.getD k [])) then 1 else 0) := ⟨rfl⟩
            have hst := HMem.out k hkl
            obtain ⟨f, hf⟩ : ∃ f, f = rotTo m q xs k := ⟨_, rfl⟩
            obtain ⟨l, hlx⟩ : ∃ l, l = xs.getD k [] := ⟨_, rfl⟩
            rw [← hlx] at hxl hB HF1 hst
            rw [← hf] at HF1 hfl ⊢
            obtain ⟨tx, htx⟩ : ∃ tx : ByteArray, tx = ⟨(wordP m l).toArray⟩ := ⟨_, rfl⟩
            have htl : tx.data.toList = wordP m l := by rw [htx]
            have hts : tx.size = n + m := by rw [← word_len, htl]; exact wordP_len hst
            have hk1 : askedB n m l = true := by
              unfold askedB
              rw [hst, Bool.and_true]
              exact decide_eq_true ⟨⟨by omega, by omega⟩, by omega, by omega⟩
            have CW : Off (Calls Try.prog 21 #[.int .i64 (n : Int), .int .i64 (m : Int), .slice (some ⟨r, 0, none⟩) n c] wo fun e w' => e = .returned (.tuple #[.string tx, .int .i64 0]) ∧ Below wo.heap.size wo w') := ⟨by
              have := Word_yes n m l (some ⟨r, 0, none⟩) c wo (hB.ints (by omega)) (by omega) (fun e => by cases e) hk1
              rw [hxl, Int.toNat_natCast, ← htx] at this
              exact this⟩
            have hrs := rot_str tx q
            rw [htl] at hrs
            obtain ⟨z, hz⟩ : ∃ z, z = rotB q (wordP m l) := ⟨_, rfl⟩
            rw [← hz] at HF1 hrs
            obtain ⟨sa, hsa⟩ : ∃ sa, tx.extract q tx.size = sa := ⟨_, rfl⟩
            obtain ⟨sb, hsb⟩ : ∃ sb, tx.extract 0 q = sb := ⟨_, rfl⟩
            have g6 : ¬ (9223372036854775807 < sa.size + sb.size) := by
              rw [← hsa, ← hsb, ByteArray.size_extract, ByteArray.size_extract]
              omega
            rw [hsa, hsb] at hrs
            have hcmp := str_beq _ _ _ hrs
            have g1 : ((tx.size : Int) != (n : Int) + m) = false := by rw [bne_eq_false_iff_eq]; omega
            have g2 : (0 : Int) ≤ (q : Int) := by omega
            have g3 : (q : Int) ≤ (tx.size : Int) := by omega
            have g4 : q ≤ tx.size := by omega
            clear hf hlx hB hxl hz htx htl hst hk1 hrs hts
            go_wp2_with fail
            refine CW.out.mono ?_
            rintro e w6 ⟨rfl, h6⟩
            have b6 := hb.trans (h6.mono hb.size)
            clear h6 hb CW hcell
            cases z
            · rw [if_neg (by decide)] at HF1
              go_wp2
              first
                | go_quiet (fail)
                | fail
              go_wp2
              go_roundw
              case rel => exact ⟨k + 1, by omega, by go_num, by rw [HF1.out]; rfl, below_drewN' b6 _⟩
              case measure => simp only [intOf]; omega
            · rw [if_pos rfl] at HF1
              go_wp2
              first
                | go_quiet (fail)
                | fail
              go_wp2
              go_roundw
              case rel => exact ⟨k + 1, by omega, by go_num, by rw [HF1.out]; go_num, below_drewN' b6 _⟩
              case measure => simp only [intOf]; omega
          · obtain rfl : k = xs.length := by omega
            have hS2 := HRot.out (by omega)
            rw [hS2]
            have gS : (((S : Nat) : Int) == ((S : Nat) : Int)) = true := by rw [beq_iff_eq]
            clear hS2
            have b6 := belowC B5.out hb
            go_wp2_with (go_at_call 17; refine (alive_any _).mono ?_; rintro e w12 ⟨rfl, hb12⟩)
            go_ret
            exact ⟨rfl, belowC b6 hb12⟩
  · have e1 : (((n : Int) * (g : Int)) % ((n : Int) + m) == 0) = false := by rw [HD.out, beq_eq_false_iff_ne]; omega
    have hS0 := HSp.out
    rw [if_neg hz] at hS0
    subst hS0
    clear hz
    have gS1 : (((0 : Nat) : Int) != 0) = false := rfl
    by_cases h8 : 8 < n + m
    · have h8' : (8 : Int) < (n : Int) + m := by omega
      go_wp2_with (go_at_call 17; refine (alive_any _).mono ?_; rintro e w12 ⟨rfl, hb12⟩)
      go_ret
      exact ⟨rfl, belowC B.out hb12⟩
    · have h8' : ¬ (8 : Int) < (n : Int) + m := by omega
      have t1 : -((n : Int) + m) < d.tmod ((n : Int) + m) := by rw [HT.out]; omega
      have t2 : d.tmod ((n : Int) + m) < (n : Int) + m := by rw [HT.out]; omega
      by_cases ht0 : t < 0
      · have t3 : d.tmod ((n : Int) + m) < 0 := by rw [HT.out]; exact ht0
        have hq3 := Off.mk (HTq.out.1 ht0)
        go_wp2_with fail
        rw [HT.out, hq3.out]
        clear t1 t2 t3 ht0
        refine (HSt.out _).mono ?_
        rintro e w5 ⟨v5, rfl, hT, h5⟩
        have b5 := belowC B.out h5
        obtain ⟨vs, how, hL⟩ := hT.out
        obtain ⟨xs, hxs⟩ : ∃ xs, xs = stF n m [] := ⟨_, rfl⟩
        have HMem : Off (∀ k, k < xs.length → stateB n m (xs.getD k []) = true) := ⟨fun k hk => by
          refine mem_state2 (n := n) (b := m) ?_
          rw [← hxs, List.getD_eq_getElem?_getD, List.getElem?_eq_getElem hk]
          exact List.getElem_mem hk⟩
        rw [← hxs] at how hL HRot
        have hx2 : xs.length ≤ 117649 := by
          have h7 : 7 ^ n ≤ 7 ^ 6 := Nat.pow_le_pow_right (by omega) hn6
          have e7 : 7 ^ 6 = 117649 := rfl
          have := stF_length n m [] hm6
          rw [hxs]
          omega
        have hvl : ∃ A c, v5 = .slice A xs.length c := by
          rcases how.2 with ⟨rfl, h⟩ | ⟨g, cap, cur, rfl, _⟩
          · exact ⟨none, 0, by rw [h]⟩
          · exact ⟨_, _, rfl⟩
        obtain ⟨A1, c1, rfl⟩ := hvl
        have HC : Off (∀ W, Below w5.heap.size w5 W → ∀ j, j < xs.length → ∃ ad r c, A1 = some ad ∧ n ≤ c ∧ W.cell? (ad.add j) = some (.slice (some ⟨r, 0, none⟩) n c) ∧ (xs.getD j []).length = n ∧ Blk W r (xs.getD j [])) := ⟨fun W hW j hj => by
          rcases how.2 with ⟨e, h⟩ | ⟨g, cap, cur, e, hg, _⟩
          · omega
          · cases e
            obtain ⟨r, c, h1, h2, h3, h4⟩ := hL.row j hj
            refine ⟨_, r, c, rfl, h1, ?_, h3, h4.below hW⟩
            exact cellB hW ((how.cells (g := g) rfl) j _ h2)⟩
        have B5 := Off.mk b5
        clear hT how hL h5 b5 B hxs
        go_wp2
        go_loopw [14, 16] (fun mv iv wr => ∃ k : Nat, k ≤ xs.length ∧ iv = .int .i64 k ∧ mv = .int .i64 (rotTo m q xs k : Nat) ∧ Below w5.heap.size w5 wr) (fun _ iv _ => xs.length - (intOf iv).toNat)
        case atStart => exact ⟨0, by omega, rfl, rfl, Below.refl _ _⟩
        case round =>
          obtain ⟨k, hk, rfl, rfl, hb⟩ := hrel
          obtain ⟨wo, rfl⟩ : ∃ wo : World, wo = wr := ⟨_, rfl⟩
          have hfl := rotTo_le m q xs k
          by_cases hkl : k < xs.length
          · have hki : (k : Int) < (xs.length : Int) := by omega
            have hk0 : (0 : Int) ≤ (k : Int) := by omega
            obtain ⟨ad, r, c, rfl, hc, hcell, hxl, hB⟩ := HC.out wo hb k hkl
            have HF1 : Off (rotTo m q xs (k + 1) = rotTo m q xs k + if rotB q (wordP m (xs.getD k [])) then 1 else 0) := ⟨rfl⟩
            have hst := HMem.out k hkl
            obtain ⟨f, hf⟩ : ∃ f, f = rotTo m q xs k := ⟨_, rfl⟩
            obtain ⟨l, hlx⟩ : ∃ l, l = xs.getD k [] := ⟨_, rfl⟩
            rw [← hlx] at hxl hB HF1 hst
            rw [← hf] at HF1 hfl ⊢
            obtain ⟨tx, htx⟩ : ∃ tx : ByteArray, tx = ⟨(wordP m l).toArray⟩ := ⟨_, rfl⟩
            have htl : tx.data.toList = wordP m l := by rw [htx]
            have hts : tx.size = n + m := by rw [← word_len, htl]; exact wordP_len hst
            have hk1 : askedB n m l = true := by
              unfold askedB
              rw [hst, Bool.and_true]
              exact decide_eq_true ⟨⟨by omega, by omega⟩, by omega, by omega⟩
            have CW : Off (Calls Try.prog 21 #[.int .i64 (n : Int), .int .i64 (m : Int), .slice (some ⟨r, 0, none⟩) n c] wo fun e w' => e = .returned (.tuple #[.string tx, .int .i64 0]) ∧ Below wo.heap.size wo w') := ⟨by
              have := Word_yes n m l (some ⟨r, 0, none⟩) c wo (hB.ints (by omega)) (by omega) (fun e => by cases e) hk1
              rw [hxl, Int.toNat_natCast, ← htx] at this
              exact this⟩
            have hrs := rot_str tx q
            rw [htl] at hrs
            obtain ⟨z, hz⟩ : ∃ z, z = rotB q (wordP m l) := ⟨_, rfl⟩
            rw [← hz] at HF1 hrs
            obtain ⟨sa, hsa⟩ : ∃ sa, tx.extract q tx.size = sa := ⟨_, rfl⟩
            obtain ⟨sb, hsb⟩ : ∃ sb, tx.extract 0 q = sb := ⟨_, rfl⟩
            have g6 : ¬ (9223372036854775807 < sa.size + sb.size) := by
              rw [← hsa, ← hsb, ByteArray.size_extract, ByteArray.size_extract]
              omega
            rw [hsa, hsb] at hrs
            have hcmp := str_beq _ _ _ hrs
            have g1 : ((tx.size : Int) != (n : Int) + m) = false := by rw [bne_eq_false_iff_eq]; omega
            have g2 : (0 : Int) ≤ (q : Int) := by omega
            have g3 : (q : Int) ≤ (tx.size : Int) := by omega
            have g4 : q ≤ tx.size := by omega
            clear hf hlx hB hxl hz htx htl hst hk1 hrs hts
            go_wp2_with fail
            refine CW.out.mono ?_
            rintro e w6 ⟨rfl, h6⟩
            have b6 := hb.trans (h6.mono hb.size)
            clear h6 hb CW hcell
            cases z
            · rw [if_neg (by decide)] at HF1
              go_wp2
              first
                | go_quiet (fail)
                | fail
              go_wp2
              go_roundw
              case rel => exact ⟨k + 1, by omega, by go_num, by rw [HF1.out]; rfl, below_drewN' b6 _⟩
              case measure => simp only [intOf]; omega
            · rw [if_pos rfl] at HF1
              go_wp2
              first
                | go_quiet (fail)
                | fail
              go_wp2
              go_roundw
              case rel => exact ⟨k + 1, by omega, by go_num, by rw [HF1.out]; go_num, below_drewN' b6 _⟩
              case measure => simp only [intOf]; omega
          · obtain rfl : k = xs.length := by omega
            have hS2 := HRot.out (by omega)
            rw [hS2]
            have gS : (((0 : Nat) : Int) == ((0 : Nat) : Int)) = true := by rw [beq_iff_eq]
            clear hS2
            have b6 := belowC B5.out hb
            go_wp2_with (go_at_call 17; refine (alive_any _).mono ?_; rintro e w12 ⟨rfl, hb12⟩)
            go_ret
            exact ⟨rfl, belowC b6 hb12⟩
      · have t3 : ¬ d.tmod ((n : Int) + m) < 0 := by rw [HT.out]; exact ht0
        have t4 : 0 ≤ d.tmod ((n : Int) + m) := by omega
        have hq3 := Off.mk (HTq.out.2 (by omega))
        go_wp2_with fail
        rw [HT.out, hq3.out]
        clear t1 t2 t3 ht0 t4
        refine (HSt.out _).mono ?_
        rintro e w5 ⟨v5, rfl, hT, h5⟩
        have b5 := belowC B.out h5
        obtain ⟨vs, how, hL⟩ := hT.out
        obtain ⟨xs, hxs⟩ : ∃ xs, xs = stF n m [] := ⟨_, rfl⟩
        have HMem : Off (∀ k, k < xs.length → stateB n m (xs.getD k []) = true) := ⟨fun k hk => by
          refine mem_state2 (n := n) (b := m) ?_
          rw [← hxs, List.getD_eq_getElem?_getD, List.getElem?_eq_getElem hk]
          exact List.getElem_mem hk⟩
        rw [← hxs] at how hL HRot
        have hx2 : xs.length ≤ 117649 := by
          have h7 : 7 ^ n ≤ 7 ^ 6 := Nat.pow_le_pow_right (by omega) hn6
          have e7 : 7 ^ 6 = 117649 := rfl
          have := stF_length n m [] hm6
          rw [hxs]
          omega
        have hvl : ∃ A c, v5 = .slice A xs.length c := by
          rcases how.2 with ⟨rfl, h⟩ | ⟨g, cap, cur, rfl, _⟩
          · exact ⟨none, 0, by rw [h]⟩
          · exact ⟨_, _, rfl⟩
        obtain ⟨A1, c1, rfl⟩ := hvl
        have HC : Off (∀ W, Below w5.heap.size w5 W → ∀ j, j < xs.length → ∃ ad r c, A1 = some ad ∧ n ≤ c ∧ W.cell? (ad.add j) = some (.slice (some ⟨r, 0, none⟩) n c) ∧ (xs.getD j []).length = n ∧ Blk W r (xs.getD j [])) := ⟨fun W hW j hj => by
          rcases how.2 with ⟨e, h⟩ | ⟨g, cap, cur, e, hg, _⟩
          · omega
          · cases e
            obtain ⟨r, c, h1, h2, h3, h4⟩ := hL.row j hj
            refine ⟨_, r, c, rfl, h1, ?_, h3, h4.below hW⟩
            exact cellB hW ((how.cells (g := g) rfl) j _ h2)⟩
        have B5 := Off.mk b5
        clear hT how hL h5 b5 B hxs
        go_wp2
        go_loopw [14, 16] (fun mv iv wr => ∃ k : Nat, k ≤ xs.length ∧ iv = .int .i64 k ∧ mv = .int .i64 (rotTo m q xs k : Nat) ∧ Below w5.heap.size w5 wr) (fun _ iv _ => xs.length - (intOf iv).toNat)
        case atStart => exact ⟨0, by omega, rfl, rfl, Below.refl _ _⟩
        case round =>
          obtain ⟨k, hk, rfl, rfl, hb⟩ := hrel
          obtain ⟨wo, rfl⟩ : ∃ wo : World, wo = wr := ⟨_, rfl⟩
          have hfl := rotTo_le m q xs k
          by_cases hkl : k < xs.length
          · have hki : (k : Int) < (xs.length : Int) := by omega
            have hk0 : (0 : Int) ≤ (k : Int) := by omega
            obtain ⟨ad, r, c, rfl, hc, hcell, hxl, hB⟩ := HC.out wo hb k hkl
            have HF1 : Off (rotTo m q xs (k + 1) = rotTo m q xs k + if rotB q (wordP m (xs.getD k [])) then 1 else 0) := ⟨rfl⟩
            have hst := HMem.out k hkl
            obtain ⟨f, hf⟩ : ∃ f, f = rotTo m q xs k := ⟨_, rfl⟩
            obtain ⟨l, hlx⟩ : ∃ l, l = xs.getD k [] := ⟨_, rfl⟩
            rw [← hlx] at hxl hB HF1 hst
            rw [← hf] at HF1 hfl ⊢
            obtain ⟨tx, htx⟩ : ∃ tx : ByteArray, tx = ⟨(wordP m l).toArray⟩ := ⟨_, rfl⟩
            have htl : tx.data.toList = wordP m l := by rw [htx]
            have hts : tx.size = n + m := by rw [← word_len, htl]; exact wordP_len hst
            have hk1 : askedB n m l = true := by
              unfold askedB
              rw [hst, Bool.and_true]
              exact decide_eq_true ⟨⟨by omega, by omega⟩, by omega, by omega⟩
            have CW : Off (Calls Try.prog 21 #[.int .i64 (n : Int), .int .i64 (m : Int), .slice (some ⟨r, 0, none⟩) n c] wo fun e w' => e = .returned (.tuple #[.string tx, .int .i64 0]) ∧ Below wo.heap.size wo w') := ⟨by
              have := Word_yes n m l (some ⟨r, 0, none⟩) c wo (hB.ints (by omega)) (by omega) (fun e => by cases e) hk1
              rw [hxl, Int.toNat_natCast, ← htx] at this
              exact this⟩
            have hrs := rot_str tx q
            rw [htl] at hrs
            obtain ⟨z, hz⟩ : ∃ z, z = rotB q (wordP m l) := ⟨_, rfl⟩
            rw [← hz] at HF1 hrs
            obtain ⟨sa, hsa⟩ : ∃ sa, tx.extract q tx.size = sa := ⟨_, rfl⟩
            obtain ⟨sb, hsb⟩ : ∃ sb, tx.extract 0 q = sb := ⟨_, rfl⟩
            have g6 : ¬ (9223372036854775807 < sa.size + sb.size) := by
              rw [← hsa, ← hsb, ByteArray.size_extract, ByteArray.size_extract]
              omega
            rw [hsa, hsb] at hrs
            have hcmp := str_beq _ _ _ hrs
            have g1 : ((tx.size : Int) != (n : Int) + m) = false := by rw [bne_eq_false_iff_eq]; omega
            have g2 : (0 : Int) ≤ (q : Int) := by omega
            have g3 : (q : Int) ≤ (tx.size : Int) := by omega
            have g4 : q ≤ tx.size := by omega
            clear hf hlx hB hxl hz htx htl hst hk1 hrs hts
            go_wp2_with fail
            refine CW.out.mono ?_
            rintro e w6 ⟨rfl, h6⟩
            have b6 := hb.trans (h6.mono hb.size)
            clear h6 hb CW hcell
            cases z
            · rw [if_neg (by decide)] at HF1
              go_wp2
              first
                | go_quiet (fail)
                | fail
              go_wp2
              go_roundw
              case rel => exact ⟨k + 1, by omega, by go_num, by rw [HF1.out]; rfl, below_drewN' b6 _⟩
              case measure => simp only [intOf]; omega
            · rw [if_pos rfl] at HF1
              go_wp2
              first
                | go_quiet (fail)
                | fail
              go_wp2
              go_roundw
              case rel => exact ⟨k + 1, by omega, by go_num, by rw [HF1.out]; go_num, below_drewN' b6 _⟩
              case measure => simp only [intOf]; omega
          · obtain rfl : k = xs.length := by omega
            have hS2 := HRot.out (by omega)
            rw [hS2]
            have gS : (((0 : Nat) : Int) == ((0 : Nat) : Int)) = true := by rw [beq_iff_eq]
            clear hS2
            have b6 := belowC B5.out hb
            go_wp2_with (go_at_call 17; refine (alive_any _).mono ?_; rintro e w12 ⟨rfl, hb12⟩)
            go_ret
            exact ⟨rfl, belowC b6 hb12⟩
end Go.Proofs.Ytnhbkopgbibcgaa
