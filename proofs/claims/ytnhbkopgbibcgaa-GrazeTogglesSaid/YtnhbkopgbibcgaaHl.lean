/- Contracts: choose, Same of the program. -/
import Derived.Test.YtnhbkopgbibcgaaGm
namespace Go.Proofs.Ytnhbkopgbibcgaa
open Go.RowKit Go.Shelf

/-- The number of ways to choose k of n. -/
def chTo (n : Nat) : Nat → Nat
  | 0 => 1
  | i + 1 => chTo n i * (n - i) / (i + 1)
theorem chTo_small : ∀ n, n < 13 → ∀ i, i < 13 → chTo n i ≤ 1000 := by decide
/-- The states that are the same after d days, as the program counts them. -/
def sameP (n m d : Nat) : Nat := if n * Nat.gcd (n + m) d % (n + m) = 0 then chTo (Nat.gcd (n + m) d) (n * Nat.gcd (n + m) d / (n + m)) else 0
def SamePost (a b : Int) (z : Nat → Nat → Nat) (w : World) (e : Ending) (w' : World) : Prop :=
  e = .returned (.tuple #[.int .i64 (if fieldB a b then (z a.toNat b.toNat : Nat) else 0 : Int), .int .i64 (if fieldB a b then 0 else 2)]) ∧ Below w.heap.size w w'

set_option maxHeartbeats 1000000 in
theorem choose_any (n k : Nat) (hn : n ≤ 12) (hk : k ≤ n) (w : World) : Calls Try.prog 47 #[.int .i64 (n : Int), .int .i64 (k : Int)] w fun e w' => e = .returned (.int .i64 (chTo n k : Nat)) ∧ w' = w := by
  have HC : Off (∀ i, i < 13 → chTo n i ≤ 1000) := ⟨fun i hi => chTo_small n (by omega) i hi⟩
  go_enter Try.func47, Try.ntmps47
  go_wp2
  go_loop [5, 8] (fun o iv => ∃ i : Nat, i ≤ k ∧ iv = .int .i64 i ∧ o = .int .i64 (chTo n i : Nat)) (fun _ iv => k - (intOf iv).toNat)
  case atStart => exact ⟨0, by omega, rfl, rfl⟩
  case round =>
    obtain ⟨i, hi, rfl, rfl⟩ := hrel
    by_cases hik : i < k
    · have h1 := HC.out i (by omega)
      have HS : Off (chTo n (i + 1) = chTo n i * (n - i) / (i + 1)) := ⟨rfl⟩
      obtain ⟨o, ho⟩ : ∃ o, o = chTo n i := ⟨_, rfl⟩
      rw [← ho] at h1 HS ⊢
      have hm : o * (n - i) ≤ 1000 * 12 := Nat.mul_le_mul h1 (by omega)
      have HM : Off ((o : Int) * ((n : Int) - (i : Int)) = ((o * (n - i) : Nat) : Int)) := ⟨by rw [Int.natCast_mul, Int.natCast_sub (by omega)]⟩
      have hp1 : (o : Int) * ((n : Int) - (i : Int)) ≤ 12000 := by rw [HM.out]; omega
      have hp0 : 0 ≤ (o : Int) * ((n : Int) - (i : Int)) := by rw [HM.out]; omega
      clear ho hm
      go_wp2
      go_round
      case rel => exact ⟨i + 1, by omega, by go_num, by rw [HS.out, HM.out]; congr 1⟩
      case measure => simp only [intOf]; omega
    · obtain rfl : i = k := by omega
      go_wp2
      go_ret
      exact ⟨rfl, rfl⟩

set_option maxHeartbeats 2000000 in
theorem Same_any (a b d : Int) (w : World) : Calls Try.prog 15 #[.int .i64 a, .int .i64 b, .int .i64 d] w fun e w' => SamePost a b (fun n m => sameP n m (d % (a + b)).toNat) w e w' := by
  have CF := Off.mk (field_any a b w)
  cases hf : fieldB a b
  · rw [hf] at CF
    have HF := Off.mk hf
    clear hf
    go_enter Try.func15, Try.ntmps15
    go_wp2_with fail
    refine CF.out.mono ?_
    rintro e w1 ⟨rfl, hb1⟩
    go_wp2
    go_ret2
    exact ⟨by rw [HF.out]; rfl, belowA hb1 _⟩
  · have HF := Off.mk hf
    rw [hf] at CF
    have hl := field_len hf
    obtain ⟨n, rfl⟩ : ∃ n : Nat, a = n := ⟨a.toNat, by omega⟩
    obtain ⟨m, rfl⟩ : ∃ n : Nat, b = n := ⟨b.toNat, by omega⟩
    obtain ⟨t, ht⟩ : ∃ t, t = Int.tmod d ((n : Int) + m) := ⟨_, rfl⟩
    have hr := tmod_range d ((n : Int) + m) (by omega)
    rw [← ht] at hr
    obtain ⟨hr1, hr2⟩ := hr
    obtain ⟨q, hq⟩ : ∃ q : Nat, (q : Int) = (t + ((n : Int) + m)) % ((n : Int) + m) := ⟨((t + ((n : Int) + m)) % ((n : Int) + m)).toNat, by
      have := Int.emod_nonneg (t + ((n : Int) + m)) (show ((n : Int) + m) ≠ 0 by omega)
      omega⟩
    have hq2 : q < n + m := by
      have := Int.emod_lt_of_pos (t + ((n : Int) + m)) (show 0 < ((n : Int) + m) by omega)
      omega
    have HQ : Off ((d % ((n : Int) + m)).toNat = q) := ⟨by
      have := within_eq d ((n : Int) + m) (by omega)
      rw [← ht, ← hq] at this
      omega⟩
    have HW : Off (IntKind.i64.wrap (Int.tmod d ((n : Int) + m) + ((n : Int) + m)) = t + ((n : Int) + m)) := ⟨by
      rw [← ht, IntKind.wrap_i64]; omega⟩
    have HW2 : Off ((t + ((n : Int) + m)).tmod ((n : Int) + m) = (q : Int)) := ⟨by
      rw [Int.tmod_eq_emod_of_nonneg (by omega), hq]⟩
    have HW3 : Off ((Int.tmod d ((n : Int) + m) + ((n : Int) + m)) % ((n : Int) + m) = (q : Int)) := ⟨by rw [← ht, hq]⟩
    have HT := Off.mk ht.symm
    have hs1 : ((n : Int) + m) ≠ 0 := by omega
    clear hf hq
    go_enter Try.func15, Try.ntmps15
    go_wp2_with fail
    refine CF.out.mono ?_
    rintro e w1 ⟨rfl, hb1⟩
    have hb2 := belowA hb1 (.cells #[.int .i64 (n : Int), .int .i64 (m : Int)] 62)
    obtain ⟨⟨q0, q1⟩, _, _⟩ := two_facts (block_new w1 (.cells #[.int .i64 (n : Int), .int .i64 (m : Int)] 62))
    go_wp2_with fail
    go_quiet (fail)
    rw [HW3.out]
    obtain ⟨w2, hw2⟩ : ∃ w2, w2 = w1.alloc (.cells #[.int .i64 (n : Int), .int .i64 (m : Int)] 62) := ⟨_, rfl⟩
    rw [← hw2] at q0 q1 hb2 ⊢
    clear hw2
    go_wp2
    go_loopw [11, 12] (fun gv rv wr => ∃ g r : Nat, Off (Nat.gcd g r = Nat.gcd (n + m) q) ∧ r ≤ 12 ∧ g ≤ 12 ∧ gv = .int .i64 g ∧ rv = .int .i64 r ∧ ∃ j, wr = w2.drewN j) (fun _ rv _ => (intOf rv).toNat)
    case atStart => exact ⟨n + m, q, ⟨rfl⟩, by omega, by omega, by go_num, rfl, _, rfl⟩
    case round =>
      obtain ⟨g, r, hG, hr12, hg12, rfl, rfl, j, rfl⟩ := hrel
      by_cases hr0 : r = 0
      · subst hr0
        have hg : g = Nat.gcd (n + m) q := by have := hG.out; rwa [Nat.gcd_zero_right] at this
        have hle : Nat.gcd (n + m) q ∣ n + m := Nat.gcd_dvd_left _ _
        rw [← hg] at hle
        have hgp : 0 < g := by
          rcases Nat.eq_zero_or_pos g with h | h
          · subst h; have := Nat.eq_zero_of_zero_dvd hle; omega
          · exact h
        have hng : n * g ≤ 6 * 12 := Nat.mul_le_mul (by omega) hg12
        have HM : Off ((n : Int) * (g : Int) = ((n * g : Nat) : Int)) := ⟨by rw [Int.natCast_mul]⟩
        have hp1 : (n : Int) * (g : Int) ≤ 72 := by rw [HM.out]; omega
        have hp0 : 0 ≤ (n : Int) * (g : Int) := by rw [HM.out]; omega
        have HD : Off (((n : Int) * (g : Int)) % ((n : Int) + m) = ((n * g % (n + m) : Nat) : Int)) := ⟨by rw [HM.out]; simp⟩
        have HV : Off (((n : Int) * (g : Int)) / ((n : Int) + m) = ((n * g / (n + m) : Nat) : Int)) := ⟨by rw [HM.out]; simp⟩
        by_cases hz : n * g % (n + m) = 0
        · have hk : n * g / (n + m) ≤ g := by
            refine Nat.div_le_of_le_mul ?_
            exact Nat.mul_le_mul_right _ (by omega)
          have HZ : Off (sameP n m q = chTo g (n * g / (n + m))) := ⟨by unfold sameP; rw [← hg, if_pos hz]⟩
          have g1 : (((n : Int) * (g : Int)) % ((n : Int) + m) != 0) = false := by rw [HD.out, hz]; rfl
          have CC := Off.mk (fun W => choose_any g (n * g / (n + m)) hg12 hk W)
          have hk0 : 0 ≤ ((n : Int) * (g : Int)) / ((n : Int) + m) := by rw [HV.out]; exact Int.natCast_nonneg _
          have hk1 : ((n : Int) * (g : Int)) / ((n : Int) + m) ≤ 12 := by rw [HV.out]; exact Int.ofNat_le.2 (Nat.le_trans hk hg12)
          clear hg hle hng hz hk
          go_wp2_with fail
          rw [HV.out]
          refine (CC.out _).mono ?_
          rintro e w3 ⟨rfl, hw⟩
          subst w3
          go_wp2
          go_ret2
          exact ⟨by rw [HF.out]; show _ = Ending.returned (.tuple #[.int .i64 ((sameP (n : Int).toNat (m : Int).toNat (d % ((n : Int) + m)).toNat : Nat) : Int), .int .i64 0]); rw [HQ.out, Int.toNat_natCast, Int.toNat_natCast, HZ.out]; rfl, below_drewN' hb2 _⟩
        · have HZ : Off (sameP n m q = 0) := ⟨by unfold sameP; rw [← hg, if_neg hz]⟩
          have g1 : (((n : Int) * (g : Int)) % ((n : Int) + m) != 0) = true := by rw [HD.out, bne_iff_ne]; omega
          clear hg hle hng hz
          go_wp2
          go_ret2
          exact ⟨by rw [HF.out]; show _ = Ending.returned (.tuple #[.int .i64 ((sameP (n : Int).toNat (m : Int).toNat (d % ((n : Int) + m)).toNat : Nat) : Int), .int .i64 0]); rw [HQ.out, Int.toNat_natCast, Int.toNat_natCast, HZ.out]; rfl, below_drewN' hb2 _⟩
      · have g1 : ((r : Int) != 0) = true := by rw [bne_iff_ne]; omega
        have hlt : g % r < r := Nat.mod_lt _ (by omega)
        have HS : Off (Nat.gcd r (g % r) = Nat.gcd (n + m) q) := ⟨by rw [← hG.out, Nat.gcd_comm g r, Nat.gcd_rec r g, Nat.gcd_comm]⟩
        have hr1 : (0 : Int) < (r : Int) := by omega
        have HC : Off (((g : Int) % (r : Int)) = ((g % r : Nat) : Int)) := ⟨by simp⟩
        go_wp2
        go_quiet (fail)
        rw [HC.out]
        go_wp2
        go_roundw
        case rel => exact ⟨r, g % r, HS, by omega, by omega, rfl, rfl, _, World.drewN_drewN _ _ _⟩
        case measure => simp only [intOf]; omega
end Go.Proofs.Ytnhbkopgbibcgaa
