/- Contract: the specification's fits. -/
import Derived.Test.YtdbleghnblohgaaWc
import Derived.Test.YtdbleghnblohgaaQg
import Derived.ArgAppend
namespace Go.Proofs.Ytdbleghnblohgaa
open Go.RowKit Go.Shelf

theorem light_upper {ls : List Int} {n : Nat} (h : LightTo ls n) (s : Int) : ∀ k, k ≤ n → sumTo ls s k ≤ 9 * k
  | 0, _ => by simp [sumTo]
  | k + 1, hk => by
    have h1 := light_upper h s k (by omega)
    have h2 := h k (by omega)
    have h3 := bit_range s k
    have h4 : ls.getD k 0 * (s / 2 ^ k % 2) ≤ 9 := by
      have : s / 2 ^ k % 2 = 0 ∨ s / 2 ^ k % 2 = 1 := by omega
      rcases this with e | e <;> rw [e] <;> omega
    simp only [sumTo]
    omega
theorem fit_bounds (p : Int → Bool) {ls : List Int} {n : Nat} (hn : ls.length = n) (h : LightTo ls n) (k : Nat) : (-1 ≤ (fitTo p ls k).1 ∧ (fitTo p ls k).1 ≤ 9 * n) ∧ -1 ≤ (fitTo p ls k).2 ∧ (fitTo p ls k).2 ≤ 9 * n := by
  induction k with
  | zero => simp only [fitTo]; omega
  | succ k ih =>
    have h1 := light_sum h k n (Nat.le_refl _)
    have h2 := light_upper h k n (Nat.le_refl _)
    simp only [fitTo, hn]
    split
    · refine ⟨ih.1, ?_⟩
      simp only
      split <;> omega
    · refine ⟨?_, ih.2⟩
      simp only
      omega

set_option maxHeartbeats 4000000 in
theorem rfits (n : Nat) (l ls : List Int) (A B : Option Addr) (c d : Nat) (w : World) (hl : IntsAt w A l) (hlc : l.length ≤ c) (hls : IntsAt w B ls) (hr : isRule n l = true) (hn : ls.length = n) (hlt : LightTo ls n) :
    Calls Try.prog 77 #[.slice A l.length c, .slice B n d] w fun e w' => e = .returned (.int .i64 (fitsI (ruleB l) n ls)) ∧ Below w.heap.size w w' := by
  obtain ⟨h1, h5, _, hz, _⟩ := rule_bounds hr
  have hsm := Off.mk (small5_of hr)
  have hp := pow_le n (by omega)
  have hp5 := pow_32 (m := n) h5
  have hnp := nat_pow n
  have HFit : Off (fitsI (ruleB l) n ls = if (fitTo (ruleB l) ls (2 ^ n)).1 < (fitTo (ruleB l) ls (2 ^ n)).2 then (fitTo (ruleB l) ls (2 ^ n)).1 + 1 else 0) := ⟨rfl⟩
  have H0 : Off (0 ≤ (fitTo (ruleB l) ls (2 ^ n)).1) := ⟨by
    have h2 := fit_lose (ruleB l) ls (2 ^ n) 0 (Nat.two_pow_pos n) hz
    have h3 := light_sum hlt ((0 : Nat) : Int) n (Nat.le_refl _)
    rw [hn] at h2
    omega⟩
  obtain ⟨p, hpd⟩ : ∃ p, p = ruleB l := ⟨_, rfl⟩
  rw [← hpd] at HFit H0 ⊢
  have HR : Off (∀ (s : Int) v, p s = v → ∀ W, Below w.heap.size w W → 0 ≤ s → s < 32 → Calls Try.prog 62 #[.slice A l.length c, .int .i64 s] W fun e w' => e = .returned (.bool v) ∧ w' = W) :=
    ⟨fun s v e W h h0 h1 => by rw [← e, hpd]; exact rruled l s A c W (hl.below h) hlc hsm h0 h1⟩
  have HL := Off.mk hlt
  have HN := Off.mk hn
  have HI := Off.mk hls
  clear hpd hz hr hl hls hn hlt
  go_enter Try.func77, Try.ntmps77
  go_wp2
  go_loopw [5, 6, 7] (fun lv mv sv wr => ∃ s : Nat, (s : Int) ≤ 2 ^ n ∧ sv = .int .i64 (s : Int) ∧ lv = .int .i64 (fitTo p ls s).2 ∧ mv = .int .i64 (max 0 (fitTo p ls s).1) ∧ Below w.heap.size w wr) (fun _ _ sv _ => (2 ^ n - intOf sv).toNat)
  case atStart => exact ⟨0, by simp only [Int.natCast_zero]; omega, rfl, rfl, rfl, Below.refl _ _⟩
  case round =>
    obtain ⟨s, hs, rfl, rfl, rfl, hb⟩ := hrel
    obtain ⟨wo, rfl⟩ : ∃ wo : World, wo = wr := ⟨_, rfl⟩
    by_cases hsl : (s : Int) < 2 ^ n
    · go_wp2
      go_loopw [8, 9] (fun xv iv wr => ∃ k : Nat, k ≤ n ∧ iv = .int .i64 (k : Int) ∧ xv = .int .i64 (sumTo ls s k) ∧ Below w.heap.size w wr) (fun _ iv _ => n - (intOf iv).toNat)
      case atStart => exact ⟨0, Nat.zero_le _, rfl, rfl, hb⟩
      case round =>
        clear hb
        obtain ⟨k, hk, rfl, rfl, hb⟩ := hrel
        obtain ⟨wq, rfl⟩ : ∃ wo : World, wo = wr := ⟨_, rfl⟩
        by_cases hkl : k < n
        · obtain ⟨bd, rfl, xc⟩ := HI.out.cell k (by rw [HN.out]; exact hkl)
          have xc := cellB hb xc
          have r0 := light_sum HL.out (s : Int) k (by omega)
          have r1 := light_upper HL.out (s : Int) k (by omega)
          have hx := HL.out k hkl
          have hd := div_range (s : Int) k (by omega)
          have hbit := bit_range (s : Int) k
          have hm := mul_bit (x := ls.getD k 0) ⟨hx.1, by omega⟩ hbit
          have hS : Off (sumTo ls s (k + 1) = sumTo ls s k + ls.getD k 0 * ((s : Int) / 2 ^ k % 2)) := ⟨rfl⟩
          generalize ls.getD k 0 = x at *
          generalize sumTo ls s k = t at *
          have hk0 : (0 : Int) ≤ (k : Int) := by omega
          have hk1 : (k : Int) < (n : Int) := by omega
          have e1 : IntKind.i64.wrap (x * ((s : Int) / 2 ^ k % 2)) = x * ((s : Int) / 2 ^ k % 2) := by rw [IntKind.wrap_i64]; omega
          have e2 : IntKind.i64.wrap (t + x * ((s : Int) / 2 ^ k % 2)) = t + x * ((s : Int) / 2 ^ k % 2) := by rw [IntKind.wrap_i64]; omega
          have e3 : ((s : Int) / 2 ^ k).tmod 2 = s / 2 ^ k % 2 := Int.tmod_eq_emod_of_nonneg hd.1
          go_wp2
          go_quiet (fail)
          go_wp2
          go_roundw
          case rel => exact ⟨k + 1, by omega, by go_num, by rw [hS.out], below_drewN' hb _⟩
          case measure => simp only [intOf]; omega
        · obtain rfl : k = n := by omega
          have fb := fit_bounds p HN.out HL.out s
          have r0 := light_sum HL.out (s : Int) k (Nat.le_refl _)
          have r1 := light_upper HL.out (s : Int) k (Nat.le_refl _)
          have HS : Off (fitTo p ls (s + 1) = if p (s : Nat) then ((fitTo p ls s).1, if (fitTo p ls s).2 < 0 ∨ sumTo ls s ls.length < (fitTo p ls s).2 then sumTo ls s ls.length else (fitTo p ls s).2) else (max (fitTo p ls s).1 (sumTo ls s ls.length), (fitTo p ls s).2)) := ⟨rfl⟩
          rw [HN.out] at HS
          generalize sumTo ls s k = t at *
          generalize (fitTo p ls s).1 = lo at *
          generalize (fitTo p ls s).2 = hi at *
          have hs32 : (s : Int) < 32 := by omega
          cases hps : p (s : Nat)
          · rw [hps] at HS
            have HA : Off ((fitTo p ls (s + 1)).1 = max lo t ∧ (fitTo p ls (s + 1)).2 = hi) := ⟨by rw [HS.out]; exact ⟨rfl, rfl⟩⟩
            have HM : Off ((if max 0 lo < t then t else max 0 lo) = max 0 (max lo t)) := ⟨by split <;> omega⟩
            go_wp2_with (go_at_call 62; refine (HR.out _ _ hps _ hb (by omega) hs32).mono ?_; rintro e w3 ⟨rfl, rfl⟩)
            go_roundw
            case rel => exact ⟨s + 1, by omega, by go_num, by rw [HA.out.2], by rw [HA.out.1, HM.out], hb⟩
            case measure => simp only [intOf]; omega
          · rw [hps] at HS
            by_cases hcond : hi < 0 ∨ t < hi
            · have HA : Off ((fitTo p ls (s + 1)).1 = lo ∧ (fitTo p ls (s + 1)).2 = t) := ⟨by rw [HS.out, if_pos rfl, if_pos hcond]; exact ⟨rfl, rfl⟩⟩
              by_cases hneg : hi < 0
              · clear hcond
                go_wp2_with (go_at_call 62; refine (HR.out _ _ hps _ hb (by omega) hs32).mono ?_; rintro e w3 ⟨rfl, rfl⟩)
                go_roundw
                case rel => exact ⟨s + 1, by omega, by go_num, by rw [HA.out.2], by rw [HA.out.1], hb⟩
                case measure => simp only [intOf]; omega
              · have hlo : t < hi := by omega
                clear hcond
                go_wp2_with (go_at_call 62; refine (HR.out _ _ hps _ hb (by omega) hs32).mono ?_; rintro e w3 ⟨rfl, rfl⟩)
                go_roundw
                case rel => exact ⟨s + 1, by omega, by go_num, by rw [HA.out.2], by rw [HA.out.1], hb⟩
                case measure => simp only [intOf]; omega
            · have HA : Off ((fitTo p ls (s + 1)).1 = lo ∧ (fitTo p ls (s + 1)).2 = hi) := ⟨by rw [HS.out, if_pos rfl, if_neg hcond]; exact ⟨rfl, rfl⟩⟩
              have hneg : ¬ hi < 0 := fun h => hcond (Or.inl h)
              have hlo : ¬ t < hi := fun h => hcond (Or.inr h)
              clear hcond
              go_wp2_with (go_at_call 62; refine (HR.out _ _ hps _ hb (by omega) hs32).mono ?_; rintro e w3 ⟨rfl, rfl⟩)
              go_roundw
              case rel => exact ⟨s + 1, by omega, by go_num, by rw [HA.out.2], by rw [HA.out.1], hb⟩
              case measure => simp only [intOf]; omega
    · have hse : s = 2 ^ n := by omega
      rw [← hse] at HFit H0
      clear hse
      have fb := fit_bounds p HN.out HL.out s
      generalize (fitTo p ls s).1 = lo at *
      generalize (fitTo p ls s).2 = hi at *
      have h0 := H0.out
      have hmax : Off (max 0 lo = lo) := ⟨by omega⟩
      rw [hmax.out]
      by_cases hlh : lo < hi
      · have HF : Off (fitsI p n ls = lo + 1) := ⟨by rw [HFit.out, if_pos hlh]⟩
        go_wp2
        go_ret
        exact ⟨by rw [HF.out]; rfl, hb⟩
      · have HF : Off (fitsI p n ls = 0) := ⟨by rw [HFit.out, if_neg hlh]⟩
        go_wp2
        go_ret
        exact ⟨by rw [HF.out]; rfl, hb⟩
end Go.Proofs.Ytdbleghnblohgaa
