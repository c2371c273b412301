/- Contracts: the specification's IsBody, wins, Turns. -/
import Derived.Test.YtdbleghnblohgaaVp
namespace Go.Proofs.Ytdbleghnblohgaa
open Go.RowKit Go.Shelf

set_option maxHeartbeats 1000000 in
theorem rIsBody (q : Int) (l : List Int) (A : Option Addr) (c : Nat) (w : World) (hl : IntsAt w A l) (h30 : l.length ≤ 30) :
    Calls Try.prog 24 #[.agg #[.int .i64 q, .slice A l.length c]] w fun e w' => e = .returned (.bool (bodyB q l)) ∧ Below w.heap.size w w' := by
  have HB : Off (∀ o, Below w.heap.size w (w.alloc o)) := ⟨fun o => (Below.refl _ _).alloc (Nat.le_refl _) _⟩
  go_enter Try.func24, Try.ntmps24
  go_wp2
  go_loop [3, 4] (fun sm i => ∃ k : Nat, k ≤ l.length ∧ i = .int .i64 k ∧ sm = .int .i64 (allTo l k) ∧ Off (∀ j, j < k → 0 ≤ l.getD j 0 ∧ l.getD j 0 ≤ 1000) ∧ 0 ≤ allTo l k ∧ allTo l k ≤ 1000 * k) (fun _ i => l.length - (intOf i).toNat)
  case atStart => exact ⟨0, by omega, rfl, rfl, ⟨fun j hj => by omega⟩, by simp [allTo], by simp [allTo]⟩
  case round =>
    obtain ⟨k, hk, rfl, rfl, hw, hs0, hs1⟩ := hrel
    by_cases hlt : k < l.length
    · obtain ⟨ad, rfl, hc⟩ := hl.cell k hlt
      have hcA : ∀ o, (w.alloc o).cell? (ad.add k) = some (.int .i64 (l.getD k 0)) := fun o => cellB (HB.out o) hc
      have hS : Off (allTo l (k + 1) = allTo l k + l.getD k 0) := ⟨rfl⟩
      obtain ⟨x, hx⟩ : ∃ x, x = l.getD k 0 := ⟨_, rfl⟩
      rw [← hx] at hcA hS
      have HX := Off.mk hx
      obtain ⟨t, ht⟩ : ∃ t, t = allTo l k := ⟨_, rfl⟩
      rw [← ht] at hS hs0 hs1 ⊢
      clear hx ht hc
      by_cases h0 : x < 0
      · have hF : Off (bodyB q l = false) := ⟨decide_eq_false (fun h => by have := (h.2.2.1 k hlt).1; rw [← HX.out] at this; omega)⟩
        go_wp2
        go_ret
        exact ⟨by rw [hF.out]; rfl, HB.out _⟩
      by_cases h1 : 1000 < x
      · have hF : Off (bodyB q l = false) := ⟨decide_eq_false (fun h => by have := (h.2.2.1 k hlt).2; rw [← HX.out] at this; omega)⟩
        go_wp2
        go_ret
        exact ⟨by rw [hF.out]; rfl, HB.out _⟩
      go_wp2
      go_round
      case rel => exact ⟨k + 1, by omega, by go_num, by rw [hS.out], ⟨fun j hj => by
        by_cases e : j = k
        · subst e; rw [← HX.out]; omega
        · exact hw.out j (by omega)⟩, by rw [hS.out]; omega, by rw [hS.out]; omega⟩
      case measure => simp only [intOf]; omega
    · obtain rfl : k = l.length := by omega
      have hF : Off (bodyB q l = (decide (1 ≤ l.length ∧ l.length ≤ 8 ∧ 1 ≤ q ∧ q ≤ allTo l l.length))) := ⟨by
        unfold bodyB
        exact decide_eq_decide.2 ⟨fun h => ⟨h.1, h.2.1, h.2.2.2.1, h.2.2.2.2⟩, fun h => ⟨h.1, h.2.1, hw.out, h.2.2.1, h.2.2.2⟩⟩⟩
      obtain ⟨t, ht⟩ : ∃ t, t = allTo l l.length := ⟨_, rfl⟩
      rw [← ht] at hF hs0 hs1 ⊢
      clear ht
      by_cases h1 : 1 ≤ l.length
      · by_cases h8 : l.length ≤ 8
        · by_cases hq : 1 ≤ q
          · go_wp2
            go_ret
            exact ⟨by rw [hF.out]; exact ret_bool (by simp [h1, h8, hq]), HB.out _⟩
          · go_wp2
            go_ret
            exact ⟨by rw [hF.out]; exact ret_bool (by simp; omega), HB.out _⟩
        · go_wp2
          go_ret
          exact ⟨by rw [hF.out]; exact ret_bool (by simp; omega), HB.out _⟩
      · go_wp2
        go_ret
        exact ⟨by rw [hF.out]; exact ret_bool (by simp; omega), HB.out _⟩

set_option maxHeartbeats 1000000 in
theorem rwins (q s : Int) (l : List Int) (A : Option Addr) (c : Nat) (w : World) (hl : IntsAt w A l) (h8 : l.length ≤ 8) (hw : Off (∀ j, j < l.length → 0 ≤ l.getD j 0 ∧ l.getD j 0 ≤ 1000)) (h0 : 0 ≤ s) (_h1 : s < 256) :
    Calls Try.prog 46 #[.agg #[.int .i64 q, .slice A l.length c], .int .i64 s] w fun e w' => e = .returned (.bool (winB q l s)) ∧ Below w.heap.size w w' := by
  have HB : Off (∀ o, Below w.heap.size w (w.alloc o)) := ⟨fun o => (Below.refl _ _).alloc (Nat.le_refl _) _⟩
  go_enter Try.func46, Try.ntmps46
  go_wp2
  go_loopw [5, 6] (fun sm i wr => ∃ k : Nat, k ≤ l.length ∧ i = .int .i64 k ∧ sm = .int .i64 (sumTo l s k) ∧ ∃ m, wr = (w.alloc (.cells #[.int .i64 q, .slice A l.length c] 24)).drewN m) (fun _ i _ => l.length - (intOf i).toNat)
  case atStart => exact ⟨0, by omega, rfl, rfl, 0, rfl⟩
  case round =>
    obtain ⟨k, hk, rfl, rfl, m, rfl⟩ := hrel
    have hr := sumTo_range l s hw.out k hk
    by_cases hlt : k < l.length
    · obtain ⟨ad, rfl, hc⟩ := hl.cell k hlt
      have hcA : ∀ o, (w.alloc o).cell? (ad.add k) = some (.int .i64 (l.getD k 0)) := fun o => cellB (HB.out o) hc
      have hd := div_range s k h0
      have hb := bit_range s k
      have hm := mul_bit (hw.out k hlt) hb
      have hS : Off (sumTo l s (k + 1) = sumTo l s k + l.getD k 0 * (s / 2 ^ k % 2)) := ⟨rfl⟩
      obtain ⟨x, hx⟩ : ∃ x, x = l.getD k 0 := ⟨_, rfl⟩
      obtain ⟨t, ht⟩ : ∃ t, t = sumTo l s k := ⟨_, rfl⟩
      rw [← hx] at hcA hm hS
      rw [← ht] at hr hS ⊢
      have hk0 : (0 : Int) ≤ (k : Int) := by omega
      have hk1 : (k : Int) < (l.length : Int) := by omega
      have e1 : IntKind.i64.wrap (x * (s / 2 ^ k % 2)) = x * (s / 2 ^ k % 2) := by rw [IntKind.wrap_i64]; omega
      have e2 : IntKind.i64.wrap (t + x * (s / 2 ^ k % 2)) = t + x * (s / 2 ^ k % 2) := by rw [IntKind.wrap_i64]; omega
      have e3 : (s / 2 ^ k).tmod 2 = s / 2 ^ k % 2 := Int.tmod_eq_emod_of_nonneg hd.1
      clear hx ht hl hc
      go_wp2
      go_quiet (fail)
      go_wp2
      go_roundw
      case rel => exact ⟨k + 1, by omega, by go_num, by rw [hS.out], _, rfl⟩
      case measure => simp only [intOf]; omega
    · obtain rfl : k = l.length := by omega
      go_wp2
      go_ret
      exact ⟨rfl, below_drewN' (HB.out _) _⟩
end Go.Proofs.Ytdbleghnblohgaa
