/- Contracts: ruled, rules. -/
import Derived.Test.YtdbleghnblohgaaVh
namespace Go.Proofs.Ytdbleghnblohgaa
open Go.RowKit Go.Shelf

theorem IntsAt.take {w : World} {A : Option Addr} {l : List Int} (h : IntsAt w A l) (i : Nat) : IntsAt w A (l.take i) :=
  ⟨by have := h.len; have := List.length_take_le i l; have : (l.take i).length ≤ l.length := by simp; omega
      omega, fun j hj => by
    have hj' : j < i ∧ j < l.length := by simp at hj; omega
    obtain ⟨ad, e, hc⟩ := h.cell j hj'.2
    refine ⟨ad, e, ?_⟩
    rw [hc]
    simp [List.getD_eq_getElem?_getD, hj'.1]⟩
theorem take_getD (l : List Int) (i j : Nat) (h : j < i) : (l.take i).getD j 0 = l.getD j 0 := by
  simp [List.getD_eq_getElem?_getD, h]
/-- The test of one set of a rule against those ahead of it. -/
theorem clash_call (l : List Int) (A : Option Addr) (i c B : Nat) (x : Int) (_w W : World) (hi : i ≤ l.length) (hl : IntsAt W A l) (hx : 0 ≤ x) (hx' : x < 256)
    (hr : ∀ j, j < i → 0 ≤ l.getD j 0 ∧ l.getD j 0 < 256) (hc : W.cell? ⟨B, 0, none⟩ = some (.int .i64 x)) :
    Calls Try.prog 73 #[.slice A i c, .func (.func 74) #[] #[.pointer (some ⟨B, 0, none⟩)]] W fun e w' => e = .returned (.bool (clashB (l.take i) x)) ∧ w' = W := by
  refine (contains_any (fun a b => a = b) 74 #[.pointer (some ⟨B, 0, none⟩)] A (l.take i) (fun y => subB y x || subB x y) i c W (enters_of Try.func74 (by kernel_rfl) rfl) (by simp; omega)
    ⟨rfl, fun _ _ h1 h2 => h1.trans h2, fun W' h => by cases h; exact hl.take i, fun W' j h hj => by
      cases h
      have hj' : j < i := by simp at hj; omega
      rw [take_getD l i j hj']
      have := hr j hj'
      refine (ruled1 (l.getD j 0) x B W this.1 this.2 hx hx' hc).mono ?_
      rintro e w' ⟨he, hw⟩
      exact ⟨he, hw.symm⟩⟩).mono ?_
  rintro e w' ⟨he, hw⟩
  exact ⟨he, hw.symm⟩

set_option maxHeartbeats 2000000 in
theorem ruled_any (n : Int) (l : List Int) (A : Option Addr) (c : Nat) (w : World) (hl : IntsAt w A l) (hlc : l.length ≤ c) :
    Calls Try.prog 54 #[.int .i64 n, .slice A l.length c] w fun e w' => e = .returned (.bool (isRule n l)) ∧ Below w.heap.size w w' := by
  have hlen := hl.len
  by_cases h1 : n < 1
  · have hF : Off (isRule n l = false) := ⟨by simp [isRule]; omega⟩
    go_enter Try.func54, Try.ntmps54
    go_wp2
    go_ret
    exact ⟨by rw [hF.out]; rfl, Below.refl _ _⟩
  by_cases h5 : 5 < n
  · have hF : Off (isRule n l = false) := ⟨by simp [isRule]; omega⟩
    go_enter Try.func54, Try.ntmps54
    go_wp2
    go_ret
    exact ⟨by rw [hF.out]; rfl, Below.refl _ _⟩
  by_cases h0 : l.length = 0
  · have hF : Off (isRule n l = false) := ⟨by simp [isRule, h0]⟩
    have h0' : ((l.length : Int) == 0) = true := beq_iff_eq.2 (by omega)
    clear h0
    go_enter Try.func54, Try.ntmps54
    go_wp2
    go_ret
    exact ⟨by rw [hF.out]; rfl, Below.refl _ _⟩
  have h0' : ((l.length : Int) == 0) = false := beq_eq_false_iff_ne.2 (by omega)
  obtain ⟨m, rfl⟩ := Int.eq_ofNat_of_zero_le (show 0 ≤ n by omega)
  have hF : Off (isRule (m : Int) l = okTo m l l.length) := ⟨by
    rw [isRule, decide_eq_true (by omega), Bool.true_and, Int.toNat_natCast]⟩
  have hpow := pow_le m (by omega)
  have hp32 : (2 : Int) ^ m ≤ 256 := hpow.2
  clear h0
  go_enter Try.func54, Try.ntmps54
  go_wp2
  go_loopw [20] (fun i wr => ∃ k : Nat, k ≤ l.length ∧ i = .int .i64 k ∧ Below w.heap.size w wr ∧ Off (okTo m l k = true))
    (fun i _ => l.length - (intOf i).toNat)
  case atStart => exact ⟨0, by omega, rfl, Below.refl _ _, ⟨rfl⟩⟩
  case round =>
    obtain ⟨k, hk, rfl, hb, hok⟩ := hrel
    by_cases hlt : k < l.length
    · have HI := hl.below hb
      obtain ⟨ad, rfl, hc⟩ := HI.cell k hlt
      obtain ⟨x, hx⟩ : ∃ x, x = l.getD k 0 := ⟨_, rfl⟩
      have hS : Off (okTo m l (k + 1) = (okTo m l k && (decide (1 ≤ x ∧ x < 2 ^ m) && ((decide (k = 0) || decide (l.getD (k - 1) 0 < x)) && !clashB (l.take k) x)))) := ⟨by rw [hx]; rfl⟩
      rw [hok.out, Bool.true_and] at hS
      rw [← hx] at hc
      have HRng : Off (∀ j, j < k → 0 ≤ l.getD j 0 ∧ l.getD j 0 < 256) := ⟨fun j hj => by have := okTo_range m l k hok.out j hj; omega⟩
      have hall : ∀ b, okTo m l (k + 1) = b → b = false → isRule (m : Int) l = false := fun b e hbf => by rw [hF.out]; exact okTo_stop m l (k + 1) l.length hlt (e.trans hbf)
      have HAll := Off.mk hall
      have HBA : Off (∀ o, Below w.heap.size w (wr.alloc o)) := ⟨fun o => hb.alloc hb.size o⟩
      clear hx hall
      by_cases hx1 : x < 1
      · have hR : Off (isRule (m : Int) l = false) := ⟨HAll.out _ rfl (by rw [hS.out, decide_eq_false (by omega)]; rfl)⟩
        go_wp2
        go_quiet (fail)
        go_wp2
        go_ret
        exact ⟨by rw [hR.out]; rfl, below_drewN' (HBA.out _) _⟩
      by_cases hx2 : 2 ^ m ≤ x
      · have hR : Off (isRule (m : Int) l = false) := ⟨HAll.out _ rfl (by rw [hS.out, decide_eq_false (by omega)]; rfl)⟩
        have hxd : decide (x < 1) = false := by simp; omega
        go_wp2
        go_quiet (fail)
        go_wp2
        go_ret
        exact ⟨by rw [hR.out]; rfl, below_drewN' (HBA.out _) _⟩
      have hxd : decide (x < 1) = false := by simp; omega
      have hxd2 : decide (2 ^ m ≤ x) = false := by simp; omega
      have hS' : Off (okTo m l (k + 1) = ((decide (k = 0) || decide (l.getD (k - 1) 0 < x)) && !clashB (l.take k) x)) := ⟨by rw [hS.out, decide_eq_true (by omega), Bool.true_and]⟩
      clear hS
      have hkc : (k : Int) ≤ (c : Int) := by omega
      have hk0 : (0 : Int) ≤ (k : Int) := by omega
      by_cases hk1 : 0 < k
      · have HIk := HI.cell (k - 1) (by omega)
        obtain ⟨ad', e, hcp⟩ := HIk
        cases e
        obtain ⟨y, hy⟩ : ∃ y, y = l.getD (k - 1) 0 := ⟨_, rfl⟩
        rw [← hy] at hcp hS'
        clear hy
        have hcpA : ∀ o, (wr.alloc o).cell? (ad.add (k - 1)) = some (.int .i64 y) := fun o => cellB ((Below.refl _ _).alloc (Nat.le_refl _) o) hcp
        have hkd : decide ((k : Int) > 0) = true := by simp; omega
        have hkd' : (0 : Int) < (k : Int) := by omega
        have hw1 : IntKind.i64.wrap ((k : Int) - 1) = (k : Int) - 1 := by rw [IntKind.wrap_i64]; omega
        have hw2 : ((k : Int) - 1).toNat = k - 1 := by omega
        have hw3 : (0 : Int) ≤ (k : Int) - 1 := by omega
        have hw4 : (k : Int) - 1 < (l.length : Int) := by omega
        by_cases hyx : x ≤ y
        · have hR : Off (isRule (m : Int) l = false) := ⟨HAll.out _ rfl (by rw [hS'.out, decide_eq_false (by omega), decide_eq_false (by omega)]; rfl)⟩
          go_wp2
          go_quiet (fail)
          go_wp2
          go_ret
          exact ⟨by rw [hR.out]; rfl, below_drewN' (HBA.out _) _⟩
        · have hyd : decide (x ≤ y) = false := by simp; omega
          have hS2 : Off (okTo m l (k + 1) = !clashB (l.take k) x) := ⟨by rw [hS'.out, decide_eq_true (show y < x by omega), Bool.or_true, Bool.true_and]⟩
          clear hS'
          cases hcl : clashB (l.take k) x
          · rw [hcl] at hS2
            go_wp2
            go_quiet ((go_at_call 73; exact Calls.quiet_of_same (hcl ▸ clash_call l (some ad) k c wr.heap.size x w _ (by omega) (hl.below (below_drewN' (HBA.out _) _)) (by omega) (by omega) HRng.out (by go_simp))))
            go_wp2
            go_roundw
            case rel => exact ⟨k + 1, by omega, by go_num, below_drewN' (HBA.out _) _, ⟨by rw [hS2.out]; rfl⟩⟩
            case measure => simp only [intOf]; omega
          · rw [hcl] at hS2
            have hR : Off (isRule (m : Int) l = false) := ⟨HAll.out _ rfl (by rw [hS2.out]; rfl)⟩
            go_wp2
            go_quiet ((go_at_call 73; exact Calls.quiet_of_same (hcl ▸ clash_call l (some ad) k c wr.heap.size x w _ (by omega) (hl.below (below_drewN' (HBA.out _) _)) (by omega) (by omega) HRng.out (by go_simp))))
            go_wp2
            go_ret
            exact ⟨by rw [hR.out]; rfl, below_drewN' (HBA.out _) _⟩
      · obtain rfl : k = 0 := by omega
        have hR0 : Off (okTo m l (0 + 1) = true) := ⟨by rw [hS'.out]; rfl⟩
        have hcl : clashB (l.take 0) x = false := rfl
        rw [Addr.add_zero'] at hc
        go_wp2
        go_quiet ((go_at_call 73; exact Calls.quiet_of_same (hcl ▸ clash_call l (some ad) 0 c wr.heap.size x w _ (by omega) (hl.below (below_drewN' (HBA.out _) _)) (by omega) (by omega) HRng.out (by go_simp))))
        go_wp2
        go_roundw
        case rel => exact ⟨0 + 1, by omega, by go_num, below_drewN' (HBA.out _) _, hR0⟩
        case measure => simp only [intOf]; omega
    · obtain rfl : k = l.length := by omega
      have hR : Off (isRule (m : Int) l = true) := ⟨by rw [hF.out]; exact hok.out⟩
      go_wp2
      go_ret
      exact ⟨by rw [hR.out]; rfl, hb⟩
end Go.Proofs.Ytdbleghnblohgaa
