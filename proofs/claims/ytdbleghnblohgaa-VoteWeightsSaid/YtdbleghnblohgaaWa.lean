/- Contract: the specification's IsRule. -/
import Derived.Test.YtdbleghnblohgaaVi
namespace Go.Proofs.Ytdbleghnblohgaa
open Go.RowKit Go.Shelf

theorem not_sub_all : ∀ x s : Fin 32, (bits .andNot .i64 ((x.val : Nat) : Int) ((s.val : Nat) : Int) == 0) = decide (x.val &&& s.val = x.val) := by decide +kernel
theorem not_sub (x s : Int) (hx : 0 ≤ x) (hx' : x < 32) (hs : 0 ≤ s) (hs' : s < 32) : (bits .andNot .i64 x s == 0) = subB x s := by
  obtain ⟨a, rfl⟩ := Int.eq_ofNat_of_zero_le hx
  obtain ⟨b, rfl⟩ := Int.eq_ofNat_of_zero_le hs
  have := not_sub_all ⟨a, by omega⟩ ⟨b, by omega⟩
  simp only at this
  have e : subB ((a : Nat) : Int) ((b : Nat) : Int) = decide (a &&& b = a) := by
    simp only [subB, andI, Int.toNat_natCast]
    apply decide_eq_decide.2
    constructor <;> intro h <;> omega
  exact this.trans e.symm
theorem clash_snoc (l : List Int) (j : Nat) (hj : j < l.length) (x : Int) : clashB (l.take (j + 1)) x = (clashB (l.take j) x || (subB (l.getD j 0) x || subB x (l.getD j 0))) := by
  unfold clashB
  rw [List.take_succ_eq_append_getElem hj, List.any_append, List.getD_eq_getElem?_getD, List.getElem?_eq_getElem hj]
  simp
theorem clash_more (l : List Int) (j i : Nat) (hji : j ≤ i) (x : Int) (h : clashB (l.take j) x = true) : clashB (l.take i) x = true := by
  unfold clashB at h ⊢
  rw [List.any_eq_true] at h ⊢
  obtain ⟨y, hy, hs⟩ := h
  exact ⟨y, (List.take_prefix_take_left hji).subset hy, hs⟩

set_option maxHeartbeats 2000000 in
theorem rIsRule (n : Int) (l : List Int) (A : Option Addr) (c : Nat) (w : World) (hl : IntsAt w A l) (hlc : l.length ≤ c) :
    Calls Try.prog 33 #[.int .i64 n, .slice A l.length c] w fun e w' => e = .returned (.bool (isRule n l)) ∧ Below w.heap.size w w' := by
  have hlen := hl.len
  by_cases h1 : n < 1
  · have hF : Off (isRule n l = false) := ⟨by simp [isRule]; omega⟩
    go_enter Try.func33, Try.ntmps33
    go_wp2
    go_ret
    exact ⟨by rw [hF.out]; rfl, Below.refl _ _⟩
  by_cases h5 : 5 < n
  · have hF : Off (isRule n l = false) := ⟨by simp [isRule]; omega⟩
    go_enter Try.func33, Try.ntmps33
    go_wp2
    go_ret
    exact ⟨by rw [hF.out]; rfl, Below.refl _ _⟩
  by_cases h0 : l.length = 0
  · have hF : Off (isRule n l = false) := ⟨by simp [isRule, h0]⟩
    have h0' : ((l.length : Int) == 0) = true := beq_iff_eq.2 (by omega)
    clear h0
    go_enter Try.func33, Try.ntmps33
    go_wp2
    go_ret
    exact ⟨by rw [hF.out]; rfl, Below.refl _ _⟩
  have h0' : ((l.length : Int) == 0) = false := beq_eq_false_iff_ne.2 (by omega)
  obtain ⟨m, rfl⟩ := Int.eq_ofNat_of_zero_le (show 0 ≤ n by omega)
  have hF : Off (isRule (m : Int) l = okTo m l l.length) := ⟨by
    rw [isRule, decide_eq_true (by omega), Bool.true_and, Int.toNat_natCast]⟩
  have hpow := pow_le m (by omega)
  have hp32 : (2 : Int) ^ m ≤ 32 := by
    have : (2 : Int) ^ m ≤ 2 ^ 5 := by
      have := Nat.pow_le_pow_right (n := 2) (by decide) (show m ≤ 5 by omega)
      exact_mod_cast this
    omega
  clear h0
  go_enter Try.func33, Try.ntmps33
  go_wp2
  go_loopw [5] (fun i wr => ∃ k : Nat, k ≤ l.length ∧ i = .int .i64 k ∧ Below w.heap.size w wr ∧ Off (okTo m l k = true))
    (fun i _ => l.length - (intOf i).toNat)
  case atStart => exact ⟨0, by omega, rfl, Below.refl _ _, ⟨rfl⟩⟩
  case round =>
    obtain ⟨k, hk, rfl, hb, hok⟩ := hrel
    by_cases hlt : k < l.length
    · have HI := hl.below hb
      obtain ⟨ad, rfl, hc⟩ := HI.cell k hlt
      obtain ⟨x, hx⟩ : ∃ x, x = l.getD k 0 := ⟨_, rfl⟩
      have hS : Off (okTo m l (k + 1) = (okTo m l k && (decide (1 ≤ x ∧ x < 2 ^ m) && ((decide (k = 0) || decide (l.getD (k - 1) 0 < x)) && !clashB (l.take k) x)))) := ⟨by rw [hx]; rfl⟩
      rw [hok.out, Bool.true_and] at hS
      rw [← hx] at hc
      have HRng : Off (∀ j, j < k → 0 ≤ l.getD j 0 ∧ l.getD j 0 < 32) := ⟨fun j hj => by have := okTo_range m l k hok.out j hj; omega⟩
      have hall : ∀ b, okTo m l (k + 1) = b → b = false → isRule (m : Int) l = false := fun b e hbf => by rw [hF.out]; exact okTo_stop m l (k + 1) l.length hlt (e.trans hbf)
      have HAll := Off.mk hall
      have HBA : Off (Below w.heap.size w wr) := ⟨hb⟩
      have HX := Off.mk hx
      clear hx hall
      by_cases hx1 : x < 1
      · have hR : Off (isRule (m : Int) l = false) := ⟨HAll.out _ rfl (by rw [hS.out, decide_eq_false (by omega)]; rfl)⟩
        go_wp2
        go_quiet (fail)
        go_wp2
        go_ret
        exact ⟨by rw [hR.out]; rfl, below_drewN' HBA.out _⟩
      by_cases hx2 : 2 ^ m ≤ x
      · have hR : Off (isRule (m : Int) l = false) := ⟨HAll.out _ rfl (by rw [hS.out, decide_eq_false (by omega)]; rfl)⟩
        have hxd : decide (x < 1) = false := by simp; omega
        go_wp2
        go_quiet (fail)
        go_wp2
        go_ret
        exact ⟨by rw [hR.out]; rfl, below_drewN' HBA.out _⟩
      have hxd : decide (x < 1) = false := by simp; omega
      have hxd2 : decide (2 ^ m ≤ x) = false := by simp; omega
      have hS' : Off (okTo m l (k + 1) = ((decide (k = 0) || decide (l.getD (k - 1) 0 < x)) && !clashB (l.take k) x)) := ⟨by rw [hS.out, decide_eq_true (by omega), Bool.true_and]⟩
      clear hS
      have hkc : (k : Int) ≤ (c : Int) := by omega
      have hk0 : (0 : Int) ≤ (k : Int) := by omega
      by_cases hk1 : 0 < k
      · have HIk := HI.cell (k - 1) (by omega)
        obtain ⟨ad', e, hcp⟩ := HIk
        cases e
        obtain ⟨y, hy⟩ : ∃ y, y = l.getD (k - 1) 0 := ⟨_, rfl⟩
        rw [← hy] at hcp hS'
        clear hy
        have hkd : decide ((k : Int) > 0) = true := by simp; omega
        have hkd' : (0 : Int) < (k : Int) := by omega
        have hw1 : IntKind.i64.wrap ((k : Int) - 1) = (k : Int) - 1 := by rw [IntKind.wrap_i64]; omega
        have hw2 : ((k : Int) - 1).toNat = k - 1 := by omega
        have hw3 : (0 : Int) ≤ (k : Int) - 1 := by omega
        have hw4 : (k : Int) - 1 < (l.length : Int) := by omega
        by_cases hyx : x ≤ y
        · have hR : Off (isRule (m : Int) l = false) := ⟨HAll.out _ rfl (by rw [hS'.out, decide_eq_false (by omega), decide_eq_false (by omega)]; rfl)⟩
          go_wp2
          go_quiet (fail)
          go_wp2
          go_ret
          exact ⟨by rw [hR.out]; rfl, below_drewN' HBA.out _⟩
        · have hyd : decide (x ≤ y) = false := by simp; omega
          have hS2 : Off (okTo m l (k + 1) = !clashB (l.take k) x) := ⟨by rw [hS'.out, decide_eq_true (show y < x by omega), Bool.or_true, Bool.true_and]⟩
          clear hS'
          go_wp2
          go_quiet (fail)
          go_wp2
          have HI2 := Off.mk hl
          clear HI hl hc hcp hb
          go_loopw [6] (fun jj wr => ∃ j : Nat, j ≤ k ∧ jj = .int .i64 j ∧ Below w.heap.size w wr ∧ Off (clashB (l.take j) x = false))
            (fun jj _ => k - (intOf jj).toNat)
          case atStart => exact ⟨0, by omega, rfl, below_drewN' HBA.out _, ⟨rfl⟩⟩
          case round =>
            obtain ⟨j, hj, rfl, hb2, hcl⟩ := hrel
            by_cases hjk : j < k
            · have HI3 := HI2.out.below hb2
              obtain ⟨ad2, e, hc2⟩ := HI3.cell j (by omega)
              cases e
              obtain ⟨ad3, e, hc3⟩ := HI3.cell k hlt
              cases e
              rw [← HX.out] at hc3
              obtain ⟨y, hy⟩ : ∃ y, y = l.getD j 0 := ⟨_, rfl⟩
              have hyr := HRng.out j hjk
              have hC : Off (clashB (l.take (j + 1)) x = (subB y x || subB x y)) := ⟨by rw [clash_snoc l j (by omega), hcl.out, Bool.false_or, hy]⟩
              have hCl : Off (clashB (l.take (j + 1)) x = true → isRule (m : Int) l = false) := ⟨fun h => HAll.out _ rfl (by rw [hS2.out, clash_more l (j + 1) k (by omega) x h]; rfl)⟩
              rw [← hy] at hc2 hyr
              have hn1 := not_sub y x (by omega) (by omega) (by omega) (by omega)
              have hn2 := not_sub x y (by omega) (by omega) (by omega) (by omega)
              have hj0 : (0 : Int) ≤ (j : Int) := by omega
              have hjl : (j : Int) < (l.length : Int) := by omega
              have hjc : (j : Int) ≤ (c : Int) := by omega
              clear hy HI3
              cases h1 : subB y x
              · rw [h1] at hn1
                cases h2 : subB x y
                · rw [h2] at hn2
                  rw [h1, h2] at hC
                  go_wp2
                  go_quiet (fail)
                  go_wp2
                  go_roundw
                  case rel => exact ⟨j + 1, by omega, by go_num, below_drewN' hb2 _, ⟨by rw [hC.out]; rfl⟩⟩
                  case measure => simp only [intOf]; omega
                · rw [h2] at hn2
                  have hR := Off.mk (hCl.out (by rw [hC.out, h2, Bool.or_true]))
                  go_wp2
                  go_quiet (fail)
                  go_wp2
                  go_ret
                  exact ⟨by rw [hR.out]; rfl, below_drewN' hb2 _⟩
              · rw [h1] at hn1
                have hR := Off.mk (hCl.out (by rw [hC.out, h1, Bool.true_or]))
                go_wp2
                go_quiet (fail)
                go_wp2
                go_ret
                exact ⟨by rw [hR.out]; rfl, below_drewN' hb2 _⟩
            · obtain rfl : j = k := by omega
              go_wp2
              go_roundw
              case rel => exact ⟨j + 1, by omega, by go_num, hb2, ⟨by rw [hS2.out, hcl.out]; rfl⟩⟩
              case measure => simp only [intOf]; omega
      · obtain rfl : k = 0 := by omega
        have hR0 : Off (okTo m l (0 + 1) = true) := ⟨by rw [hS'.out]; rfl⟩
        rw [Addr.add_zero'] at hc
        go_wp2
        go_quiet (fail)
        go_wp2
        go_loopw [6] (fun jj wr => jj = .int .i64 0 ∧ Below w.heap.size w wr) (fun _ _ => 0)
        case atStart => exact ⟨rfl, below_drewN' HBA.out _⟩
        case round =>
          obtain ⟨rfl, hb2⟩ := hrel
          go_wp2
          go_roundw
          case rel => exact ⟨0 + 1, by omega, by go_num, hb2, hR0⟩
          case measure => simp only [intOf]; omega
    · obtain rfl : k = l.length := by omega
      have hR : Off (isRule (m : Int) l = true) := ⟨by rw [hF.out]; exact hok.out⟩
      go_wp2
      go_ret
      exact ⟨by rw [hR.out]; rfl, hb⟩
end Go.Proofs.Ytdbleghnblohgaa
