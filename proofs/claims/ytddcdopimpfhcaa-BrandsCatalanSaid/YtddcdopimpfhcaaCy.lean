/- Contracts: choose. -/
import Derived.Test.YtddcdopimpfhcaaCa
namespace Go.Proofs.Ytddcdopimpfhcaa
open Go.RowKit Go.Shelf

def chTo (n : Nat) : Nat → Int
  | 0 => 1
  | i + 1 => (chTo n i * ((n : Int) - (i : Int))) / ((i : Int) + 1)
theorem ch_all : ∀ n : Fin 21, ∀ i : Fin 11, 0 ≤ chTo n.val i.val ∧ chTo n.val i.val ≤ 1000000 := by decide +kernel
theorem choose_any (n k : Nat) (hn : n ≤ 20) (hk : k ≤ 10) (hkn : k ≤ n) (w : World) : Calls Try.prog 27 #[.int .i64 (n : Int), .int .i64 (k : Int)] w fun e w' => e = .returned (.int .i64 (chTo n k)) ∧ w' = w := by
  go_enter Try.func27, Try.ntmps27
  go_wp2
  go_loop [5, 6] (fun ov iv => ∃ i : Nat, i ≤ k ∧ ov = .int .i64 (chTo n i) ∧ iv = .int .i64 ((i : Int) + 1)) (fun _ iv => k + 1 - (intOf iv).toNat)
  case atStart => exact ⟨0, by omega, rfl, rfl⟩
  case round =>
    obtain ⟨i, hi, rfl, rfl⟩ := hrel
    by_cases hik : i < k
    · have hb := ch_all ⟨n, by omega⟩ ⟨i, by omega⟩
      have HS : Off (chTo n (i + 1) = (chTo n i * ((n : Int) - (i : Int))) / ((i : Int) + 1)) := ⟨rfl⟩
      obtain ⟨x, hx⟩ : ∃ x, x = chTo n i := ⟨_, rfl⟩
      simp only at hb
      rw [← hx] at hb HS ⊢
      have hm0 : 0 ≤ x * ((n : Int) - (i : Int)) := Int.mul_nonneg hb.1 (by omega)
      have hm1 : x * ((n : Int) - (i : Int)) ≤ x * 20 := Int.mul_le_mul_of_nonneg_left (by omega) hb.1
      have w1 : IntKind.i64.wrap ((n : Int) - ((i : Int) + 1)) = (n : Int) - ((i : Int) + 1) := by rw [IntKind.wrap_i64]; omega
      have w2 : IntKind.i64.wrap ((n : Int) - ((i : Int) + 1) + 1) = (n : Int) - (i : Int) := by rw [IntKind.wrap_i64]; omega
      have w3 : IntKind.i64.wrap (x * ((n : Int) - (i : Int))) = x * ((n : Int) - (i : Int)) := by rw [IntKind.wrap_i64]; omega
      have hi0 : ¬ (i : Int) + 1 = 0 := by omega
      have hq : (x * ((n : Int) - (i : Int))).tdiv ((i : Int) + 1) = (x * ((n : Int) - (i : Int))) / ((i : Int) + 1) := Int.tdiv_eq_ediv_of_nonneg hm0
      have hq0 : 0 ≤ (x * ((n : Int) - (i : Int))) / ((i : Int) + 1) := Int.ediv_nonneg hm0 (by omega)
      have hq1 : (x * ((n : Int) - (i : Int))) / ((i : Int) + 1) ≤ x * ((n : Int) - (i : Int)) := Int.ediv_le_self _ hm0
      have w4 : IntKind.i64.wrap ((x * ((n : Int) - (i : Int))) / ((i : Int) + 1)) = (x * ((n : Int) - (i : Int))) / ((i : Int) + 1) := by rw [IntKind.wrap_i64]; omega
      clear hx hm0 hm1 hq0 hq1
      go_wp2
      go_round
      case rel => exact ⟨i + 1, by omega, by rw [HS.out], by go_num⟩
      case measure => simp only [intOf]; omega
    · obtain rfl : i = k := by omega
      go_wp2
      go_ret
      exact ⟨rfl, rfl⟩
end Go.Proofs.Ytddcdopimpfhcaa
