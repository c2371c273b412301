/- Contracts: divisor. -/
import Derived.Test.YtbpmiphipjkdlaaAd
namespace Go.Proofs.Ytbpmiphipjkdlaa
open Go.RowKit Go.Shelf

theorem gcd_step (a b : Int) : Int.gcd b (a.tmod b) = Int.gcd a b := by
  rw [Int.gcd_comm a b]
  simp only [Int.gcd, Int.natAbs_tmod]
  rw [Nat.gcd_comm b.natAbs a.natAbs, Nat.gcd_comm b.natAbs (a.natAbs % b.natAbs), ← Nat.gcd_rec, Nat.gcd_comm]
theorem divisor_any (x y : Int) (hx : -16777216 ≤ x ∧ x ≤ 16777216) (hy : -16777216 ≤ y ∧ y ≤ 16777216) (w : World) :
    Calls Try.prog 111 #[.int .i64 x, .int .i64 y] w fun e w' => e = .returned (.int .i64 (Int.gcd x y : Nat)) ∧ Below w.heap.size w w' := by
  obtain ⟨g, hg⟩ : ∃ g, g = Int.gcd x y := ⟨_, rfl⟩
  have HG := Off.mk hg
  rw [← hg]
  clear hg
  go_enter Try.func111, Try.ntmps111
  go_wp2
  go_loopw [0, 1] (fun xv yv wr => ∃ a b : Int, xv = .int .i64 a ∧ yv = .int .i64 b ∧ (-16777216 ≤ a ∧ a ≤ 16777216) ∧ (-16777216 ≤ b ∧ b ≤ 16777216) ∧ Off (g = Int.gcd a b) ∧ Off (Below w.heap.size w wr)) (fun _ yv _ => (intOf yv).natAbs)
  case atStart => exact ⟨x, y, rfl, rfl, hx, hy, HG, ⟨Below.refl _ _⟩⟩
  case round =>
    obtain ⟨a, b, rfl, rfl, ha, hb, HGa, HB⟩ := hrel
    by_cases h0 : b = 0
    · subst h0
      have W0 : IntKind.i64.wrap (-a) = -a := by rw [IntKind.wrap_i64]; omega
      have HGz : Off (g = a.natAbs) := ⟨by have := HGa.out; rwa [Int.gcd_zero_right] at this⟩
      clear HGa
      go_wp2
      all_goals
        go_ret
        refine ⟨ret_int ?_, HB.out⟩
        have := HGz.out
        omega
    · have hN := Int.natAbs_tmod a b
      have hlt : (a.tmod b).natAbs < b.natAbs := by rw [hN]; exact Nat.mod_lt _ (by omega)
      have W1 : IntKind.i64.wrap (a.tmod b) = a.tmod b := by rw [IntKind.wrap_i64]; omega
      have HL := Off.mk hlt
      clear hN hlt
      go_wp2_with fail
      go_quiet (fail)
      go_wp2
      go_roundw
      case rel => exact ⟨b, a.tmod b, rfl, rfl, hb, by have := HL.out; omega, ⟨by rw [HGa.out, gcd_step]⟩, ⟨below_drewN' HB.out _⟩⟩
      case measure => simp only [intOf]; exact HL.out
end Go.Proofs.Ytbpmiphipjkdlaa
