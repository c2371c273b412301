/- The law GrazeSames: its walk. -/
import Derived.Test.YtnhbkopgbibcgaaHu
import Derived.Test.YtnhbkopgbibcgaaHo
namespace Go.Proofs.Ytnhbkopgbibcgaa
open Go.RowKit Go.Shelf

set_option maxHeartbeats 4000000 in
theorem sames_walk (a b d : Int) (w : World) : Calls Try.prog 3 #[.int .i64 a, .int .i64 b, .int .i64 d] w fun e w' => e = .returned (.bool true) ∧ Below w.heap.size w w' := by
  have H1 := Off.mk (fun W => Same_any a b d W)
  have H2 := Off.mk (fun W => rSame_any a b d W)
  unfold SamePost at H1 H2
  obtain ⟨y, hy⟩ : ∃ y : Int, y = (if fieldB a b then ((sameP a.toNat b.toNat (d % (a + b)).toNat : Nat) : Int) else 0) := ⟨_, rfl⟩
  have hy2 : (if fieldB a b then ((rsameP a.toNat b.toNat (d % (a + b)).toNat : Nat) : Int) else 0) = y := by
    rw [hy]
    by_cases hf : fieldB a b = true
    · rw [if_pos hf, if_pos hf]
      have := field_len hf
      have h0 := Int.emod_nonneg d (show a + b ≠ 0 by omega)
      have h1 := Int.emod_lt_of_pos d (show 0 < a + b by omega)
      rw [sames_eq (by omega) (by omega) (by omega) (by omega) (by omega)]
    · rw [if_neg hf, if_neg hf]
  obtain ⟨z, hz⟩ : ∃ z : Int, z = (if fieldB a b then 0 else 2) := ⟨_, rfl⟩
  have K1 : Off (∀ W, Calls Try.prog 15 #[.int .i64 a, .int .i64 b, .int .i64 d] W fun e w' => e = .returned (.tuple #[.int .i64 y, .int .i64 z]) ∧ Below W.heap.size W w') := ⟨fun W => by rw [hy, hz]; exact H1.out W⟩
  have K2 : Off (∀ W, Calls Try.prog 16 #[.int .i64 a, .int .i64 b, .int .i64 d] W fun e w' => e = .returned (.tuple #[.int .i64 y, .int .i64 z]) ∧ Below W.heap.size W w') := ⟨fun W => by rw [← hy2, hz]; exact H2.out W⟩
  clear hy hy2 hz H1 H2
  go_enter Try.func3, Try.ntmps3
  go_wp2_with fail
  refine (K1.out _).mono ?_
  rintro e w1 ⟨rfl, b1⟩
  go_wp2_with fail
  refine (K2.out _).mono ?_
  rintro e w2 ⟨rfl, h2⟩
  have b2 := belowC b1 h2
  go_wp2_with (go_at_call 17; refine (alive_any _).mono ?_; rintro e w12 ⟨rfl, hb12⟩)
  go_ret
  exact ⟨rfl, belowC b2 hb12⟩
end Go.Proofs.Ytnhbkopgbibcgaa
