/- Contracts: points of a side. -/
import Derived.Test.YtbpmiphipjkdlaaAl
namespace Go.Proofs.Ytbpmiphipjkdlaa
open Go.RowKit Go.Shelf

/-- Points on a side without its beginning. -/
def pointsS (s : (Int × Int) × (Int × Int)) : Nat := Int.gcd (s.2.1 - s.1.1) (s.2.2 - s.1.2)
theorem points_any (s : (Int × Int) × (Int × Int)) (h1 : inB 2097152 s.1) (h2 : inB 2097152 s.2) (w : World) :
    Calls Try.prog 90 #[sdV s] w fun e w' => e = .returned (.int .i64 (pointsS s : Nat)) ∧ Below w.heap.size w w' := by
  have C1 : Off (∀ W, Calls Try.prog 84 #[ptV s.2, ptV s.1] W fun e w' => e = .returned (ptV (subP s.2 s.1)) ∧ Below W.heap.size W w') := ⟨fun W => minus_any s.2 s.1 (inB_mono h2 (by decide)) (inB_mono h1 (by decide)) W⟩
  have HB := subP_in h2 h1
  have C2 : Off (∀ W, Calls Try.prog 111 #[.int .i64 (subP s.2 s.1).1, .int .i64 (subP s.2 s.1).2] W fun e w' => e = .returned (.int .i64 (pointsS s : Nat)) ∧ Below W.heap.size W w') :=
    ⟨fun W => divisor_any (subP s.2 s.1).1 (subP s.2 s.1).2 (by unfold inB at HB; omega) (by unfold inB at HB; omega) W⟩
  obtain ⟨d, hd⟩ : ∃ d, d = subP s.2 s.1 := ⟨_, rfl⟩
  rw [← hd] at C1 C2
  clear h1 h2 HB hd
  obtain ⟨n, hn⟩ : ∃ n : Nat, n = pointsS s := ⟨_, rfl⟩
  rw [← hn] at C2 ⊢
  clear hn
  have b1 := Box4.new w s
  have c0 := b1.c0
  have c1 := b1.c1
  have c2 := b1.c2
  have c3 := b1.c3
  have hb0 : Below w.heap.size w (w.alloc (.cells #[.int .i64 s.1.1, .int .i64 s.1.2, .int .i64 s.2.1, .int .i64 s.2.2] 75)) := belowA (Below.refl _ w) _
  go_enter Try.func90, Try.ntmps90
  go_wp2_with fail
  refine (C1.out _).mono ?_
  rintro e w1 ⟨rfl, hb1⟩
  go_wp2_with fail
  refine (C2.out _).mono ?_
  rintro e w2 ⟨rfl, hb2⟩
  go_wp2
  go_ret
  exact ⟨rfl, belowC (belowA (belowC hb0 hb1) _) hb2⟩
end Go.Proofs.Ytbpmiphipjkdlaa
