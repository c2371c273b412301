/- Contracts: the specification's IsTrade; IsTrade. -/
import Derived.Test.YtdbleghnblohgaaWe
namespace Go.Proofs.Ytdbleghnblohgaa
open Go.RowKit Go.Shelf

def four (a b c d : Int) : List Int := [a, b, c, d]
/-- Is a number a set of m drovers? -/
def inSet (m : Nat) (x : Int) : Prop := 0 ≤ x ∧ x < 2 ^ m
instance (m : Nat) (x : Int) : Decidable (inSet m x) := by unfold inSet; infer_instance
def inFour (m : Nat) (a b c d : Int) : Prop := inSet m a ∧ inSet m b ∧ inSet m c ∧ inSet m d
instance (m : Nat) (a b c d : Int) : Decidable (inFour m a b c d) := by unfold inFour; infer_instance
/-- What is said of four sets. -/
def judged (m : Nat) (p : Int → Bool) (a b c d : Int) : Value := if inFour m a b c d then .tuple #[.bool (tradeI p a b c d), .int .i64 0] else .tuple #[.bool false, .int .i64 2]
theorem judged_in {m : Nat} {p : Int → Bool} {a b c d : Int} (h : inFour m a b c d) : judged m p a b c d = .tuple #[.bool (tradeI p a b c d), .int .i64 0] := if_pos h
theorem judged_out {m : Nat} {p : Int → Bool} {a b c d : Int} (h : ¬ inFour m a b c d) : judged m p a b c d = .tuple #[.bool false, .int .i64 2] := if_neg h
theorem four_cell (w : World) (a b c d : Int) (k : Nat) (hk : k < 4) : (w.alloc (.cells #[.int .i64 a, .int .i64 b, .int .i64 c, .int .i64 d] 43)).cell? ⟨w.heap.size, k, none⟩ = some (.int .i64 ((four a b c d).getD k 0)) := by
  have : k = 0 ∨ k = 1 ∨ k = 2 ∨ k = 3 := by omega
  rcases this with rfl | rfl | rfl | rfl <;> go_simp <;> rfl

set_option maxHeartbeats 2000000 in
theorem rIsTrade_rule (n : Int) (l : List Int) (a b c d : Int) (A : Option Addr) (cp : Nat) (w : World) (hl : IntsAt w A l) (hlc : l.length ≤ cp) (hr : isRule n l = false) :
    Calls Try.prog 32 #[.int .i64 n, .slice A l.length cp, .agg #[.int .i64 a, .int .i64 b, .int .i64 c, .int .i64 d]] w fun e w' => e = .returned (.tuple #[.bool false, .int .i64 2]) ∧ Below w.heap.size w w' := by
  have HB : Off (∀ o, Below w.heap.size w (w.alloc o)) := ⟨fun o => (Below.refl _ _).alloc (Nat.le_refl _) _⟩
  go_enter Try.func32, Try.ntmps32
  go_wp2_with fail
  refine (rIsRule n l A cp _ (hl.below (HB.out _)) hlc).mono ?_
  rw [hr]
  rintro e w1 ⟨rfl, hb1⟩
  go_wp2
  go_ret2
  exact ⟨rfl, belowC (HB.out _) hb1⟩

set_option maxHeartbeats 2000000 in
theorem rIsTrade_any (m : Nat) (l : List Int) (a b c d : Int) (A : Option Addr) (cp : Nat) (w : World) (hl : IntsAt w A l) (hlc : l.length ≤ cp) (hr : isRule m l = true) :
    Calls Try.prog 32 #[.int .i64 m, .slice A l.length cp, .agg #[.int .i64 a, .int .i64 b, .int .i64 c, .int .i64 d]] w fun e w' => e = .returned (judged m (ruleB l) a b c d) ∧ Below w.heap.size w w' := by
  obtain ⟨⟨m', e, hm1, hm⟩, _⟩ := isRule_range hr
  obtain rfl : m = m' := by omega
  clear e
  have HB : Off (∀ o, Below w.heap.size w (w.alloc o)) := ⟨fun o => (Below.refl _ _).alloc (Nat.le_refl _) _⟩
  have hsm := Off.mk (small5_of hr)
  have hp := pow_le m (by omega)
  have hp5 := pow_32 (m := m) (by omega)
  have hC := Off.mk (four_cell w a b c d)
  go_enter Try.func32, Try.ntmps32
  go_wp2_with fail
  refine (rIsRule m l A cp _ (hl.below (HB.out _)) hlc).mono ?_
  rw [hr]
  rintro e w1 ⟨rfl, hb1⟩
  have hC1 : Off (∀ k, k < 4 → w1.cell? ⟨w.heap.size, k, none⟩ = some (.int .i64 ((four a b c d).getD k 0))) := ⟨fun k hk => cellB hb1 (hC.out k hk)⟩
  have B1 := belowC (HB.out _) hb1
  go_wp2
  go_loopw [8] (fun i wr => ∃ k : Nat, k ≤ 4 ∧ i = .int .i64 k ∧ Below w1.heap.size w1 wr ∧ Off (∀ j, j < k → inSet m ((four a b c d).getD j 0))) (fun i _ => 4 - (intOf i).toNat)
  case atStart => exact ⟨0, by omega, rfl, Below.refl _ _, ⟨fun j hj => by omega⟩⟩
  case round =>
    obtain ⟨k, hk, rfl, hb, hin⟩ := hrel
    by_cases hlt : k < 4
    · have hc := cellB hb (hC1.out k hlt)
      obtain ⟨x, hx⟩ : ∃ x, x = (four a b c d).getD k 0 := ⟨_, rfl⟩
      have HX := Off.mk hx
      have HNot : Off (¬ inSet m x → ¬ inFour m a b c d) := ⟨fun h1 h2 => h1 (by
        have : k = 0 ∨ k = 1 ∨ k = 2 ∨ k = 3 := by omega
        rw [hx]
        rcases this with rfl | rfl | rfl | rfl
        · exact h2.1
        · exact h2.2.1
        · exact h2.2.2.1
        · exact h2.2.2.2)⟩
      rw [← hx] at hc
      clear hx
      by_cases h0 : x < 0
      · have HN := Off.mk (HNot.out (fun h => by have := h.1; omega))
        go_wp2
        go_quiet (fail)
        go_wp2
        go_ret2
        exact ⟨by rw [judged_out HN.out]; rfl, belowC B1 (below_drewN' hb _)⟩
      · have h0' : decide (x < 0) = false := decide_eq_false h0
        by_cases h1 : 2 ^ m ≤ x
        · have HN := Off.mk (HNot.out (fun h => by have := h.2; omega))
          go_wp2
          go_quiet (fail)
          go_wp2
          go_ret2
          exact ⟨by rw [judged_out HN.out]; rfl, belowC B1 (below_drewN' hb _)⟩
        · have h1' : decide (2 ^ m ≤ x) = false := decide_eq_false h1
          go_wp2
          go_quiet (fail)
          go_wp2
          go_roundw
          case rel => exact ⟨k + 1, by omega, by go_num, below_drewN' hb _, ⟨fun j hj => by
            by_cases e : j = k
            · subst e; rw [← HX.out]; exact ⟨by omega, by omega⟩
            · exact hin.out j (by omega)⟩⟩
          case measure => simp only [intOf]; omega
    · obtain rfl : k = 4 := by omega
      have i0 : inSet m a := hin.out 0 (by omega)
      have i1 : inSet m b := hin.out 1 (by omega)
      have i2 : inSet m c := hin.out 2 (by omega)
      have i3 : inSet m d := hin.out 3 (by omega)
      have HY : Off (inFour m a b c d) := ⟨i0, i1, i2, i3⟩
      have f0 := cellB hb (hC1.out 0 (by omega))
      have f1 := cellB hb (hC1.out 1 (by omega))
      have f2 := cellB hb (hC1.out 2 (by omega))
      have f3 := cellB hb (hC1.out 3 (by omega))
      change _ = some (Value.int .i64 a) at f0
      change _ = some (Value.int .i64 b) at f1
      change _ = some (Value.int .i64 c) at f2
      change _ = some (Value.int .i64 d) at f3
      have B2 := belowC B1 hb
      go_wp2_with fail
      refine (risTrade l a b c d A cp _ (hl.below B2) hlc hsm ⟨i0.1, by have := i0.2; omega⟩ ⟨i1.1, by have := i1.2; omega⟩ ⟨i2.1, by have := i2.2; omega⟩ ⟨i3.1, by have := i3.2; omega⟩).mono ?_
      rintro e w3 ⟨rfl, hb3⟩
      go_wp2
      go_ret2
      exact ⟨by rw [judged_in HY.out]; rfl, belowC B2 hb3⟩
end Go.Proofs.Ytdbleghnblohgaa
