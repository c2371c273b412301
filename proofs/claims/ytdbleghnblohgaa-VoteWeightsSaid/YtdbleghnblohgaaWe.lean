/- Contracts: the specification's both, isTrade, IsTrade; IsTrade. -/
import Derived.Test.YtdbleghnblohgaaWc
import Derived.Test.YtdbleghnblohgaaVl
namespace Go.Proofs.Ytdbleghnblohgaa
open Go.RowKit Go.Shelf

/-- In how many of two sets each drover is: two bits for each. -/
def bothTo (a b : Int) : Nat → Int
  | 0 => 0
  | k + 1 => bothTo a b k + (a / 2 ^ k % 2 + b / 2 ^ k % 2) * 2 ^ (2 * k)
theorem bothTo_range (a b : Int) (k : Nat) (hk : k ≤ 5) : 0 ≤ bothTo a b k ∧ bothTo a b k ≤ 2 * 2 ^ 10 * k := by
  induction k with
  | zero => simp [bothTo]
  | succ k ih =>
    have h1 := ih (by omega)
    have h2 := bit_range a k
    have h3 := bit_range b k
    have h4 : (2 : Int) ^ (2 * k) ≤ 2 ^ 10 := by
      have := Nat.pow_le_pow_right (n := 2) (by decide) (show 2 * k ≤ 10 by omega)
      exact_mod_cast this
    have h5 : (0 : Int) ≤ 2 ^ (2 * k) := Int.pow_nonneg (by decide)
    simp only [bothTo]
    generalize (2 : Int) ^ (2 * k) = p at *
    have h6 : (a / 2 ^ k % 2 + b / 2 ^ k % 2) * p ≤ 2 * p := Int.mul_le_mul_of_nonneg_right (by omega) h5
    have h7 : 0 ≤ (a / 2 ^ k % 2 + b / 2 ^ k % 2) * p := Int.mul_nonneg (by omega) h5
    omega

set_option maxHeartbeats 1000000 in
theorem rboth (a b : Int) (w : World) (ha : 0 ≤ a) (hb : 0 ≤ b) :
    Calls Try.prog 79 #[.int .i64 a, .int .i64 b] w fun e w' => e = .returned (.int .i64 (bothTo a b 5)) ∧ ∃ n, w' = w.drewN n := by
  go_enter Try.func79, Try.ntmps79
  go_wp2
  go_loopw [5, 6] (fun s i wr => ∃ k : Nat, k ≤ 5 ∧ i = .int .i64 k ∧ s = .int .i64 (bothTo a b k) ∧ ∃ n, wr = w.drewN n) (fun _ i _ => 5 - (intOf i).toNat)
  case atStart => exact ⟨0, by omega, rfl, rfl, 0, rfl⟩
  case round =>
    obtain ⟨k, hk, rfl, rfl, n, rfl⟩ := hrel
    by_cases hlt : k < 5
    · have hd := div_range a k ha
      have hd' := div_range b k hb
      have h2 := bit_range a k
      have h3 := bit_range b k
      have hS : Off (bothTo a b (k + 1) = bothTo a b k + (a / 2 ^ k % 2 + b / 2 ^ k % 2) * 2 ^ (2 * k)) := ⟨rfl⟩
      have hr := bothTo_range a b k hk
      have hr' := bothTo_range a b (k + 1) (by omega)
      have e3 : (a / 2 ^ k).tmod 2 = a / 2 ^ k % 2 := Int.tmod_eq_emod_of_nonneg hd.1
      have e4 : (b / 2 ^ k).tmod 2 = b / 2 ^ k % 2 := Int.tmod_eq_emod_of_nonneg hd'.1
      have hw1 : IntKind.i64.wrap (2 * (k : Int)) = 2 * k := by rw [IntKind.wrap_i64]; omega
      have hw2 : IntKind.i64.wrap (a / 2 ^ k % 2 + b / 2 ^ k % 2) = a / 2 ^ k % 2 + b / 2 ^ k % 2 := by rw [IntKind.wrap_i64]; omega
      have hw3 : Off (wrap64 ((a / 2 ^ k % 2 + b / 2 ^ k % 2) * 2 ^ (2 * k)) = (a / 2 ^ k % 2 + b / 2 ^ k % 2) * 2 ^ (2 * k)) := ⟨by
        have := hS.out
        unfold wrap64
        omega⟩
      have hw4 : Off (wrap64 (bothTo a b k + (a / 2 ^ k % 2 + b / 2 ^ k % 2) * 2 ^ (2 * k)) = bothTo a b k + (a / 2 ^ k % 2 + b / 2 ^ k % 2) * 2 ^ (2 * k)) := ⟨by
        have := hS.out
        unfold wrap64
        omega⟩
      go_wp2
      go_quiet (fail)
      go_wp2
      go_roundw
      case rel => exact ⟨k + 1, by omega, by go_num, by rw [hS.out, hw3.out, hw4.out], _, rfl⟩
      case measure => simp only [intOf]; omega
    · obtain rfl : k = 5 := by omega
      go_wp2
      go_ret
      exact ⟨rfl, _, rfl⟩

/-- Are four sets a trade by what wins? -/
def tradeI (p : Int → Bool) (a b c d : Int) : Bool := p a && (p b && (!p c && (!p d && decide (bothTo a b 5 = bothTo c d 5))))
structure Set5 (x : Int) : Prop where
  lo : 0 ≤ x
  hi : x < 32

set_option maxHeartbeats 2000000 in
theorem risTrade (l : List Int) (a b c d : Int) (A : Option Addr) (cp : Nat) (w : World) (hl : IntsAt w A l) (hlc : l.length ≤ cp) (hsm : Off (Small5 l)) (ha : Set5 a) (hb : Set5 b) (hc : Set5 c) (hd : Set5 d) :
    Calls Try.prog 63 #[.slice A l.length cp, .agg #[.int .i64 a, .int .i64 b, .int .i64 c, .int .i64 d]] w fun e w' => e = .returned (.bool (tradeI (ruleB l) a b c d)) ∧ Below w.heap.size w w' := by
  have HB : Off (∀ o, Below w.heap.size w (w.alloc o)) := ⟨fun o => (Below.refl _ _).alloc (Nat.le_refl _) _⟩
  have HR : Off (∀ x v, Set5 x → ruleB l x = v → ∀ W, Below w.heap.size w W → Calls Try.prog 62 #[.slice A l.length cp, .int .i64 x] W fun e w' => e = .returned (.bool v) ∧ w' = W) :=
    ⟨fun x v hx e W hW => e ▸ rruled l x A cp W (hl.below hW) hlc hsm hx.lo hx.hi⟩
  have HC : Off (∀ x y v, Set5 x → Set5 y → bothTo x y 5 = v → ∀ W, Calls Try.prog 79 #[.int .i64 x, .int .i64 y] W fun e w' => e = .returned (.int .i64 v) ∧ ∃ n, w' = W.drewN n) :=
    ⟨fun x y v hx hy e W => e ▸ rboth x y W hx.lo hy.lo⟩
  have HT : Off (tradeI (ruleB l) a b c d = (ruleB l a && (ruleB l b && (!ruleB l c && (!ruleB l d && decide (bothTo a b 5 = bothTo c d 5)))))) := ⟨rfl⟩
  cases pa : ruleB l a
  · have HF : Off (tradeI (ruleB l) a b c d = false) := ⟨by rw [HT.out, pa]; rfl⟩
    go_enter Try.func63, Try.ntmps63
    go_wp2
    go_quiet ((first | (go_at_call 62; exact Calls.quiet_of_same (HR.out _ _ (by assumption) (by assumption) _ (below_drewN' (HB.out _) _)))))
    go_wp2
    go_ret
    exact ⟨by rw [HF.out]; rfl, below_drewN' (HB.out _) _⟩
  · cases pb : ruleB l b
    · have HF : Off (tradeI (ruleB l) a b c d = false) := ⟨by rw [HT.out, pa, pb]; rfl⟩
      go_enter Try.func63, Try.ntmps63
      go_wp2
      go_quiet ((first | (go_at_call 62; exact Calls.quiet_of_same (HR.out _ _ (by assumption) (by assumption) _ (below_drewN' (HB.out _) _)))))
      go_wp2
      go_ret
      exact ⟨by rw [HF.out]; rfl, below_drewN' (HB.out _) _⟩
    · cases pc : ruleB l c
      · cases pd : ruleB l d
        · obtain ⟨u, hu⟩ : ∃ u, bothTo a b 5 = u := ⟨_, rfl⟩
          obtain ⟨v, hv⟩ : ∃ v, bothTo c d 5 = v := ⟨_, rfl⟩
          rw [hu, hv] at HT
          by_cases he : u = v
          · have HF : Off (tradeI (ruleB l) a b c d = true) := ⟨by rw [HT.out, pa, pb, pc, pd, decide_eq_true he]; rfl⟩
            have he' : (u == v) = true := beq_iff_eq.2 he
            clear he
            go_enter Try.func63, Try.ntmps63
            go_wp2
            go_quiet ((first | (go_at_call 62; exact Calls.quiet_of_same (HR.out _ _ (by assumption) (by assumption) _ (below_drewN' (HB.out _) _))) | (go_at_call 79; exact Calls.quiet_of (HC.out _ _ _ (by assumption) (by assumption) (by assumption) _))))
            go_wp2
            go_ret
            exact ⟨by rw [HF.out]; rfl, below_drewN' (HB.out _) _⟩
          · have HF : Off (tradeI (ruleB l) a b c d = false) := ⟨by rw [HT.out, pa, pb, pc, pd, decide_eq_false he]; rfl⟩
            have he' : (u == v) = false := beq_eq_false_iff_ne.2 he
            clear he
            go_enter Try.func63, Try.ntmps63
            go_wp2
            go_quiet ((first | (go_at_call 62; exact Calls.quiet_of_same (HR.out _ _ (by assumption) (by assumption) _ (below_drewN' (HB.out _) _))) | (go_at_call 79; exact Calls.quiet_of (HC.out _ _ _ (by assumption) (by assumption) (by assumption) _))))
            go_wp2
            go_ret
            exact ⟨by rw [HF.out]; rfl, below_drewN' (HB.out _) _⟩
        · have HF : Off (tradeI (ruleB l) a b c d = false) := ⟨by rw [HT.out, pa, pb, pc, pd]; rfl⟩
          go_enter Try.func63, Try.ntmps63
          go_wp2
          go_quiet ((first | (go_at_call 62; exact Calls.quiet_of_same (HR.out _ _ (by assumption) (by assumption) _ (below_drewN' (HB.out _) _)))))
          go_wp2
          go_ret
          exact ⟨by rw [HF.out]; rfl, below_drewN' (HB.out _) _⟩
      · have HF : Off (tradeI (ruleB l) a b c d = false) := ⟨by rw [HT.out, pa, pb, pc]; rfl⟩
        go_enter Try.func63, Try.ntmps63
        go_wp2
        go_quiet ((first | (go_at_call 62; exact Calls.quiet_of_same (HR.out _ _ (by assumption) (by assumption) _ (below_drewN' (HB.out _) _)))))
        go_wp2
        go_ret
        exact ⟨by rw [HF.out]; rfl, below_drewN' (HB.out _) _⟩
end Go.Proofs.Ytdbleghnblohgaa
