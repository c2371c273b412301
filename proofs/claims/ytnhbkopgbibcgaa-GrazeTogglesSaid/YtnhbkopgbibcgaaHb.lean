/- Contracts: the specification's IsState, asked; the laws' good; the specification's same. -/
import Derived.Test.YtnhbkopgbibcgaaHa
namespace Go.Proofs.Ytnhbkopgbibcgaa
open Go.RowKit Go.Shelf

theorem state_bad {a b : Int} {l : List Int} {k : Nat} (hk : k < l.length) (h : l.getD k 0 < 0 ∨ b < l.getD k 0 ∨ (0 < k ∧ l.getD (k - 1) 0 < l.getD k 0)) : stateB a b l = false := by
  refine decide_eq_false fun ⟨_, h2⟩ => ?_
  have := h2 k hk
  omega
set_option maxHeartbeats 2000000 in
set_option maxRecDepth 100000 in
theorem isState_any (a b : Int) (l : List Int) (A : Option Addr) (c : Nat) (w : World) (hl : IntsAt w A l) :
    Calls Try.prog 31 #[.int .i64 a, .int .i64 b, .slice A l.length c] w fun e w' => e = .returned (.bool (stateB a b l)) ∧ Below w.heap.size w w' := by
  have hlen := hl.len
  go_enter Try.func31, Try.ntmps31
  go_wp2
  go_loopw [7] (fun iv wr => ∃ k : Nat, k ≤ l.length ∧ iv = .int .i64 k ∧ (∃ q, wr = w.drewN q) ∧ Off (∀ j, j < k → (0 ≤ l.getD j 0 ∧ l.getD j 0 ≤ b) ∧ (0 < j → l.getD j 0 ≤ l.getD (j - 1) 0))) (fun iv _ => l.length - (intOf iv).toNat)
  case atStart => exact ⟨0, by omega, rfl, ⟨0, rfl⟩, ⟨fun j hj => by omega⟩⟩
  case round =>
    obtain ⟨k, hk, rfl, ⟨q, rfl⟩, hs⟩ := hrel
    by_cases hlt : k < l.length
    · obtain ⟨ad, rfl, hc⟩ := hl.cell k hlt
      have HB : Off (∀ x, l.getD k 0 = x → x < 0 ∨ b < x ∨ (0 < k ∧ l.getD (k - 1) 0 < x) → stateB a b l = false) := ⟨fun x e h => state_bad hlt (by rw [e]; exact h)⟩
      have HE : Off (∀ x, l.getD k 0 = x → 0 ≤ x → x ≤ b → (0 < k → x ≤ l.getD (k - 1) 0) → ∀ j, j < k + 1 → (0 ≤ l.getD j 0 ∧ l.getD j 0 ≤ b) ∧ (0 < j → l.getD j 0 ≤ l.getD (j - 1) 0)) := ⟨fun x e h1 h2 h3 j hj => by
        by_cases e2 : j = k
        · subst e2; rw [e]; exact ⟨⟨h1, h2⟩, h3⟩
        · exact hs.out j (by omega)⟩
      obtain ⟨x, hx⟩ : ∃ x, x = l.getD k 0 := ⟨_, rfl⟩
      rw [← hx] at hc
      have HX := Off.mk hx.symm
      have hk0 : (0 : Int) ≤ (k : Int) := by omega
      have hk1 : (k : Int) < (l.length : Int) := by omega
      clear hx
      by_cases h1 : x < 0
      · have h1' : decide (x < 0) = true := decide_eq_true h1
        have HF := Off.mk (HB.out x HX.out (.inl h1))
        clear h1 HB HE
        go_wp2
        go_quiet (fail)
        go_wp2
        go_ret
        exact ⟨by rw [HF.out]; rfl, below_drewN' (below_drewN' (Below.refl _ _) _) _⟩
      · have h1' : decide (x < 0) = false := decide_eq_false h1
        have h10 : 0 ≤ x := by omega
        by_cases h2 : b < x
        · have h2' : decide (b < x) = true := decide_eq_true h2
          have HF := Off.mk (HB.out x HX.out (.inr (.inl h2)))
          clear h1 h2 HB HE
          go_wp2
          go_quiet (fail)
          go_wp2
          go_ret
          exact ⟨by rw [HF.out]; rfl, below_drewN' (below_drewN' (Below.refl _ _) _) _⟩
        · have h2' : decide (b < x) = false := decide_eq_false h2
          have h20 : x ≤ b := by omega
          by_cases h3 : 0 < k
          · obtain ⟨ad', e, hp⟩ := hl.cell (k - 1) (by omega)
            cases e
            have W1 : IntKind.i64.wrap ((k : Int) - 1) = (k : Int) - 1 := by rw [IntKind.wrap_i64]; omega
            have W2 : ((k : Int) - 1).toNat = k - 1 := by omega
            have W3 : (0 : Int) ≤ (k : Int) - 1 := by omega
            have W4 : (k : Int) - 1 < (l.length : Int) := by omega
            have h3' : decide ((0 : Int) < (k : Int)) = true := decide_eq_true (by omega)
            have h3'' : decide (0 < k) = true := decide_eq_true h3
            by_cases h4 : l.getD (k - 1) 0 < x
            · have HF := Off.mk (HB.out x HX.out (.inr (.inr ⟨h3, h4⟩)))
              obtain ⟨y, hy⟩ : ∃ y, y = l.getD (k - 1) 0 := ⟨_, rfl⟩
              rw [← hy] at hp h4
              have h4' : decide (y < x) = true := decide_eq_true h4
              clear h1 h2 HB HE hy h3 h4
              go_wp2
              go_quiet (fail)
              go_wp2
              go_ret
              exact ⟨by rw [HF.out]; rfl, below_drewN' (below_drewN' (Below.refl _ _) _) _⟩
            · have HN := Off.mk (HE.out x HX.out h10 h20 (fun _ => by omega))
              obtain ⟨y, hy⟩ : ∃ y, y = l.getD (k - 1) 0 := ⟨_, rfl⟩
              rw [← hy] at hp h4
              have h4' : decide (y < x) = false := decide_eq_false h4
              clear h1 h2 HB HE hy h3 h4
              go_wp2
              go_quiet (fail)
              go_wp2
              go_roundw
              case rel => exact ⟨k + 1, by omega, by go_num, ⟨_, rfl⟩, HN⟩
              case measure => simp only [intOf]; omega
          · have HN := Off.mk (HE.out x HX.out h10 h20 (fun h => absurd h h3))
            have h3' : decide ((0 : Int) < (k : Int)) = false := decide_eq_false (by omega)
            have h3'' : decide (0 < k) = false := decide_eq_false h3
            clear h1 h2 HB HE h3
            go_wp2
            go_quiet (fail)
            go_wp2
            go_roundw
            case rel => exact ⟨k + 1, by omega, by go_num, ⟨_, rfl⟩, HN⟩
            case measure => simp only [intOf]; omega
    · obtain rfl : k = l.length := by omega
      have HF : Off (stateB a b l = ((l.length : Int) == a)) := ⟨by
        by_cases e : (l.length : Int) = a
        · rw [beq_iff_eq.2 e]; exact decide_eq_true ⟨e, fun j hj => hs.out j hj⟩
        · rw [beq_eq_false_iff_ne.2 e]; exact decide_eq_false (fun h => e h.1)⟩
      go_wp2
      go_ret
      exact ⟨by rw [HF.out]; rfl, below_drewN' (Below.refl _ _) _⟩

def askedErr (v : Bool) : Int := if v then 0 else 2
set_option maxHeartbeats 2000000 in
theorem asked_any (a b : Int) (l : List Int) (A : Option Addr) (c : Nat) (v : Bool) (hv : askedB a b l = v) (w : World) (hl : IntsAt w A l) :
    Calls Try.prog 58 #[.int .i64 a, .int .i64 b, .slice A l.length c] w fun e w' => e = .returned (.int .i64 (askedErr v)) ∧ Below w.heap.size w w' := by
  cases hf : fieldB a b
  · have CP := Off.mk (pasture_any a b false hf w)
    obtain rfl : v = false := by rw [← hv, askedB, hf, Bool.false_and]
    clear hf hv
    go_enter Try.func58, Try.ntmps58
    go_wp2_with (go_at_call 45; refine CP.out.mono ?_; rintro e w1 ⟨rfl, hw⟩; subst w1)
    go_ret
    exact ⟨rfl, Below.refl _ _⟩
  · have CP := Off.mk (pasture_any a b true hf w)
    obtain rfl : stateB a b l = v := by rw [← hv, askedB, hf, Bool.true_and]
    have CI := Off.mk (isState_any a b l A c w hl)
    clear hf hv
    cases hs : stateB a b l
    · rw [hs] at CI
      clear hs
      go_enter Try.func58, Try.ntmps58
      go_wp2_with (first
        | (go_at_call 45; refine CP.out.mono ?_; rintro e w1 ⟨rfl, hw⟩; subst w1)
        | (go_at_call 31; refine CI.out.mono ?_; rintro e w1 ⟨rfl, hb⟩))
      go_ret
      exact ⟨rfl, hb⟩
    · rw [hs] at CI
      clear hs
      go_enter Try.func58, Try.ntmps58
      go_wp2_with (first
        | (go_at_call 45; refine CP.out.mono ?_; rintro e w1 ⟨rfl, hw⟩; subst w1)
        | (go_at_call 31; refine CI.out.mono ?_; rintro e w1 ⟨rfl, hb⟩))
      go_ret
      exact ⟨rfl, hb⟩
set_option maxHeartbeats 2000000 in
theorem good_any (a b : Int) (l : List Int) (A : Option Addr) (c : Nat) (v : Bool) (hv : askedB a b l = v) (w : World) (hl : IntsAt w A l) :
    Calls Try.prog 29 #[.int .i64 a, .int .i64 b, .slice A l.length c] w fun e w' => e = .returned (.bool v) ∧ Below w.heap.size w w' := by
  cases hf : fieldB a b
  · have CP := Off.mk (pasture_any a b false hf w)
    obtain rfl : v = false := by rw [← hv, askedB, hf, Bool.false_and]
    clear hf hv
    go_enter Try.func29, Try.ntmps29
    go_wp2_with (go_at_call 45; refine CP.out.mono ?_; rintro e w1 ⟨rfl, hw⟩; subst w1)
    go_ret
    exact ⟨rfl, Below.refl _ _⟩
  · have CP := Off.mk (pasture_any a b true hf w)
    obtain rfl : stateB a b l = v := by rw [← hv, askedB, hf, Bool.true_and]
    have CI := Off.mk (isState_any a b l A c w hl)
    clear hf hv
    obtain ⟨v, hs⟩ : ∃ v, v = stateB a b l := ⟨_, rfl⟩
    rw [← hs] at CI ⊢
    clear hs
    go_enter Try.func29, Try.ntmps29
    go_wp2_with (first
        | (go_at_call 45; refine CP.out.mono ?_; rintro e w1 ⟨rfl, hw⟩; subst w1)
        | (go_at_call 31; refine CI.out.mono ?_; rintro e w1 ⟨rfl, hb⟩))
    go_ret
    exact ⟨rfl, hb⟩
end Go.Proofs.Ytnhbkopgbibcgaa
