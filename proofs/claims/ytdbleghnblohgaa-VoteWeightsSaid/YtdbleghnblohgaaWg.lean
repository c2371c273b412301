/- Contract: IsTrade. -/
import Derived.Test.YtdbleghnblohgaaWf
namespace Go.Proofs.Ytdbleghnblohgaa
open Go.RowKit Go.Shelf

set_option maxHeartbeats 2000000 in
theorem IsTrade_rule (n : Int) (l : List Int) (a b c d : Int) (A : Option Addr) (cp : Nat) (w : World) (hl : IntsAt w A l) (hlc : l.length ≤ cp) (hr : isRule n l = false) :
    Calls Try.prog 31 #[.int .i64 n, .slice A l.length cp, .agg #[.int .i64 a, .int .i64 b, .int .i64 c, .int .i64 d]] w fun e w' => e = .returned (.tuple #[.bool false, .int .i64 2]) ∧ Below w.heap.size w w' := by
  have HB : Off (∀ o, Below w.heap.size w (w.alloc o)) := ⟨fun o => (Below.refl _ _).alloc (Nat.le_refl _) _⟩
  have HC : Off (∀ W, Below w.heap.size w W → Calls Try.prog 54 #[.int .i64 n, .slice A l.length cp] W fun e w' => e = .returned (.bool false) ∧ Below W.heap.size W w') := ⟨fun W hW => hr ▸ ruled_any n l A cp W (hl.below hW) hlc⟩
  go_enter Try.func31, Try.ntmps31
  go_wp2
  first | go_region_with ((go_at_call 54; refine (HC.out _ (HB.out _).drew).mono ?_; rintro e w1 ⟨rfl, hb1⟩)) | fail
  all_goals go_wp2
  all_goals go_ret2
  all_goals exact ⟨rfl, belowC (HB.out _).drew hb1⟩

theorem four_ints (w : World) (a b c d : Int) : IntsAt (w.alloc (.cells #[.int .i64 a, .int .i64 b, .int .i64 c, .int .i64 d] 43)) (some ⟨w.heap.size, 0, none⟩) (four a b c d) :=
  ⟨by simp [four], fun j hj => ⟨_, rfl, by
    have := four_cell w a b c d j (by simpa [four] using hj)
    have e : (⟨w.heap.size, 0, none⟩ : Addr).add j = ⟨w.heap.size, j, none⟩ := by rw [Addr.add_lit, Nat.zero_add]
    rw [e]
    exact this⟩⟩
theorem four_min {m : Nat} {a b c d : Int} (h : inFour m a b c d) : 0 ≤ minTo (four a b c d) 3 ∧ maxTo (four a b c d) 3 < 2 ^ m := by
  obtain ⟨⟨h1, h2⟩, ⟨h3, h4⟩, ⟨h5, h6⟩, h7, h8⟩ := h
  simp [minTo, maxTo, four]
  omega
theorem min_four {m : Nat} {a b c d : Int} (h0 : 0 ≤ minTo (four a b c d) 3) (h1 : maxTo (four a b c d) 3 < 2 ^ m) : inFour m a b c d := by
  simp [minTo, maxTo, four] at h0 h1
  unfold inFour inSet
  omega

set_option maxHeartbeats 4000000 in
theorem IsTrade_out (m : Nat) (l : List Int) (a b c d : Int) (A : Option Addr) (cp : Nat) (w : World) (hl : IntsAt w A l) (hlc : l.length ≤ cp) (hr : isRule m l = true) (hno : ¬ inFour m a b c d) :
    Calls Try.prog 31 #[.int .i64 m, .slice A l.length cp, .agg #[.int .i64 a, .int .i64 b, .int .i64 c, .int .i64 d]] w fun e w' => e = .returned (.tuple #[.bool false, .int .i64 2]) ∧ Below w.heap.size w w' := by
  obtain ⟨⟨m', e, hm1, hm⟩, _⟩ := isRule_range hr
  obtain rfl : m = m' := by omega
  clear e
  have HB : Off (∀ o, Below w.heap.size w (w.alloc o)) := ⟨fun o => (Below.refl _ _).alloc (Nat.le_refl _) _⟩
  have HC : Off (∀ W, Below w.heap.size w W → Calls Try.prog 54 #[.int .i64 m, .slice A l.length cp] W fun e w' => e = .returned (.bool true) ∧ Below W.heap.size W w') := ⟨fun W hW => hr ▸ ruled_any m l A cp W (hl.below hW) hlc⟩
  have HI := Off.mk (four_ints w a b c d)
  obtain ⟨u, hu⟩ : ∃ u, minTo (four a b c d) 3 = u := ⟨_, rfl⟩
  obtain ⟨v, hv⟩ : ∃ v, maxTo (four a b c d) 3 = v := ⟨_, rfl⟩
  have H4 : Off (∀ W, IntsAt W (some ⟨w.heap.size, 0, none⟩) (four a b c d) → Calls Try.prog 64 #[.slice (some ⟨w.heap.size, 0, none⟩) 4 4] W fun e w' => e = .returned (.int .i64 u) ∧ w' = W) := ⟨fun W hW => hu ▸ min_any (four a b c d) _ 4 3 W hW rfl⟩
  have H5 : Off (∀ W, IntsAt W (some ⟨w.heap.size, 0, none⟩) (four a b c d) → Calls Try.prog 65 #[.slice (some ⟨w.heap.size, 0, none⟩) 4 4] W fun e w' => e = .returned (.int .i64 v) ∧ w' = W) := ⟨fun W hW => hv ▸ max_any (four a b c d) _ 4 3 W hW rfl⟩
  have hp := pow_le m (by omega)
  have hw2 : IntKind.i64.wrap ((2 : Int) ^ m) = 2 ^ m := by rw [IntKind.wrap_i64]; omega
  by_cases h0 : u < 0
  · have h0' : decide (u < 0) = true := decide_eq_true h0
    clear hu hv hno
    go_enter Try.func31, Try.ntmps31
    go_wp2
    first
      | go_region_with (first
        | (go_at_call 54; refine (HC.out _ (HB.out _).drew).mono ?_; rintro e w1 ⟨rfl, hb1⟩)
        | (go_at_call 64; refine (H4.out _ ((HI.out.below (Below.refl _ _).drew).below hb1)).mono ?_; rintro e w2 ⟨rfl, rfl⟩))
      | fail
    all_goals go_wp2
    all_goals go_ret2
    all_goals exact ⟨rfl, belowC (HB.out _).drew hb1⟩
  · have h0' : decide (u < 0) = false := decide_eq_false h0
    by_cases h1 : 2 ^ m ≤ v
    · have h1' : decide (2 ^ m ≤ v) = true := decide_eq_true h1
      clear hu hv hno
      go_enter Try.func31, Try.ntmps31
      go_wp2
      first
        | go_region_with (first
          | (go_at_call 54; refine (HC.out _ (HB.out _).drew).mono ?_; rintro e w1 ⟨rfl, hb1⟩)
          | (go_at_call 64; refine (H4.out _ ((HI.out.below (Below.refl _ _).drew).below hb1)).mono ?_; rintro e w2 ⟨rfl, rfl⟩)
          | (go_at_call 65; refine (H5.out _ ((HI.out.below (Below.refl _ _).drew).below hb1)).mono ?_; rintro e w3 ⟨rfl, rfl⟩))
        | fail
      all_goals go_wp2
      all_goals go_ret2
      all_goals exact ⟨rfl, belowC (HB.out _).drew hb1⟩
    · exact (hno (min_four (by omega) (by omega))).elim
/-- Are four sets a trade, by their common drovers? -/
def tradeP (p : Int → Bool) (a b c d : Int) : Bool := p a && (p b && (!p c && (!p d && evenB a b c d)))

set_option maxHeartbeats 4000000 in
theorem IsTrade_in (m : Nat) (l : List Int) (a b c d : Int) (A : Option Addr) (cp : Nat) (w : World) (hl : IntsAt w A l) (hlc : l.length ≤ cp) (hr : isRule m l = true) (hin : inFour m a b c d) :
    Calls Try.prog 31 #[.int .i64 m, .slice A l.length cp, .agg #[.int .i64 a, .int .i64 b, .int .i64 c, .int .i64 d]] w fun e w' => e = .returned (.tuple #[.bool (tradeP (ruleB l) a b c d), .int .i64 0]) ∧ Below w.heap.size w w' := by
  obtain ⟨⟨m', e, hm1, hm⟩, _⟩ := isRule_range hr
  obtain rfl : m = m' := by omega
  clear e
  have HB : Off (∀ o, Below w.heap.size w (w.alloc o)) := ⟨fun o => (Below.refl _ _).alloc (Nat.le_refl _) _⟩
  have HC : Off (∀ W, Below w.heap.size w W → Calls Try.prog 54 #[.int .i64 m, .slice A l.length cp] W fun e w' => e = .returned (.bool true) ∧ Below W.heap.size W w') := ⟨fun W hW => hr ▸ ruled_any m l A cp W (hl.below hW) hlc⟩
  have HI := Off.mk (four_ints w a b c d)
  obtain ⟨u, hu⟩ : ∃ u, minTo (four a b c d) 3 = u := ⟨_, rfl⟩
  obtain ⟨v, hv⟩ : ∃ v, maxTo (four a b c d) 3 = v := ⟨_, rfl⟩
  have H4 : Off (∀ W, IntsAt W (some ⟨w.heap.size, 0, none⟩) (four a b c d) → Calls Try.prog 64 #[.slice (some ⟨w.heap.size, 0, none⟩) 4 4] W fun e w' => e = .returned (.int .i64 u) ∧ w' = W) := ⟨fun W hW => hu ▸ min_any (four a b c d) _ 4 3 W hW rfl⟩
  have H5 : Off (∀ W, IntsAt W (some ⟨w.heap.size, 0, none⟩) (four a b c d) → Calls Try.prog 65 #[.slice (some ⟨w.heap.size, 0, none⟩) 4 4] W fun e w' => e = .returned (.int .i64 v) ∧ w' = W) := ⟨fun W hW => hv ▸ max_any (four a b c d) _ 4 3 W hW rfl⟩
  have hp := pow_le m (by omega)
  have hw2 : IntKind.i64.wrap ((2 : Int) ^ m) = 2 ^ m := by rw [IntKind.wrap_i64]; omega
  have h0 : 0 ≤ u := by have := (four_min hin).1; omega
  have h1 : v < 2 ^ m := by have := (four_min hin).2; omega
  have h0' : decide (u < 0) = false := decide_eq_false (by omega)
  have h1' : decide (2 ^ m ≤ v) = false := decide_eq_false (by omega)
  have hsm := Off.mk (small_of hr)
  have hp5 := pow_32 (m := m) (by omega)
  obtain ⟨⟨i0, j0⟩, ⟨i1, j1⟩, ⟨i2, j2⟩, i3, j3⟩ := hin
  have sa : Set5 a := ⟨i0, by omega⟩
  have sb : Set5 b := ⟨i1, by omega⟩
  have sc : Set5 c := ⟨i2, by omega⟩
  have sd : Set5 d := ⟨i3, by omega⟩
  have HR : Off (∀ x z, Set5 x → ruleB l x = z → ∀ B1 W, Below w.heap.size w W → W.cell? ⟨B1, 0, none⟩ = some (.slice A l.length cp) → Calls Try.prog 75 #[.int .i64 x, .pointer (some ⟨B1, 0, none⟩)] W fun e w' => e = .returned (.bool z) ∧ Below W.heap.size W w') :=
    ⟨fun x z hx e B1 W hW hc => e ▸ rules1_any x l A cp B1 W (hl.below hW) hsm hx.lo (by have := hx.hi; omega) hc⟩
  have HE : Off (∀ z, evenB a b c d = z → ∀ W, Calls Try.prog 61 #[.agg #[.int .i64 a, .int .i64 b, .int .i64 c, .int .i64 d]] W fun e w' => e = .returned (.bool z) ∧ Below W.heap.size W w') :=
    ⟨fun z e W => e ▸ even_any a b c d sa.lo (by have := sa.hi; omega) sb.lo (by have := sb.hi; omega) sc.lo (by have := sc.hi; omega) sd.lo (by have := sd.hi; omega) W⟩
  have HT : Off (tradeP (ruleB l) a b c d = (ruleB l a && (ruleB l b && (!ruleB l c && (!ruleB l d && evenB a b c d))))) := ⟨rfl⟩
  clear hu hv i0 i1 i2 i3 j0 j1 j2 j3 h0 h1
  go_enter Try.func31, Try.ntmps31
  go_wp2
  first
    | go_region_with (first
      | (go_at_call 54; refine (HC.out _ (HB.out _).drew).mono ?_; rintro e w1 ⟨rfl, hb1⟩)
      | (go_at_call 64; refine (H4.out _ ((HI.out.below (Below.refl _ _).drew).below hb1)).mono ?_; rintro e w2 ⟨rfl, rfl⟩)
      | (go_at_call 65; refine (H5.out _ ((HI.out.below (Below.refl _ _).drew).below hb1)).mono ?_; rintro e w3 ⟨rfl, rfl⟩))
    | fail
  have B1 : Below w.heap.size w w3 := belowC (HB.out _).drew hb1
  have f0 : w3.cell? ⟨w.heap.size, 0, none⟩ = some (.int .i64 a) := cellB hb1 (cellB (Below.refl _ _).drew (four_cell w a b c d 0 (by omega)))
  have f1 : w3.cell? ⟨w.heap.size, 1, none⟩ = some (.int .i64 b) := cellB hb1 (cellB (Below.refl _ _).drew (four_cell w a b c d 1 (by omega)))
  have f2 : w3.cell? ⟨w.heap.size, 2, none⟩ = some (.int .i64 c) := cellB hb1 (cellB (Below.refl _ _).drew (four_cell w a b c d 2 (by omega)))
  have f3 : w3.cell? ⟨w.heap.size, 3, none⟩ = some (.int .i64 d) := cellB hb1 (cellB (Below.refl _ _).drew (four_cell w a b c d 3 (by omega)))
  clear hb1 HI H4 H5 HC h0' h1' hw2
  go_wp2_with fail
  refine (rules_any A l.length cp _).mono ?_
  rintro e w4 ⟨rfl, hc4, hb4⟩
  have f0 := cellB hb4 f0
  have f1 := cellB hb4 f1
  have f2 := cellB hb4 f2
  have f3 := cellB hb4 f3
  have B1 := belowC B1 hb4
  clear hb4
  obtain ⟨B, hB⟩ : ∃ B, B = w3.heap.size := ⟨_, rfl⟩
  rw [← hB] at hc4 ⊢
  clear hB
  cases pa : ruleB l a
  · have HF : Off (tradeP (ruleB l) a b c d = false) := ⟨by rw [HT.out, pa]; rfl⟩
    go_wp2_with (first | (go_at_call 75; refine (HR.out _ _ (by assumption) (by assumption) _ _ B1 hc4).mono ?_; rintro e w5 ⟨rfl, hb5⟩; have f0 := cellB hb5 f0; have f1 := cellB hb5 f1; have f2 := cellB hb5 f2; have f3 := cellB hb5 f3; have hc4 := cellB hb5 hc4; have B1 := belowC B1 hb5; clear hb5))
    go_ret2
    exact ⟨by rw [HF.out]; rfl, B1⟩
  · cases pb : ruleB l b
    · have HF : Off (tradeP (ruleB l) a b c d = false) := ⟨by rw [HT.out, pa, pb]; rfl⟩
      go_wp2_with (first | (go_at_call 75; refine (HR.out _ _ (by assumption) (by assumption) _ _ B1 hc4).mono ?_; rintro e w5 ⟨rfl, hb5⟩; have f0 := cellB hb5 f0; have f1 := cellB hb5 f1; have f2 := cellB hb5 f2; have f3 := cellB hb5 f3; have hc4 := cellB hb5 hc4; have B1 := belowC B1 hb5; clear hb5))
      go_ret2
      exact ⟨by rw [HF.out]; rfl, B1⟩
    · cases pc : ruleB l c
      · cases pd : ruleB l d
        · cases pe : evenB a b c d
          · have HF : Off (tradeP (ruleB l) a b c d = false) := ⟨by rw [HT.out, pa, pb, pc, pd, pe]; rfl⟩
            go_wp2_with (first | (go_at_call 75; refine (HR.out _ _ (by assumption) (by assumption) _ _ B1 hc4).mono ?_; rintro e w5 ⟨rfl, hb5⟩; have f0 := cellB hb5 f0; have f1 := cellB hb5 f1; have f2 := cellB hb5 f2; have f3 := cellB hb5 f3; have hc4 := cellB hb5 hc4; have B1 := belowC B1 hb5; clear hb5) | (go_at_call 61; refine (HE.out _ (by assumption) _).mono ?_; rintro e w6 ⟨rfl, hb6⟩; have B1 := belowC B1 hb6; clear hb6))
            go_ret2
            exact ⟨by rw [HF.out]; rfl, B1⟩
          · have HF : Off (tradeP (ruleB l) a b c d = true) := ⟨by rw [HT.out, pa, pb, pc, pd, pe]; rfl⟩
            go_wp2_with (first | (go_at_call 75; refine (HR.out _ _ (by assumption) (by assumption) _ _ B1 hc4).mono ?_; rintro e w5 ⟨rfl, hb5⟩; have f0 := cellB hb5 f0; have f1 := cellB hb5 f1; have f2 := cellB hb5 f2; have f3 := cellB hb5 f3; have hc4 := cellB hb5 hc4; have B1 := belowC B1 hb5; clear hb5) | (go_at_call 61; refine (HE.out _ (by assumption) _).mono ?_; rintro e w6 ⟨rfl, hb6⟩; have B1 := belowC B1 hb6; clear hb6))
            go_ret2
            exact ⟨by rw [HF.out]; rfl, B1⟩
        · have HF : Off (tradeP (ruleB l) a b c d = false) := ⟨by rw [HT.out, pa, pb, pc, pd]; rfl⟩
          go_wp2_with (first | (go_at_call 75; refine (HR.out _ _ (by assumption) (by assumption) _ _ B1 hc4).mono ?_; rintro e w5 ⟨rfl, hb5⟩; have f0 := cellB hb5 f0; have f1 := cellB hb5 f1; have f2 := cellB hb5 f2; have f3 := cellB hb5 f3; have hc4 := cellB hb5 hc4; have B1 := belowC B1 hb5; clear hb5))
          go_ret2
          exact ⟨by rw [HF.out]; rfl, B1⟩
      · have HF : Off (tradeP (ruleB l) a b c d = false) := ⟨by rw [HT.out, pa, pb, pc]; rfl⟩
        go_wp2_with (first | (go_at_call 75; refine (HR.out _ _ (by assumption) (by assumption) _ _ B1 hc4).mono ?_; rintro e w5 ⟨rfl, hb5⟩; have f0 := cellB hb5 f0; have f1 := cellB hb5 f1; have f2 := cellB hb5 f2; have f3 := cellB hb5 f3; have hc4 := cellB hb5 hc4; have B1 := belowC B1 hb5; clear hb5))
        go_ret2
        exact ⟨by rw [HF.out]; rfl, B1⟩
end Go.Proofs.Ytdbleghnblohgaa
