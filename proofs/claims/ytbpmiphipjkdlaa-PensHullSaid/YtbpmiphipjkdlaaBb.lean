/- Contracts of the specification: Cross, sign, InRange, On. -/
import Derived.Test.YtbpmiphipjkdlaaAt
import Derived.Lib.MinMax
namespace Go.Proofs.Ytbpmiphipjkdlaa
open Go.RowKit Go.Shelf

def crossR (a b c : Int × Int) : Int := (b.1 - a.1) * (c.2 - a.2) - (b.2 - a.2) * (c.1 - a.1)
def onR (a b p : Int × Int) : Bool := decide (crossR a b p = 0) && (decide (min a.1 b.1 ≤ p.1) && (decide (p.1 ≤ max a.1 b.1) && (decide (min a.2 b.2 ≤ p.2) && decide (p.2 ≤ max a.2 b.2))))
theorem new2 (w : World) (p : Int × Int) : (w.alloc (.cells #[.int .i64 p.1, .int .i64 p.2] 34)).heap[w.heap.size]? = some (.cells #[.int .i64 p.1, .int .i64 p.2] 34 (0, 0)) := block_new w _
/-- Three points in boxes. -/
structure Three (w : World) (B : Nat) (a b c : Int × Int) : Prop where
  ba : w.heap[B]? = some (.cells #[.int .i64 a.1, .int .i64 a.2] 34 (0, 0))
  bb : w.heap[B + 1]? = some (.cells #[.int .i64 b.1, .int .i64 b.2] 34 (0, 0))
  bc : w.heap[B + 2]? = some (.cells #[.int .i64 c.1, .int .i64 c.2] 34 (0, 0))
theorem Three.new (w : World) (a b c : Int × Int) : Three (((w.alloc (.cells #[.int .i64 a.1, .int .i64 a.2] 34)).alloc (.cells #[.int .i64 b.1, .int .i64 b.2] 34)).alloc (.cells #[.int .i64 c.1, .int .i64 c.2] 34)) w.heap.size a b c := by
  refine ⟨alloc_old (alloc_old (new2 w a)), ?_, ?_⟩
  · have := new2 (w.alloc (.cells #[.int .i64 a.1, .int .i64 a.2] 34)) b
    rw [World.size_alloc] at this
    exact alloc_old this
  · have := new2 ((w.alloc (.cells #[.int .i64 a.1, .int .i64 a.2] 34)).alloc (.cells #[.int .i64 b.1, .int .i64 b.2] 34)) c
    rwa [World.size_alloc, World.size_alloc] at this
theorem Three.below {w w1 : World} {B : Nat} {a b c : Int × Int} (h : Three w B a b c) (hb : Below w.heap.size w w1) : Three w1 B a b c := ⟨blockB hb h.ba, blockB hb h.bb, blockB hb h.bc⟩
theorem crossR_any (a b c : Int × Int) (ha : inB 2097152 a) (hb : inB 2097152 b) (hc : inB 2097152 c) (w : World) :
    Calls Try.prog 43 #[ptV a, ptV b, ptV c] w fun e w' => e = .returned (.int .i64 (crossR a b c)) ∧ Below w.heap.size w w' := by
  obtain ⟨W, hW⟩ : ∃ W, ((w.alloc (.cells #[.int .i64 a.1, .int .i64 a.2] 34)).alloc (.cells #[.int .i64 b.1, .int .i64 b.2] 34)).alloc (.cells #[.int .i64 c.1, .int .i64 c.2] 34) = W := ⟨_, rfl⟩
  have h3 := Three.new w a b c
  have hB := belowA (belowA (belowA (Below.refl _ w) (.cells #[.int .i64 a.1, .int .i64 a.2] 34)) (.cells #[.int .i64 b.1, .int .i64 b.2] 34)) (.cells #[.int .i64 c.1, .int .i64 c.2] 34)
  rw [hW] at h3 hB
  obtain ⟨⟨a0, a1⟩, _⟩ := two_facts h3.ba
  obtain ⟨⟨b0, b1⟩, _⟩ := two_facts h3.bb
  obtain ⟨⟨c0, c1⟩, _⟩ := two_facts h3.bc
  have HB := Off.mk hB
  clear h3 hB
  unfold inB at ha hb hc
  have m1 := mul_in (x := b.1 - a.1) (y := c.2 - a.2) (a := 4194304) (b := 4194304) (by omega) (by omega) (by omega) (by omega)
  have m2 := mul_in (x := b.2 - a.2) (y := c.1 - a.1) (a := 4194304) (b := 4194304) (by omega) (by omega) (by omega) (by omega)
  have w1 : IntKind.i64.wrap (b.1 - a.1) = b.1 - a.1 := by rw [IntKind.wrap_i64]; omega
  have w2 : IntKind.i64.wrap (c.2 - a.2) = c.2 - a.2 := by rw [IntKind.wrap_i64]; omega
  have w3 : IntKind.i64.wrap (b.2 - a.2) = b.2 - a.2 := by rw [IntKind.wrap_i64]; omega
  have w4 : IntKind.i64.wrap (c.1 - a.1) = c.1 - a.1 := by rw [IntKind.wrap_i64]; omega
  have w5 : IntKind.i64.wrap ((b.1 - a.1) * (c.2 - a.2)) = (b.1 - a.1) * (c.2 - a.2) := by rw [IntKind.wrap_i64]; omega
  have w6 : IntKind.i64.wrap ((b.2 - a.2) * (c.1 - a.1)) = (b.2 - a.2) * (c.1 - a.1) := by rw [IntKind.wrap_i64]; omega
  have w7 : IntKind.i64.wrap ((b.1 - a.1) * (c.2 - a.2) - (b.2 - a.2) * (c.1 - a.1)) = (b.1 - a.1) * (c.2 - a.2) - (b.2 - a.2) * (c.1 - a.1) := by rw [IntKind.wrap_i64]; omega
  clear m1 m2 ha hb hc
  go_enter Try.func43, Try.ntmps43
  go_wp2
  go_ret
  exact ⟨rfl, HB.out⟩
theorem signR_any (x v : Int) (hv : signI x = v) (w : World) : Calls Try.prog 88 #[.int .i64 x] w fun e w' => e = .returned (.int .i64 v) ∧ w' = w := by
  unfold signI at hv
  by_cases h1 : 0 < x
  · rw [if_pos h1] at hv
    subst hv
    go_enter Try.func88, Try.ntmps88
    go_wp2
    go_ret
    exact ⟨rfl, rfl⟩
  · rw [if_neg h1] at hv
    by_cases h2 : x < 0
    · rw [if_pos h2] at hv
      subst hv
      go_enter Try.func88, Try.ntmps88
      go_wp2
      go_ret
      exact ⟨rfl, rfl⟩
    · rw [if_neg h2] at hv
      subst hv
      go_enter Try.func88, Try.ntmps88
      go_wp2
      go_ret
      exact ⟨rfl, rfl⟩
theorem inRange_any (p : Int × Int) (v : Bool) (hv : decide (inB 50 p) = v) (w : World) : Calls Try.prog 24 #[ptV p] w fun e w' => e = .returned (.bool v) ∧ Below w.heap.size w w' := by
  obtain ⟨W, hW⟩ : ∃ W, w.alloc (.cells #[.int .i64 p.1, .int .i64 p.2] 34) = W := ⟨_, rfl⟩
  have h1 := new2 w p
  have hB := belowA (Below.refl _ w) (.cells #[.int .i64 p.1, .int .i64 p.2] 34)
  rw [hW] at h1 hB
  obtain ⟨⟨a0, a1⟩, _⟩ := two_facts h1
  have HB := Off.mk hB
  clear h1 hB
  by_cases k1 : -50 ≤ p.1
  · by_cases k2 : p.1 ≤ 50
    · by_cases k3 : -50 ≤ p.2
      · by_cases k4 : p.2 ≤ 50
        · obtain rfl : true = v := by rw [← hv, decide_eq_true (show inB 50 p by unfold inB; omega)]
          clear hv
          go_enter Try.func24, Try.ntmps24
          go_wp2
          go_ret
          exact ⟨rfl, HB.out⟩
        · obtain rfl : false = v := by rw [← hv, decide_eq_false (show ¬ inB 50 p by unfold inB; omega)]
          have d : decide (p.2 ≤ 50) = false := decide_eq_false k4
          clear hv k4
          go_enter Try.func24, Try.ntmps24
          go_wp2
          go_ret
          exact ⟨rfl, HB.out⟩
      · obtain rfl : false = v := by rw [← hv, decide_eq_false (show ¬ inB 50 p by unfold inB; omega)]
        have d : decide (-50 ≤ p.2) = false := decide_eq_false k3
        clear hv k3
        go_enter Try.func24, Try.ntmps24
        go_wp2
        go_ret
        exact ⟨rfl, HB.out⟩
    · obtain rfl : false = v := by rw [← hv, decide_eq_false (show ¬ inB 50 p by unfold inB; omega)]
      have d : decide (p.1 ≤ 50) = false := decide_eq_false k2
      clear hv k2
      go_enter Try.func24, Try.ntmps24
      go_wp2
      go_ret
      exact ⟨rfl, HB.out⟩
  · obtain rfl : false = v := by rw [← hv, decide_eq_false (show ¬ inB 50 p by unfold inB; omega)]
    have d : decide (-50 ≤ p.1) = false := decide_eq_false k1
    clear hv k1
    go_enter Try.func24, Try.ntmps24
    go_wp2
    go_ret
    exact ⟨rfl, HB.out⟩
theorem onR_any (a b p : Int × Int) (v : Bool) (hv : onR a b p = v) (ha : inB 2097152 a) (hb : inB 2097152 b) (hc : inB 2097152 p) (w : World) :
    Calls Try.prog 50 #[ptV a, ptV b, ptV p] w fun e w' => e = .returned (.bool v) ∧ Below w.heap.size w w' := by
  obtain ⟨W, hW⟩ : ∃ W, ((w.alloc (.cells #[.int .i64 a.1, .int .i64 a.2] 34)).alloc (.cells #[.int .i64 b.1, .int .i64 b.2] 34)).alloc (.cells #[.int .i64 p.1, .int .i64 p.2] 34) = W := ⟨_, rfl⟩
  have h3 := Three.new w a b p
  have hB := belowA (belowA (belowA (Below.refl _ w) (.cells #[.int .i64 a.1, .int .i64 a.2] 34)) (.cells #[.int .i64 b.1, .int .i64 b.2] 34)) (.cells #[.int .i64 p.1, .int .i64 p.2] 34)
  rw [hW] at h3 hB
  obtain ⟨⟨a0, a1⟩, _⟩ := two_facts h3.ba
  obtain ⟨⟨b0, b1⟩, _⟩ := two_facts h3.bb
  obtain ⟨⟨c0, c1⟩, _⟩ := two_facts h3.bc
  have C1 : Off (∀ U, Calls Try.prog 43 #[ptV a, ptV b, ptV p] U fun e w' => e = .returned (.int .i64 (crossR a b p)) ∧ Below U.heap.size U w') := ⟨fun U => crossR_any a b p ha hb hc U⟩
  unfold onR at hv
  obtain ⟨t, ht⟩ : ∃ t, crossR a b p = t := ⟨_, rfl⟩
  obtain ⟨m1, hm1⟩ : ∃ m, min a.1 b.1 = m := ⟨_, rfl⟩
  obtain ⟨m2, hm2⟩ : ∃ m, max a.1 b.1 = m := ⟨_, rfl⟩
  obtain ⟨m3, hm3⟩ : ∃ m, min a.2 b.2 = m := ⟨_, rfl⟩
  obtain ⟨m4, hm4⟩ : ∃ m, max a.2 b.2 = m := ⟨_, rfl⟩
  rw [ht] at C1 hv
  rw [hm1, hm2, hm3, hm4] at hv
  have HB := Off.mk hB
  have H3 := Off.mk h3
  clear h3 hB ha hb hc ht
  by_cases k0 : t = 0
  · by_cases k1 : m1 ≤ p.1
    · by_cases k2 : p.1 ≤ m2
      · by_cases k3 : m3 ≤ p.2
        · by_cases k4 : p.2 ≤ m4
          · obtain rfl : true = v := by rw [← hv]; simp [k0, k1, k2, k3, k4]
            clear hv
            have d0 : (t == 0) = true := by rw [k0]; rfl
            go_enter Try.func50, Try.ntmps50
            go_wp2_with fail
            try rw [hW]
            clear hW
            refine (C1.out _).mono ?_
            rintro e w1 ⟨rfl, hb1⟩
            obtain ⟨⟨a0, a1⟩, _⟩ := two_facts (H3.out.below hb1).ba
            obtain ⟨⟨b0, b1⟩, _⟩ := two_facts (H3.out.below hb1).bb
            obtain ⟨⟨c0, c1⟩, _⟩ := two_facts (H3.out.below hb1).bc
            have HB1 := Off.mk (belowC HB.out hb1)
            clear hb1
            go_wp2
            go_ret
            exact ⟨rfl, HB1.out⟩
          · obtain rfl : false = v := by rw [← hv, decide_eq_false k4]; simp
            have d0 : (t == 0) = true := by rw [k0]; rfl
            have d : decide (p.2 ≤ m4) = false := decide_eq_false k4
            clear hv k4
            go_enter Try.func50, Try.ntmps50
            go_wp2_with fail
            try rw [hW]
            clear hW
            refine (C1.out _).mono ?_
            rintro e w1 ⟨rfl, hb1⟩
            obtain ⟨⟨a0, a1⟩, _⟩ := two_facts (H3.out.below hb1).ba
            obtain ⟨⟨b0, b1⟩, _⟩ := two_facts (H3.out.below hb1).bb
            obtain ⟨⟨c0, c1⟩, _⟩ := two_facts (H3.out.below hb1).bc
            have HB1 := Off.mk (belowC HB.out hb1)
            clear hb1
            go_wp2
            go_ret
            exact ⟨rfl, HB1.out⟩
        · obtain rfl : false = v := by rw [← hv, decide_eq_false k3]; simp
          have d0 : (t == 0) = true := by rw [k0]; rfl
          have d : decide (m3 ≤ p.2) = false := decide_eq_false k3
          clear hv k3
          go_enter Try.func50, Try.ntmps50
          go_wp2_with fail
          try rw [hW]
          clear hW
          refine (C1.out _).mono ?_
          rintro e w1 ⟨rfl, hb1⟩
          obtain ⟨⟨a0, a1⟩, _⟩ := two_facts (H3.out.below hb1).ba
          obtain ⟨⟨b0, b1⟩, _⟩ := two_facts (H3.out.below hb1).bb
          obtain ⟨⟨c0, c1⟩, _⟩ := two_facts (H3.out.below hb1).bc
          have HB1 := Off.mk (belowC HB.out hb1)
          clear hb1
          go_wp2
          go_ret
          exact ⟨rfl, HB1.out⟩
      · obtain rfl : false = v := by rw [← hv, decide_eq_false k2]; simp
        have d0 : (t == 0) = true := by rw [k0]; rfl
        have d : decide (p.1 ≤ m2) = false := decide_eq_false k2
        clear hv k2
        go_enter Try.func50, Try.ntmps50
        go_wp2_with fail
        try rw [hW]
        clear hW
        refine (C1.out _).mono ?_
        rintro e w1 ⟨rfl, hb1⟩
        obtain ⟨⟨a0, a1⟩, _⟩ := two_facts (H3.out.below hb1).ba
        obtain ⟨⟨b0, b1⟩, _⟩ := two_facts (H3.out.below hb1).bb
        obtain ⟨⟨c0, c1⟩, _⟩ := two_facts (H3.out.below hb1).bc
        have HB1 := Off.mk (belowC HB.out hb1)
        clear hb1
        go_wp2
        go_ret
        exact ⟨rfl, HB1.out⟩
    · obtain rfl : false = v := by rw [← hv, decide_eq_false k1]; simp
      have d0 : (t == 0) = true := by rw [k0]; rfl
      have d : decide (m1 ≤ p.1) = false := decide_eq_false k1
      clear hv k1
      go_enter Try.func50, Try.ntmps50
      go_wp2_with fail
      try rw [hW]
      clear hW
      refine (C1.out _).mono ?_
      rintro e w1 ⟨rfl, hb1⟩
      obtain ⟨⟨a0, a1⟩, _⟩ := two_facts (H3.out.below hb1).ba
      obtain ⟨⟨b0, b1⟩, _⟩ := two_facts (H3.out.below hb1).bb
      obtain ⟨⟨c0, c1⟩, _⟩ := two_facts (H3.out.below hb1).bc
      have HB1 := Off.mk (belowC HB.out hb1)
      clear hb1
      go_wp2
      go_ret
      exact ⟨rfl, HB1.out⟩
  · obtain rfl : false = v := by rw [← hv, decide_eq_false k0]; simp
    have d0 : (t == 0) = false := by simpa using k0
    clear hv k0
    go_enter Try.func50, Try.ntmps50
    go_wp2_with fail
    try rw [hW]
    clear hW
    refine (C1.out _).mono ?_
    rintro e w1 ⟨rfl, hb1⟩
    obtain ⟨⟨a0, a1⟩, _⟩ := two_facts (H3.out.below hb1).ba
    obtain ⟨⟨b0, b1⟩, _⟩ := two_facts (H3.out.below hb1).bb
    obtain ⟨⟨c0, c1⟩, _⟩ := two_facts (H3.out.below hb1).bc
    have HB1 := Off.mk (belowC HB.out hb1)
    clear hb1
    go_wp2
    go_ret
    exact ⟨rfl, HB1.out⟩
end Go.Proofs.Ytbpmiphipjkdlaa
