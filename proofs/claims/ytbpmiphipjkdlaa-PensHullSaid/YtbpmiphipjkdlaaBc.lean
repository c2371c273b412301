/- Contracts of the specification: meet. -/
import Derived.Test.YtbpmiphipjkdlaaBb
namespace Go.Proofs.Ytbpmiphipjkdlaa
open Go.RowKit Go.Shelf

def meetR (a b c d : Int × Int) : Bool := onR a b c || onR a b d || onR c d a || onR c d b || (decide (signI (crossR a b c) * signI (crossR a b d) < 0) && decide (signI (crossR c d a) * signI (crossR c d b) < 0))
theorem signI_in (x : Int) : -1 ≤ signI x ∧ signI x ≤ 1 := by
  unfold signI
  split
  · omega
  · split <;> omega
/-- Four points in boxes. -/
structure Four (w : World) (B : Nat) (a b c d : Int × Int) : Prop where
  t : Three w B a b c
  bd : w.heap[B + 3]? = some (.cells #[.int .i64 d.1, .int .i64 d.2] 34 (0, 0))
theorem Four.below {w w1 : World} {B : Nat} {a b c d : Int × Int} (h : Four w B a b c d) (hb : Below w.heap.size w w1) : Four w1 B a b c d := ⟨h.t.below hb, blockB hb h.bd⟩
theorem Four.new (w : World) (a b c d : Int × Int) : Four ((((w.alloc (.cells #[.int .i64 a.1, .int .i64 a.2] 34)).alloc (.cells #[.int .i64 b.1, .int .i64 b.2] 34)).alloc (.cells #[.int .i64 c.1, .int .i64 c.2] 34)).alloc (.cells #[.int .i64 d.1, .int .i64 d.2] 34)) w.heap.size a b c d := by
  refine ⟨(Three.new w a b c).below ((Below.refl _ _).alloc (Nat.le_refl _) _), ?_⟩
  have := new2 (((w.alloc (.cells #[.int .i64 a.1, .int .i64 a.2] 34)).alloc (.cells #[.int .i64 b.1, .int .i64 b.2] 34)).alloc (.cells #[.int .i64 c.1, .int .i64 c.2] 34)) d
  rwa [World.size_alloc, World.size_alloc, World.size_alloc] at this
theorem Four.facts {w : World} {B : Nat} {a b c d : Int × Int} (h : Four w B a b c d) :
    ((w.cell? ⟨B, 0, none⟩ = some (.int .i64 a.1) ∧ w.cell? ⟨B, 1, none⟩ = some (.int .i64 a.2)) ∧ w.cell? ⟨B + 1, 0, none⟩ = some (.int .i64 b.1) ∧ w.cell? ⟨B + 1, 1, none⟩ = some (.int .i64 b.2)) ∧
    (w.cell? ⟨B + 2, 0, none⟩ = some (.int .i64 c.1) ∧ w.cell? ⟨B + 2, 1, none⟩ = some (.int .i64 c.2)) ∧ w.cell? ⟨B + 3, 0, none⟩ = some (.int .i64 d.1) ∧ w.cell? ⟨B + 3, 1, none⟩ = some (.int .i64 d.2) :=
  ⟨⟨(two_facts h.t.ba).1, (two_facts h.t.bb).1⟩, (two_facts h.t.bc).1, (two_facts h.bd).1⟩
set_option maxHeartbeats 2000000 in
theorem meetR_on1 (a b c d : Int × Int) (q0 : onR a b c = true) (h1 : inB 2097152 a) (h2 : inB 2097152 b) (h3 : inB 2097152 c) (_ : inB 2097152 d) (w : World) : Calls Try.prog 51 #[ptV a, ptV b, ptV c, ptV d] w fun e w' => e = .returned (.bool true) ∧ Below w.heap.size w w' := by
  have b1 := Four.new w a b c d
  have hB := belowA (belowA (belowA (belowA (Below.refl w.heap.size w) (.cells #[.int .i64 a.1, .int .i64 a.2] 34)) (.cells #[.int .i64 b.1, .int .i64 b.2] 34)) (.cells #[.int .i64 c.1, .int .i64 c.2] 34)) (.cells #[.int .i64 d.1, .int .i64 d.2] 34)
  obtain ⟨W, hW⟩ : ∃ W, W = (((w.alloc (.cells #[.int .i64 a.1, .int .i64 a.2] 34)).alloc (.cells #[.int .i64 b.1, .int .i64 b.2] 34)).alloc (.cells #[.int .i64 c.1, .int .i64 c.2] 34)).alloc (.cells #[.int .i64 d.1, .int .i64 d.2] 34) := ⟨_, rfl⟩
  rw [← hW] at b1 hB
  have HB0 := Off.mk hB
  have HW := Off.mk hW
  have HBX := Off.mk b1
  have C0 := Off.mk (fun W => onR_any a b c true q0 h1 h2 h3 W)
  clear b1 hB hW h1 h2 h3 q0
  go_enter Try.func51, Try.ntmps51
  obtain ⟨⟨⟨x0, x1⟩, x2, x3⟩, ⟨z0, z1⟩, z2, z3⟩ := HBX.out.facts
  go_wp2_with fail
  rw [← HW.out]
  refine (C0.out _).mono ?_
  rintro e w1 ⟨rfl, hb1⟩
  have HB1 := Off.mk (belowC HB0.out hb1)
  have HK1 : Off (Below W.heap.size W w1) := ⟨hb1⟩
  clear hb1 C0 x0 x1 x2 x3 z0 z1 z2 z3
  go_wp2
  go_ret
  exact ⟨rfl, HB1.out⟩
set_option maxHeartbeats 2000000 in
theorem meetR_on2 (a b c d : Int × Int) (q0 : onR a b c = false) (q1 : onR a b d = true) (h1 : inB 2097152 a) (h2 : inB 2097152 b) (h3 : inB 2097152 c) (h4 : inB 2097152 d) (w : World) : Calls Try.prog 51 #[ptV a, ptV b, ptV c, ptV d] w fun e w' => e = .returned (.bool true) ∧ Below w.heap.size w w' := by
  have b1 := Four.new w a b c d
  have hB := belowA (belowA (belowA (belowA (Below.refl w.heap.size w) (.cells #[.int .i64 a.1, .int .i64 a.2] 34)) (.cells #[.int .i64 b.1, .int .i64 b.2] 34)) (.cells #[.int .i64 c.1, .int .i64 c.2] 34)) (.cells #[.int .i64 d.1, .int .i64 d.2] 34)
  obtain ⟨W, hW⟩ : ∃ W, W = (((w.alloc (.cells #[.int .i64 a.1, .int .i64 a.2] 34)).alloc (.cells #[.int .i64 b.1, .int .i64 b.2] 34)).alloc (.cells #[.int .i64 c.1, .int .i64 c.2] 34)).alloc (.cells #[.int .i64 d.1, .int .i64 d.2] 34) := ⟨_, rfl⟩
  rw [← hW] at b1 hB
  have HB0 := Off.mk hB
  have HW := Off.mk hW
  have HBX := Off.mk b1
  have C0 := Off.mk (fun W => onR_any a b c false q0 h1 h2 h3 W)
  have C1 := Off.mk (fun W => onR_any a b d true q1 h1 h2 h4 W)
  clear b1 hB hW h1 h2 h3 h4 q0 q1
  go_enter Try.func51, Try.ntmps51
  obtain ⟨⟨⟨x0, x1⟩, x2, x3⟩, ⟨z0, z1⟩, z2, z3⟩ := HBX.out.facts
  go_wp2_with fail
  rw [← HW.out]
  refine (C0.out _).mono ?_
  rintro e w1 ⟨rfl, hb1⟩
  have HB1 := Off.mk (belowC HB0.out hb1)
  have HK1 : Off (Below W.heap.size W w1) := ⟨hb1⟩
  clear hb1 C0 x0 x1 x2 x3 z0 z1 z2 z3
  obtain ⟨⟨⟨x0, x1⟩, x2, x3⟩, ⟨z0, z1⟩, z2, z3⟩ := (HBX.out.below HK1.out).facts
  go_wp2_with fail
  refine (C1.out _).mono ?_
  rintro e w2 ⟨rfl, hb2⟩
  have HB2 := Off.mk (belowC HB1.out hb2)
  have HK2 := Off.mk (belowC HK1.out hb2)
  clear hb2 C1 x0 x1 x2 x3 z0 z1 z2 z3
  go_wp2
  go_ret
  exact ⟨rfl, HB2.out⟩
set_option maxHeartbeats 2000000 in
theorem meetR_on3 (a b c d : Int × Int) (q0 : onR a b c = false) (q1 : onR a b d = false) (q2 : onR c d a = true) (h1 : inB 2097152 a) (h2 : inB 2097152 b) (h3 : inB 2097152 c) (h4 : inB 2097152 d) (w : World) : Calls Try.prog 51 #[ptV a, ptV b, ptV c, ptV d] w fun e w' => e = .returned (.bool true) ∧ Below w.heap.size w w' := by
  have b1 := Four.new w a b c d
  have hB := belowA (belowA (belowA (belowA (Below.refl w.heap.size w) (.cells #[.int .i64 a.1, .int .i64 a.2] 34)) (.cells #[.int .i64 b.1, .int .i64 b.2] 34)) (.cells #[.int .i64 c.1, .int .i64 c.2] 34)) (.cells #[.int .i64 d.1, .int .i64 d.2] 34)
  obtain ⟨W, hW⟩ : ∃ W, W = (((w.alloc (.cells #[.int .i64 a.1, .int .i64 a.2] 34)).alloc (.cells #[.int .i64 b.1, .int .i64 b.2] 34)).alloc (.cells #[.int .i64 c.1, .int .i64 c.2] 34)).alloc (.cells #[.int .i64 d.1, .int .i64 d.2] 34) := ⟨_, rfl⟩
  rw [← hW] at b1 hB
  have HB0 := Off.mk hB
  have HW := Off.mk hW
  have HBX := Off.mk b1
  have C0 := Off.mk (fun W => onR_any a b c false q0 h1 h2 h3 W)
  have C1 := Off.mk (fun W => onR_any a b d false q1 h1 h2 h4 W)
  have C2 := Off.mk (fun W => onR_any c d a true q2 h3 h4 h1 W)
  clear b1 hB hW h1 h2 h3 h4 q0 q1 q2
  go_enter Try.func51, Try.ntmps51
  obtain ⟨⟨⟨x0, x1⟩, x2, x3⟩, ⟨z0, z1⟩, z2, z3⟩ := HBX.out.facts
  go_wp2_with fail
  rw [← HW.out]
  refine (C0.out _).mono ?_
  rintro e w1 ⟨rfl, hb1⟩
  have HB1 := Off.mk (belowC HB0.out hb1)
  have HK1 : Off (Below W.heap.size W w1) := ⟨hb1⟩
  clear hb1 C0 x0 x1 x2 x3 z0 z1 z2 z3
  obtain ⟨⟨⟨x0, x1⟩, x2, x3⟩, ⟨z0, z1⟩, z2, z3⟩ := (HBX.out.below HK1.out).facts
  go_wp2_with fail
  refine (C1.out _).mono ?_
  rintro e w2 ⟨rfl, hb2⟩
  have HB2 := Off.mk (belowC HB1.out hb2)
  have HK2 := Off.mk (belowC HK1.out hb2)
  clear hb2 C1 x0 x1 x2 x3 z0 z1 z2 z3
  obtain ⟨⟨⟨x0, x1⟩, x2, x3⟩, ⟨z0, z1⟩, z2, z3⟩ := (HBX.out.below HK2.out).facts
  go_wp2_with fail
  refine (C2.out _).mono ?_
  rintro e w3 ⟨rfl, hb3⟩
  have HB3 := Off.mk (belowC HB2.out hb3)
  have HK3 := Off.mk (belowC HK2.out hb3)
  clear hb3 C2 x0 x1 x2 x3 z0 z1 z2 z3
  go_wp2
  go_ret
  exact ⟨rfl, HB3.out⟩
set_option maxHeartbeats 2000000 in
theorem meetR_on4 (a b c d : Int × Int) (q0 : onR a b c = false) (q1 : onR a b d = false) (q2 : onR c d a = false) (q3 : onR c d b = true) (h1 : inB 2097152 a) (h2 : inB 2097152 b) (h3 : inB 2097152 c) (h4 : inB 2097152 d) (w : World) : Calls Try.prog 51 #[ptV a, ptV b, ptV c, ptV d] w fun e w' => e = .returned (.bool true) ∧ Below w.heap.size w w' := by
  have b1 := Four.new w a b c d
  have hB := belowA (belowA (belowA (belowA (Below.refl w.heap.size w) (.cells #[.int .i64 a.1, .int .i64 a.2] 34)) (.cells #[.int .i64 b.1, .int .i64 b.2] 34)) (.cells #[.int .i64 c.1, .int .i64 c.2] 34)) (.cells #[.int .i64 d.1, .int .i64 d.2] 34)
  obtain ⟨W, hW⟩ : ∃ W, W = (((w.alloc (.cells #[.int .i64 a.1, .int .i64 a.2] 34)).alloc (.cells #[.int .i64 b.1, .int .i64 b.2] 34)).alloc (.cells #[.int .i64 c.1, .int .i64 c.2] 34)).alloc (.cells #[.int .i64 d.1, .int .i64 d.2] 34) := ⟨_, rfl⟩
  rw [← hW] at b1 hB
  have HB0 := Off.mk hB
  have HW := Off.mk hW
  have HBX := Off.mk b1
  have C0 := Off.mk (fun W => onR_any a b c false q0 h1 h2 h3 W)
  have C1 := Off.mk (fun W => onR_any a b d false q1 h1 h2 h4 W)
  have C2 := Off.mk (fun W => onR_any c d a false q2 h3 h4 h1 W)
  have C3 := Off.mk (fun W => onR_any c d b true q3 h3 h4 h2 W)
  clear b1 hB hW h1 h2 h3 h4 q0 q1 q2 q3
  go_enter Try.func51, Try.ntmps51
  obtain ⟨⟨⟨x0, x1⟩, x2, x3⟩, ⟨z0, z1⟩, z2, z3⟩ := HBX.out.facts
  go_wp2_with fail
  rw [← HW.out]
  refine (C0.out _).mono ?_
  rintro e w1 ⟨rfl, hb1⟩
  have HB1 := Off.mk (belowC HB0.out hb1)
  have HK1 : Off (Below W.heap.size W w1) := ⟨hb1⟩
  clear hb1 C0 x0 x1 x2 x3 z0 z1 z2 z3
  obtain ⟨⟨⟨x0, x1⟩, x2, x3⟩, ⟨z0, z1⟩, z2, z3⟩ := (HBX.out.below HK1.out).facts
  go_wp2_with fail
  refine (C1.out _).mono ?_
  rintro e w2 ⟨rfl, hb2⟩
  have HB2 := Off.mk (belowC HB1.out hb2)
  have HK2 := Off.mk (belowC HK1.out hb2)
  clear hb2 C1 x0 x1 x2 x3 z0 z1 z2 z3
  obtain ⟨⟨⟨x0, x1⟩, x2, x3⟩, ⟨z0, z1⟩, z2, z3⟩ := (HBX.out.below HK2.out).facts
  go_wp2_with fail
  refine (C2.out _).mono ?_
  rintro e w3 ⟨rfl, hb3⟩
  have HB3 := Off.mk (belowC HB2.out hb3)
  have HK3 := Off.mk (belowC HK2.out hb3)
  clear hb3 C2 x0 x1 x2 x3 z0 z1 z2 z3
  obtain ⟨⟨⟨x0, x1⟩, x2, x3⟩, ⟨z0, z1⟩, z2, z3⟩ := (HBX.out.below HK3.out).facts
  go_wp2_with fail
  refine (C3.out _).mono ?_
  rintro e w4 ⟨rfl, hb4⟩
  have HB4 := Off.mk (belowC HB3.out hb4)
  have HK4 := Off.mk (belowC HK3.out hb4)
  clear hb4 C3 x0 x1 x2 x3 z0 z1 z2 z3
  go_wp2
  go_ret
  exact ⟨rfl, HB4.out⟩
set_option maxHeartbeats 2000000 in
theorem meetR_c1 (a b c d : Int × Int) (q0 : onR a b c = false) (q1 : onR a b d = false) (q2 : onR c d a = false) (q3 : onR c d b = false) (k0 : decide (signI (crossR a b c) * signI (crossR a b d) < 0) = false) (h1 : inB 2097152 a) (h2 : inB 2097152 b) (h3 : inB 2097152 c) (h4 : inB 2097152 d) (w : World) : Calls Try.prog 51 #[ptV a, ptV b, ptV c, ptV d] w fun e w' => e = .returned (.bool false) ∧ Below w.heap.size w w' := by
  have b1 := Four.new w a b c d
  have hB := belowA (belowA (belowA (belowA (Below.refl w.heap.size w) (.cells #[.int .i64 a.1, .int .i64 a.2] 34)) (.cells #[.int .i64 b.1, .int .i64 b.2] 34)) (.cells #[.int .i64 c.1, .int .i64 c.2] 34)) (.cells #[.int .i64 d.1, .int .i64 d.2] 34)
  obtain ⟨W, hW⟩ : ∃ W, W = (((w.alloc (.cells #[.int .i64 a.1, .int .i64 a.2] 34)).alloc (.cells #[.int .i64 b.1, .int .i64 b.2] 34)).alloc (.cells #[.int .i64 c.1, .int .i64 c.2] 34)).alloc (.cells #[.int .i64 d.1, .int .i64 d.2] 34) := ⟨_, rfl⟩
  rw [← hW] at b1 hB
  have HB0 := Off.mk hB
  have HW := Off.mk hW
  have HBX := Off.mk b1
  have C0 := Off.mk (fun W => onR_any a b c false q0 h1 h2 h3 W)
  have C1 := Off.mk (fun W => onR_any a b d false q1 h1 h2 h4 W)
  have C2 := Off.mk (fun W => onR_any c d a false q2 h3 h4 h1 W)
  have C3 := Off.mk (fun W => onR_any c d b false q3 h3 h4 h2 W)
  have T0 := Off.mk (fun W => crossR_any a b c h1 h2 h3 W)
  have T1 := Off.mk (fun W => crossR_any a b d h1 h2 h4 W)
  obtain ⟨t0, ht0⟩ : ∃ x, x = crossR a b c := ⟨_, rfl⟩
  obtain ⟨t1, ht1⟩ : ∃ x, x = crossR a b d := ⟨_, rfl⟩
  rw [← ht0] at T0
  rw [← ht1] at T1
  obtain ⟨g0, hg0⟩ : ∃ x, signI t0 = x := ⟨_, rfl⟩
  have G0 := Off.mk (fun W => signR_any t0 g0 hg0 W)
  have gb0 := signI_in t0
  rw [hg0] at gb0
  obtain ⟨g1, hg1⟩ : ∃ x, signI t1 = x := ⟨_, rfl⟩
  have G1 := Off.mk (fun W => signR_any t1 g1 hg1 W)
  have gb1 := signI_in t1
  rw [hg1] at gb1
  rw [← ht0, ← ht1, hg0, hg1] at k0
  have W0 : IntKind.i64.wrap (g0 * g1) = g0 * g1 := by have := mul_in gb0 gb1 (by decide) (by decide); rw [IntKind.wrap_i64]; omega
  clear b1 hB hW h1 h2 h3 h4 q0 q1 q2 q3 ht0 hg0 gb0 ht1 hg1 gb1
  go_enter Try.func51, Try.ntmps51
  obtain ⟨⟨⟨x0, x1⟩, x2, x3⟩, ⟨z0, z1⟩, z2, z3⟩ := HBX.out.facts
  go_wp2_with fail
  rw [← HW.out]
  refine (C0.out _).mono ?_
  rintro e w1 ⟨rfl, hb1⟩
  have HB1 := Off.mk (belowC HB0.out hb1)
  have HK1 : Off (Below W.heap.size W w1) := ⟨hb1⟩
  clear hb1 C0 x0 x1 x2 x3 z0 z1 z2 z3
  obtain ⟨⟨⟨x0, x1⟩, x2, x3⟩, ⟨z0, z1⟩, z2, z3⟩ := (HBX.out.below HK1.out).facts
  go_wp2_with fail
  refine (C1.out _).mono ?_
  rintro e w2 ⟨rfl, hb2⟩
  have HB2 := Off.mk (belowC HB1.out hb2)
  have HK2 := Off.mk (belowC HK1.out hb2)
  clear hb2 C1 x0 x1 x2 x3 z0 z1 z2 z3
  obtain ⟨⟨⟨x0, x1⟩, x2, x3⟩, ⟨z0, z1⟩, z2, z3⟩ := (HBX.out.below HK2.out).facts
  go_wp2_with fail
  refine (C2.out _).mono ?_
  rintro e w3 ⟨rfl, hb3⟩
  have HB3 := Off.mk (belowC HB2.out hb3)
  have HK3 := Off.mk (belowC HK2.out hb3)
  clear hb3 C2 x0 x1 x2 x3 z0 z1 z2 z3
  obtain ⟨⟨⟨x0, x1⟩, x2, x3⟩, ⟨z0, z1⟩, z2, z3⟩ := (HBX.out.below HK3.out).facts
  go_wp2_with fail
  refine (C3.out _).mono ?_
  rintro e w4 ⟨rfl, hb4⟩
  have HB4 := Off.mk (belowC HB3.out hb4)
  have HK4 := Off.mk (belowC HK3.out hb4)
  clear hb4 C3 x0 x1 x2 x3 z0 z1 z2 z3
  obtain ⟨⟨⟨x0, x1⟩, x2, x3⟩, ⟨z0, z1⟩, z2, z3⟩ := (HBX.out.below HK4.out).facts
  go_wp2
  refine wp_region_held_drew (S := (fun w' => ((w'.cell? ⟨w.heap.size, 0, none⟩ = some (.int .i64 a.1) ∧ w'.cell? ⟨w.heap.size, 1, none⟩ = some (.int .i64 a.2)) ∧ (w'.cell? ⟨w.heap.size + 1, 0, none⟩ = some (.int .i64 b.1) ∧ w'.cell? ⟨w.heap.size + 1, 1, none⟩ = some (.int .i64 b.2))) ∧ ((w'.cell? ⟨w.heap.size + 2, 0, none⟩ = some (.int .i64 c.1) ∧ w'.cell? ⟨w.heap.size + 2, 1, none⟩ = some (.int .i64 c.2)) ∧ (w'.cell? ⟨w.heap.size + 3, 0, none⟩ = some (.int .i64 d.1) ∧ w'.cell? ⟨w.heap.size + 3, 1, none⟩ = some (.int .i64 d.2))))) (by kernel_rfl) ⟨⟨⟨x0, x1⟩, x2, x3⟩, ⟨z0, z1⟩, z2, z3⟩ (fun hHeld => ?_)
  refine wpAnyH_take (i := 0) (oi := ⟨some 31, _, _, _, _, _⟩) (v := ?_) rfl (by kernel_rfl) (by kernel_rfl) (by kernel_rfl) (fun _ _ _ h => h) (Or.inl ⟨by rfl, by intro w hSw; (try dsimp only at hSw); go_simp; try with_reducible rfl⟩) hHeld ?_
  try simp only [Act.put, List.setIfInBounds_toArray, List.set_cons_zero, List.set_cons_succ]
  refine wpAnyH_take (i := 1) (oi := ⟨some 32, _, _, _, _, _⟩) (v := ?_) rfl (by kernel_rfl) (by kernel_rfl) (by kernel_rfl) (fun _ _ _ h => h) (Or.inl ⟨by rfl, by intro w hSw; (try dsimp only at hSw); go_simp; try with_reducible rfl⟩) hHeld ?_
  try simp only [Act.put, List.setIfInBounds_toArray, List.set_cons_zero, List.set_cons_succ]
  refine wpAnyH_take (i := 2) (oi := ⟨some 33, _, _, _, _, _⟩) (v := ?_) rfl (by kernel_rfl) (by kernel_rfl) (by kernel_rfl) (fun _ _ _ h => h) (Or.inl ⟨by rfl, by intro w hSw; (try dsimp only at hSw); go_simp; try with_reducible rfl⟩) hHeld ?_
  try simp only [Act.put, List.setIfInBounds_toArray, List.set_cons_zero, List.set_cons_succ]
  refine wpAnyH_take (i := 5) (oi := ⟨some 36, _, _, _, _, _⟩) (v := ?_) rfl (by kernel_rfl) (by kernel_rfl) (by kernel_rfl) (fun _ _ _ h => h) (Or.inl ⟨by rfl, by intro w hSw; (try dsimp only at hSw); go_simp; try with_reducible rfl⟩) hHeld ?_
  try simp only [Act.put, List.setIfInBounds_toArray, List.set_cons_zero, List.set_cons_succ]
  refine wpAnyH_take (i := 6) (oi := ⟨some 37, _, _, _, _, _⟩) (v := ?_) rfl (by kernel_rfl) (by kernel_rfl) (by kernel_rfl) (fun _ _ _ h => h) (Or.inl ⟨by rfl, by intro w hSw; (try dsimp only at hSw); go_simp; try with_reducible rfl⟩) hHeld ?_
  try simp only [Act.put, List.setIfInBounds_toArray, List.set_cons_zero, List.set_cons_succ]
  refine wpAnyH_take (i := 7) (oi := ⟨some 38, _, _, _, _, _⟩) (v := ?_) rfl (by kernel_rfl) (by kernel_rfl) (by kernel_rfl) (fun _ _ _ h => h) (Or.inl ⟨by rfl, by intro w hSw; (try dsimp only at hSw); go_simp; try with_reducible rfl⟩) hHeld ?_
  try simp only [Act.put, List.setIfInBounds_toArray, List.set_cons_zero, List.set_cons_succ]
  refine wpAnyH_ready (rs := [3]) (by kernel_rfl) (by simp) ?_
  refine AllReadyH.cons (o := ⟨some 34, _, _, _, _, _⟩) rfl (fun K hK => ?_) AllReadyH.nil
  go_simp
  go_at_call 43
  refine (T0.out _).mono ?_
  rintro e y3 ⟨rfl, hc3⟩
  have E1 := Off.mk (belowC (below_drew HB4.out) hc3)
  go_wp2_with fail
  refine hK.out _ _ ⟨⟨⟨cellB hc3 hHeld.1.1.1, cellB hc3 hHeld.1.1.2⟩, cellB hc3 hHeld.1.2.1, cellB hc3 hHeld.1.2.2⟩, ⟨cellB hc3 hHeld.2.1.1, cellB hc3 hHeld.2.1.2⟩, cellB hc3 hHeld.2.2.1, cellB hc3 hHeld.2.2.2⟩ (fun hHeld => ?_)
  clear hK K
  try simp only [Act.put, List.setIfInBounds_toArray, List.set_cons_zero, List.set_cons_succ]
  refine wpAnyH_ready (rs := [4]) (by kernel_rfl) (by simp) ?_
  refine AllReadyH.cons (o := ⟨some 35, _, _, _, _, _⟩) rfl (fun K hK => ?_) AllReadyH.nil
  go_simp
  go_at_call 88
  refine (G0.out _).mono ?_
  rintro e y4 ⟨rfl, hc4⟩
  subst y4
  go_wp2_with fail
  refine hK.out _ _ hHeld (fun hHeld => ?_)
  clear hK K
  try simp only [Act.put, List.setIfInBounds_toArray, List.set_cons_zero, List.set_cons_succ]
  refine wpAnyH_ready (rs := [8]) (by kernel_rfl) (by simp) ?_
  refine AllReadyH.cons (o := ⟨some 39, _, _, _, _, _⟩) rfl (fun K hK => ?_) AllReadyH.nil
  go_simp
  go_at_call 43
  refine (T1.out _).mono ?_
  rintro e y8 ⟨rfl, hc8⟩
  have E2 := Off.mk (belowC E1.out hc8)
  go_wp2_with fail
  refine hK.out _ _ ⟨⟨⟨cellB hc8 hHeld.1.1.1, cellB hc8 hHeld.1.1.2⟩, cellB hc8 hHeld.1.2.1, cellB hc8 hHeld.1.2.2⟩, ⟨cellB hc8 hHeld.2.1.1, cellB hc8 hHeld.2.1.2⟩, cellB hc8 hHeld.2.2.1, cellB hc8 hHeld.2.2.2⟩ (fun hHeld => ?_)
  clear hK K
  try simp only [Act.put, List.setIfInBounds_toArray, List.set_cons_zero, List.set_cons_succ]
  refine wpAnyH_ready (rs := [9]) (by kernel_rfl) (by simp) ?_
  refine AllReadyH.cons (o := ⟨some 40, _, _, _, _, _⟩) rfl (fun K hK => ?_) AllReadyH.nil
  go_simp
  go_at_call 88
  refine (G1.out _).mono ?_
  rintro e y9 ⟨rfl, hc9⟩
  subst y9
  go_wp2_with fail
  refine hK.out _ _ hHeld (fun hHeld => ?_)
  clear hK K
  try simp only [Act.put, List.setIfInBounds_toArray, List.set_cons_zero, List.set_cons_succ]
  refine wpAnyH_take (i := 10) (oi := ⟨some 41, _, _, _, _, _⟩) (v := ?_) rfl (by kernel_rfl) (by kernel_rfl) (by kernel_rfl) (fun _ _ _ h => h) (Or.inl ⟨by rfl, by intro w hSw; (try dsimp only at hSw); go_simp; try with_reducible rfl⟩) hHeld ?_
  try simp only [Act.put, List.setIfInBounds_toArray, List.set_cons_zero, List.set_cons_succ]
  refine wpAnyH_take (i := 11) (oi := ⟨some 42, _, _, _, _, _⟩) (v := ?_) rfl (by kernel_rfl) (by kernel_rfl) (by kernel_rfl) (fun _ _ _ h => h) (Or.inl ⟨by rfl, by intro w hSw; (try dsimp only at hSw); go_simp; try with_reducible rfl⟩) hHeld ?_
  try simp only [Act.put, List.setIfInBounds_toArray, List.set_cons_zero, List.set_cons_succ]
  refine wpAnyH_take (i := 12) (oi := ⟨some 43, _, _, _, _, _⟩) (v := ?_) rfl (by kernel_rfl) (by kernel_rfl) (by kernel_rfl) (fun _ _ _ h => h) (Or.inl ⟨by rfl, by intro w hSw; (try dsimp only at hSw); go_simp; try with_reducible rfl⟩) hHeld ?_
  try simp only [Act.put, List.setIfInBounds_toArray, List.set_cons_zero, List.set_cons_succ]
  refine wpAnyH_take (i := 13) (oi := ⟨some 44, _, _, _, _, _⟩) (v := undef) rfl (by kernel_rfl) (by kernel_rfl) (by kernel_rfl) (fun _ _ _ h => h) (Or.inr ⟨by rfl, rfl⟩) hHeld ?_
  try simp only [Act.put, List.setIfInBounds_toArray, List.set_cons_zero, List.set_cons_succ]
  refine wpAnyH_take (i := 14) (oi := ⟨some 45, _, _, _, _, _⟩) (v := undef) rfl (by kernel_rfl) (by kernel_rfl) (by kernel_rfl) (fun _ _ _ h => h) (Or.inr ⟨by rfl, rfl⟩) hHeld ?_
  try simp only [Act.put, List.setIfInBounds_toArray, List.set_cons_zero, List.set_cons_succ]
  refine wpAnyH_take (i := 15) (oi := ⟨some 46, _, _, _, _, _⟩) (v := undef) rfl (by kernel_rfl) (by kernel_rfl) (by kernel_rfl) (fun _ _ _ h => h) (Or.inr ⟨by rfl, rfl⟩) hHeld ?_
  try simp only [Act.put, List.setIfInBounds_toArray, List.set_cons_zero, List.set_cons_succ]
  refine wpAnyH_take (i := 16) (oi := ⟨some 47, _, _, _, _, _⟩) (v := undef) rfl (by kernel_rfl) (by kernel_rfl) (by kernel_rfl) (fun _ _ _ h => h) (Or.inr ⟨by rfl, rfl⟩) hHeld ?_
  try simp only [Act.put, List.setIfInBounds_toArray, List.set_cons_zero, List.set_cons_succ]
  refine wpAnyH_take (i := 17) (oi := ⟨some 48, _, _, _, _, _⟩) (v := undef) rfl (by kernel_rfl) (by kernel_rfl) (by kernel_rfl) (fun _ _ _ h => h) (Or.inr ⟨by rfl, rfl⟩) hHeld ?_
  try simp only [Act.put, List.setIfInBounds_toArray, List.set_cons_zero, List.set_cons_succ]
  refine wpAnyH_take (i := 18) (oi := ⟨some 49, _, _, _, _, _⟩) (v := undef) rfl (by kernel_rfl) (by kernel_rfl) (by kernel_rfl) (fun _ _ _ h => h) (Or.inr ⟨by rfl, rfl⟩) hHeld ?_
  try simp only [Act.put, List.setIfInBounds_toArray, List.set_cons_zero, List.set_cons_succ]
  refine wpAnyH_take (i := 19) (oi := ⟨some 50, _, _, _, _, _⟩) (v := undef) rfl (by kernel_rfl) (by kernel_rfl) (by kernel_rfl) (fun _ _ _ h => h) (Or.inr ⟨by rfl, rfl⟩) hHeld ?_
  try simp only [Act.put, List.setIfInBounds_toArray, List.set_cons_zero, List.set_cons_succ]
  refine wpAnyH_take (i := 20) (oi := ⟨some 51, _, _, _, _, _⟩) (v := undef) rfl (by kernel_rfl) (by kernel_rfl) (by kernel_rfl) (fun _ _ _ h => h) (Or.inr ⟨by rfl, rfl⟩) hHeld ?_
  try simp only [Act.put, List.setIfInBounds_toArray, List.set_cons_zero, List.set_cons_succ]
  refine wpAnyH_take (i := 21) (oi := ⟨some 52, _, _, _, _, _⟩) (v := undef) rfl (by kernel_rfl) (by kernel_rfl) (by kernel_rfl) (fun _ _ _ h => h) (Or.inr ⟨by rfl, rfl⟩) hHeld ?_
  try simp only [Act.put, List.setIfInBounds_toArray, List.set_cons_zero, List.set_cons_succ]
  refine wpAnyH_take (i := 22) (oi := ⟨some 53, _, _, _, _, _⟩) (v := undef) rfl (by kernel_rfl) (by kernel_rfl) (by kernel_rfl) (fun _ _ _ h => h) (Or.inr ⟨by rfl, rfl⟩) hHeld ?_
  try simp only [Act.put, List.setIfInBounds_toArray, List.set_cons_zero, List.set_cons_succ]
  refine wpAnyH_take (i := 23) (oi := ⟨some 54, _, _, _, _, _⟩) (v := undef) rfl (by kernel_rfl) (by kernel_rfl) (by kernel_rfl) (fun _ _ _ h => h) (Or.inr ⟨by rfl, rfl⟩) hHeld ?_
  try simp only [Act.put, List.setIfInBounds_toArray, List.set_cons_zero, List.set_cons_succ]
  refine wpAnyH_take (i := 24) (oi := ⟨some 55, _, _, _, _, _⟩) (v := undef) rfl (by kernel_rfl) (by kernel_rfl) (by kernel_rfl) (fun _ _ _ h => h) (Or.inr ⟨by rfl, rfl⟩) hHeld ?_
  try simp only [Act.put, List.setIfInBounds_toArray, List.set_cons_zero, List.set_cons_succ]
  refine wpAnyH_take (i := 25) (oi := ⟨some 56, _, _, _, _, _⟩) (v := ?_) rfl (by kernel_rfl) (by kernel_rfl) (by kernel_rfl) (fun _ _ _ h => h) (Or.inl ⟨by rfl, by intro w hSw; (try dsimp only at hSw); go_simp; try with_reducible rfl⟩) hHeld ?_
  try simp only [Act.put, List.setIfInBounds_toArray, List.set_cons_zero, List.set_cons_succ]
  refine wpAnyH_take (i := 26) (oi := ⟨some 8, _, _, _, _, _⟩) (v := ?_) rfl (by kernel_rfl) (by kernel_rfl) (by kernel_rfl) (fun _ _ _ h => h) (Or.inl ⟨by rfl, by intro w hSw; (try dsimp only at hSw); go_simp; try with_reducible rfl⟩) hHeld ?_
  try simp only [Act.put, List.setIfInBounds_toArray, List.set_cons_zero, List.set_cons_succ]
  refine wpAnyH_done (by kernel_rfl) ?_ _
  go_wp2
  go_ret
  exact ⟨rfl, E2.out⟩
set_option maxHeartbeats 2000000 in
theorem meetR_c2 (a b c d : Int × Int) (v : Bool) (q0 : onR a b c = false) (q1 : onR a b d = false) (q2 : onR c d a = false) (q3 : onR c d b = false) (k0 : decide (signI (crossR a b c) * signI (crossR a b d) < 0) = true) (k1 : decide (signI (crossR c d a) * signI (crossR c d b) < 0) = v) (h1 : inB 2097152 a) (h2 : inB 2097152 b) (h3 : inB 2097152 c) (h4 : inB 2097152 d) (w : World) : Calls Try.prog 51 #[ptV a, ptV b, ptV c, ptV d] w fun e w' => e = .returned (.bool v) ∧ Below w.heap.size w w' := by
  have b1 := Four.new w a b c d
  have hB := belowA (belowA (belowA (belowA (Below.refl w.heap.size w) (.cells #[.int .i64 a.1, .int .i64 a.2] 34)) (.cells #[.int .i64 b.1, .int .i64 b.2] 34)) (.cells #[.int .i64 c.1, .int .i64 c.2] 34)) (.cells #[.int .i64 d.1, .int .i64 d.2] 34)
  obtain ⟨W, hW⟩ : ∃ W, W = (((w.alloc (.cells #[.int .i64 a.1, .int .i64 a.2] 34)).alloc (.cells #[.int .i64 b.1, .int .i64 b.2] 34)).alloc (.cells #[.int .i64 c.1, .int .i64 c.2] 34)).alloc (.cells #[.int .i64 d.1, .int .i64 d.2] 34) := ⟨_, rfl⟩
  rw [← hW] at b1 hB
  have HB0 := Off.mk hB
  have HW := Off.mk hW
  have HBX := Off.mk b1
  have C0 := Off.mk (fun W => onR_any a b c false q0 h1 h2 h3 W)
  have C1 := Off.mk (fun W => onR_any a b d false q1 h1 h2 h4 W)
  have C2 := Off.mk (fun W => onR_any c d a false q2 h3 h4 h1 W)
  have C3 := Off.mk (fun W => onR_any c d b false q3 h3 h4 h2 W)
  have T0 := Off.mk (fun W => crossR_any a b c h1 h2 h3 W)
  have T1 := Off.mk (fun W => crossR_any a b d h1 h2 h4 W)
  have T2 := Off.mk (fun W => crossR_any c d a h3 h4 h1 W)
  have T3 := Off.mk (fun W => crossR_any c d b h3 h4 h2 W)
  obtain ⟨t0, ht0⟩ : ∃ x, x = crossR a b c := ⟨_, rfl⟩
  obtain ⟨t1, ht1⟩ : ∃ x, x = crossR a b d := ⟨_, rfl⟩
  obtain ⟨t2, ht2⟩ : ∃ x, x = crossR c d a := ⟨_, rfl⟩
  obtain ⟨t3, ht3⟩ : ∃ x, x = crossR c d b := ⟨_, rfl⟩
  rw [← ht0] at T0
  rw [← ht1] at T1
  rw [← ht2] at T2
  rw [← ht3] at T3
  obtain ⟨g0, hg0⟩ : ∃ x, signI t0 = x := ⟨_, rfl⟩
  have G0 := Off.mk (fun W => signR_any t0 g0 hg0 W)
  have gb0 := signI_in t0
  rw [hg0] at gb0
  obtain ⟨g1, hg1⟩ : ∃ x, signI t1 = x := ⟨_, rfl⟩
  have G1 := Off.mk (fun W => signR_any t1 g1 hg1 W)
  have gb1 := signI_in t1
  rw [hg1] at gb1
  obtain ⟨g2, hg2⟩ : ∃ x, signI t2 = x := ⟨_, rfl⟩
  have G2 := Off.mk (fun W => signR_any t2 g2 hg2 W)
  have gb2 := signI_in t2
  rw [hg2] at gb2
  obtain ⟨g3, hg3⟩ : ∃ x, signI t3 = x := ⟨_, rfl⟩
  have G3 := Off.mk (fun W => signR_any t3 g3 hg3 W)
  have gb3 := signI_in t3
  rw [hg3] at gb3
  rw [← ht0, ← ht1, hg0, hg1] at k0
  have W0 : IntKind.i64.wrap (g0 * g1) = g0 * g1 := by have := mul_in gb0 gb1 (by decide) (by decide); rw [IntKind.wrap_i64]; omega
  rw [← ht2, ← ht3, hg2, hg3] at k1
  have W1 : IntKind.i64.wrap (g2 * g3) = g2 * g3 := by have := mul_in gb2 gb3 (by decide) (by decide); rw [IntKind.wrap_i64]; omega
  clear b1 hB hW h1 h2 h3 h4 q0 q1 q2 q3 ht0 hg0 gb0 ht1 hg1 gb1 ht2 hg2 gb2 ht3 hg3 gb3
  go_enter Try.func51, Try.ntmps51
  obtain ⟨⟨⟨x0, x1⟩, x2, x3⟩, ⟨z0, z1⟩, z2, z3⟩ := HBX.out.facts
  go_wp2_with fail
  rw [← HW.out]
  refine (C0.out _).mono ?_
  rintro e w1 ⟨rfl, hb1⟩
  have HB1 := Off.mk (belowC HB0.out hb1)
  have HK1 : Off (Below W.heap.size W w1) := ⟨hb1⟩
  clear hb1 C0 x0 x1 x2 x3 z0 z1 z2 z3
  obtain ⟨⟨⟨x0, x1⟩, x2, x3⟩, ⟨z0, z1⟩, z2, z3⟩ := (HBX.out.below HK1.out).facts
  go_wp2_with fail
  refine (C1.out _).mono ?_
  rintro e w2 ⟨rfl, hb2⟩
  have HB2 := Off.mk (belowC HB1.out hb2)
  have HK2 := Off.mk (belowC HK1.out hb2)
  clear hb2 C1 x0 x1 x2 x3 z0 z1 z2 z3
  obtain ⟨⟨⟨x0, x1⟩, x2, x3⟩, ⟨z0, z1⟩, z2, z3⟩ := (HBX.out.below HK2.out).facts
  go_wp2_with fail
  refine (C2.out _).mono ?_
  rintro e w3 ⟨rfl, hb3⟩
  have HB3 := Off.mk (belowC HB2.out hb3)
  have HK3 := Off.mk (belowC HK2.out hb3)
  clear hb3 C2 x0 x1 x2 x3 z0 z1 z2 z3
  obtain ⟨⟨⟨x0, x1⟩, x2, x3⟩, ⟨z0, z1⟩, z2, z3⟩ := (HBX.out.below HK3.out).facts
  go_wp2_with fail
  refine (C3.out _).mono ?_
  rintro e w4 ⟨rfl, hb4⟩
  have HB4 := Off.mk (belowC HB3.out hb4)
  have HK4 := Off.mk (belowC HK3.out hb4)
  clear hb4 C3 x0 x1 x2 x3 z0 z1 z2 z3
  obtain ⟨⟨⟨x0, x1⟩, x2, x3⟩, ⟨z0, z1⟩, z2, z3⟩ := (HBX.out.below HK4.out).facts
  go_wp2
  refine wp_region_held_drew (S := (fun w' => ((w'.cell? ⟨w.heap.size, 0, none⟩ = some (.int .i64 a.1) ∧ w'.cell? ⟨w.heap.size, 1, none⟩ = some (.int .i64 a.2)) ∧ (w'.cell? ⟨w.heap.size + 1, 0, none⟩ = some (.int .i64 b.1) ∧ w'.cell? ⟨w.heap.size + 1, 1, none⟩ = some (.int .i64 b.2))) ∧ ((w'.cell? ⟨w.heap.size + 2, 0, none⟩ = some (.int .i64 c.1) ∧ w'.cell? ⟨w.heap.size + 2, 1, none⟩ = some (.int .i64 c.2)) ∧ (w'.cell? ⟨w.heap.size + 3, 0, none⟩ = some (.int .i64 d.1) ∧ w'.cell? ⟨w.heap.size + 3, 1, none⟩ = some (.int .i64 d.2))))) (by kernel_rfl) ⟨⟨⟨x0, x1⟩, x2, x3⟩, ⟨z0, z1⟩, z2, z3⟩ (fun hHeld => ?_)
  refine wpAnyH_take (i := 0) (oi := ⟨some 31, _, _, _, _, _⟩) (v := ?_) rfl (by kernel_rfl) (by kernel_rfl) (by kernel_rfl) (fun _ _ _ h => h) (Or.inl ⟨by rfl, by intro w hSw; (try dsimp only at hSw); go_simp; try with_reducible rfl⟩) hHeld ?_
  try simp only [Act.put, List.setIfInBounds_toArray, List.set_cons_zero, List.set_cons_succ]
  refine wpAnyH_take (i := 1) (oi := ⟨some 32, _, _, _, _, _⟩) (v := ?_) rfl (by kernel_rfl) (by kernel_rfl) (by kernel_rfl) (fun _ _ _ h => h) (Or.inl ⟨by rfl, by intro w hSw; (try dsimp only at hSw); go_simp; try with_reducible rfl⟩) hHeld ?_
  try simp only [Act.put, List.setIfInBounds_toArray, List.set_cons_zero, List.set_cons_succ]
  refine wpAnyH_take (i := 2) (oi := ⟨some 33, _, _, _, _, _⟩) (v := ?_) rfl (by kernel_rfl) (by kernel_rfl) (by kernel_rfl) (fun _ _ _ h => h) (Or.inl ⟨by rfl, by intro w hSw; (try dsimp only at hSw); go_simp; try with_reducible rfl⟩) hHeld ?_
  try simp only [Act.put, List.setIfInBounds_toArray, List.set_cons_zero, List.set_cons_succ]
  refine wpAnyH_take (i := 5) (oi := ⟨some 36, _, _, _, _, _⟩) (v := ?_) rfl (by kernel_rfl) (by kernel_rfl) (by kernel_rfl) (fun _ _ _ h => h) (Or.inl ⟨by rfl, by intro w hSw; (try dsimp only at hSw); go_simp; try with_reducible rfl⟩) hHeld ?_
  try simp only [Act.put, List.setIfInBounds_toArray, List.set_cons_zero, List.set_cons_succ]
  refine wpAnyH_take (i := 6) (oi := ⟨some 37, _, _, _, _, _⟩) (v := ?_) rfl (by kernel_rfl) (by kernel_rfl) (by kernel_rfl) (fun _ _ _ h => h) (Or.inl ⟨by rfl, by intro w hSw; (try dsimp only at hSw); go_simp; try with_reducible rfl⟩) hHeld ?_
  try simp only [Act.put, List.setIfInBounds_toArray, List.set_cons_zero, List.set_cons_succ]
  refine wpAnyH_take (i := 7) (oi := ⟨some 38, _, _, _, _, _⟩) (v := ?_) rfl (by kernel_rfl) (by kernel_rfl) (by kernel_rfl) (fun _ _ _ h => h) (Or.inl ⟨by rfl, by intro w hSw; (try dsimp only at hSw); go_simp; try with_reducible rfl⟩) hHeld ?_
  try simp only [Act.put, List.setIfInBounds_toArray, List.set_cons_zero, List.set_cons_succ]
  refine wpAnyH_ready (rs := [3]) (by kernel_rfl) (by simp) ?_
  refine AllReadyH.cons (o := ⟨some 34, _, _, _, _, _⟩) rfl (fun K hK => ?_) AllReadyH.nil
  go_simp
  go_at_call 43
  refine (T0.out _).mono ?_
  rintro e y3 ⟨rfl, hc3⟩
  have E1 := Off.mk (belowC (below_drew HB4.out) hc3)
  go_wp2_with fail
  refine hK.out _ _ ⟨⟨⟨cellB hc3 hHeld.1.1.1, cellB hc3 hHeld.1.1.2⟩, cellB hc3 hHeld.1.2.1, cellB hc3 hHeld.1.2.2⟩, ⟨cellB hc3 hHeld.2.1.1, cellB hc3 hHeld.2.1.2⟩, cellB hc3 hHeld.2.2.1, cellB hc3 hHeld.2.2.2⟩ (fun hHeld => ?_)
  clear hK K
  try simp only [Act.put, List.setIfInBounds_toArray, List.set_cons_zero, List.set_cons_succ]
  refine wpAnyH_ready (rs := [4]) (by kernel_rfl) (by simp) ?_
  refine AllReadyH.cons (o := ⟨some 35, _, _, _, _, _⟩) rfl (fun K hK => ?_) AllReadyH.nil
  go_simp
  go_at_call 88
  refine (G0.out _).mono ?_
  rintro e y4 ⟨rfl, hc4⟩
  subst y4
  go_wp2_with fail
  refine hK.out _ _ hHeld (fun hHeld => ?_)
  clear hK K
  try simp only [Act.put, List.setIfInBounds_toArray, List.set_cons_zero, List.set_cons_succ]
  refine wpAnyH_ready (rs := [8]) (by kernel_rfl) (by simp) ?_
  refine AllReadyH.cons (o := ⟨some 39, _, _, _, _, _⟩) rfl (fun K hK => ?_) AllReadyH.nil
  go_simp
  go_at_call 43
  refine (T1.out _).mono ?_
  rintro e y8 ⟨rfl, hc8⟩
  have E2 := Off.mk (belowC E1.out hc8)
  go_wp2_with fail
  refine hK.out _ _ ⟨⟨⟨cellB hc8 hHeld.1.1.1, cellB hc8 hHeld.1.1.2⟩, cellB hc8 hHeld.1.2.1, cellB hc8 hHeld.1.2.2⟩, ⟨cellB hc8 hHeld.2.1.1, cellB hc8 hHeld.2.1.2⟩, cellB hc8 hHeld.2.2.1, cellB hc8 hHeld.2.2.2⟩ (fun hHeld => ?_)
  clear hK K
  try simp only [Act.put, List.setIfInBounds_toArray, List.set_cons_zero, List.set_cons_succ]
  refine wpAnyH_ready (rs := [9]) (by kernel_rfl) (by simp) ?_
  refine AllReadyH.cons (o := ⟨some 40, _, _, _, _, _⟩) rfl (fun K hK => ?_) AllReadyH.nil
  go_simp
  go_at_call 88
  refine (G1.out _).mono ?_
  rintro e y9 ⟨rfl, hc9⟩
  subst y9
  go_wp2_with fail
  refine hK.out _ _ hHeld (fun hHeld => ?_)
  clear hK K
  try simp only [Act.put, List.setIfInBounds_toArray, List.set_cons_zero, List.set_cons_succ]
  refine wpAnyH_take (i := 10) (oi := ⟨some 41, _, _, _, _, _⟩) (v := ?_) rfl (by kernel_rfl) (by kernel_rfl) (by kernel_rfl) (fun _ _ _ h => h) (Or.inl ⟨by rfl, by intro w hSw; (try dsimp only at hSw); go_simp; try with_reducible rfl⟩) hHeld ?_
  try simp only [Act.put, List.setIfInBounds_toArray, List.set_cons_zero, List.set_cons_succ]
  refine wpAnyH_take (i := 11) (oi := ⟨some 42, _, _, _, _, _⟩) (v := ?_) rfl (by kernel_rfl) (by kernel_rfl) (by kernel_rfl) (fun _ _ _ h => h) (Or.inl ⟨by rfl, by intro w hSw; (try dsimp only at hSw); go_simp; try with_reducible rfl⟩) hHeld ?_
  try simp only [Act.put, List.setIfInBounds_toArray, List.set_cons_zero, List.set_cons_succ]
  refine wpAnyH_take (i := 12) (oi := ⟨some 43, _, _, _, _, _⟩) (v := ?_) rfl (by kernel_rfl) (by kernel_rfl) (by kernel_rfl) (fun _ _ _ h => h) (Or.inl ⟨by rfl, by intro w hSw; (try dsimp only at hSw); go_simp; try with_reducible rfl⟩) hHeld ?_
  try simp only [Act.put, List.setIfInBounds_toArray, List.set_cons_zero, List.set_cons_succ]
  refine wpAnyH_take (i := 13) (oi := ⟨some 44, _, _, _, _, _⟩) (v := ?_) rfl (by kernel_rfl) (by kernel_rfl) (by kernel_rfl) (fun _ _ _ h => h) (Or.inl ⟨by rfl, by intro w hSw; (try dsimp only at hSw); go_simp; try with_reducible rfl⟩) hHeld ?_
  try simp only [Act.put, List.setIfInBounds_toArray, List.set_cons_zero, List.set_cons_succ]
  refine wpAnyH_take (i := 14) (oi := ⟨some 45, _, _, _, _, _⟩) (v := ?_) rfl (by kernel_rfl) (by kernel_rfl) (by kernel_rfl) (fun _ _ _ h => h) (Or.inl ⟨by rfl, by intro w hSw; (try dsimp only at hSw); go_simp; try with_reducible rfl⟩) hHeld ?_
  try simp only [Act.put, List.setIfInBounds_toArray, List.set_cons_zero, List.set_cons_succ]
  refine wpAnyH_take (i := 15) (oi := ⟨some 46, _, _, _, _, _⟩) (v := ?_) rfl (by kernel_rfl) (by kernel_rfl) (by kernel_rfl) (fun _ _ _ h => h) (Or.inl ⟨by rfl, by intro w hSw; (try dsimp only at hSw); go_simp; try with_reducible rfl⟩) hHeld ?_
  try simp only [Act.put, List.setIfInBounds_toArray, List.set_cons_zero, List.set_cons_succ]
  refine wpAnyH_take (i := 18) (oi := ⟨some 49, _, _, _, _, _⟩) (v := ?_) rfl (by kernel_rfl) (by kernel_rfl) (by kernel_rfl) (fun _ _ _ h => h) (Or.inl ⟨by rfl, by intro w hSw; (try dsimp only at hSw); go_simp; try with_reducible rfl⟩) hHeld ?_
  try simp only [Act.put, List.setIfInBounds_toArray, List.set_cons_zero, List.set_cons_succ]
  refine wpAnyH_take (i := 19) (oi := ⟨some 50, _, _, _, _, _⟩) (v := ?_) rfl (by kernel_rfl) (by kernel_rfl) (by kernel_rfl) (fun _ _ _ h => h) (Or.inl ⟨by rfl, by intro w hSw; (try dsimp only at hSw); go_simp; try with_reducible rfl⟩) hHeld ?_
  try simp only [Act.put, List.setIfInBounds_toArray, List.set_cons_zero, List.set_cons_succ]
  refine wpAnyH_take (i := 20) (oi := ⟨some 51, _, _, _, _, _⟩) (v := ?_) rfl (by kernel_rfl) (by kernel_rfl) (by kernel_rfl) (fun _ _ _ h => h) (Or.inl ⟨by rfl, by intro w hSw; (try dsimp only at hSw); go_simp; try with_reducible rfl⟩) hHeld ?_
  try simp only [Act.put, List.setIfInBounds_toArray, List.set_cons_zero, List.set_cons_succ]
  refine wpAnyH_ready (rs := [16]) (by kernel_rfl) (by simp) ?_
  refine AllReadyH.cons (o := ⟨some 47, _, _, _, _, _⟩) rfl (fun K hK => ?_) AllReadyH.nil
  go_simp
  go_at_call 43
  refine (T2.out _).mono ?_
  rintro e y16 ⟨rfl, hc16⟩
  have E3 := Off.mk (belowC E2.out hc16)
  go_wp2_with fail
  refine hK.out _ _ ⟨⟨⟨cellB hc16 hHeld.1.1.1, cellB hc16 hHeld.1.1.2⟩, cellB hc16 hHeld.1.2.1, cellB hc16 hHeld.1.2.2⟩, ⟨cellB hc16 hHeld.2.1.1, cellB hc16 hHeld.2.1.2⟩, cellB hc16 hHeld.2.2.1, cellB hc16 hHeld.2.2.2⟩ (fun hHeld => ?_)
  clear hK K
  try simp only [Act.put, List.setIfInBounds_toArray, List.set_cons_zero, List.set_cons_succ]
  refine wpAnyH_ready (rs := [17]) (by kernel_rfl) (by simp) ?_
  refine AllReadyH.cons (o := ⟨some 48, _, _, _, _, _⟩) rfl (fun K hK => ?_) AllReadyH.nil
  go_simp
  go_at_call 88
  refine (G2.out _).mono ?_
  rintro e y17 ⟨rfl, hc17⟩
  subst y17
  go_wp2_with fail
  refine hK.out _ _ hHeld (fun hHeld => ?_)
  clear hK K
  try simp only [Act.put, List.setIfInBounds_toArray, List.set_cons_zero, List.set_cons_succ]
  refine wpAnyH_ready (rs := [21]) (by kernel_rfl) (by simp) ?_
  refine AllReadyH.cons (o := ⟨some 52, _, _, _, _, _⟩) rfl (fun K hK => ?_) AllReadyH.nil
  go_simp
  go_at_call 43
  refine (T3.out _).mono ?_
  rintro e y21 ⟨rfl, hc21⟩
  have E4 := Off.mk (belowC E3.out hc21)
  go_wp2_with fail
  refine hK.out _ _ ⟨⟨⟨cellB hc21 hHeld.1.1.1, cellB hc21 hHeld.1.1.2⟩, cellB hc21 hHeld.1.2.1, cellB hc21 hHeld.1.2.2⟩, ⟨cellB hc21 hHeld.2.1.1, cellB hc21 hHeld.2.1.2⟩, cellB hc21 hHeld.2.2.1, cellB hc21 hHeld.2.2.2⟩ (fun hHeld => ?_)
  clear hK K
  try simp only [Act.put, List.setIfInBounds_toArray, List.set_cons_zero, List.set_cons_succ]
  refine wpAnyH_ready (rs := [22]) (by kernel_rfl) (by simp) ?_
  refine AllReadyH.cons (o := ⟨some 53, _, _, _, _, _⟩) rfl (fun K hK => ?_) AllReadyH.nil
  go_simp
  go_at_call 88
  refine (G3.out _).mono ?_
  rintro e y22 ⟨rfl, hc22⟩
  subst y22
  go_wp2_with fail
  refine hK.out _ _ hHeld (fun hHeld => ?_)
  clear hK K
  try simp only [Act.put, List.setIfInBounds_toArray, List.set_cons_zero, List.set_cons_succ]
  refine wpAnyH_take (i := 23) (oi := ⟨some 54, _, _, _, _, _⟩) (v := ?_) rfl (by kernel_rfl) (by kernel_rfl) (by kernel_rfl) (fun _ _ _ h => h) (Or.inl ⟨by rfl, by intro w hSw; (try dsimp only at hSw); go_simp; try with_reducible rfl⟩) hHeld ?_
  try simp only [Act.put, List.setIfInBounds_toArray, List.set_cons_zero, List.set_cons_succ]
  refine wpAnyH_take (i := 24) (oi := ⟨some 55, _, _, _, _, _⟩) (v := ?_) rfl (by kernel_rfl) (by kernel_rfl) (by kernel_rfl) (fun _ _ _ h => h) (Or.inl ⟨by rfl, by intro w hSw; (try dsimp only at hSw); go_simp; try with_reducible rfl⟩) hHeld ?_
  try simp only [Act.put, List.setIfInBounds_toArray, List.set_cons_zero, List.set_cons_succ]
  refine wpAnyH_take (i := 25) (oi := ⟨some 56, _, _, _, _, _⟩) (v := ?_) rfl (by kernel_rfl) (by kernel_rfl) (by kernel_rfl) (fun _ _ _ h => h) (Or.inl ⟨by rfl, by intro w hSw; (try dsimp only at hSw); go_simp; try with_reducible rfl⟩) hHeld ?_
  try simp only [Act.put, List.setIfInBounds_toArray, List.set_cons_zero, List.set_cons_succ]
  refine wpAnyH_take (i := 26) (oi := ⟨some 8, _, _, _, _, _⟩) (v := ?_) rfl (by kernel_rfl) (by kernel_rfl) (by kernel_rfl) (fun _ _ _ h => h) (Or.inl ⟨by rfl, by intro w hSw; (try dsimp only at hSw); go_simp; try with_reducible rfl⟩) hHeld ?_
  try simp only [Act.put, List.setIfInBounds_toArray, List.set_cons_zero, List.set_cons_succ]
  refine wpAnyH_done (by kernel_rfl) ?_ _
  go_wp2
  go_ret
  exact ⟨rfl, E4.out⟩
theorem meetR_any (a b c d : Int × Int) (v : Bool) (hv : meetR a b c d = v) (h1 : inB 2097152 a) (h2 : inB 2097152 b) (h3 : inB 2097152 c) (h4 : inB 2097152 d) (w : World) : Calls Try.prog 51 #[ptV a, ptV b, ptV c, ptV d] w fun e w' => e = .returned (.bool v) ∧ Below w.heap.size w w' := by
  unfold meetR at hv
  cases q0 : onR a b c with
  | true => rw [q0] at hv; simp only [Bool.true_or] at hv; subst hv; exact meetR_on1 a b c d q0 h1 h2 h3 h4 w
  | false =>
  cases q1 : onR a b d with
  | true => rw [q0, q1] at hv; simp only [Bool.true_or, Bool.or_true] at hv; subst hv; exact meetR_on2 a b c d q0 q1 h1 h2 h3 h4 w
  | false =>
  cases q2 : onR c d a with
  | true => rw [q0, q1, q2] at hv; simp only [Bool.true_or, Bool.or_true] at hv; subst hv; exact meetR_on3 a b c d q0 q1 q2 h1 h2 h3 h4 w
  | false =>
  cases q3 : onR c d b with
  | true => rw [q0, q1, q2, q3] at hv; simp only [Bool.true_or, Bool.or_true] at hv; subst hv; exact meetR_on4 a b c d q0 q1 q2 q3 h1 h2 h3 h4 w
  | false =>
  rw [q0, q1, q2, q3] at hv
  simp only [Bool.false_or] at hv
  cases k0 : decide (signI (crossR a b c) * signI (crossR a b d) < 0) with
  | false => rw [k0] at hv; simp only [Bool.false_and] at hv; subst hv; exact meetR_c1 a b c d q0 q1 q2 q3 k0 h1 h2 h3 h4 w
  | true =>
    rw [k0] at hv
    simp only [Bool.true_and] at hv
    exact meetR_c2 a b c d v q0 q1 q2 q3 k0 hv h1 h2 h3 h4 w
end Go.Proofs.Ytbpmiphipjkdlaa
