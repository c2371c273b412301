/- Contracts: turn, on. -/
import Derived.Test.YtbpmiphipjkdlaaAc
import Derived.OrdersHeld
import Derived.Deep.RegionHeld
import Derived.Deep.RegionHeld3
namespace Go.Proofs.Ytbpmiphipjkdlaa
open Go.RowKit Go.Shelf

theorem below_drew {B : Nat} {a w : World} (h : Below B a w) : Below B a w.drew := ⟨h.os, h.tape, h.output, h.size, h.block⟩
/-- A box of a point. -/
structure Box2 (w : World) (b : Nat) (p : Int × Int) : Prop where
  c0 : w.cell? ⟨b, 0, none⟩ = some (.int .i64 p.1)
  c1 : w.cell? ⟨b, 1, none⟩ = some (.int .i64 p.2)
theorem Box2.below {w w1 : World} {b : Nat} {p : Int × Int} (h : Box2 w b p) (hb : Below w.heap.size w w1) : Box2 w1 b p := ⟨cellB hb h.c0, cellB hb h.c1⟩
theorem Box2.alloc {w : World} {b : Nat} {p : Int × Int} (h : Box2 w b p) (o : Obj) : Box2 (w.alloc o) b p := h.below ((Below.refl _ _).alloc (Nat.le_refl _) _)
theorem Box2.new (w : World) (p : Int × Int) : Box2 (w.alloc (.cells #[.int .i64 p.1, .int .i64 p.2] 70)) w.heap.size p := by
  obtain ⟨h1, h2⟩ := two_facts (block_new w (.cells #[.int .i64 p.1, .int .i64 p.2] 70))
  exact ⟨h1.1, h1.2⟩
/-- A side's value. -/
abbrev sdV (s : (Int × Int) × (Int × Int)) : Value := .agg #[.int .i64 s.1.1, .int .i64 s.1.2, .int .i64 s.2.1, .int .i64 s.2.2]
/-- A box of a side. -/
structure Box4 (w : World) (b : Nat) (s : (Int × Int) × (Int × Int)) : Prop where
  c0 : w.cell? ⟨b, 0, none⟩ = some (.int .i64 s.1.1)
  c1 : w.cell? ⟨b, 1, none⟩ = some (.int .i64 s.1.2)
  c2 : w.cell? ⟨b, 2, none⟩ = some (.int .i64 s.2.1)
  c3 : w.cell? ⟨b, 3, none⟩ = some (.int .i64 s.2.2)
theorem Box4.below {w w1 : World} {b : Nat} {s : (Int × Int) × (Int × Int)} (h : Box4 w b s) (hb : Below w.heap.size w w1) : Box4 w1 b s := ⟨cellB hb h.c0, cellB hb h.c1, cellB hb h.c2, cellB hb h.c3⟩
theorem Box4.alloc {w : World} {b : Nat} {s : (Int × Int) × (Int × Int)} (h : Box4 w b s) (o : Obj) : Box4 (w.alloc o) b s := h.below ((Below.refl _ _).alloc (Nat.le_refl _) _)
theorem Box4.new (w : World) (s : (Int × Int) × (Int × Int)) : Box4 (w.alloc (.cells #[.int .i64 s.1.1, .int .i64 s.1.2, .int .i64 s.2.1, .int .i64 s.2.2] 75)) w.heap.size s := by
  obtain ⟨⟨h1, h2, h3, h4⟩, _⟩ := four_facts (block_new w (.cells #[.int .i64 s.1.1, .int .i64 s.1.2, .int .i64 s.2.1, .int .i64 s.2.2] 75))
  exact ⟨h1, h2, h3, h4⟩
theorem subP_in {b : Int} {p q : Int × Int} (hp : inB b p) (hq : inB b q) : inB (2 * b) (subP p q) := by
  unfold inB subP at *
  simp only
  omega
theorem inB_mono {a b : Int} {p : Int × Int} (h : inB a p) (hab : a ≤ b) : inB b p := by
  unfold inB at *
  omega
set_option maxHeartbeats 1000000 in
theorem turn_any (p q r : Int × Int) (hp : inB 2097152 p) (hq : inB 2097152 q) (hr : inB 2097152 r) (w : World) : Calls Try.prog 92 #[ptV p, ptV q, ptV r] w fun e w' => e = .returned (.int .i64 (turnP p q r)) ∧ Below w.heap.size w w' := by
  have C1 := Off.mk (fun W => minus_any q p (inB_mono hq (by omega)) (inB_mono hp (by omega)) W)
  have C2 := Off.mk (fun W => minus_any r q (inB_mono hr (by omega)) (inB_mono hq (by omega)) W)
  have C3 := Off.mk (fun W => cross_any (subP q p) (subP r q) (inB_mono (subP_in hq hp) (by omega)) (inB_mono (subP_in hr hq) (by omega)) W)
  have b1 := ((Box2.new w p).alloc (.cells #[.int .i64 q.1, .int .i64 q.2] 70)).alloc (.cells #[.int .i64 r.1, .int .i64 r.2] 70)
  have b2 := (Box2.new (w.alloc (.cells #[.int .i64 p.1, .int .i64 p.2] 70)) q).alloc (.cells #[.int .i64 r.1, .int .i64 r.2] 70)
  have b3 := Box2.new ((w.alloc (.cells #[.int .i64 p.1, .int .i64 p.2] 70)).alloc (.cells #[.int .i64 q.1, .int .i64 q.2] 70)) r
  have hB := belowA (belowA (belowA (Below.refl w.heap.size w) (.cells #[.int .i64 p.1, .int .i64 p.2] 70)) (.cells #[.int .i64 q.1, .int .i64 q.2] 70)) (.cells #[.int .i64 r.1, .int .i64 r.2] 70)
  simp only [World.size_alloc] at b2 b3
  obtain ⟨W, hW⟩ : ∃ W, W = ((w.alloc (.cells #[.int .i64 p.1, .int .i64 p.2] 70)).alloc (.cells #[.int .i64 q.1, .int .i64 q.2] 70)).alloc (.cells #[.int .i64 r.1, .int .i64 r.2] 70) := ⟨_, rfl⟩
  rw [← hW] at b1 b2 b3 hB
  have HB := Off.mk hB
  have HW := Off.mk hW
  clear hp hq hr hB hW
  obtain ⟨x0, x1⟩ := b1
  obtain ⟨y0, y1⟩ := b2
  obtain ⟨z0, z1⟩ := b3
  go_enter Try.func92, Try.ntmps92
  go_wp2
  rw [← HW.out]
  refine wp_region_held_drew (S := (fun w' => ((w'.cell? ⟨w.heap.size, 0, none⟩ = some (.int .i64 p.1) ∧ w'.cell? ⟨w.heap.size, 1, none⟩ = some (.int .i64 p.2)) ∧ (w'.cell? ⟨w.heap.size + 1, 0, none⟩ = some (.int .i64 q.1) ∧ w'.cell? ⟨w.heap.size + 1, 1, none⟩ = some (.int .i64 q.2))) ∧ (w'.cell? ⟨w.heap.size + 1 + 1, 0, none⟩ = some (.int .i64 r.1) ∧ w'.cell? ⟨w.heap.size + 1 + 1, 1, none⟩ = some (.int .i64 r.2)))) (by kernel_rfl) ⟨⟨⟨x0, x1⟩, y0, y1⟩, z0, z1⟩ (fun hHeld => ?_)
  refine wpAnyH_take (i := 0) (oi := ⟨some 7, _, _, _, _, _⟩) (v := ?_) rfl (by kernel_rfl) (by kernel_rfl) (by kernel_rfl) (fun _ _ _ h => h) (Or.inl ⟨by rfl, by intro w hSw; (try dsimp only at hSw); go_simp; try with_reducible rfl⟩) hHeld ?_
  try simp only [Act.put, List.setIfInBounds_toArray, List.set_cons_zero, List.set_cons_succ]
  refine wpAnyH_take (i := 1) (oi := ⟨some 8, _, _, _, _, _⟩) (v := ?_) rfl (by kernel_rfl) (by kernel_rfl) (by kernel_rfl) (fun _ _ _ h => h) (Or.inl ⟨by rfl, by intro w hSw; (try dsimp only at hSw); go_simp; try with_reducible rfl⟩) hHeld ?_
  try simp only [Act.put, List.setIfInBounds_toArray, List.set_cons_zero, List.set_cons_succ]
  refine wpAnyH_take (i := 3) (oi := ⟨some 10, _, _, _, _, _⟩) (v := ?_) rfl (by kernel_rfl) (by kernel_rfl) (by kernel_rfl) (fun _ _ _ h => h) (Or.inl ⟨by rfl, by intro w hSw; (try dsimp only at hSw); go_simp; try with_reducible rfl⟩) hHeld ?_
  try simp only [Act.put, List.setIfInBounds_toArray, List.set_cons_zero, List.set_cons_succ]
  refine wpAnyH_take (i := 4) (oi := ⟨some 11, _, _, _, _, _⟩) (v := ?_) rfl (by kernel_rfl) (by kernel_rfl) (by kernel_rfl) (fun _ _ _ h => h) (Or.inl ⟨by rfl, by intro w hSw; (try dsimp only at hSw); go_simp; try with_reducible rfl⟩) hHeld ?_
  try simp only [Act.put, List.setIfInBounds_toArray, List.set_cons_zero, List.set_cons_succ]
  refine wpAnyH_ready (rs := [2]) (by kernel_rfl) (by simp) ?_
  refine AllReadyH.cons (o := ⟨some 9, _, _, _, _, _⟩) rfl (fun K hK => ?_) AllReadyH.nil
  go_simp
  go_at_call 84
  refine (C1.out _).mono ?_
  rintro e w1 ⟨rfl, hb1⟩
  have H1 := Off.mk (belowC (below_drew HB.out) hb1)
  go_wp2_with fail
  refine hK.out _ _ ⟨⟨⟨cellB hb1 hHeld.1.1.1, cellB hb1 hHeld.1.1.2⟩, cellB hb1 hHeld.1.2.1, cellB hb1 hHeld.1.2.2⟩, cellB hb1 hHeld.2.1, cellB hb1 hHeld.2.2⟩ (fun hHeld => ?_)
  clear hK K
  try simp only [Act.put, List.setIfInBounds_toArray, List.set_cons_zero, List.set_cons_succ]
  refine wpAnyH_ready (rs := [5]) (by kernel_rfl) (by simp) ?_
  refine AllReadyH.cons (o := ⟨some 12, _, _, _, _, _⟩) rfl (fun K hK => ?_) AllReadyH.nil
  go_simp
  go_at_call 84
  refine (C2.out _).mono ?_
  rintro e w2 ⟨rfl, hb2⟩
  have H2 := Off.mk (belowC H1.out hb2)
  go_wp2_with fail
  refine hK.out _ _ ⟨⟨⟨cellB hb2 hHeld.1.1.1, cellB hb2 hHeld.1.1.2⟩, cellB hb2 hHeld.1.2.1, cellB hb2 hHeld.1.2.2⟩, cellB hb2 hHeld.2.1, cellB hb2 hHeld.2.2⟩ (fun hHeld => ?_)
  clear hK K
  try simp only [Act.put, List.setIfInBounds_toArray, List.set_cons_zero, List.set_cons_succ]
  refine wpAnyH_ready (rs := [6]) (by kernel_rfl) (by simp) ?_
  refine AllReadyH.cons (o := ⟨some 13, _, _, _, _, _⟩) rfl (fun K hK => ?_) AllReadyH.nil
  go_simp
  go_at_call 57
  refine (C3.out _).mono ?_
  rintro e w3 ⟨rfl, hb3⟩
  have H3 := Off.mk (belowC H2.out hb3)
  go_wp2_with fail
  refine hK.out _ _ ⟨⟨⟨cellB hb3 hHeld.1.1.1, cellB hb3 hHeld.1.1.2⟩, cellB hb3 hHeld.1.2.1, cellB hb3 hHeld.1.2.2⟩, cellB hb3 hHeld.2.1, cellB hb3 hHeld.2.2⟩ (fun hHeld => ?_)
  clear hK K
  try simp only [Act.put, List.setIfInBounds_toArray, List.set_cons_zero, List.set_cons_succ]
  refine wpAnyH_take (i := 7) (oi := ⟨some 6, _, _, _, _, _⟩) (v := ?_) rfl (by kernel_rfl) (by kernel_rfl) (by kernel_rfl) (fun _ _ _ h => h) (Or.inl ⟨by rfl, by intro w hSw; (try dsimp only at hSw); go_simp; try with_reducible rfl⟩) hHeld ?_
  try simp only [Act.put, List.setIfInBounds_toArray, List.set_cons_zero, List.set_cons_succ]
  refine wpAnyH_done (by kernel_rfl) ?_ _
  go_wp2
  go_ret
  exact ⟨rfl, H3.out⟩
/-- A point on a side. -/
def onS (s : (Int × Int) × (Int × Int)) (p : Int × Int) : Bool := decide (turnP s.1 s.2 p = 0) && decide (dotP (subP p s.1) (subP p s.2) ≤ 0)
set_option maxHeartbeats 1000000 in
theorem on_no (s : (Int × Int) × (Int × Int)) (p : Int × Int) (v : Bool) (ht : turnP s.1 s.2 p ≠ 0) (hv : onS s p = v) (h1 : inB 2097152 s.1) (h2 : inB 2097152 s.2) (hp : inB 2097152 p) (w : World) : Calls Try.prog 93 #[sdV s, ptV p] w fun e w' => e = .returned (.bool v) ∧ Below w.heap.size w w' := by
  have C1 := Off.mk (fun W => turn_any s.1 s.2 p h1 h2 hp W)
  have C2 := Off.mk (fun W => minus_any p s.1 (inB_mono hp (by omega)) (inB_mono h1 (by omega)) W)
  have C3 := Off.mk (fun W => minus_any p s.2 (inB_mono hp (by omega)) (inB_mono h2 (by omega)) W)
  have C4 := Off.mk (fun W => dot_any (subP p s.1) (subP p s.2) (inB_mono (subP_in hp h1) (by omega)) (inB_mono (subP_in hp h2) (by omega)) W)
  have b1 := (Box4.new w s).alloc (.cells #[.int .i64 p.1, .int .i64 p.2] 70)
  have b2 := Box2.new (w.alloc (.cells #[.int .i64 s.1.1, .int .i64 s.1.2, .int .i64 s.2.1, .int .i64 s.2.2] 75)) p
  have hB := belowA (belowA (Below.refl w.heap.size w) (.cells #[.int .i64 s.1.1, .int .i64 s.1.2, .int .i64 s.2.1, .int .i64 s.2.2] 75)) (.cells #[.int .i64 p.1, .int .i64 p.2] 70)
  simp only [World.size_alloc] at b2
  obtain ⟨W, hW⟩ : ∃ W, W = (w.alloc (.cells #[.int .i64 s.1.1, .int .i64 s.1.2, .int .i64 s.2.1, .int .i64 s.2.2] 75)).alloc (.cells #[.int .i64 p.1, .int .i64 p.2] 70) := ⟨_, rfl⟩
  rw [← hW] at b1 b2 hB
  have HB := Off.mk hB
  have HW := Off.mk hW
  unfold onS at hv
  have hz : (turnP s.1 s.2 p == 0) = false := by rw [beq_eq_false_iff_ne]; exact ht
  obtain rfl : v = false := by rw [← hv, decide_eq_false ht, Bool.false_and]
  obtain ⟨tn, htn⟩ : ∃ x, x = turnP s.1 s.2 p := ⟨_, rfl⟩
  rw [← htn] at hz C1
  clear hv ht h1 h2 hp hB hW htn
  obtain ⟨x0, x1, x2, x3⟩ := b1
  obtain ⟨z0, z1⟩ := b2
  go_enter Try.func93, Try.ntmps93
  go_wp2
  rw [← HW.out]
  refine wp_region_held_drew (S := (fun w' => ((w'.cell? ⟨w.heap.size, 0, none⟩ = some (.int .i64 s.1.1) ∧ w'.cell? ⟨w.heap.size, 1, none⟩ = some (.int .i64 s.1.2)) ∧ (w'.cell? ⟨w.heap.size, 2, none⟩ = some (.int .i64 s.2.1) ∧ w'.cell? ⟨w.heap.size, 3, none⟩ = some (.int .i64 s.2.2))) ∧ (w'.cell? ⟨w.heap.size + 1, 0, none⟩ = some (.int .i64 p.1) ∧ w'.cell? ⟨w.heap.size + 1, 1, none⟩ = some (.int .i64 p.2)))) (by kernel_rfl) ⟨⟨⟨x0, x1⟩, x2, x3⟩, z0, z1⟩ (fun hHeld => ?_)
  refine wpAnyH_take (i := 0) (oi := ⟨some 5, _, _, _, _, _⟩) (v := ?_) rfl (by kernel_rfl) (by kernel_rfl) (by kernel_rfl) (fun _ _ _ h => h) (Or.inl ⟨by rfl, by intro w hSw; (try dsimp only at hSw); go_simp; try with_reducible rfl⟩) hHeld ?_
  try simp only [Act.put, List.setIfInBounds_toArray, List.set_cons_zero, List.set_cons_succ]
  refine wpAnyH_take (i := 1) (oi := ⟨some 6, _, _, _, _, _⟩) (v := ?_) rfl (by kernel_rfl) (by kernel_rfl) (by kernel_rfl) (fun _ _ _ h => h) (Or.inl ⟨by rfl, by intro w hSw; (try dsimp only at hSw); go_simp; try with_reducible rfl⟩) hHeld ?_
  try simp only [Act.put, List.setIfInBounds_toArray, List.set_cons_zero, List.set_cons_succ]
  refine wpAnyH_take (i := 2) (oi := ⟨some 7, _, _, _, _, _⟩) (v := ?_) rfl (by kernel_rfl) (by kernel_rfl) (by kernel_rfl) (fun _ _ _ h => h) (Or.inl ⟨by rfl, by intro w hSw; (try dsimp only at hSw); go_simp; try with_reducible rfl⟩) hHeld ?_
  try simp only [Act.put, List.setIfInBounds_toArray, List.set_cons_zero, List.set_cons_succ]
  refine wpAnyH_take (i := 3) (oi := ⟨some 8, _, _, _, _, _⟩) (v := ?_) rfl (by kernel_rfl) (by kernel_rfl) (by kernel_rfl) (fun _ _ _ h => h) (Or.inl ⟨by rfl, by intro w hSw; (try dsimp only at hSw); go_simp; try with_reducible rfl⟩) hHeld ?_
  try simp only [Act.put, List.setIfInBounds_toArray, List.set_cons_zero, List.set_cons_succ]
  refine wpAnyH_take (i := 4) (oi := ⟨some 9, _, _, _, _, _⟩) (v := ?_) rfl (by kernel_rfl) (by kernel_rfl) (by kernel_rfl) (fun _ _ _ h => h) (Or.inl ⟨by rfl, by intro w hSw; (try dsimp only at hSw); go_simp; try with_reducible rfl⟩) hHeld ?_
  try simp only [Act.put, List.setIfInBounds_toArray, List.set_cons_zero, List.set_cons_succ]
  refine wpAnyH_ready (rs := [5]) (by kernel_rfl) (by simp) ?_
  refine AllReadyH.cons (o := ⟨some 10, _, _, _, _, _⟩) rfl (fun K hK => ?_) AllReadyH.nil
  go_simp
  go_at_call 92
  refine (C1.out _).mono ?_
  rintro e w1 ⟨rfl, hb1⟩
  have H1 := Off.mk (belowC (below_drew HB.out) hb1)
  go_wp2_with fail
  refine hK.out _ _ ⟨⟨⟨cellB hb1 hHeld.1.1.1, cellB hb1 hHeld.1.1.2⟩, cellB hb1 hHeld.1.2.1, cellB hb1 hHeld.1.2.2⟩, cellB hb1 hHeld.2.1, cellB hb1 hHeld.2.2⟩ (fun hHeld => ?_)
  clear hK K
  try simp only [Act.put, List.setIfInBounds_toArray, List.set_cons_zero, List.set_cons_succ]
  refine wpAnyH_take (i := 6) (oi := ⟨some 11, _, _, _, _, _⟩) (v := ?_) rfl (by kernel_rfl) (by kernel_rfl) (by kernel_rfl) (fun _ _ _ h => h) (Or.inl ⟨by rfl, by intro w hSw; (try dsimp only at hSw); go_simp; try with_reducible rfl⟩) hHeld ?_
  try simp only [Act.put, List.setIfInBounds_toArray, List.set_cons_zero, List.set_cons_succ]
  refine wpAnyH_take (i := 7) (oi := ⟨some 12, _, _, _, _, _⟩) (v := ?_) rfl (by kernel_rfl) (by kernel_rfl) (by kernel_rfl) (fun _ _ _ h => h) (Or.inl ⟨by rfl, by intro w hSw; (try dsimp only at hSw); go_simp; try with_reducible rfl⟩) hHeld ?_
  try simp only [Act.put, List.setIfInBounds_toArray, List.set_cons_zero, List.set_cons_succ]
  refine wpAnyH_take (i := 8) (oi := ⟨some 13, _, _, _, _, _⟩) (v := undef) rfl (by kernel_rfl) (by kernel_rfl) (by kernel_rfl) (fun _ _ _ h => h) (Or.inr ⟨by rfl, rfl⟩) hHeld ?_
  try simp only [Act.put, List.setIfInBounds_toArray, List.set_cons_zero, List.set_cons_succ]
  refine wpAnyH_take (i := 9) (oi := ⟨some 14, _, _, _, _, _⟩) (v := undef) rfl (by kernel_rfl) (by kernel_rfl) (by kernel_rfl) (fun _ _ _ h => h) (Or.inr ⟨by rfl, rfl⟩) hHeld ?_
  try simp only [Act.put, List.setIfInBounds_toArray, List.set_cons_zero, List.set_cons_succ]
  refine wpAnyH_take (i := 10) (oi := ⟨some 15, _, _, _, _, _⟩) (v := undef) rfl (by kernel_rfl) (by kernel_rfl) (by kernel_rfl) (fun _ _ _ h => h) (Or.inr ⟨by rfl, rfl⟩) hHeld ?_
  try simp only [Act.put, List.setIfInBounds_toArray, List.set_cons_zero, List.set_cons_succ]
  refine wpAnyH_take (i := 11) (oi := ⟨some 16, _, _, _, _, _⟩) (v := undef) rfl (by kernel_rfl) (by kernel_rfl) (by kernel_rfl) (fun _ _ _ h => h) (Or.inr ⟨by rfl, rfl⟩) hHeld ?_
  try simp only [Act.put, List.setIfInBounds_toArray, List.set_cons_zero, List.set_cons_succ]
  refine wpAnyH_take (i := 12) (oi := ⟨some 17, _, _, _, _, _⟩) (v := undef) rfl (by kernel_rfl) (by kernel_rfl) (by kernel_rfl) (fun _ _ _ h => h) (Or.inr ⟨by rfl, rfl⟩) hHeld ?_
  try simp only [Act.put, List.setIfInBounds_toArray, List.set_cons_zero, List.set_cons_succ]
  refine wpAnyH_take (i := 13) (oi := ⟨some 18, _, _, _, _, _⟩) (v := undef) rfl (by kernel_rfl) (by kernel_rfl) (by kernel_rfl) (fun _ _ _ h => h) (Or.inr ⟨by rfl, rfl⟩) hHeld ?_
  try simp only [Act.put, List.setIfInBounds_toArray, List.set_cons_zero, List.set_cons_succ]
  refine wpAnyH_take (i := 14) (oi := ⟨some 19, _, _, _, _, _⟩) (v := undef) rfl (by kernel_rfl) (by kernel_rfl) (by kernel_rfl) (fun _ _ _ h => h) (Or.inr ⟨by rfl, rfl⟩) hHeld ?_
  try simp only [Act.put, List.setIfInBounds_toArray, List.set_cons_zero, List.set_cons_succ]
  refine wpAnyH_take (i := 15) (oi := ⟨some 20, _, _, _, _, _⟩) (v := undef) rfl (by kernel_rfl) (by kernel_rfl) (by kernel_rfl) (fun _ _ _ h => h) (Or.inr ⟨by rfl, rfl⟩) hHeld ?_
  try simp only [Act.put, List.setIfInBounds_toArray, List.set_cons_zero, List.set_cons_succ]
  refine wpAnyH_take (i := 16) (oi := ⟨some 21, _, _, _, _, _⟩) (v := undef) rfl (by kernel_rfl) (by kernel_rfl) (by kernel_rfl) (fun _ _ _ h => h) (Or.inr ⟨by rfl, rfl⟩) hHeld ?_
  try simp only [Act.put, List.setIfInBounds_toArray, List.set_cons_zero, List.set_cons_succ]
  refine wpAnyH_take (i := 17) (oi := ⟨some 22, _, _, _, _, _⟩) (v := undef) rfl (by kernel_rfl) (by kernel_rfl) (by kernel_rfl) (fun _ _ _ h => h) (Or.inr ⟨by rfl, rfl⟩) hHeld ?_
  try simp only [Act.put, List.setIfInBounds_toArray, List.set_cons_zero, List.set_cons_succ]
  refine wpAnyH_take (i := 18) (oi := ⟨some 23, _, _, _, _, _⟩) (v := ?_) rfl (by kernel_rfl) (by kernel_rfl) (by kernel_rfl) (fun _ _ _ h => h) (Or.inl ⟨by rfl, by intro w hSw; (try dsimp only at hSw); go_simp; try with_reducible rfl⟩) hHeld ?_
  try simp only [Act.put, List.setIfInBounds_toArray, List.set_cons_zero, List.set_cons_succ]
  refine wpAnyH_take (i := 19) (oi := ⟨some 4, _, _, _, _, _⟩) (v := ?_) rfl (by kernel_rfl) (by kernel_rfl) (by kernel_rfl) (fun _ _ _ h => h) (Or.inl ⟨by rfl, by intro w hSw; (try dsimp only at hSw); go_simp; try with_reducible rfl⟩) hHeld ?_
  try simp only [Act.put, List.setIfInBounds_toArray, List.set_cons_zero, List.set_cons_succ]
  refine wpAnyH_done (by kernel_rfl) ?_ _
  go_wp2
  go_ret
  exact ⟨rfl, H1.out⟩
set_option maxHeartbeats 1000000 in
theorem on_yes (s : (Int × Int) × (Int × Int)) (p : Int × Int) (v : Bool) (ht : turnP s.1 s.2 p = 0) (hv : onS s p = v) (h1 : inB 2097152 s.1) (h2 : inB 2097152 s.2) (hp : inB 2097152 p) (w : World) : Calls Try.prog 93 #[sdV s, ptV p] w fun e w' => e = .returned (.bool v) ∧ Below w.heap.size w w' := by
  have C1 := Off.mk (fun W => turn_any s.1 s.2 p h1 h2 hp W)
  have C2 := Off.mk (fun W => minus_any p s.1 (inB_mono hp (by omega)) (inB_mono h1 (by omega)) W)
  have C3 := Off.mk (fun W => minus_any p s.2 (inB_mono hp (by omega)) (inB_mono h2 (by omega)) W)
  have C4 := Off.mk (fun W => dot_any (subP p s.1) (subP p s.2) (inB_mono (subP_in hp h1) (by omega)) (inB_mono (subP_in hp h2) (by omega)) W)
  have b1 := (Box4.new w s).alloc (.cells #[.int .i64 p.1, .int .i64 p.2] 70)
  have b2 := Box2.new (w.alloc (.cells #[.int .i64 s.1.1, .int .i64 s.1.2, .int .i64 s.2.1, .int .i64 s.2.2] 75)) p
  have hB := belowA (belowA (Below.refl w.heap.size w) (.cells #[.int .i64 s.1.1, .int .i64 s.1.2, .int .i64 s.2.1, .int .i64 s.2.2] 75)) (.cells #[.int .i64 p.1, .int .i64 p.2] 70)
  simp only [World.size_alloc] at b2
  obtain ⟨W, hW⟩ : ∃ W, W = (w.alloc (.cells #[.int .i64 s.1.1, .int .i64 s.1.2, .int .i64 s.2.1, .int .i64 s.2.2] 75)).alloc (.cells #[.int .i64 p.1, .int .i64 p.2] 70) := ⟨_, rfl⟩
  rw [← hW] at b1 b2 hB
  have HB := Off.mk hB
  have HW := Off.mk hW
  unfold onS at hv
  have hz : (turnP s.1 s.2 p == 0) = true := by rw [beq_iff_eq]; exact ht
  have hd : decide (dotP (subP p s.1) (subP p s.2) ≤ 0) = v := by rw [← hv, decide_eq_true ht, Bool.true_and]
  obtain ⟨tn, htn⟩ : ∃ x, x = turnP s.1 s.2 p := ⟨_, rfl⟩
  rw [← htn] at hz C1
  clear hv ht h1 h2 hp hB hW htn
  obtain ⟨x0, x1, x2, x3⟩ := b1
  obtain ⟨z0, z1⟩ := b2
  go_enter Try.func93, Try.ntmps93
  go_wp2
  rw [← HW.out]
  refine wp_region_held_drew (S := (fun w' => ((w'.cell? ⟨w.heap.size, 0, none⟩ = some (.int .i64 s.1.1) ∧ w'.cell? ⟨w.heap.size, 1, none⟩ = some (.int .i64 s.1.2)) ∧ (w'.cell? ⟨w.heap.size, 2, none⟩ = some (.int .i64 s.2.1) ∧ w'.cell? ⟨w.heap.size, 3, none⟩ = some (.int .i64 s.2.2))) ∧ (w'.cell? ⟨w.heap.size + 1, 0, none⟩ = some (.int .i64 p.1) ∧ w'.cell? ⟨w.heap.size + 1, 1, none⟩ = some (.int .i64 p.2)))) (by kernel_rfl) ⟨⟨⟨x0, x1⟩, x2, x3⟩, z0, z1⟩ (fun hHeld => ?_)
  refine wpAnyH_take (i := 0) (oi := ⟨some 5, _, _, _, _, _⟩) (v := ?_) rfl (by kernel_rfl) (by kernel_rfl) (by kernel_rfl) (fun _ _ _ h => h) (Or.inl ⟨by rfl, by intro w hSw; (try dsimp only at hSw); go_simp; try with_reducible rfl⟩) hHeld ?_
  try simp only [Act.put, List.setIfInBounds_toArray, List.set_cons_zero, List.set_cons_succ]
  refine wpAnyH_take (i := 1) (oi := ⟨some 6, _, _, _, _, _⟩) (v := ?_) rfl (by kernel_rfl) (by kernel_rfl) (by kernel_rfl) (fun _ _ _ h => h) (Or.inl ⟨by rfl, by intro w hSw; (try dsimp only at hSw); go_simp; try with_reducible rfl⟩) hHeld ?_
  try simp only [Act.put, List.setIfInBounds_toArray, List.set_cons_zero, List.set_cons_succ]
  refine wpAnyH_take (i := 2) (oi := ⟨some 7, _, _, _, _, _⟩) (v := ?_) rfl (by kernel_rfl) (by kernel_rfl) (by kernel_rfl) (fun _ _ _ h => h) (Or.inl ⟨by rfl, by intro w hSw; (try dsimp only at hSw); go_simp; try with_reducible rfl⟩) hHeld ?_
  try simp only [Act.put, List.setIfInBounds_toArray, List.set_cons_zero, List.set_cons_succ]
  refine wpAnyH_take (i := 3) (oi := ⟨some 8, _, _, _, _, _⟩) (v := ?_) rfl (by kernel_rfl) (by kernel_rfl) (by kernel_rfl) (fun _ _ _ h => h) (Or.inl ⟨by rfl, by intro w hSw; (try dsimp only at hSw); go_simp; try with_reducible rfl⟩) hHeld ?_
  try simp only [Act.put, List.setIfInBounds_toArray, List.set_cons_zero, List.set_cons_succ]
  refine wpAnyH_take (i := 4) (oi := ⟨some 9, _, _, _, _, _⟩) (v := ?_) rfl (by kernel_rfl) (by kernel_rfl) (by kernel_rfl) (fun _ _ _ h => h) (Or.inl ⟨by rfl, by intro w hSw; (try dsimp only at hSw); go_simp; try with_reducible rfl⟩) hHeld ?_
  try simp only [Act.put, List.setIfInBounds_toArray, List.set_cons_zero, List.set_cons_succ]
  refine wpAnyH_ready (rs := [5]) (by kernel_rfl) (by simp) ?_
  refine AllReadyH.cons (o := ⟨some 10, _, _, _, _, _⟩) rfl (fun K hK => ?_) AllReadyH.nil
  go_simp
  go_at_call 92
  refine (C1.out _).mono ?_
  rintro e w1 ⟨rfl, hb1⟩
  have H1 := Off.mk (belowC (below_drew HB.out) hb1)
  go_wp2_with fail
  refine hK.out _ _ ⟨⟨⟨cellB hb1 hHeld.1.1.1, cellB hb1 hHeld.1.1.2⟩, cellB hb1 hHeld.1.2.1, cellB hb1 hHeld.1.2.2⟩, cellB hb1 hHeld.2.1, cellB hb1 hHeld.2.2⟩ (fun hHeld => ?_)
  clear hK K
  try simp only [Act.put, List.setIfInBounds_toArray, List.set_cons_zero, List.set_cons_succ]
  refine wpAnyH_take (i := 6) (oi := ⟨some 11, _, _, _, _, _⟩) (v := ?_) rfl (by kernel_rfl) (by kernel_rfl) (by kernel_rfl) (fun _ _ _ h => h) (Or.inl ⟨by rfl, by intro w hSw; (try dsimp only at hSw); go_simp; try with_reducible rfl⟩) hHeld ?_
  try simp only [Act.put, List.setIfInBounds_toArray, List.set_cons_zero, List.set_cons_succ]
  refine wpAnyH_take (i := 7) (oi := ⟨some 12, _, _, _, _, _⟩) (v := ?_) rfl (by kernel_rfl) (by kernel_rfl) (by kernel_rfl) (fun _ _ _ h => h) (Or.inl ⟨by rfl, by intro w hSw; (try dsimp only at hSw); go_simp; try with_reducible rfl⟩) hHeld ?_
  try simp only [Act.put, List.setIfInBounds_toArray, List.set_cons_zero, List.set_cons_succ]
  refine wpAnyH_take (i := 8) (oi := ⟨some 13, _, _, _, _, _⟩) (v := ?_) rfl (by kernel_rfl) (by kernel_rfl) (by kernel_rfl) (fun _ _ _ h => h) (Or.inl ⟨by rfl, by intro w hSw; (try dsimp only at hSw); go_simp; try with_reducible rfl⟩) hHeld ?_
  try simp only [Act.put, List.setIfInBounds_toArray, List.set_cons_zero, List.set_cons_succ]
  refine wpAnyH_take (i := 9) (oi := ⟨some 14, _, _, _, _, _⟩) (v := ?_) rfl (by kernel_rfl) (by kernel_rfl) (by kernel_rfl) (fun _ _ _ h => h) (Or.inl ⟨by rfl, by intro w hSw; (try dsimp only at hSw); go_simp; try with_reducible rfl⟩) hHeld ?_
  try simp only [Act.put, List.setIfInBounds_toArray, List.set_cons_zero, List.set_cons_succ]
  refine wpAnyH_take (i := 10) (oi := ⟨some 15, _, _, _, _, _⟩) (v := ?_) rfl (by kernel_rfl) (by kernel_rfl) (by kernel_rfl) (fun _ _ _ h => h) (Or.inl ⟨by rfl, by intro w hSw; (try dsimp only at hSw); go_simp; try with_reducible rfl⟩) hHeld ?_
  try simp only [Act.put, List.setIfInBounds_toArray, List.set_cons_zero, List.set_cons_succ]
  refine wpAnyH_take (i := 12) (oi := ⟨some 17, _, _, _, _, _⟩) (v := ?_) rfl (by kernel_rfl) (by kernel_rfl) (by kernel_rfl) (fun _ _ _ h => h) (Or.inl ⟨by rfl, by intro w hSw; (try dsimp only at hSw); go_simp; try with_reducible rfl⟩) hHeld ?_
  try simp only [Act.put, List.setIfInBounds_toArray, List.set_cons_zero, List.set_cons_succ]
  refine wpAnyH_take (i := 13) (oi := ⟨some 18, _, _, _, _, _⟩) (v := ?_) rfl (by kernel_rfl) (by kernel_rfl) (by kernel_rfl) (fun _ _ _ h => h) (Or.inl ⟨by rfl, by intro w hSw; (try dsimp only at hSw); go_simp; try with_reducible rfl⟩) hHeld ?_
  try simp only [Act.put, List.setIfInBounds_toArray, List.set_cons_zero, List.set_cons_succ]
  refine wpAnyH_take (i := 14) (oi := ⟨some 19, _, _, _, _, _⟩) (v := ?_) rfl (by kernel_rfl) (by kernel_rfl) (by kernel_rfl) (fun _ _ _ h => h) (Or.inl ⟨by rfl, by intro w hSw; (try dsimp only at hSw); go_simp; try with_reducible rfl⟩) hHeld ?_
  try simp only [Act.put, List.setIfInBounds_toArray, List.set_cons_zero, List.set_cons_succ]
  refine wpAnyH_ready (rs := [11]) (by kernel_rfl) (by simp) ?_
  refine AllReadyH.cons (o := ⟨some 16, _, _, _, _, _⟩) rfl (fun K hK => ?_) AllReadyH.nil
  go_simp
  go_at_call 84
  refine (C2.out _).mono ?_
  rintro e w2 ⟨rfl, hb2⟩
  have H2 := Off.mk (belowC H1.out hb2)
  go_wp2_with fail
  refine hK.out _ _ ⟨⟨⟨cellB hb2 hHeld.1.1.1, cellB hb2 hHeld.1.1.2⟩, cellB hb2 hHeld.1.2.1, cellB hb2 hHeld.1.2.2⟩, cellB hb2 hHeld.2.1, cellB hb2 hHeld.2.2⟩ (fun hHeld => ?_)
  clear hK K
  try simp only [Act.put, List.setIfInBounds_toArray, List.set_cons_zero, List.set_cons_succ]
  refine wpAnyH_ready (rs := [15]) (by kernel_rfl) (by simp) ?_
  refine AllReadyH.cons (o := ⟨some 20, _, _, _, _, _⟩) rfl (fun K hK => ?_) AllReadyH.nil
  go_simp
  go_at_call 84
  refine (C3.out _).mono ?_
  rintro e w3 ⟨rfl, hb3⟩
  have H3 := Off.mk (belowC H2.out hb3)
  go_wp2_with fail
  refine hK.out _ _ ⟨⟨⟨cellB hb3 hHeld.1.1.1, cellB hb3 hHeld.1.1.2⟩, cellB hb3 hHeld.1.2.1, cellB hb3 hHeld.1.2.2⟩, cellB hb3 hHeld.2.1, cellB hb3 hHeld.2.2⟩ (fun hHeld => ?_)
  clear hK K
  try simp only [Act.put, List.setIfInBounds_toArray, List.set_cons_zero, List.set_cons_succ]
  refine wpAnyH_ready (rs := [16]) (by kernel_rfl) (by simp) ?_
  refine AllReadyH.cons (o := ⟨some 21, _, _, _, _, _⟩) rfl (fun K hK => ?_) AllReadyH.nil
  go_simp
  go_at_call 85
  refine (C4.out _).mono ?_
  rintro e w4 ⟨rfl, hb4⟩
  have H4 := Off.mk (belowC H3.out hb4)
  go_wp2_with fail
  refine hK.out _ _ ⟨⟨⟨cellB hb4 hHeld.1.1.1, cellB hb4 hHeld.1.1.2⟩, cellB hb4 hHeld.1.2.1, cellB hb4 hHeld.1.2.2⟩, cellB hb4 hHeld.2.1, cellB hb4 hHeld.2.2⟩ (fun hHeld => ?_)
  clear hK K
  try simp only [Act.put, List.setIfInBounds_toArray, List.set_cons_zero, List.set_cons_succ]
  refine wpAnyH_take (i := 17) (oi := ⟨some 22, _, _, _, _, _⟩) (v := ?_) rfl (by kernel_rfl) (by kernel_rfl) (by kernel_rfl) (fun _ _ _ h => h) (Or.inl ⟨by rfl, by intro w hSw; (try dsimp only at hSw); go_simp; try with_reducible rfl⟩) hHeld ?_
  try simp only [Act.put, List.setIfInBounds_toArray, List.set_cons_zero, List.set_cons_succ]
  refine wpAnyH_take (i := 18) (oi := ⟨some 23, _, _, _, _, _⟩) (v := ?_) rfl (by kernel_rfl) (by kernel_rfl) (by kernel_rfl) (fun _ _ _ h => h) (Or.inl ⟨by rfl, by intro w hSw; (try dsimp only at hSw); go_simp; try with_reducible rfl⟩) hHeld ?_
  try simp only [Act.put, List.setIfInBounds_toArray, List.set_cons_zero, List.set_cons_succ]
  refine wpAnyH_take (i := 19) (oi := ⟨some 4, _, _, _, _, _⟩) (v := ?_) rfl (by kernel_rfl) (by kernel_rfl) (by kernel_rfl) (fun _ _ _ h => h) (Or.inl ⟨by rfl, by intro w hSw; (try dsimp only at hSw); go_simp; try with_reducible rfl⟩) hHeld ?_
  try simp only [Act.put, List.setIfInBounds_toArray, List.set_cons_zero, List.set_cons_succ]
  refine wpAnyH_done (by kernel_rfl) ?_ _
  go_wp2
  go_ret
  exact ⟨rfl, H4.out⟩
theorem on_any (s : (Int × Int) × (Int × Int)) (p : Int × Int) (v : Bool) (hv : onS s p = v) (h1 : inB 2097152 s.1) (h2 : inB 2097152 s.2) (hp : inB 2097152 p) (w : World) : Calls Try.prog 93 #[sdV s, ptV p] w fun e w' => e = .returned (.bool v) ∧ Below w.heap.size w w' := by
  by_cases ht : turnP s.1 s.2 p = 0
  · exact on_yes s p v ht hv h1 h2 hp w
  · exact on_no s p v ht hv h1 h2 hp w
end Go.Proofs.Ytbpmiphipjkdlaa
