/- Contracts: another point of a triangle. -/
import Derived.Test.YtbpmiphipjkdlaaAv
import Derived.Lib.MinMax
namespace Go.Proofs.Ytbpmiphipjkdlaa
open Go.RowKit Go.Shelf
attribute [local go_sem] Oper.semAt_some

/-- A point of the grid that a triangle has besides its corners. -/
def goodT (t : Tri) (p : Int × Int) : Bool := !(decide (p ∈ triL t)) && decide (0 ≤ whereP (triL t) p)
def lowT (t : Tri) : Int × Int := (min (min (min t.a.1 t.a.1) t.b.1) t.c.1, min (min (min t.a.2 t.a.2) t.b.2) t.c.2)
def highT (t : Tri) : Int × Int := (max (max (max t.a.1 t.a.1) t.b.1) t.c.1, max (max (max t.a.2 t.a.2) t.b.2) t.c.2)
def inBox (t : Tri) (p : Int × Int) : Prop := ((lowT t).1 ≤ p.1 ∧ p.1 ≤ (highT t).1) ∧ (lowT t).2 ≤ p.2 ∧ p.2 ≤ (highT t).2
/-- What other returns: the first such point, column by column; or none. -/
def OtherIs (t : Tri) (p : Int × Int) (b : Bool) : Prop := (b = true ∧ (inBox t p ∧ goodT t p = true) ∧ ∀ q, inBox t q → (q.1 < p.1 ∨ (q.1 = p.1 ∧ q.2 < p.2)) → goodT t q = false) ∨ (b = false ∧ p = (0, 0) ∧ ∀ q, inBox t q → goodT t q = false)
def kthT (t : Tri) (k : Nat) : Int × Int := if k = 0 then t.a else if k = 1 then t.b else t.c
def lowK (t : Tri) : Nat → Int × Int
  | 0 => t.a
  | k + 1 => (min (lowK t k).1 (kthT t k).1, min (lowK t k).2 (kthT t k).2)
def highK (t : Tri) : Nat → Int × Int
  | 0 => t.a
  | k + 1 => (max (highK t k).1 (kthT t k).1, max (highK t k).2 (kthT t k).2)
/-- other's answer. -/
def OtherRes (t : Tri) (e : Ending) : Prop := ∃ p b, e = .returned (.tuple #[ptV p, .bool b]) ∧ OtherIs t p b
def noneX (t : Tri) (x : Int) : Prop := ∀ q, inBox t q → q.1 < x → goodT t q = false
def noneY (t : Tri) (x y : Int) : Prop := ∀ q, inBox t q → (q.1 < x ∨ (q.1 = x ∧ q.2 < y)) → goodT t q = false
/-- What stands while other looks: the triangle, the result's box, the least and the greatest numbers. -/
structure OtherI (t : Tri) (lo hi : Int × Int) (T La Lb : Nat) (w W : World) : Prop where
  bL : W.heap[La]? = some (.cells #[.int .i64 lo.1, .int .i64 lo.2] 70 (0, 0))
  bH : W.heap[Lb]? = some (.cells #[.int .i64 hi.1, .int .i64 hi.2] 70 (0, 0))
  bT : Box6 W T t
  bR : W.heap[T + 1]? = some (.cells #[.int .i64 0, .int .i64 0] 70 (0, 0))
  B : Below T w W
theorem OtherI.below {t : Tri} {lo hi : Int × Int} {T La Lb : Nat} {w W W' : World} (h : OtherI t lo hi T La Lb w W) (hb : Below W.heap.size W W') : OtherI t lo hi T La Lb w W' :=
  ⟨blockB hb h.bL, blockB hb h.bH, blockB hb h.bT, blockB hb h.bR, h.B.trans (hb.mono (Nat.le_of_lt h.bT.lt))⟩
theorem OtherI.drew {t : Tri} {lo hi : Int × Int} {T La Lb : Nat} {w W : World} (h : OtherI t lo hi T La Lb w W) : OtherI t lo hi T La Lb w W.drew := ⟨h.bL, h.bH, h.bT, h.bR, below_drew h.B⟩
theorem two_blocksN {n : Nat} {w0 w : World} {A B : Nat} {x y z u : Value} (p q : Int × Int) (hb : Below n w0 w) (hA : n ≤ A) (hB : n ≤ B) (hne : A ≠ B) (bA : w.heap[A]? = some (.cells #[x, y] 70 (0, 0))) (bB : w.heap[B]? = some (.cells #[z, u] 70 (0, 0))) :
    (((((w.setCell ⟨A, 0, none⟩ (.int .i64 p.1)).setCell ⟨A, 1, none⟩ (.int .i64 p.2)).setCell ⟨B, 0, none⟩ (.int .i64 q.1)).setCell ⟨B, 1, none⟩ (.int .i64 q.2)).heap[A]? = some (.cells #[.int .i64 p.1, .int .i64 p.2] 70 (0, 0)) ∧
    ((((w.setCell ⟨A, 0, none⟩ (.int .i64 p.1)).setCell ⟨A, 1, none⟩ (.int .i64 p.2)).setCell ⟨B, 0, none⟩ (.int .i64 q.1)).setCell ⟨B, 1, none⟩ (.int .i64 q.2)).heap[B]? = some (.cells #[.int .i64 q.1, .int .i64 q.2] 70 (0, 0))) ∧
    Below n w0 ((((w.setCell ⟨A, 0, none⟩ (.int .i64 p.1)).setCell ⟨A, 1, none⟩ (.int .i64 p.2)).setCell ⟨B, 0, none⟩ (.int .i64 q.1)).setCell ⟨B, 1, none⟩ (.int .i64 q.2)) := by
  refine ⟨⟨?_, ?_⟩, ?_⟩
  · rw [heap_setCell_other _ _ _ _ hne, heap_setCell_other _ _ _ _ hne]
    exact heap_setCell_same _ A 1 _ _ _ (heap_setCell_same w A 0 _ _ _ bA)
  · have h1 : ((w.setCell ⟨A, 0, none⟩ (.int .i64 p.1)).setCell ⟨A, 1, none⟩ (.int .i64 p.2)).heap[B]? = some (.cells #[z, u] 70 (0, 0)) := by
      rw [heap_setCell_other _ _ _ _ (Ne.symm hne), heap_setCell_other _ _ _ _ (Ne.symm hne)]
      exact bB
    exact heap_setCell_same _ B 1 _ _ _ (heap_setCell_same _ B 0 _ _ _ h1)
  · exact (((hb.setCell (p := ⟨A, 0, none⟩) hA _).setCell (p := ⟨A, 1, none⟩) hA _).setCell (p := ⟨B, 0, none⟩) hB _).setCell (p := ⟨B, 1, none⟩) hB _
theorem block_4set {w : World} {A B C : Nat} {o : Obj} (a b c d : Value) (h : w.heap[C]? = some o) (hA : C ≠ A) (hB : C ≠ B) : ((((w.setCell ⟨A, 0, none⟩ a).setCell ⟨A, 1, none⟩ b).setCell ⟨B, 0, none⟩ c).setCell ⟨B, 1, none⟩ d).heap[C]? = some o := by
  rw [heap_setCell_other _ _ _ _ hB, heap_setCell_other _ _ _ _ hB, heap_setCell_other _ _ _ _ hA, heap_setCell_other _ _ _ _ hA]
  exact h
theorem index3_0 (t : Tri) (w : World) : (Instr.index 85 (triV t) (.int .i64 0)).run Try.prog w = .ok (ptV t.a) w := by kernel_rfl
theorem index3_1 (t : Tri) (w : World) : (Instr.index 85 (triV t) (.int .i64 1)).run Try.prog w = .ok (ptV t.b) w := by kernel_rfl
theorem index3_2 (t : Tri) (w : World) : (Instr.index 85 (triV t) (.int .i64 2)).run Try.prog w = .ok (ptV t.c) w := by kernel_rfl
theorem triL_in {t : Tri} {b c : Int} (h : inT b t) (hc : b ≤ c) (h0 : 0 ≤ c) (i : Nat) : inB c ((triL t).getD i (0, 0)) := by
  match i with
  | 0 => exact inB_mono h.1 hc
  | 1 => exact inB_mono h.2.1 hc
  | 2 => exact inB_mono h.2.2 hc
  | i + 3 => simp [triL, inB, h0]
theorem low_high {t : Tri} (h : inT 50 t) : inB 50 (lowT t) ∧ inB 50 (highT t) ∧ (lowT t).1 ≤ (highT t).1 ∧ (lowT t).2 ≤ (highT t).2 := by
  unfold inT inB at *
  unfold lowT highT
  simp only
  omega
set_option maxRecDepth 100000 in
set_option maxHeartbeats 8000000 in
theorem other_any (t : Tri) (w : World) (ht : inT 50 t) : Calls Try.prog 107 #[triV t] w fun e w' => OtherRes t e ∧ Below w.heap.size w w' := by
  have HX := Off.mk ht
  clear ht
  refine (callsIn_wide (n := 9)).1 ?_
  refine callsIn_of_wp Try.func107 rfl trivial ?_ rfl
  simp only [Try.ntmps107, List.size_toArray, List.length_cons, List.length_nil, Nat.reduceAdd, Nat.reduceSub, Array.replicate_succ, Array.replicate_zero, List.push_toArray, List.append_toArray, List.nil_append, List.cons_append]
  obtain ⟨T, hT⟩ : ∃ T, T = w.heap.size := ⟨_, rfl⟩
  have HT := Off.mk hT
  obtain ⟨W0, hW0⟩ : ∃ W, (w.alloc (.cells #[.int .i64 t.a.1, .int .i64 t.a.2, .int .i64 t.b.1, .int .i64 t.b.2, .int .i64 t.c.1, .int .i64 t.c.2] 85)).alloc (.cells #[.int .i64 0, .int .i64 0] 70) = W := ⟨_, rfl⟩
  have bT : Box6 W0 T t := by rw [← hW0, hT]; exact alloc_old (block_new w _)
  have bR : W0.heap[T + 1]? = some (.cells #[.int .i64 0, .int .i64 0] 70 (0, 0)) := by
    rw [← hW0, hT]
    have := block_new (w.alloc (.cells #[.int .i64 t.a.1, .int .i64 t.a.2, .int .i64 t.b.1, .int .i64 t.b.2, .int .i64 t.c.1, .int .i64 t.c.2] 85)) (.cells #[.int .i64 0, .int .i64 0] 70)
    rwa [World.size_alloc] at this
  have hB0 : Below w.heap.size w W0 := by rw [← hW0]; exact belowA (belowA (Below.refl _ w) _) _
  have hsz : W0.heap.size = T + 2 := by rw [← hW0, hT]; simp
  gi_wp2_with fail
  rw [← HT.out]
  rw [← HT.out] at hB0
  clear hW0 hT
  obtain ⟨⟨⟨a0, a1⟩, ⟨a2, a3⟩, a4, a5⟩, _⟩ := bT.facts
  refine wpIn_mono (Q := (fun e a'' W5 => e = .normal ∧ ∃ La Lb, ((W5.heap[La]? = some (.cells #[.int .i64 t.a.1, .int .i64 t.a.2] 70 (0, 0)) ∧ W5.heap[Lb]? = some (.cells #[.int .i64 t.a.1, .int .i64 t.a.2] 70 (0, 0))) ∧ Below W0.heap.size W0 W5) ∧ La ≠ Lb ∧ W0.heap.size ≤ La ∧ W0.heap.size ≤ Lb ∧ a'' = { tmps := #[triV t, Value.pointer (some ⟨T, 0, none⟩), Value.pointer (some ⟨T + 1, 0, none⟩), Value.bool false, Value.pointer (some ⟨La, 0, none⟩), Value.pointer (some ⟨Lb, 0, none⟩), undef, undef, undef, undef, undef, Value.pointer (some ⟨T, 0, none⟩), ptV t.a, Value.pointer (some ⟨T, 0, none⟩), ptV t.a, undef, undef, undef, undef, undef, undef, undef, undef, undef, undef, undef, undef, undef, undef, undef, undef, undef, undef, undef, undef, undef, undef, undef, undef, undef, undef, undef, undef, undef, undef, undef, undef, undef, undef, undef, undef, undef, undef, undef, undef, undef, undef, undef, undef, undef, undef, undef, undef, undef, undef, undef, undef, undef, undef, undef, undef, undef, undef], defers := [] })) ?_ ?_
  · clear HX
    have SS : (fun w' => w'.cell? ⟨T, 0, none⟩ = some (.int .i64 t.a.1) ∧ w'.cell? ⟨T, 1, none⟩ = some (.int .i64 t.a.2)) W0 := ⟨a0, a1⟩
    have keepS : ∀ {v : World}, Below W0.heap.size W0 v → (fun w' => w'.cell? ⟨T, 0, none⟩ = some (.int .i64 t.a.1) ∧ w'.cell? ⟨T, 1, none⟩ = some (.int .i64 t.a.2)) W0 → (fun w' => w'.cell? ⟨T, 0, none⟩ = some (.int .i64 t.a.1) ∧ w'.cell? ⟨T, 1, none⟩ = some (.int .i64 t.a.2)) v := fun hb ⟨s0, s1⟩ => ⟨cellB hb s0, cellB hb s1⟩
    refine region_anyS' (S := (fun w' => w'.cell? ⟨T, 0, none⟩ = some (.int .i64 t.a.1) ∧ w'.cell? ⟨T, 1, none⟩ = some (.int .i64 t.a.2))) 7 (by kernel_rfl) SS (fun hInv hHeld => ?_)
    refine anyS_take (i := 0) (oi := ⟨some 11, _, _, _, _, _⟩) (v := ?_) (by kernel_rfl) rfl (by kernel_rfl) (by kernel_rfl) (by kernel_rfl) (by kernel_rfl) (fun _ _ _ h => by cases h.1) (Or.inl ⟨by rfl, by intro w hSw; (try dsimp only at hSw); go_simp; try with_reducible rfl⟩) (fun _ => by first | rfl | simp [Oper.about, resolve, go_sem]) hInv hHeld (fun hInv hHeld => ?_)
    try simp only [Act.put, List.setIfInBounds_toArray, List.set_cons_zero, List.set_cons_succ]
    refine anyS_take (i := 1) (oi := ⟨some 12, _, _, _, _, _⟩) (v := ?_) (by kernel_rfl) rfl (by kernel_rfl) (by kernel_rfl) (by kernel_rfl) (by kernel_rfl) (fun _ _ _ h => by cases h.1) (Or.inl ⟨by rfl, by intro w hSw; (try dsimp only at hSw); go_simp; try with_reducible rfl⟩) (fun _ => by first | rfl | simp [Oper.about, resolve, go_sem]) hInv hHeld (fun hInv hHeld => ?_)
    try simp only [Act.put, List.setIfInBounds_toArray, List.set_cons_zero, List.set_cons_succ]
    refine anyS_take (i := 2) (oi := ⟨some 13, _, _, _, _, _⟩) (v := ?_) (by kernel_rfl) rfl (by kernel_rfl) (by kernel_rfl) (by kernel_rfl) (by kernel_rfl) (fun _ _ _ h => by cases h.1) (Or.inl ⟨by rfl, by intro w hSw; (try dsimp only at hSw); go_simp; try with_reducible rfl⟩) (fun _ => by first | rfl | simp [Oper.about, resolve, go_sem]) hInv hHeld (fun hInv hHeld => ?_)
    try simp only [Act.put, List.setIfInBounds_toArray, List.set_cons_zero, List.set_cons_succ]
    refine anyS_take (i := 3) (oi := ⟨some 14, _, _, _, _, _⟩) (v := ?_) (by kernel_rfl) rfl (by kernel_rfl) (by kernel_rfl) (by kernel_rfl) (by kernel_rfl) (fun _ _ _ h => by cases h.1) (Or.inl ⟨by rfl, by intro w hSw; (try dsimp only at hSw); go_simp; try with_reducible rfl⟩) (fun _ => by first | rfl | simp [Oper.about, resolve, go_sem]) hInv hHeld (fun hInv hHeld => ?_)
    try simp only [Act.put, List.setIfInBounds_toArray, List.set_cons_zero, List.set_cons_succ]
    obtain ⟨V0, hV0⟩ : ∃ V, W0.drew = V := ⟨_, rfl⟩
    have hb0 : Below W0.heap.size W0 V0 := by rw [← hV0]; exact (Below.refl _ W0).drew
    rw [hV0] at hHeld ⊢
    clear hV0
    refine anyS_two (i := 4) (o := ⟨some 4, _, _, _, _, _⟩) (j := 5) (p := ⟨some 5, _, _, _, _, _⟩) (by kernel_rfl) rfl rfl hInv (fun K hK => ?_) (fun K hK => ?_)
    · go_simp
      have hb1 := belowA hb0 (.cells #[.int .i64 0, .int .i64 0] 70)
      refine hK.out _ _ (fun _ => keepS hb1 SS) (fun hInv hHeld => ?_)
      clear hK K
      try simp only [Act.put, List.setIfInBounds_toArray, List.set_cons_zero, List.set_cons_succ]
      have bA := block_new V0 (.cells #[.int .i64 0, .int .i64 0] 70)
      have szA := hb0.size
      obtain ⟨U1, hU⟩ : ∃ U, (V0.alloc (.cells #[.int .i64 0, .int .i64 0] 70)) = U := ⟨_, rfl⟩
      rw [hU] at hb1 bA ⊢
      rw [hU] at hHeld
      clear hU
      refine anyS_one (i := 5) (o := ⟨some 5, _, _, _, _, _⟩) (by kernel_rfl) rfl hInv (fun K hK => ?_)
      go_simp
      have hb2 := belowA hb1 (.cells #[.int .i64 0, .int .i64 0] 70)
      refine hK.out _ _ (fun _ => keepS hb2 SS) (fun hInv hHeld => ?_)
      clear hK K
      try simp only [Act.put, List.setIfInBounds_toArray, List.set_cons_zero, List.set_cons_succ]
      have hlt2 := (Array.getElem?_eq_some_iff.1 bA).1
      have bA := alloc_old (o' := (.cells #[.int .i64 0, .int .i64 0] 70)) bA
      have bB := block_new U1 (.cells #[.int .i64 0, .int .i64 0] 70)
      have szB := hb1.size
      obtain ⟨U2, hU⟩ : ∃ U, (U1.alloc (.cells #[.int .i64 0, .int .i64 0] 70)) = U := ⟨_, rfl⟩
      rw [hU] at hb2 bB bA ⊢
      rw [hU] at hHeld
      clear hU
      have hne : V0.heap.size ≠ U1.heap.size := by omega
      obtain ⟨⟨x0, x1⟩, y0, y1⟩ := two_facts bA
      obtain ⟨⟨z0, z1⟩, u0, u1⟩ := two_facts bB
      have hne' := Ne.symm hne
      refine anyS_one (i := 6) (o := ⟨none, _, _, _, _, _⟩) (by kernel_rfl) rfl hInv (fun K hK => ?_)
      go_simp
      refine hK.out _ _ (fun _ => keepS ((hb2.setCell (p := ⟨V0.heap.size, 0, none⟩) szA _).setCell (p := ⟨V0.heap.size, 1, none⟩) szA _) SS) (fun hInv hHeld => ?_)
      clear hK K
      try simp only [Act.put, List.setIfInBounds_toArray, List.set_cons_zero, List.set_cons_succ]
      refine anyS_one (i := 7) (o := ⟨none, _, _, _, _, _⟩) (by kernel_rfl) rfl hInv (fun K hK => ?_)
      go_simp
      refine hK.out _ _ (fun e => absurd (show true = false from e) (by decide)) (fun hInv hHeld => ?_)
      clear hK K
      try simp only [Act.put, List.setIfInBounds_toArray, List.set_cons_zero, List.set_cons_succ]
      refine anyS_done (by kernel_rfl) ?_ _
      exact ⟨rfl, V0.heap.size, U1.heap.size, two_blocks t.a t.a hb2 szA szB hne bA bB, hne, szA, szB, rfl⟩
    · go_simp
      have hb1 := belowA hb0 (.cells #[.int .i64 0, .int .i64 0] 70)
      refine hK.out _ _ (fun _ => keepS hb1 SS) (fun hInv hHeld => ?_)
      clear hK K
      try simp only [Act.put, List.setIfInBounds_toArray, List.set_cons_zero, List.set_cons_succ]
      have bB := block_new V0 (.cells #[.int .i64 0, .int .i64 0] 70)
      have szB := hb0.size
      obtain ⟨U1, hU⟩ : ∃ U, (V0.alloc (.cells #[.int .i64 0, .int .i64 0] 70)) = U := ⟨_, rfl⟩
      rw [hU] at hb1 bB ⊢
      rw [hU] at hHeld
      clear hU
      refine anyS_one (i := 4) (o := ⟨some 4, _, _, _, _, _⟩) (by kernel_rfl) rfl hInv (fun K hK => ?_)
      go_simp
      have hb2 := belowA hb1 (.cells #[.int .i64 0, .int .i64 0] 70)
      refine hK.out _ _ (fun _ => keepS hb2 SS) (fun hInv hHeld => ?_)
      clear hK K
      try simp only [Act.put, List.setIfInBounds_toArray, List.set_cons_zero, List.set_cons_succ]
      have hlt2 := (Array.getElem?_eq_some_iff.1 bB).1
      have bB := alloc_old (o' := (.cells #[.int .i64 0, .int .i64 0] 70)) bB
      have bA := block_new U1 (.cells #[.int .i64 0, .int .i64 0] 70)
      have szA := hb1.size
      obtain ⟨U2, hU⟩ : ∃ U, (U1.alloc (.cells #[.int .i64 0, .int .i64 0] 70)) = U := ⟨_, rfl⟩
      rw [hU] at hb2 bA bB ⊢
      rw [hU] at hHeld
      clear hU
      have hne : U1.heap.size ≠ V0.heap.size := by omega
      obtain ⟨⟨x0, x1⟩, y0, y1⟩ := two_facts bA
      obtain ⟨⟨z0, z1⟩, u0, u1⟩ := two_facts bB
      have hne' := Ne.symm hne
      refine anyS_one (i := 6) (o := ⟨none, _, _, _, _, _⟩) (by kernel_rfl) rfl hInv (fun K hK => ?_)
      go_simp
      refine hK.out _ _ (fun _ => keepS ((hb2.setCell (p := ⟨U1.heap.size, 0, none⟩) szA _).setCell (p := ⟨U1.heap.size, 1, none⟩) szA _) SS) (fun hInv hHeld => ?_)
      clear hK K
      try simp only [Act.put, List.setIfInBounds_toArray, List.set_cons_zero, List.set_cons_succ]
      refine anyS_one (i := 7) (o := ⟨none, _, _, _, _, _⟩) (by kernel_rfl) rfl hInv (fun K hK => ?_)
      go_simp
      refine hK.out _ _ (fun e => absurd (show true = false from e) (by decide)) (fun hInv hHeld => ?_)
      clear hK K
      try simp only [Act.put, List.setIfInBounds_toArray, List.set_cons_zero, List.set_cons_succ]
      refine anyS_done (by kernel_rfl) ?_ _
      exact ⟨rfl, U1.heap.size, V0.heap.size, two_blocks t.a t.a hb2 szA szB hne bA bB, hne, szA, szB, rfl⟩
  rintro _ _ W5 ⟨rfl, La, Lb, ⟨⟨bL, bH⟩, hb5⟩, hne, hLa, hLb, rfl⟩
  have bT := bT.below hb5
  have bR := blockB hb5 bR
  have hB5 := hB0.trans (hb5.mono (by omega))
  have hs5 := hb5.size
  clear a0 a1 a2 a3 a4 a5 hb5
  obtain ⟨⟨⟨a0, a1⟩, ⟨a2, a3⟩, a4, a5⟩, _⟩ := bT.facts
  gi_wp2_with fail
  gi_loopw [16] (fun kv wr => ∃ k : Nat, k ≤ 3 ∧ kv = .int .i64 k ∧ Off (OtherI t (lowK t k) (highK t k) T La Lb w wr)) (fun kv _ => 3 - (intOf kv).toNat)
  case atStart => exact ⟨0, by omega, rfl, ⟨⟨bL, bH, bT, bR, hB5⟩⟩⟩
  case round =>
    obtain ⟨k, hk, rfl, hI⟩ := hrel
    clear a0 a1 a2 a3 a4 a5 bL bH bT bR hB5
    have hkc : k = 3 ∨ k = 0 ∨ k = 1 ∨ k = 2 := by omega
    rcases hkc with hk3 | hkc
    · have hI3 : OtherI t (lowT t) (highT t) T La Lb w wr := by have := hI.out; rw [hk3] at this; exact this
      have hk3' : ¬ ((k : Int) < 3) := by omega
      clear hk3 hk
      have hlh := low_high HX.out
      have HQ50 := Off.mk (fun (q : Int × Int) (h : inBox t q) => (show inB 50 q from by unfold inBox at h; unfold inB at hlh ⊢; omega))
      obtain ⟨lo, hlo⟩ : ∃ lo, lo = lowT t := ⟨_, rfl⟩
      obtain ⟨hi, hhi⟩ : ∃ hi, hi = highT t := ⟨_, rfl⟩
      have HBox : Off (∀ q, inBox t q ↔ ((lo.1 ≤ q.1 ∧ q.1 ≤ hi.1) ∧ lo.2 ≤ q.2 ∧ q.2 ≤ hi.2)) := ⟨fun q => by rw [hlo, hhi]; exact Iff.rfl⟩
      rw [← hlo, ← hhi] at hI3 hlh
      unfold inB at hlh
      have HI3 := Off.mk hI3
      obtain ⟨⟨l0, l1⟩, _⟩ := two_facts hI3.bL
      clear hI hI3 hlo hhi
      gi_wp2_with fail
      gi_loopw [8] (fun xv wo => ∃ x : Int, xv = .int .i64 x ∧ (lo.1 ≤ x ∧ x ≤ hi.1 + 1) ∧ Off (noneX t x) ∧ Off (OtherI t lo hi T La Lb w wo)) (fun xv _ => (hi.1 + 1 - intOf xv).toNat)
      case atStart => exact ⟨lo.1, rfl, by omega, ⟨fun q hq hx => by rw [HBox.out] at hq; omega⟩, HI3⟩
      case round =>
        obtain ⟨x, rfl, hx, HN, HI⟩ := hrel
        obtain ⟨wo, hwo⟩ : ∃ wo : World, wo = wr := ⟨_, rfl⟩
        clear HI3 l0 l1
        have hI := HI.out
        obtain ⟨⟨l0, l1⟩, _⟩ := two_facts hI.bL
        obtain ⟨⟨h0, h1⟩, _⟩ := two_facts hI.bH
        clear hI hwo
        have W1 : IntKind.i64.wrap (x + 1) = x + 1 := by rw [IntKind.wrap_i64]; omega
        by_cases hxh : x ≤ hi.1
        · gi_wp2_with fail
          gi_loopw [9] (fun yv wi => ∃ y : Int, yv = .int .i64 y ∧ (lo.2 ≤ y ∧ y ≤ hi.2 + 1) ∧ Off (noneY t x y) ∧ Off (OtherI t lo hi T La Lb w wi)) (fun yv _ => (hi.2 + 1 - intOf yv).toNat)
          case atStart => exact ⟨lo.2, rfl, by omega, ⟨fun q hq h => by
            rcases h with h | h
            · exact HN.out q hq h
            · rw [HBox.out] at hq; omega⟩, HI⟩
          case round =>
            obtain ⟨y, rfl, hy, HNy, HIy⟩ := hrel
            have hIy := HIy.out
            clear l0 l1 h0 h1
            obtain ⟨⟨h0, h1⟩, _⟩ := two_facts hIy.bH
            have W2 : IntKind.i64.wrap (y + 1) = y + 1 := by rw [IntKind.wrap_i64]; omega
            by_cases hyh : y ≤ hi.2
            · have hxr := hx
              obtain ⟨q, rfl, rfl⟩ : ∃ q : Int × Int, x = q.1 ∧ y = q.2 := ⟨(x, y), rfl, rfl⟩
              have hbox : inBox t q := by rw [HBox.out]; omega
              clear hxr
              have hq50 := HQ50.out q hbox
              have HBX := Off.mk hbox
              obtain ⟨Q, hQ⟩ : ∃ Q, Q = wr.heap.size := ⟨_, rfl⟩
              obtain ⟨wq, hwq⟩ : ∃ W, wr.alloc (.cells #[.int .i64 q.1, .int .i64 q.2] 70) = W := ⟨_, rfl⟩
              have hbq : Below wr.heap.size wr wq := by rw [← hwq]; exact belowA (Below.refl _ wr) _
              have bQ : wq.heap[Q]? = some (.cells #[.int .i64 q.1, .int .i64 q.2] 70 (0, 0)) := by rw [← hwq, hQ]; exact block_new wr _
              obtain ⟨⟨q0, q1⟩, _⟩ := two_facts bQ
              have HIq := Off.mk (hIy.below hbq)
              have bTq : Box6 wq.drew T t := HIq.out.bT
              have HV := Off.mk (fun (V : World) (hb : Below wq.drew.heap.size wq.drew V) => (HIq.out.below (W' := V) ⟨hb.os, hb.tape, hb.output, hb.size, hb.block⟩))
              have HNB' : Off (goodT t q = false → noneY t q.1 (q.2 + 1)) := ⟨fun hg q' hq' h => by
                by_cases e : q' = q
                · rw [e]; exact hg
                · refine HNy.out q' hq' ?_
                  rcases h with h | h
                  · exact .inl h
                  · refine .inr ⟨h.1, ?_⟩
                    by_cases e2 : q'.2 = q.2
                    · exact absurd (Prod.ext h.1 e2) e
                    · omega⟩
              obtain ⟨m, hm⟩ : ∃ m, m = decide (q ∈ triL t) := ⟨_, rfl⟩
              have C105 : Off (∀ W, Box6 W T t → Calls Try.prog 105 #[.slice (some ⟨T, 0, none⟩) 3 3, ptV q] W fun e w' => e = .returned (.bool m) ∧ Below W.heap.size W w') := ⟨fun W hb => contains105_any (triL t) _ 3 q m hm.symm W (by simp [triL]) hb.pairs⟩
              obtain ⟨v, hv⟩ : ∃ v, v = whereP (triL t) q := ⟨_, rfl⟩
              have C55 : Off (∀ W, Box6 W T t → Calls Try.prog 55 #[.slice (some ⟨T, 0, none⟩) 3 3, ptV q] W fun e w' => e = .returned (.int .i64 v) ∧ Below W.heap.size W w') := ⟨fun W hb => by rw [hv]; exact where_any (triL t) T 3 q W hb.lt (by simp [triL]) (fun i => triL_in HX.out (by decide) (by decide) i) (inB_mono hq50 (by decide)) hb.rows⟩
              have HG : Off (goodT t q = (!m && decide (0 ≤ v))) := ⟨by unfold goodT; rw [hm, hv]⟩
              clear hm hv hq50 hbox bQ hbq hIy
              gi_wp2_with fail
              try rw [← hQ]
              clear hQ hwq
              cases m with
              | true =>
                have HNB : Off (noneY t q.1 (q.2 + 1)) := ⟨HNB'.out (by rw [HG.out]; rfl)⟩
                refine region_anyS' (S := (fun w' => w'.cell? ⟨Q, 0, none⟩ = some (.int .i64 q.1) ∧ w'.cell? ⟨Q, 1, none⟩ = some (.int .i64 q.2))) 7 (by kernel_rfl) ⟨q0, q1⟩ (fun hInv hHeld => ?_)
                refine anyS_take (i := 0) (oi := ⟨some 61, _, _, _, _, _⟩) (v := ?_) (by kernel_rfl) rfl (by kernel_rfl) (by kernel_rfl) (by kernel_rfl) (by kernel_rfl) (fun _ _ _ h => h) (Or.inl ⟨by rfl, by intro w hSw; (try dsimp only at hSw); go_simp; try with_reducible rfl⟩) (fun _ => by first | rfl | simp [Oper.about, resolve, go_sem]) hInv hHeld (fun hInv hHeld => ?_)
                try simp only [Act.put, List.setIfInBounds_toArray, List.set_cons_zero, List.set_cons_succ]
                refine anyS_take (i := 1) (oi := ⟨some 62, _, _, _, _, _⟩) (v := ?_) (by kernel_rfl) rfl (by kernel_rfl) (by kernel_rfl) (by kernel_rfl) (by kernel_rfl) (fun _ _ _ h => h) (Or.inl ⟨by rfl, by intro w hSw; (try dsimp only at hSw); go_simp; try with_reducible rfl⟩) (fun _ => by first | rfl | simp [Oper.about, resolve, go_sem]) hInv hHeld (fun hInv hHeld => ?_)
                try simp only [Act.put, List.setIfInBounds_toArray, List.set_cons_zero, List.set_cons_succ]
                refine anyS_one (i := 2) (o := ⟨some 63, _, _, _, _, _⟩) (by kernel_rfl) rfl hInv (fun K hK => ?_)
                go_simp
                refine ⟨trivial, ?_⟩
                refine (callsIn_wide.2 (C105.out _ bTq)).mono ?_
                rintro e V1 ⟨rfl, hv1⟩
                refine hK.out _ _ (fun _ => ⟨cellB hv1 q0, cellB hv1 q1⟩) (fun hInv hHeld => ?_)
                clear hK K
                try simp only [Act.put, List.setIfInBounds_toArray, List.set_cons_zero, List.set_cons_succ]
                refine anyS_take (i := 3) (oi := ⟨some 64, _, _, _, _, _⟩) (v := ?_) (by kernel_rfl) rfl (by kernel_rfl) (by kernel_rfl) (by kernel_rfl) (by kernel_rfl) (fun _ _ _ h => h) (Or.inl ⟨by rfl, by intro w hSw; (try dsimp only at hSw); go_simp; try with_reducible rfl⟩) (fun _ => by first | rfl | simp [Oper.about, resolve, go_sem]) hInv hHeld (fun hInv hHeld => ?_)
                try simp only [Act.put, List.setIfInBounds_toArray, List.set_cons_zero, List.set_cons_succ]
                refine anyS_take (i := 4) (oi := ⟨some 65, _, _, _, _, _⟩) (v := ?_) (by kernel_rfl) rfl (by kernel_rfl) (by kernel_rfl) (by kernel_rfl) (by kernel_rfl) (fun _ _ _ h => h) (Or.inl ⟨by rfl, by intro w hSw; (try dsimp only at hSw); go_simp; try with_reducible rfl⟩) (fun _ => by first | rfl | simp [Oper.about, resolve, go_sem]) hInv hHeld (fun hInv hHeld => ?_)
                try simp only [Act.put, List.setIfInBounds_toArray, List.set_cons_zero, List.set_cons_succ]
                refine anyS_take (i := 5) (oi := ⟨some 66, _, _, _, _, _⟩) (v := undef) (by kernel_rfl) rfl (by kernel_rfl) (by kernel_rfl) (by kernel_rfl) (by kernel_rfl) (fun _ _ _ h => h) (Or.inr ⟨by rfl, rfl⟩) (fun _ => by first | rfl | simp [Oper.about, resolve, go_sem]) hInv hHeld (fun hInv hHeld => ?_)
                try simp only [Act.put, List.setIfInBounds_toArray, List.set_cons_zero, List.set_cons_succ]
                refine anyS_take (i := 6) (oi := ⟨some 67, _, _, _, _, _⟩) (v := undef) (by kernel_rfl) rfl (by kernel_rfl) (by kernel_rfl) (by kernel_rfl) (by kernel_rfl) (fun _ _ _ h => h) (Or.inr ⟨by rfl, rfl⟩) (fun _ => by first | rfl | simp [Oper.about, resolve, go_sem]) hInv hHeld (fun hInv hHeld => ?_)
                try simp only [Act.put, List.setIfInBounds_toArray, List.set_cons_zero, List.set_cons_succ]
                refine anyS_one (i := 7) (o := ⟨some 68, _, _, _, _, _⟩) (by kernel_rfl) rfl hInv (fun K hK => ?_)
                go_simp
                refine ⟨trivial, ?_⟩
                refine hK.out _ _ (fun e => absurd (show true = false from e) (by decide)) (fun hInv hHeld => ?_)
                clear hK K
                try simp only [Act.put, List.setIfInBounds_toArray, List.set_cons_zero, List.set_cons_succ]
                refine anyS_pure (i := 8) (oi := ⟨some 69, _, _, _, _, _⟩) (v := undef) (by kernel_rfl) rfl (by kernel_rfl) (by kernel_rfl) (by kernel_rfl) (by decide) (fun _ _ _ h => h) (Or.inr ⟨by rfl, rfl⟩) (fun _ => by first | rfl | simp [Oper.about, resolve, go_sem]) hInv hHeld (fun hInv hHeld => ?_)
                try simp only [Act.put, List.setIfInBounds_toArray, List.set_cons_zero, List.set_cons_succ]
                refine anyS_pure (i := 9) (oi := ⟨some 70, _, _, _, _, _⟩) (v := ?_) (by kernel_rfl) rfl (by kernel_rfl) (by kernel_rfl) (by kernel_rfl) (by decide) (fun _ _ _ h => h) (Or.inl ⟨by rfl, by intro w hSw; (try dsimp only at hSw); go_simp; try with_reducible rfl⟩) (fun _ => by first | rfl | simp [Oper.about, resolve, go_sem]) hInv hHeld (fun hInv hHeld => ?_)
                try simp only [Act.put, List.setIfInBounds_toArray, List.set_cons_zero, List.set_cons_succ]
                refine anyS_done (by kernel_rfl) ?_ _
                have HIV := Off.mk (HV.out _ hv1)
                gi_wp2
                go_roundw
                case rel => exact ⟨q.2 + 1, rfl, by omega, HNB, HIV⟩
                case measure => simp only [intOf]; omega
              | false =>
                by_cases h0v : 0 ≤ v
                · have HGood : Off (goodT t q = true) := ⟨by rw [HG.out, decide_eq_true h0v]; rfl⟩
                  refine region_anyS' (S := (fun w' => w'.cell? ⟨Q, 0, none⟩ = some (.int .i64 q.1) ∧ w'.cell? ⟨Q, 1, none⟩ = some (.int .i64 q.2))) 7 (by kernel_rfl) ⟨q0, q1⟩ (fun hInv hHeld => ?_)
                  refine anyS_take (i := 0) (oi := ⟨some 61, _, _, _, _, _⟩) (v := ?_) (by kernel_rfl) rfl (by kernel_rfl) (by kernel_rfl) (by kernel_rfl) (by kernel_rfl) (fun _ _ _ h => h) (Or.inl ⟨by rfl, by intro w hSw; (try dsimp only at hSw); go_simp; try with_reducible rfl⟩) (fun _ => by first | rfl | simp [Oper.about, resolve, go_sem]) hInv hHeld (fun hInv hHeld => ?_)
                  try simp only [Act.put, List.setIfInBounds_toArray, List.set_cons_zero, List.set_cons_succ]
                  refine anyS_take (i := 1) (oi := ⟨some 62, _, _, _, _, _⟩) (v := ?_) (by kernel_rfl) rfl (by kernel_rfl) (by kernel_rfl) (by kernel_rfl) (by kernel_rfl) (fun _ _ _ h => h) (Or.inl ⟨by rfl, by intro w hSw; (try dsimp only at hSw); go_simp; try with_reducible rfl⟩) (fun _ => by first | rfl | simp [Oper.about, resolve, go_sem]) hInv hHeld (fun hInv hHeld => ?_)
                  try simp only [Act.put, List.setIfInBounds_toArray, List.set_cons_zero, List.set_cons_succ]
                  refine anyS_one (i := 2) (o := ⟨some 63, _, _, _, _, _⟩) (by kernel_rfl) rfl hInv (fun K hK => ?_)
                  go_simp
                  refine ⟨trivial, ?_⟩
                  refine (callsIn_wide.2 (C105.out _ bTq)).mono ?_
                  rintro e V1 ⟨rfl, hv1⟩
                  refine hK.out _ _ (fun _ => ⟨cellB hv1 q0, cellB hv1 q1⟩) (fun hInv hHeld => ?_)
                  clear hK K
                  try simp only [Act.put, List.setIfInBounds_toArray, List.set_cons_zero, List.set_cons_succ]
                  refine anyS_take (i := 3) (oi := ⟨some 64, _, _, _, _, _⟩) (v := ?_) (by kernel_rfl) rfl (by kernel_rfl) (by kernel_rfl) (by kernel_rfl) (by kernel_rfl) (fun _ _ _ h => h) (Or.inl ⟨by rfl, by intro w hSw; (try dsimp only at hSw); go_simp; try with_reducible rfl⟩) (fun _ => by first | rfl | simp [Oper.about, resolve, go_sem]) hInv hHeld (fun hInv hHeld => ?_)
                  try simp only [Act.put, List.setIfInBounds_toArray, List.set_cons_zero, List.set_cons_succ]
                  refine anyS_take (i := 4) (oi := ⟨some 65, _, _, _, _, _⟩) (v := ?_) (by kernel_rfl) rfl (by kernel_rfl) (by kernel_rfl) (by kernel_rfl) (by kernel_rfl) (fun _ _ _ h => h) (Or.inl ⟨by rfl, by intro w hSw; (try dsimp only at hSw); go_simp; try with_reducible rfl⟩) (fun _ => by first | rfl | simp [Oper.about, resolve, go_sem]) hInv hHeld (fun hInv hHeld => ?_)
                  try simp only [Act.put, List.setIfInBounds_toArray, List.set_cons_zero, List.set_cons_succ]
                  refine anyS_take (i := 5) (oi := ⟨some 66, _, _, _, _, _⟩) (v := ?_) (by kernel_rfl) rfl (by kernel_rfl) (by kernel_rfl) (by kernel_rfl) (by kernel_rfl) (fun _ _ _ h => h) (Or.inl ⟨by rfl, by intro w hSw; (try dsimp only at hSw); go_simp; try with_reducible rfl⟩) (fun _ => by first | rfl | simp [Oper.about, resolve, go_sem]) hInv hHeld (fun hInv hHeld => ?_)
                  try simp only [Act.put, List.setIfInBounds_toArray, List.set_cons_zero, List.set_cons_succ]
                  refine anyS_take (i := 6) (oi := ⟨some 67, _, _, _, _, _⟩) (v := ?_) (by kernel_rfl) rfl (by kernel_rfl) (by kernel_rfl) (by kernel_rfl) (by kernel_rfl) (fun _ _ _ h => h) (Or.inl ⟨by rfl, by intro w hSw; (try dsimp only at hSw); go_simp; try with_reducible rfl⟩) (fun _ => by first | rfl | simp [Oper.about, resolve, go_sem]) hInv hHeld (fun hInv hHeld => ?_)
                  try simp only [Act.put, List.setIfInBounds_toArray, List.set_cons_zero, List.set_cons_succ]
                  refine anyS_one (i := 7) (o := ⟨some 68, _, _, _, _, _⟩) (by kernel_rfl) rfl hInv (fun K hK => ?_)
                  go_simp
                  refine ⟨trivial, ?_⟩
                  refine (callsIn_wide.2 (C55.out _ (bTq.below hv1))).mono ?_
                  rintro e V2 ⟨rfl, hv2⟩
                  refine hK.out _ _ (fun e => absurd (show true = false from e) (by decide)) (fun hInv hHeld => ?_)
                  clear hK K
                  try simp only [Act.put, List.setIfInBounds_toArray, List.set_cons_zero, List.set_cons_succ]
                  refine anyS_pure (i := 8) (oi := ⟨some 69, _, _, _, _, _⟩) (v := ?_) (by kernel_rfl) rfl (by kernel_rfl) (by kernel_rfl) (by kernel_rfl) (by decide) (fun _ _ _ h => h) (Or.inl ⟨by rfl, by intro w hSw; (try dsimp only at hSw); go_simp; try with_reducible rfl⟩) (fun _ => by first | rfl | simp [Oper.about, resolve, go_sem]) hInv hHeld (fun hInv hHeld => ?_)
                  try simp only [Act.put, List.setIfInBounds_toArray, List.set_cons_zero, List.set_cons_succ]
                  refine anyS_pure (i := 9) (oi := ⟨some 70, _, _, _, _, _⟩) (v := ?_) (by kernel_rfl) rfl (by kernel_rfl) (by kernel_rfl) (by kernel_rfl) (by decide) (fun _ _ _ h => h) (Or.inl ⟨by rfl, by intro w hSw; (try dsimp only at hSw); go_simp; try with_reducible rfl⟩) (fun _ => by first | rfl | simp [Oper.about, resolve, go_sem]) hInv hHeld (fun hInv hHeld => ?_)
                  try simp only [Act.put, List.setIfInBounds_toArray, List.set_cons_zero, List.set_cons_succ]
                  refine anyS_done (by kernel_rfl) ?_ _
                  have hIV := HV.out _ (belowC hv1 hv2)
                  have q0 := cellB hv2 (cellB hv1 q0)
                  have q1 := cellB hv2 (cellB hv1 q1)
                  obtain ⟨⟨r0, r1⟩, f0, f1⟩ := two_facts hIV.bR
                  have HIV := Off.mk hIV
                  clear hIV
                  gi_wp2
                  have hb9 := heap_setCell_same _ (T + 1) 1 _ _ (.int .i64 q.2) (heap_setCell_same V2 (T + 1) 0 _ _ (.int .i64 q.1) HIV.out.bR)
                  obtain ⟨⟨e0, e1⟩, _⟩ := two_facts hb9
                  refine bodyPost_ret (v := .tuple #[ptV q, .bool true]) (by simp [results, Try.results107, go_sem, e0, e1]) rfl ⟨⟨q, true, rfl, .inl ⟨rfl, ⟨HBX.out, HGood.out⟩, HNy.out⟩⟩, ?_⟩
                  rw [← HT.out]
                  exact (HIV.out.B.setCell (p := ⟨T + 1, 0, none⟩) (by simp) _).setCell (p := ⟨T + 1, 1, none⟩) (by simp) _
                · have HNB : Off (noneY t q.1 (q.2 + 1)) := ⟨HNB'.out (by rw [HG.out, decide_eq_false h0v]; rfl)⟩
                  refine region_anyS' (S := (fun w' => w'.cell? ⟨Q, 0, none⟩ = some (.int .i64 q.1) ∧ w'.cell? ⟨Q, 1, none⟩ = some (.int .i64 q.2))) 7 (by kernel_rfl) ⟨q0, q1⟩ (fun hInv hHeld => ?_)
                  refine anyS_take (i := 0) (oi := ⟨some 61, _, _, _, _, _⟩) (v := ?_) (by kernel_rfl) rfl (by kernel_rfl) (by kernel_rfl) (by kernel_rfl) (by kernel_rfl) (fun _ _ _ h => h) (Or.inl ⟨by rfl, by intro w hSw; (try dsimp only at hSw); go_simp; try with_reducible rfl⟩) (fun _ => by first | rfl | simp [Oper.about, resolve, go_sem]) hInv hHeld (fun hInv hHeld => ?_)
                  try simp only [Act.put, List.setIfInBounds_toArray, List.set_cons_zero, List.set_cons_succ]
                  refine anyS_take (i := 1) (oi := ⟨some 62, _, _, _, _, _⟩) (v := ?_) (by kernel_rfl) rfl (by kernel_rfl) (by kernel_rfl) (by kernel_rfl) (by kernel_rfl) (fun _ _ _ h => h) (Or.inl ⟨by rfl, by intro w hSw; (try dsimp only at hSw); go_simp; try with_reducible rfl⟩) (fun _ => by first | rfl | simp [Oper.about, resolve, go_sem]) hInv hHeld (fun hInv hHeld => ?_)
                  try simp only [Act.put, List.setIfInBounds_toArray, List.set_cons_zero, List.set_cons_succ]
                  refine anyS_one (i := 2) (o := ⟨some 63, _, _, _, _, _⟩) (by kernel_rfl) rfl hInv (fun K hK => ?_)
                  go_simp
                  refine ⟨trivial, ?_⟩
                  refine (callsIn_wide.2 (C105.out _ bTq)).mono ?_
                  rintro e V1 ⟨rfl, hv1⟩
                  refine hK.out _ _ (fun _ => ⟨cellB hv1 q0, cellB hv1 q1⟩) (fun hInv hHeld => ?_)
                  clear hK K
                  try simp only [Act.put, List.setIfInBounds_toArray, List.set_cons_zero, List.set_cons_succ]
                  refine anyS_take (i := 3) (oi := ⟨some 64, _, _, _, _, _⟩) (v := ?_) (by kernel_rfl) rfl (by kernel_rfl) (by kernel_rfl) (by kernel_rfl) (by kernel_rfl) (fun _ _ _ h => h) (Or.inl ⟨by rfl, by intro w hSw; (try dsimp only at hSw); go_simp; try with_reducible rfl⟩) (fun _ => by first | rfl | simp [Oper.about, resolve, go_sem]) hInv hHeld (fun hInv hHeld => ?_)
                  try simp only [Act.put, List.setIfInBounds_toArray, List.set_cons_zero, List.set_cons_succ]
                  refine anyS_take (i := 4) (oi := ⟨some 65, _, _, _, _, _⟩) (v := ?_) (by kernel_rfl) rfl (by kernel_rfl) (by kernel_rfl) (by kernel_rfl) (by kernel_rfl) (fun _ _ _ h => h) (Or.inl ⟨by rfl, by intro w hSw; (try dsimp only at hSw); go_simp; try with_reducible rfl⟩) (fun _ => by first | rfl | simp [Oper.about, resolve, go_sem]) hInv hHeld (fun hInv hHeld => ?_)
                  try simp only [Act.put, List.setIfInBounds_toArray, List.set_cons_zero, List.set_cons_succ]
                  refine anyS_take (i := 5) (oi := ⟨some 66, _, _, _, _, _⟩) (v := ?_) (by kernel_rfl) rfl (by kernel_rfl) (by kernel_rfl) (by kernel_rfl) (by kernel_rfl) (fun _ _ _ h => h) (Or.inl ⟨by rfl, by intro w hSw; (try dsimp only at hSw); go_simp; try with_reducible rfl⟩) (fun _ => by first | rfl | simp [Oper.about, resolve, go_sem]) hInv hHeld (fun hInv hHeld => ?_)
                  try simp only [Act.put, List.setIfInBounds_toArray, List.set_cons_zero, List.set_cons_succ]
                  refine anyS_take (i := 6) (oi := ⟨some 67, _, _, _, _, _⟩) (v := ?_) (by kernel_rfl) rfl (by kernel_rfl) (by kernel_rfl) (by kernel_rfl) (by kernel_rfl) (fun _ _ _ h => h) (Or.inl ⟨by rfl, by intro w hSw; (try dsimp only at hSw); go_simp; try with_reducible rfl⟩) (fun _ => by first | rfl | simp [Oper.about, resolve, go_sem]) hInv hHeld (fun hInv hHeld => ?_)
                  try simp only [Act.put, List.setIfInBounds_toArray, List.set_cons_zero, List.set_cons_succ]
                  refine anyS_one (i := 7) (o := ⟨some 68, _, _, _, _, _⟩) (by kernel_rfl) rfl hInv (fun K hK => ?_)
                  go_simp
                  refine ⟨trivial, ?_⟩
                  refine (callsIn_wide.2 (C55.out _ (bTq.below hv1))).mono ?_
                  rintro e V2 ⟨rfl, hv2⟩
                  refine hK.out _ _ (fun e => absurd (show true = false from e) (by decide)) (fun hInv hHeld => ?_)
                  clear hK K
                  try simp only [Act.put, List.setIfInBounds_toArray, List.set_cons_zero, List.set_cons_succ]
                  refine anyS_pure (i := 8) (oi := ⟨some 69, _, _, _, _, _⟩) (v := ?_) (by kernel_rfl) rfl (by kernel_rfl) (by kernel_rfl) (by kernel_rfl) (by decide) (fun _ _ _ h => h) (Or.inl ⟨by rfl, by intro w hSw; (try dsimp only at hSw); go_simp; try with_reducible rfl⟩) (fun _ => by first | rfl | simp [Oper.about, resolve, go_sem]) hInv hHeld (fun hInv hHeld => ?_)
                  try simp only [Act.put, List.setIfInBounds_toArray, List.set_cons_zero, List.set_cons_succ]
                  refine anyS_pure (i := 9) (oi := ⟨some 70, _, _, _, _, _⟩) (v := ?_) (by kernel_rfl) rfl (by kernel_rfl) (by kernel_rfl) (by kernel_rfl) (by decide) (fun _ _ _ h => h) (Or.inl ⟨by rfl, by intro w hSw; (try dsimp only at hSw); go_simp; try with_reducible rfl⟩) (fun _ => by first | rfl | simp [Oper.about, resolve, go_sem]) hInv hHeld (fun hInv hHeld => ?_)
                  try simp only [Act.put, List.setIfInBounds_toArray, List.set_cons_zero, List.set_cons_succ]
                  refine anyS_done (by kernel_rfl) ?_ _
                  have HIV := Off.mk (HV.out _ (belowC hv1 hv2))
                  gi_wp2
                  go_roundw
                  case rel => exact ⟨q.2 + 1, rfl, by omega, HNB, HIV⟩
                  case measure => simp only [intOf]; omega
            · have HNx : Off (noneX t (x + 1)) := ⟨fun q hq h => HNy.out q hq (by rw [HBox.out] at hq; omega)⟩
              clear hIy
              gi_wp2
              go_roundw
              case rel => exact ⟨x + 1, rfl, by omega, HNx, HIy⟩
              case measure => simp only [intOf]; omega
        · have hIV := HI.out
          obtain ⟨⟨r0, r1⟩, f0, f1⟩ := two_facts hIV.bR
          have HIV := Off.mk hIV
          clear hIV
          gi_wp2
          have hb9 := heap_setCell_same _ (T + 1) 1 _ _ (.int .i64 ((0, 0) : Int × Int).2) (heap_setCell_same wr (T + 1) 0 _ _ (.int .i64 ((0, 0) : Int × Int).1) HIV.out.bR)
          obtain ⟨⟨e0, e1⟩, _⟩ := two_facts hb9
          refine bodyPost_ret (v := .tuple #[ptV (0, 0), .bool false]) (by simp [results, Try.results107, go_sem, e0, e1]) rfl ⟨⟨(0, 0), false, rfl, .inr ⟨rfl, rfl, fun q hq => HN.out q hq (by rw [HBox.out] at hq; omega)⟩⟩, ?_⟩
          rw [← HT.out]
          exact (HIV.out.B.setCell (p := ⟨T + 1, 0, none⟩) (by simp) _).setCell (p := ⟨T + 1, 1, none⟩) (by simp) _
    · obtain ⟨lo, hlo⟩ : ∃ lo, lo = lowK t k := ⟨_, rfl⟩
      obtain ⟨hi, hhi⟩ : ∃ hi, hi = highK t k := ⟨_, rfl⟩
      obtain ⟨x, hx⟩ : ∃ x, x = kthT t k := ⟨_, rfl⟩
      have HN : Off (lowK t (k + 1) = (min lo.1 x.1, min lo.2 x.2) ∧ highK t (k + 1) = (max hi.1 x.1, max hi.2 x.2)) := ⟨by rw [hlo, hhi, hx]; exact ⟨rfl, rfl⟩⟩
      have hI' := hI.out
      rw [← hlo, ← hhi] at hI'
      obtain ⟨Q, hQ⟩ : ∃ Q, Q = wr.heap.size := ⟨_, rfl⟩
      obtain ⟨wq, hwq⟩ : ∃ W, wr.alloc (.cells #[.int .i64 x.1, .int .i64 x.2] 70) = W := ⟨_, rfl⟩
      have hbq : Below wr.heap.size wr wq := by rw [← hwq]; exact belowA (Below.refl _ wr) _
      have bQ : wq.heap[Q]? = some (.cells #[.int .i64 x.1, .int .i64 x.2] 70 (0, 0)) := by rw [← hwq, hQ]; exact block_new wr _
      have hI2 := hI'.below hbq
      have hQa : La ≠ Q ∧ Lb ≠ Q := by
        have h1 := (Array.getElem?_eq_some_iff.1 hI'.bL).1
        have h2 := (Array.getElem?_eq_some_iff.1 hI'.bH).1
        omega
      clear hI hI' hlo hhi hbq
      have HIQ := Off.mk hI2
      obtain ⟨⟨l0, l1⟩, f0, f1⟩ := two_facts hI2.bL
      obtain ⟨⟨h0, h1⟩, g0, g1⟩ := two_facts hI2.bH
      obtain ⟨⟨q0, q1⟩, _⟩ := two_facts bQ
      obtain ⟨n1, n2⟩ := hQa
      have n1' := Ne.symm n1
      have n2' := Ne.symm n2
      have hne' := Ne.symm hne
      clear hI2 bQ
      rcases hkc with rfl | rfl | rfl
      · have hxk : x = t.a := hx
        clear hx
        subst hxk
        have x0 := index3_0 t wr
        gi_wp2_with fail
        try rw [← hQ]
        clear hQ hwq
        refine region_anyS' (S := (fun w' => (w'.cell? ⟨Lb, 0, none⟩ = some (.int .i64 hi.1) ∧ w'.cell? ⟨Lb, 1, none⟩ = some (.int .i64 hi.2)) ∧ (w'.cell? ⟨Q, 0, none⟩ = some (.int .i64 t.a.1) ∧ w'.cell? ⟨Q, 1, none⟩ = some (.int .i64 t.a.2)))) 23 (by kernel_rfl) ⟨⟨h0, h1⟩, q0, q1⟩ (fun hInv hHeld => ?_)
        refine anyS_take (i := 0) (oi := ⟨some 19, _, _, _, _, _⟩) (v := ?_) (by kernel_rfl) rfl (by kernel_rfl) (by kernel_rfl) (by kernel_rfl) (by kernel_rfl) (fun _ _ _ h => h) (Or.inl ⟨by rfl, by intro w hSw; (try dsimp only at hSw); go_simp; try with_reducible rfl⟩) (fun _ => by first | rfl | simp [Oper.about, resolve, go_sem]) hInv hHeld (fun hInv hHeld => ?_)
        try simp only [Act.put, List.setIfInBounds_toArray, List.set_cons_zero, List.set_cons_succ]
        refine anyS_take (i := 2) (oi := ⟨some 21, _, _, _, _, _⟩) (v := ?_) (by kernel_rfl) rfl (by kernel_rfl) (by kernel_rfl) (by kernel_rfl) (by kernel_rfl) (fun _ _ _ h => h) (Or.inl ⟨by rfl, by intro w hSw; (try dsimp only at hSw); go_simp; try with_reducible rfl⟩) (fun _ => by first | rfl | simp [Oper.about, resolve, go_sem]) hInv hHeld (fun hInv hHeld => ?_)
        try simp only [Act.put, List.setIfInBounds_toArray, List.set_cons_zero, List.set_cons_succ]
        refine anyS_take (i := 3) (oi := ⟨some 22, _, _, _, _, _⟩) (v := ?_) (by kernel_rfl) rfl (by kernel_rfl) (by kernel_rfl) (by kernel_rfl) (by kernel_rfl) (fun _ _ _ h => h) (Or.inl ⟨by rfl, by intro w hSw; (try dsimp only at hSw); go_simp; try with_reducible rfl⟩) (fun _ => by first | rfl | simp [Oper.about, resolve, go_sem]) hInv hHeld (fun hInv hHeld => ?_)
        try simp only [Act.put, List.setIfInBounds_toArray, List.set_cons_zero, List.set_cons_succ]
        refine anyS_take (i := 5) (oi := ⟨some 24, _, _, _, _, _⟩) (v := ?_) (by kernel_rfl) rfl (by kernel_rfl) (by kernel_rfl) (by kernel_rfl) (by kernel_rfl) (fun _ _ _ h => h) (Or.inl ⟨by rfl, by intro w hSw; (try dsimp only at hSw); go_simp; try with_reducible rfl⟩) (fun _ => by first | rfl | simp [Oper.about, resolve, go_sem]) hInv hHeld (fun hInv hHeld => ?_)
        try simp only [Act.put, List.setIfInBounds_toArray, List.set_cons_zero, List.set_cons_succ]
        refine anyS_take (i := 7) (oi := ⟨some 26, _, _, _, _, _⟩) (v := ?_) (by kernel_rfl) rfl (by kernel_rfl) (by kernel_rfl) (by kernel_rfl) (by kernel_rfl) (fun _ _ _ h => h) (Or.inl ⟨by rfl, by intro w hSw; (try dsimp only at hSw); go_simp; try with_reducible rfl⟩) (fun _ => by first | rfl | simp [Oper.about, resolve, go_sem]) hInv hHeld (fun hInv hHeld => ?_)
        try simp only [Act.put, List.setIfInBounds_toArray, List.set_cons_zero, List.set_cons_succ]
        refine anyS_take (i := 8) (oi := ⟨some 27, _, _, _, _, _⟩) (v := ?_) (by kernel_rfl) rfl (by kernel_rfl) (by kernel_rfl) (by kernel_rfl) (by kernel_rfl) (fun _ _ _ h => h) (Or.inl ⟨by rfl, by intro w hSw; (try dsimp only at hSw); go_simp; try with_reducible rfl⟩) (fun _ => by first | rfl | simp [Oper.about, resolve, go_sem]) hInv hHeld (fun hInv hHeld => ?_)
        try simp only [Act.put, List.setIfInBounds_toArray, List.set_cons_zero, List.set_cons_succ]
        refine anyS_take (i := 11) (oi := ⟨some 30, _, _, _, _, _⟩) (v := ?_) (by kernel_rfl) rfl (by kernel_rfl) (by kernel_rfl) (by kernel_rfl) (by kernel_rfl) (fun _ _ _ h => h) (Or.inl ⟨by rfl, by intro w hSw; (try dsimp only at hSw); go_simp; try with_reducible rfl⟩) (fun _ => by first | rfl | simp [Oper.about, resolve, go_sem]) hInv hHeld (fun hInv hHeld => ?_)
        try simp only [Act.put, List.setIfInBounds_toArray, List.set_cons_zero, List.set_cons_succ]
        refine anyS_take (i := 12) (oi := ⟨some 31, _, _, _, _, _⟩) (v := ?_) (by kernel_rfl) rfl (by kernel_rfl) (by kernel_rfl) (by kernel_rfl) (by kernel_rfl) (fun _ _ _ h => h) (Or.inl ⟨by rfl, by intro w hSw; (try dsimp only at hSw); go_simp; try with_reducible rfl⟩) (fun _ => by first | rfl | simp [Oper.about, resolve, go_sem]) hInv hHeld (fun hInv hHeld => ?_)
        try simp only [Act.put, List.setIfInBounds_toArray, List.set_cons_zero, List.set_cons_succ]
        refine anyS_take (i := 13) (oi := ⟨some 32, _, _, _, _, _⟩) (v := ?_) (by kernel_rfl) rfl (by kernel_rfl) (by kernel_rfl) (by kernel_rfl) (by kernel_rfl) (fun _ _ _ h => h) (Or.inl ⟨by rfl, by intro w hSw; (try dsimp only at hSw); go_simp; try with_reducible rfl⟩) (fun _ => by first | rfl | simp [Oper.about, resolve, go_sem]) hInv hHeld (fun hInv hHeld => ?_)
        try simp only [Act.put, List.setIfInBounds_toArray, List.set_cons_zero, List.set_cons_succ]
        refine anyS_take (i := 14) (oi := ⟨some 33, _, _, _, _, _⟩) (v := ?_) (by kernel_rfl) rfl (by kernel_rfl) (by kernel_rfl) (by kernel_rfl) (by kernel_rfl) (fun _ _ _ h => h) (Or.inl ⟨by rfl, by intro w hSw; (try dsimp only at hSw); go_simp; try with_reducible rfl⟩) (fun _ => by first | rfl | simp [Oper.about, resolve, go_sem]) hInv hHeld (fun hInv hHeld => ?_)
        try simp only [Act.put, List.setIfInBounds_toArray, List.set_cons_zero, List.set_cons_succ]
        refine anyS_take (i := 15) (oi := ⟨some 34, _, _, _, _, _⟩) (v := ?_) (by kernel_rfl) rfl (by kernel_rfl) (by kernel_rfl) (by kernel_rfl) (by kernel_rfl) (fun _ _ _ h => h) (Or.inl ⟨by rfl, by intro w hSw; (try dsimp only at hSw); go_simp; try with_reducible rfl⟩) (fun _ => by first | rfl | simp [Oper.about, resolve, go_sem]) hInv hHeld (fun hInv hHeld => ?_)
        try simp only [Act.put, List.setIfInBounds_toArray, List.set_cons_zero, List.set_cons_succ]
        refine anyS_take (i := 16) (oi := ⟨some 35, _, _, _, _, _⟩) (v := ?_) (by kernel_rfl) rfl (by kernel_rfl) (by kernel_rfl) (by kernel_rfl) (by kernel_rfl) (fun _ _ _ h => h) (Or.inl ⟨by rfl, by intro w hSw; (try dsimp only at hSw); go_simp; try with_reducible rfl⟩) (fun _ => by first | rfl | simp [Oper.about, resolve, go_sem]) hInv hHeld (fun hInv hHeld => ?_)
        try simp only [Act.put, List.setIfInBounds_toArray, List.set_cons_zero, List.set_cons_succ]
        refine anyS_take (i := 17) (oi := ⟨some 36, _, _, _, _, _⟩) (v := ?_) (by kernel_rfl) rfl (by kernel_rfl) (by kernel_rfl) (by kernel_rfl) (by kernel_rfl) (fun _ _ _ h => h) (Or.inl ⟨by rfl, by intro w hSw; (try dsimp only at hSw); go_simp; try with_reducible rfl⟩) (fun _ => by first | rfl | simp [Oper.about, resolve, go_sem]) hInv hHeld (fun hInv hHeld => ?_)
        try simp only [Act.put, List.setIfInBounds_toArray, List.set_cons_zero, List.set_cons_succ]
        refine anyS_take (i := 18) (oi := ⟨some 37, _, _, _, _, _⟩) (v := ?_) (by kernel_rfl) rfl (by kernel_rfl) (by kernel_rfl) (by kernel_rfl) (by kernel_rfl) (fun _ _ _ h => h) (Or.inl ⟨by rfl, by intro w hSw; (try dsimp only at hSw); go_simp; try with_reducible rfl⟩) (fun _ => by first | rfl | simp [Oper.about, resolve, go_sem]) hInv hHeld (fun hInv hHeld => ?_)
        try simp only [Act.put, List.setIfInBounds_toArray, List.set_cons_zero, List.set_cons_succ]
        refine anyS_take (i := 19) (oi := ⟨some 38, _, _, _, _, _⟩) (v := ?_) (by kernel_rfl) rfl (by kernel_rfl) (by kernel_rfl) (by kernel_rfl) (by kernel_rfl) (fun _ _ _ h => h) (Or.inl ⟨by rfl, by intro w hSw; (try dsimp only at hSw); go_simp; try with_reducible rfl⟩) (fun _ => by first | rfl | simp [Oper.about, resolve, go_sem]) hInv hHeld (fun hInv hHeld => ?_)
        try simp only [Act.put, List.setIfInBounds_toArray, List.set_cons_zero, List.set_cons_succ]
        refine anyS_take (i := 20) (oi := ⟨some 39, _, _, _, _, _⟩) (v := ?_) (by kernel_rfl) rfl (by kernel_rfl) (by kernel_rfl) (by kernel_rfl) (by kernel_rfl) (fun _ _ _ h => h) (Or.inl ⟨by rfl, by intro w hSw; (try dsimp only at hSw); go_simp; try with_reducible rfl⟩) (fun _ => by first | rfl | simp [Oper.about, resolve, go_sem]) hInv hHeld (fun hInv hHeld => ?_)
        try simp only [Act.put, List.setIfInBounds_toArray, List.set_cons_zero, List.set_cons_succ]
        refine anyS_take (i := 21) (oi := ⟨some 40, _, _, _, _, _⟩) (v := ?_) (by kernel_rfl) rfl (by kernel_rfl) (by kernel_rfl) (by kernel_rfl) (by kernel_rfl) (fun _ _ _ h => h) (Or.inl ⟨by rfl, by intro w hSw; (try dsimp only at hSw); go_simp; try with_reducible rfl⟩) (fun _ => by first | rfl | simp [Oper.about, resolve, go_sem]) hInv hHeld (fun hInv hHeld => ?_)
        try simp only [Act.put, List.setIfInBounds_toArray, List.set_cons_zero, List.set_cons_succ]
        have SS : (fun w' => (w'.cell? ⟨Lb, 0, none⟩ = some (.int .i64 hi.1) ∧ w'.cell? ⟨Lb, 1, none⟩ = some (.int .i64 hi.2)) ∧ (w'.cell? ⟨Q, 0, none⟩ = some (.int .i64 t.a.1) ∧ w'.cell? ⟨Q, 1, none⟩ = some (.int .i64 t.a.2))) wq.drew := ⟨⟨h0, h1⟩, q0, q1⟩
        refine anyS_two (i := 1) (o := ⟨some 20, _, _, _, _, _⟩) (j := 6) (p := ⟨some 25, _, _, _, _, _⟩) (by kernel_rfl) rfl rfl hInv (fun K hK => ?_) (fun K hK => ?_)
        · go_simp
          refine hK.out _ _ (fun _ => SS) (fun hInv hHeld => ?_)
          clear hK K
          try simp only [Act.put, List.setIfInBounds_toArray, List.set_cons_zero, List.set_cons_succ]
          refine anyS_pure (i := 4) (oi := ⟨some 23, _, _, _, _, _⟩) (v := ?_) (by kernel_rfl) rfl (by kernel_rfl) (by kernel_rfl) (by kernel_rfl) (by decide) (fun _ _ _ h => h) (Or.inl ⟨by rfl, by intro w hSw; (try dsimp only at hSw); go_simp; try with_reducible rfl⟩) (fun _ => by first | rfl | simp [Oper.about, resolve, go_sem]) hInv hHeld (fun hInv hHeld => ?_)
          try simp only [Act.put, List.setIfInBounds_toArray, List.set_cons_zero, List.set_cons_succ]
          refine anyS_one (i := 6) (o := ⟨some 25, _, _, _, _, _⟩) (by kernel_rfl) rfl hInv (fun K hK => ?_)
          go_simp
          refine hK.out _ _ (fun _ => SS) (fun hInv hHeld => ?_)
          clear hK K
          try simp only [Act.put, List.setIfInBounds_toArray, List.set_cons_zero, List.set_cons_succ]
          refine anyS_pure (i := 9) (oi := ⟨some 28, _, _, _, _, _⟩) (v := ?_) (by kernel_rfl) rfl (by kernel_rfl) (by kernel_rfl) (by kernel_rfl) (by decide) (fun _ _ _ h => h) (Or.inl ⟨by rfl, by intro w hSw; (try dsimp only at hSw); go_simp; try with_reducible rfl⟩) (fun _ => by first | rfl | simp [Oper.about, resolve, go_sem]) hInv hHeld (fun hInv hHeld => ?_)
          try simp only [Act.put, List.setIfInBounds_toArray, List.set_cons_zero, List.set_cons_succ]
          refine anyS_pure (i := 10) (oi := ⟨some 29, _, _, _, _, _⟩) (v := ?_) (by kernel_rfl) rfl (by kernel_rfl) (by kernel_rfl) (by kernel_rfl) (by decide) (fun _ _ _ h => h) (Or.inl ⟨by rfl, by intro w hSw; (try dsimp only at hSw); go_simp; try with_reducible rfl⟩) (fun _ => by first | rfl | simp [Oper.about, resolve, go_sem]) hInv hHeld (fun hInv hHeld => ?_)
          try simp only [Act.put, List.setIfInBounds_toArray, List.set_cons_zero, List.set_cons_succ]
          refine anyS_one (i := 22) (o := ⟨none, _, _, _, _, _⟩) (by kernel_rfl) rfl hInv (fun K hK => ?_)
          go_simp
          refine hK.out _ _ (fun _ => ?_) (fun hInv hHeld => ?_)
          · go_simp
          clear hK K
          try simp only [Act.put, List.setIfInBounds_toArray, List.set_cons_zero, List.set_cons_succ]
          refine anyS_one (i := 23) (o := ⟨none, _, _, _, _, _⟩) (by kernel_rfl) rfl hInv (fun K hK => ?_)
          go_simp
          refine hK.out _ _ (fun e => absurd (show true = false from e) (by decide)) (fun hInv hHeld => ?_)
          clear hK K
          try simp only [Act.put, List.setIfInBounds_toArray, List.set_cons_zero, List.set_cons_succ]
          refine anyS_done (by kernel_rfl) ?_ _
          have hn := two_blocksN (n := T) (w0 := w) (w := wq) (min lo.1 t.a.1, min lo.2 t.a.2) (max hi.1 t.a.1, max hi.2 t.a.2) HIQ.out.B (by omega) (by omega) hne HIQ.out.bL HIQ.out.bH
          have HI' : Off (OtherI t (lowK t (0 + 1)) (highK t (0 + 1)) T La Lb w (World.drew _)) := ⟨OtherI.drew ⟨by rw [HN.out.1]; exact hn.1.1, by rw [HN.out.2]; exact hn.1.2, block_4set _ _ _ _ HIQ.out.bT (by omega) (by omega), block_4set _ _ _ _ HIQ.out.bR (by omega) (by omega), hn.2⟩⟩
          clear hn
          gi_wp2
          go_roundw
          case rel => exact ⟨1, by omega, by go_num, HI'⟩
          case measure => simp only [intOf]; omega
        · go_simp
          refine hK.out _ _ (fun _ => SS) (fun hInv hHeld => ?_)
          clear hK K
          try simp only [Act.put, List.setIfInBounds_toArray, List.set_cons_zero, List.set_cons_succ]
          refine anyS_pure (i := 9) (oi := ⟨some 28, _, _, _, _, _⟩) (v := ?_) (by kernel_rfl) rfl (by kernel_rfl) (by kernel_rfl) (by kernel_rfl) (by decide) (fun _ _ _ h => h) (Or.inl ⟨by rfl, by intro w hSw; (try dsimp only at hSw); go_simp; try with_reducible rfl⟩) (fun _ => by first | rfl | simp [Oper.about, resolve, go_sem]) hInv hHeld (fun hInv hHeld => ?_)
          try simp only [Act.put, List.setIfInBounds_toArray, List.set_cons_zero, List.set_cons_succ]
          refine anyS_one (i := 1) (o := ⟨some 20, _, _, _, _, _⟩) (by kernel_rfl) rfl hInv (fun K hK => ?_)
          go_simp
          refine hK.out _ _ (fun _ => SS) (fun hInv hHeld => ?_)
          clear hK K
          try simp only [Act.put, List.setIfInBounds_toArray, List.set_cons_zero, List.set_cons_succ]
          refine anyS_pure (i := 4) (oi := ⟨some 23, _, _, _, _, _⟩) (v := ?_) (by kernel_rfl) rfl (by kernel_rfl) (by kernel_rfl) (by kernel_rfl) (by decide) (fun _ _ _ h => h) (Or.inl ⟨by rfl, by intro w hSw; (try dsimp only at hSw); go_simp; try with_reducible rfl⟩) (fun _ => by first | rfl | simp [Oper.about, resolve, go_sem]) hInv hHeld (fun hInv hHeld => ?_)
          try simp only [Act.put, List.setIfInBounds_toArray, List.set_cons_zero, List.set_cons_succ]
          refine anyS_pure (i := 10) (oi := ⟨some 29, _, _, _, _, _⟩) (v := ?_) (by kernel_rfl) rfl (by kernel_rfl) (by kernel_rfl) (by kernel_rfl) (by decide) (fun _ _ _ h => h) (Or.inl ⟨by rfl, by intro w hSw; (try dsimp only at hSw); go_simp; try with_reducible rfl⟩) (fun _ => by first | rfl | simp [Oper.about, resolve, go_sem]) hInv hHeld (fun hInv hHeld => ?_)
          try simp only [Act.put, List.setIfInBounds_toArray, List.set_cons_zero, List.set_cons_succ]
          refine anyS_one (i := 22) (o := ⟨none, _, _, _, _, _⟩) (by kernel_rfl) rfl hInv (fun K hK => ?_)
          go_simp
          refine hK.out _ _ (fun _ => ?_) (fun hInv hHeld => ?_)
          · go_simp
          clear hK K
          try simp only [Act.put, List.setIfInBounds_toArray, List.set_cons_zero, List.set_cons_succ]
          refine anyS_one (i := 23) (o := ⟨none, _, _, _, _, _⟩) (by kernel_rfl) rfl hInv (fun K hK => ?_)
          go_simp
          refine hK.out _ _ (fun e => absurd (show true = false from e) (by decide)) (fun hInv hHeld => ?_)
          clear hK K
          try simp only [Act.put, List.setIfInBounds_toArray, List.set_cons_zero, List.set_cons_succ]
          refine anyS_done (by kernel_rfl) ?_ _
          have hn := two_blocksN (n := T) (w0 := w) (w := wq) (min lo.1 t.a.1, min lo.2 t.a.2) (max hi.1 t.a.1, max hi.2 t.a.2) HIQ.out.B (by omega) (by omega) hne HIQ.out.bL HIQ.out.bH
          have HI' : Off (OtherI t (lowK t (0 + 1)) (highK t (0 + 1)) T La Lb w (World.drew _)) := ⟨OtherI.drew ⟨by rw [HN.out.1]; exact hn.1.1, by rw [HN.out.2]; exact hn.1.2, block_4set _ _ _ _ HIQ.out.bT (by omega) (by omega), block_4set _ _ _ _ HIQ.out.bR (by omega) (by omega), hn.2⟩⟩
          clear hn
          gi_wp2
          go_roundw
          case rel => exact ⟨1, by omega, by go_num, HI'⟩
          case measure => simp only [intOf]; omega
      · have hxk : x = t.b := hx
        clear hx
        subst hxk
        have x1 := index3_1 t wr
        gi_wp2_with fail
        try rw [← hQ]
        clear hQ hwq
        refine region_anyS' (S := (fun w' => (w'.cell? ⟨Lb, 0, none⟩ = some (.int .i64 hi.1) ∧ w'.cell? ⟨Lb, 1, none⟩ = some (.int .i64 hi.2)) ∧ (w'.cell? ⟨Q, 0, none⟩ = some (.int .i64 t.b.1) ∧ w'.cell? ⟨Q, 1, none⟩ = some (.int .i64 t.b.2)))) 23 (by kernel_rfl) ⟨⟨h0, h1⟩, q0, q1⟩ (fun hInv hHeld => ?_)
        refine anyS_take (i := 0) (oi := ⟨some 19, _, _, _, _, _⟩) (v := ?_) (by kernel_rfl) rfl (by kernel_rfl) (by kernel_rfl) (by kernel_rfl) (by kernel_rfl) (fun _ _ _ h => h) (Or.inl ⟨by rfl, by intro w hSw; (try dsimp only at hSw); go_simp; try with_reducible rfl⟩) (fun _ => by first | rfl | simp [Oper.about, resolve, go_sem]) hInv hHeld (fun hInv hHeld => ?_)
        try simp only [Act.put, List.setIfInBounds_toArray, List.set_cons_zero, List.set_cons_succ]
        refine anyS_take (i := 2) (oi := ⟨some 21, _, _, _, _, _⟩) (v := ?_) (by kernel_rfl) rfl (by kernel_rfl) (by kernel_rfl) (by kernel_rfl) (by kernel_rfl) (fun _ _ _ h => h) (Or.inl ⟨by rfl, by intro w hSw; (try dsimp only at hSw); go_simp; try with_reducible rfl⟩) (fun _ => by first | rfl | simp [Oper.about, resolve, go_sem]) hInv hHeld (fun hInv hHeld => ?_)
        try simp only [Act.put, List.setIfInBounds_toArray, List.set_cons_zero, List.set_cons_succ]
        refine anyS_take (i := 3) (oi := ⟨some 22, _, _, _, _, _⟩) (v := ?_) (by kernel_rfl) rfl (by kernel_rfl) (by kernel_rfl) (by kernel_rfl) (by kernel_rfl) (fun _ _ _ h => h) (Or.inl ⟨by rfl, by intro w hSw; (try dsimp only at hSw); go_simp; try with_reducible rfl⟩) (fun _ => by first | rfl | simp [Oper.about, resolve, go_sem]) hInv hHeld (fun hInv hHeld => ?_)
        try simp only [Act.put, List.setIfInBounds_toArray, List.set_cons_zero, List.set_cons_succ]
        refine anyS_take (i := 5) (oi := ⟨some 24, _, _, _, _, _⟩) (v := ?_) (by kernel_rfl) rfl (by kernel_rfl) (by kernel_rfl) (by kernel_rfl) (by kernel_rfl) (fun _ _ _ h => h) (Or.inl ⟨by rfl, by intro w hSw; (try dsimp only at hSw); go_simp; try with_reducible rfl⟩) (fun _ => by first | rfl | simp [Oper.about, resolve, go_sem]) hInv hHeld (fun hInv hHeld => ?_)
        try simp only [Act.put, List.setIfInBounds_toArray, List.set_cons_zero, List.set_cons_succ]
        refine anyS_take (i := 7) (oi := ⟨some 26, _, _, _, _, _⟩) (v := ?_) (by kernel_rfl) rfl (by kernel_rfl) (by kernel_rfl) (by kernel_rfl) (by kernel_rfl) (fun _ _ _ h => h) (Or.inl ⟨by rfl, by intro w hSw; (try dsimp only at hSw); go_simp; try with_reducible rfl⟩) (fun _ => by first | rfl | simp [Oper.about, resolve, go_sem]) hInv hHeld (fun hInv hHeld => ?_)
        try simp only [Act.put, List.setIfInBounds_toArray, List.set_cons_zero, List.set_cons_succ]
        refine anyS_take (i := 8) (oi := ⟨some 27, _, _, _, _, _⟩) (v := ?_) (by kernel_rfl) rfl (by kernel_rfl) (by kernel_rfl) (by kernel_rfl) (by kernel_rfl) (fun _ _ _ h => h) (Or.inl ⟨by rfl, by intro w hSw; (try dsimp only at hSw); go_simp; try with_reducible rfl⟩) (fun _ => by first | rfl | simp [Oper.about, resolve, go_sem]) hInv hHeld (fun hInv hHeld => ?_)
        try simp only [Act.put, List.setIfInBounds_toArray, List.set_cons_zero, List.set_cons_succ]
        refine anyS_take (i := 11) (oi := ⟨some 30, _, _, _, _, _⟩) (v := ?_) (by kernel_rfl) rfl (by kernel_rfl) (by kernel_rfl) (by kernel_rfl) (by kernel_rfl) (fun _ _ _ h => h) (Or.inl ⟨by rfl, by intro w hSw; (try dsimp only at hSw); go_simp; try with_reducible rfl⟩) (fun _ => by first | rfl | simp [Oper.about, resolve, go_sem]) hInv hHeld (fun hInv hHeld => ?_)
        try simp only [Act.put, List.setIfInBounds_toArray, List.set_cons_zero, List.set_cons_succ]
        refine anyS_take (i := 12) (oi := ⟨some 31, _, _, _, _, _⟩) (v := ?_) (by kernel_rfl) rfl (by kernel_rfl) (by kernel_rfl) (by kernel_rfl) (by kernel_rfl) (fun _ _ _ h => h) (Or.inl ⟨by rfl, by intro w hSw; (try dsimp only at hSw); go_simp; try with_reducible rfl⟩) (fun _ => by first | rfl | simp [Oper.about, resolve, go_sem]) hInv hHeld (fun hInv hHeld => ?_)
        try simp only [Act.put, List.setIfInBounds_toArray, List.set_cons_zero, List.set_cons_succ]
        refine anyS_take (i := 13) (oi := ⟨some 32, _, _, _, _, _⟩) (v := ?_) (by kernel_rfl) rfl (by kernel_rfl) (by kernel_rfl) (by kernel_rfl) (by kernel_rfl) (fun _ _ _ h => h) (Or.inl ⟨by rfl, by intro w hSw; (try dsimp only at hSw); go_simp; try with_reducible rfl⟩) (fun _ => by first | rfl | simp [Oper.about, resolve, go_sem]) hInv hHeld (fun hInv hHeld => ?_)
        try simp only [Act.put, List.setIfInBounds_toArray, List.set_cons_zero, List.set_cons_succ]
        refine anyS_take (i := 14) (oi := ⟨some 33, _, _, _, _, _⟩) (v := ?_) (by kernel_rfl) rfl (by kernel_rfl) (by kernel_rfl) (by kernel_rfl) (by kernel_rfl) (fun _ _ _ h => h) (Or.inl ⟨by rfl, by intro w hSw; (try dsimp only at hSw); go_simp; try with_reducible rfl⟩) (fun _ => by first | rfl | simp [Oper.about, resolve, go_sem]) hInv hHeld (fun hInv hHeld => ?_)
        try simp only [Act.put, List.setIfInBounds_toArray, List.set_cons_zero, List.set_cons_succ]
        refine anyS_take (i := 15) (oi := ⟨some 34, _, _, _, _, _⟩) (v := ?_) (by kernel_rfl) rfl (by kernel_rfl) (by kernel_rfl) (by kernel_rfl) (by kernel_rfl) (fun _ _ _ h => h) (Or.inl ⟨by rfl, by intro w hSw; (try dsimp only at hSw); go_simp; try with_reducible rfl⟩) (fun _ => by first | rfl | simp [Oper.about, resolve, go_sem]) hInv hHeld (fun hInv hHeld => ?_)
        try simp only [Act.put, List.setIfInBounds_toArray, List.set_cons_zero, List.set_cons_succ]
        refine anyS_take (i := 16) (oi := ⟨some 35, _, _, _, _, _⟩) (v := ?_) (by kernel_rfl) rfl (by kernel_rfl) (by kernel_rfl) (by kernel_rfl) (by kernel_rfl) (fun _ _ _ h => h) (Or.inl ⟨by rfl, by intro w hSw; (try dsimp only at hSw); go_simp; try with_reducible rfl⟩) (fun _ => by first | rfl | simp [Oper.about, resolve, go_sem]) hInv hHeld (fun hInv hHeld => ?_)
        try simp only [Act.put, List.setIfInBounds_toArray, List.set_cons_zero, List.set_cons_succ]
        refine anyS_take (i := 17) (oi := ⟨some 36, _, _, _, _, _⟩) (v := ?_) (by kernel_rfl) rfl (by kernel_rfl) (by kernel_rfl) (by kernel_rfl) (by kernel_rfl) (fun _ _ _ h => h) (Or.inl ⟨by rfl, by intro w hSw; (try dsimp only at hSw); go_simp; try with_reducible rfl⟩) (fun _ => by first | rfl | simp [Oper.about, resolve, go_sem]) hInv hHeld (fun hInv hHeld => ?_)
        try simp only [Act.put, List.setIfInBounds_toArray, List.set_cons_zero, List.set_cons_succ]
        refine anyS_take (i := 18) (oi := ⟨some 37, _, _, _, _, _⟩) (v := ?_) (by kernel_rfl) rfl (by kernel_rfl) (by kernel_rfl) (by kernel_rfl) (by kernel_rfl) (fun _ _ _ h => h) (Or.inl ⟨by rfl, by intro w hSw; (try dsimp only at hSw); go_simp; try with_reducible rfl⟩) (fun _ => by first | rfl | simp [Oper.about, resolve, go_sem]) hInv hHeld (fun hInv hHeld => ?_)
        try simp only [Act.put, List.setIfInBounds_toArray, List.set_cons_zero, List.set_cons_succ]
        refine anyS_take (i := 19) (oi := ⟨some 38, _, _, _, _, _⟩) (v := ?_) (by kernel_rfl) rfl (by kernel_rfl) (by kernel_rfl) (by kernel_rfl) (by kernel_rfl) (fun _ _ _ h => h) (Or.inl ⟨by rfl, by intro w hSw; (try dsimp only at hSw); go_simp; try with_reducible rfl⟩) (fun _ => by first | rfl | simp [Oper.about, resolve, go_sem]) hInv hHeld (fun hInv hHeld => ?_)
        try simp only [Act.put, List.setIfInBounds_toArray, List.set_cons_zero, List.set_cons_succ]
        refine anyS_take (i := 20) (oi := ⟨some 39, _, _, _, _, _⟩) (v := ?_) (by kernel_rfl) rfl (by kernel_rfl) (by kernel_rfl) (by kernel_rfl) (by kernel_rfl) (fun _ _ _ h => h) (Or.inl ⟨by rfl, by intro w hSw; (try dsimp only at hSw); go_simp; try with_reducible rfl⟩) (fun _ => by first | rfl | simp [Oper.about, resolve, go_sem]) hInv hHeld (fun hInv hHeld => ?_)
        try simp only [Act.put, List.setIfInBounds_toArray, List.set_cons_zero, List.set_cons_succ]
        refine anyS_take (i := 21) (oi := ⟨some 40, _, _, _, _, _⟩) (v := ?_) (by kernel_rfl) rfl (by kernel_rfl) (by kernel_rfl) (by kernel_rfl) (by kernel_rfl) (fun _ _ _ h => h) (Or.inl ⟨by rfl, by intro w hSw; (try dsimp only at hSw); go_simp; try with_reducible rfl⟩) (fun _ => by first | rfl | simp [Oper.about, resolve, go_sem]) hInv hHeld (fun hInv hHeld => ?_)
        try simp only [Act.put, List.setIfInBounds_toArray, List.set_cons_zero, List.set_cons_succ]
        have SS : (fun w' => (w'.cell? ⟨Lb, 0, none⟩ = some (.int .i64 hi.1) ∧ w'.cell? ⟨Lb, 1, none⟩ = some (.int .i64 hi.2)) ∧ (w'.cell? ⟨Q, 0, none⟩ = some (.int .i64 t.b.1) ∧ w'.cell? ⟨Q, 1, none⟩ = some (.int .i64 t.b.2))) wq.drew := ⟨⟨h0, h1⟩, q0, q1⟩
        refine anyS_two (i := 1) (o := ⟨some 20, _, _, _, _, _⟩) (j := 6) (p := ⟨some 25, _, _, _, _, _⟩) (by kernel_rfl) rfl rfl hInv (fun K hK => ?_) (fun K hK => ?_)
        · go_simp
          refine hK.out _ _ (fun _ => SS) (fun hInv hHeld => ?_)
          clear hK K
          try simp only [Act.put, List.setIfInBounds_toArray, List.set_cons_zero, List.set_cons_succ]
          refine anyS_pure (i := 4) (oi := ⟨some 23, _, _, _, _, _⟩) (v := ?_) (by kernel_rfl) rfl (by kernel_rfl) (by kernel_rfl) (by kernel_rfl) (by decide) (fun _ _ _ h => h) (Or.inl ⟨by rfl, by intro w hSw; (try dsimp only at hSw); go_simp; try with_reducible rfl⟩) (fun _ => by first | rfl | simp [Oper.about, resolve, go_sem]) hInv hHeld (fun hInv hHeld => ?_)
          try simp only [Act.put, List.setIfInBounds_toArray, List.set_cons_zero, List.set_cons_succ]
          refine anyS_one (i := 6) (o := ⟨some 25, _, _, _, _, _⟩) (by kernel_rfl) rfl hInv (fun K hK => ?_)
          go_simp
          refine hK.out _ _ (fun _ => SS) (fun hInv hHeld => ?_)
          clear hK K
          try simp only [Act.put, List.setIfInBounds_toArray, List.set_cons_zero, List.set_cons_succ]
          refine anyS_pure (i := 9) (oi := ⟨some 28, _, _, _, _, _⟩) (v := ?_) (by kernel_rfl) rfl (by kernel_rfl) (by kernel_rfl) (by kernel_rfl) (by decide) (fun _ _ _ h => h) (Or.inl ⟨by rfl, by intro w hSw; (try dsimp only at hSw); go_simp; try with_reducible rfl⟩) (fun _ => by first | rfl | simp [Oper.about, resolve, go_sem]) hInv hHeld (fun hInv hHeld => ?_)
          try simp only [Act.put, List.setIfInBounds_toArray, List.set_cons_zero, List.set_cons_succ]
          refine anyS_pure (i := 10) (oi := ⟨some 29, _, _, _, _, _⟩) (v := ?_) (by kernel_rfl) rfl (by kernel_rfl) (by kernel_rfl) (by kernel_rfl) (by decide) (fun _ _ _ h => h) (Or.inl ⟨by rfl, by intro w hSw; (try dsimp only at hSw); go_simp; try with_reducible rfl⟩) (fun _ => by first | rfl | simp [Oper.about, resolve, go_sem]) hInv hHeld (fun hInv hHeld => ?_)
          try simp only [Act.put, List.setIfInBounds_toArray, List.set_cons_zero, List.set_cons_succ]
          refine anyS_one (i := 22) (o := ⟨none, _, _, _, _, _⟩) (by kernel_rfl) rfl hInv (fun K hK => ?_)
          go_simp
          refine hK.out _ _ (fun _ => ?_) (fun hInv hHeld => ?_)
          · go_simp
          clear hK K
          try simp only [Act.put, List.setIfInBounds_toArray, List.set_cons_zero, List.set_cons_succ]
          refine anyS_one (i := 23) (o := ⟨none, _, _, _, _, _⟩) (by kernel_rfl) rfl hInv (fun K hK => ?_)
          go_simp
          refine hK.out _ _ (fun e => absurd (show true = false from e) (by decide)) (fun hInv hHeld => ?_)
          clear hK K
          try simp only [Act.put, List.setIfInBounds_toArray, List.set_cons_zero, List.set_cons_succ]
          refine anyS_done (by kernel_rfl) ?_ _
          have hn := two_blocksN (n := T) (w0 := w) (w := wq) (min lo.1 t.b.1, min lo.2 t.b.2) (max hi.1 t.b.1, max hi.2 t.b.2) HIQ.out.B (by omega) (by omega) hne HIQ.out.bL HIQ.out.bH
          have HI' : Off (OtherI t (lowK t (1 + 1)) (highK t (1 + 1)) T La Lb w (World.drew _)) := ⟨OtherI.drew ⟨by rw [HN.out.1]; exact hn.1.1, by rw [HN.out.2]; exact hn.1.2, block_4set _ _ _ _ HIQ.out.bT (by omega) (by omega), block_4set _ _ _ _ HIQ.out.bR (by omega) (by omega), hn.2⟩⟩
          clear hn
          gi_wp2
          go_roundw
          case rel => exact ⟨2, by omega, by go_num, HI'⟩
          case measure => simp only [intOf]; omega
        · go_simp
          refine hK.out _ _ (fun _ => SS) (fun hInv hHeld => ?_)
          clear hK K
          try simp only [Act.put, List.setIfInBounds_toArray, List.set_cons_zero, List.set_cons_succ]
          refine anyS_pure (i := 9) (oi := ⟨some 28, _, _, _, _, _⟩) (v := ?_) (by kernel_rfl) rfl (by kernel_rfl) (by kernel_rfl) (by kernel_rfl) (by decide) (fun _ _ _ h => h) (Or.inl ⟨by rfl, by intro w hSw; (try dsimp only at hSw); go_simp; try with_reducible rfl⟩) (fun _ => by first | rfl | simp [Oper.about, resolve, go_sem]) hInv hHeld (fun hInv hHeld => ?_)
          try simp only [Act.put, List.setIfInBounds_toArray, List.set_cons_zero, List.set_cons_succ]
          refine anyS_one (i := 1) (o := ⟨some 20, _, _, _, _, _⟩) (by kernel_rfl) rfl hInv (fun K hK => ?_)
          go_simp
          refine hK.out _ _ (fun _ => SS) (fun hInv hHeld => ?_)
          clear hK K
          try simp only [Act.put, List.setIfInBounds_toArray, List.set_cons_zero, List.set_cons_succ]
          refine anyS_pure (i := 4) (oi := ⟨some 23, _, _, _, _, _⟩) (v := ?_) (by kernel_rfl) rfl (by kernel_rfl) (by kernel_rfl) (by kernel_rfl) (by decide) (fun _ _ _ h => h) (Or.inl ⟨by rfl, by intro w hSw; (try dsimp only at hSw); go_simp; try with_reducible rfl⟩) (fun _ => by first | rfl | simp [Oper.about, resolve, go_sem]) hInv hHeld (fun hInv hHeld => ?_)
          try simp only [Act.put, List.setIfInBounds_toArray, List.set_cons_zero, List.set_cons_succ]
          refine anyS_pure (i := 10) (oi := ⟨some 29, _, _, _, _, _⟩) (v := ?_) (by kernel_rfl) rfl (by kernel_rfl) (by kernel_rfl) (by kernel_rfl) (by decide) (fun _ _ _ h => h) (Or.inl ⟨by rfl, by intro w hSw; (try dsimp only at hSw); go_simp; try with_reducible rfl⟩) (fun _ => by first | rfl | simp [Oper.about, resolve, go_sem]) hInv hHeld (fun hInv hHeld => ?_)
          try simp only [Act.put, List.setIfInBounds_toArray, List.set_cons_zero, List.set_cons_succ]
          refine anyS_one (i := 22) (o := ⟨none, _, _, _, _, _⟩) (by kernel_rfl) rfl hInv (fun K hK => ?_)
          go_simp
          refine hK.out _ _ (fun _ => ?_) (fun hInv hHeld => ?_)
          · go_simp
          clear hK K
          try simp only [Act.put, List.setIfInBounds_toArray, List.set_cons_zero, List.set_cons_succ]
          refine anyS_one (i := 23) (o := ⟨none, _, _, _, _, _⟩) (by kernel_rfl) rfl hInv (fun K hK => ?_)
          go_simp
          refine hK.out _ _ (fun e => absurd (show true = false from e) (by decide)) (fun hInv hHeld => ?_)
          clear hK K
          try simp only [Act.put, List.setIfInBounds_toArray, List.set_cons_zero, List.set_cons_succ]
          refine anyS_done (by kernel_rfl) ?_ _
          have hn := two_blocksN (n := T) (w0 := w) (w := wq) (min lo.1 t.b.1, min lo.2 t.b.2) (max hi.1 t.b.1, max hi.2 t.b.2) HIQ.out.B (by omega) (by omega) hne HIQ.out.bL HIQ.out.bH
          have HI' : Off (OtherI t (lowK t (1 + 1)) (highK t (1 + 1)) T La Lb w (World.drew _)) := ⟨OtherI.drew ⟨by rw [HN.out.1]; exact hn.1.1, by rw [HN.out.2]; exact hn.1.2, block_4set _ _ _ _ HIQ.out.bT (by omega) (by omega), block_4set _ _ _ _ HIQ.out.bR (by omega) (by omega), hn.2⟩⟩
          clear hn
          gi_wp2
          go_roundw
          case rel => exact ⟨2, by omega, by go_num, HI'⟩
          case measure => simp only [intOf]; omega
      · have hxk : x = t.c := hx
        clear hx
        subst hxk
        have x2 := index3_2 t wr
        gi_wp2_with fail
        try rw [← hQ]
        clear hQ hwq
        refine region_anyS' (S := (fun w' => (w'.cell? ⟨Lb, 0, none⟩ = some (.int .i64 hi.1) ∧ w'.cell? ⟨Lb, 1, none⟩ = some (.int .i64 hi.2)) ∧ (w'.cell? ⟨Q, 0, none⟩ = some (.int .i64 t.c.1) ∧ w'.cell? ⟨Q, 1, none⟩ = some (.int .i64 t.c.2)))) 23 (by kernel_rfl) ⟨⟨h0, h1⟩, q0, q1⟩ (fun hInv hHeld => ?_)
        refine anyS_take (i := 0) (oi := ⟨some 19, _, _, _, _, _⟩) (v := ?_) (by kernel_rfl) rfl (by kernel_rfl) (by kernel_rfl) (by kernel_rfl) (by kernel_rfl) (fun _ _ _ h => h) (Or.inl ⟨by rfl, by intro w hSw; (try dsimp only at hSw); go_simp; try with_reducible rfl⟩) (fun _ => by first | rfl | simp [Oper.about, resolve, go_sem]) hInv hHeld (fun hInv hHeld => ?_)
        try simp only [Act.put, List.setIfInBounds_toArray, List.set_cons_zero, List.set_cons_succ]
        refine anyS_take (i := 2) (oi := ⟨some 21, _, _, _, _, _⟩) (v := ?_) (by kernel_rfl) rfl (by kernel_rfl) (by kernel_rfl) (by kernel_rfl) (by kernel_rfl) (fun _ _ _ h => h) (Or.inl ⟨by rfl, by intro w hSw; (try dsimp only at hSw); go_simp; try with_reducible rfl⟩) (fun _ => by first | rfl | simp [Oper.about, resolve, go_sem]) hInv hHeld (fun hInv hHeld => ?_)
        try simp only [Act.put, List.setIfInBounds_toArray, List.set_cons_zero, List.set_cons_succ]
        refine anyS_take (i := 3) (oi := ⟨some 22, _, _, _, _, _⟩) (v := ?_) (by kernel_rfl) rfl (by kernel_rfl) (by kernel_rfl) (by kernel_rfl) (by kernel_rfl) (fun _ _ _ h => h) (Or.inl ⟨by rfl, by intro w hSw; (try dsimp only at hSw); go_simp; try with_reducible rfl⟩) (fun _ => by first | rfl | simp [Oper.about, resolve, go_sem]) hInv hHeld (fun hInv hHeld => ?_)
        try simp only [Act.put, List.setIfInBounds_toArray, List.set_cons_zero, List.set_cons_succ]
        refine anyS_take (i := 5) (oi := ⟨some 24, _, _, _, _, _⟩) (v := ?_) (by kernel_rfl) rfl (by kernel_rfl) (by kernel_rfl) (by kernel_rfl) (by kernel_rfl) (fun _ _ _ h => h) (Or.inl ⟨by rfl, by intro w hSw; (try dsimp only at hSw); go_simp; try with_reducible rfl⟩) (fun _ => by first | rfl | simp [Oper.about, resolve, go_sem]) hInv hHeld (fun hInv hHeld => ?_)
        try simp only [Act.put, List.setIfInBounds_toArray, List.set_cons_zero, List.set_cons_succ]
        refine anyS_take (i := 7) (oi := ⟨some 26, _, _, _, _, _⟩) (v := ?_) (by kernel_rfl) rfl (by kernel_rfl) (by kernel_rfl) (by kernel_rfl) (by kernel_rfl) (fun _ _ _ h => h) (Or.inl ⟨by rfl, by intro w hSw; (try dsimp only at hSw); go_simp; try with_reducible rfl⟩) (fun _ => by first | rfl | simp [Oper.about, resolve, go_sem]) hInv hHeld (fun hInv hHeld => ?_)
        try simp only [Act.put, List.setIfInBounds_toArray, List.set_cons_zero, List.set_cons_succ]
        refine anyS_take (i := 8) (oi := ⟨some 27, _, _, _, _, _⟩) (v := ?_) (by kernel_rfl) rfl (by kernel_rfl) (by kernel_rfl) (by kernel_rfl) (by kernel_rfl) (fun _ _ _ h => h) (Or.inl ⟨by rfl, by intro w hSw; (try dsimp only at hSw); go_simp; try with_reducible rfl⟩) (fun _ => by first | rfl | simp [Oper.about, resolve, go_sem]) hInv hHeld (fun hInv hHeld => ?_)
        try simp only [Act.put, List.setIfInBounds_toArray, List.set_cons_zero, List.set_cons_succ]
        refine anyS_take (i := 11) (oi := ⟨some 30, _, _, _, _, _⟩) (v := ?_) (by kernel_rfl) rfl (by kernel_rfl) (by kernel_rfl) (by kernel_rfl) (by kernel_rfl) (fun _ _ _ h => h) (Or.inl ⟨by rfl, by intro w hSw; (try dsimp only at hSw); go_simp; try with_reducible rfl⟩) (fun _ => by first | rfl | simp [Oper.about, resolve, go_sem]) hInv hHeld (fun hInv hHeld => ?_)
        try simp only [Act.put, List.setIfInBounds_toArray, List.set_cons_zero, List.set_cons_succ]
        refine anyS_take (i := 12) (oi := ⟨some 31, _, _, _, _, _⟩) (v := ?_) (by kernel_rfl) rfl (by kernel_rfl) (by kernel_rfl) (by kernel_rfl) (by kernel_rfl) (fun _ _ _ h => h) (Or.inl ⟨by rfl, by intro w hSw; (try dsimp only at hSw); go_simp; try with_reducible rfl⟩) (fun _ => by first | rfl | simp [Oper.about, resolve, go_sem]) hInv hHeld (fun hInv hHeld => ?_)
        try simp only [Act.put, List.setIfInBounds_toArray, List.set_cons_zero, List.set_cons_succ]
        refine anyS_take (i := 13) (oi := ⟨some 32, _, _, _, _, _⟩) (v := ?_) (by kernel_rfl) rfl (by kernel_rfl) (by kernel_rfl) (by kernel_rfl) (by kernel_rfl) (fun _ _ _ h => h) (Or.inl ⟨by rfl, by intro w hSw; (try dsimp only at hSw); go_simp; try with_reducible rfl⟩) (fun _ => by first | rfl | simp [Oper.about, resolve, go_sem]) hInv hHeld (fun hInv hHeld => ?_)
        try simp only [Act.put, List.setIfInBounds_toArray, List.set_cons_zero, List.set_cons_succ]
        refine anyS_take (i := 14) (oi := ⟨some 33, _, _, _, _, _⟩) (v := ?_) (by kernel_rfl) rfl (by kernel_rfl) (by kernel_rfl) (by kernel_rfl) (by kernel_rfl) (fun _ _ _ h => h) (Or.inl ⟨by rfl, by intro w hSw; (try dsimp only at hSw); go_simp; try with_reducible rfl⟩) (fun _ => by first | rfl | simp [Oper.about, resolve, go_sem]) hInv hHeld (fun hInv hHeld => ?_)
        try simp only [Act.put, List.setIfInBounds_toArray, List.set_cons_zero, List.set_cons_succ]
        refine anyS_take (i := 15) (oi := ⟨some 34, _, _, _, _, _⟩) (v := ?_) (by kernel_rfl) rfl (by kernel_rfl) (by kernel_rfl) (by kernel_rfl) (by kernel_rfl) (fun _ _ _ h => h) (Or.inl ⟨by rfl, by intro w hSw; (try dsimp only at hSw); go_simp; try with_reducible rfl⟩) (fun _ => by first | rfl | simp [Oper.about, resolve, go_sem]) hInv hHeld (fun hInv hHeld => ?_)
        try simp only [Act.put, List.setIfInBounds_toArray, List.set_cons_zero, List.set_cons_succ]
        refine anyS_take (i := 16) (oi := ⟨some 35, _, _, _, _, _⟩) (v := ?_) (by kernel_rfl) rfl (by kernel_rfl) (by kernel_rfl) (by kernel_rfl) (by kernel_rfl) (fun _ _ _ h => h) (Or.inl ⟨by rfl, by intro w hSw; (try dsimp only at hSw); go_simp; try with_reducible rfl⟩) (fun _ => by first | rfl | simp [Oper.about, resolve, go_sem]) hInv hHeld (fun hInv hHeld => ?_)
        try simp only [Act.put, List.setIfInBounds_toArray, List.set_cons_zero, List.set_cons_succ]
        refine anyS_take (i := 17) (oi := ⟨some 36, _, _, _, _, _⟩) (v := ?_) (by kernel_rfl) rfl (by kernel_rfl) (by kernel_rfl) (by kernel_rfl) (by kernel_rfl) (fun _ _ _ h => h) (Or.inl ⟨by rfl, by intro w hSw; (try dsimp only at hSw); go_simp; try with_reducible rfl⟩) (fun _ => by first | rfl | simp [Oper.about, resolve, go_sem]) hInv hHeld (fun hInv hHeld => ?_)
        try simp only [Act.put, List.setIfInBounds_toArray, List.set_cons_zero, List.set_cons_succ]
        refine anyS_take (i := 18) (oi := ⟨some 37, _, _, _, _, _⟩) (v := ?_) (by kernel_rfl) rfl (by kernel_rfl) (by kernel_rfl) (by kernel_rfl) (by kernel_rfl) (fun _ _ _ h => h) (Or.inl ⟨by rfl, by intro w hSw; (try dsimp only at hSw); go_simp; try with_reducible rfl⟩) (fun _ => by first | rfl | simp [Oper.about, resolve, go_sem]) hInv hHeld (fun hInv hHeld => ?_)
        try simp only [Act.put, List.setIfInBounds_toArray, List.set_cons_zero, List.set_cons_succ]
        refine anyS_take (i := 19) (oi := ⟨some 38, _, _, _, _, _⟩) (v := ?_) (by kernel_rfl) rfl (by kernel_rfl) (by kernel_rfl) (by kernel_rfl) (by kernel_rfl) (fun _ _ _ h => h) (Or.inl ⟨by rfl, by intro w hSw; (try dsimp only at hSw); go_simp; try with_reducible rfl⟩) (fun _ => by first | rfl | simp [Oper.about, resolve, go_sem]) hInv hHeld (fun hInv hHeld => ?_)
        try simp only [Act.put, List.setIfInBounds_toArray, List.set_cons_zero, List.set_cons_succ]
        refine anyS_take (i := 20) (oi := ⟨some 39, _, _, _, _, _⟩) (v := ?_) (by kernel_rfl) rfl (by kernel_rfl) (by kernel_rfl) (by kernel_rfl) (by kernel_rfl) (fun _ _ _ h => h) (Or.inl ⟨by rfl, by intro w hSw; (try dsimp only at hSw); go_simp; try with_reducible rfl⟩) (fun _ => by first | rfl | simp [Oper.about, resolve, go_sem]) hInv hHeld (fun hInv hHeld => ?_)
        try simp only [Act.put, List.setIfInBounds_toArray, List.set_cons_zero, List.set_cons_succ]
        refine anyS_take (i := 21) (oi := ⟨some 40, _, _, _, _, _⟩) (v := ?_) (by kernel_rfl) rfl (by kernel_rfl) (by kernel_rfl) (by kernel_rfl) (by kernel_rfl) (fun _ _ _ h => h) (Or.inl ⟨by rfl, by intro w hSw; (try dsimp only at hSw); go_simp; try with_reducible rfl⟩) (fun _ => by first | rfl | simp [Oper.about, resolve, go_sem]) hInv hHeld (fun hInv hHeld => ?_)
        try simp only [Act.put, List.setIfInBounds_toArray, List.set_cons_zero, List.set_cons_succ]
        have SS : (fun w' => (w'.cell? ⟨Lb, 0, none⟩ = some (.int .i64 hi.1) ∧ w'.cell? ⟨Lb, 1, none⟩ = some (.int .i64 hi.2)) ∧ (w'.cell? ⟨Q, 0, none⟩ = some (.int .i64 t.c.1) ∧ w'.cell? ⟨Q, 1, none⟩ = some (.int .i64 t.c.2))) wq.drew := ⟨⟨h0, h1⟩, q0, q1⟩
        refine anyS_two (i := 1) (o := ⟨some 20, _, _, _, _, _⟩) (j := 6) (p := ⟨some 25, _, _, _, _, _⟩) (by kernel_rfl) rfl rfl hInv (fun K hK => ?_) (fun K hK => ?_)
        · go_simp
          refine hK.out _ _ (fun _ => SS) (fun hInv hHeld => ?_)
          clear hK K
          try simp only [Act.put, List.setIfInBounds_toArray, List.set_cons_zero, List.set_cons_succ]
          refine anyS_pure (i := 4) (oi := ⟨some 23, _, _, _, _, _⟩) (v := ?_) (by kernel_rfl) rfl (by kernel_rfl) (by kernel_rfl) (by kernel_rfl) (by decide) (fun _ _ _ h => h) (Or.inl ⟨by rfl, by intro w hSw; (try dsimp only at hSw); go_simp; try with_reducible rfl⟩) (fun _ => by first | rfl | simp [Oper.about, resolve, go_sem]) hInv hHeld (fun hInv hHeld => ?_)
          try simp only [Act.put, List.setIfInBounds_toArray, List.set_cons_zero, List.set_cons_succ]
          refine anyS_one (i := 6) (o := ⟨some 25, _, _, _, _, _⟩) (by kernel_rfl) rfl hInv (fun K hK => ?_)
          go_simp
          refine hK.out _ _ (fun _ => SS) (fun hInv hHeld => ?_)
          clear hK K
          try simp only [Act.put, List.setIfInBounds_toArray, List.set_cons_zero, List.set_cons_succ]
          refine anyS_pure (i := 9) (oi := ⟨some 28, _, _, _, _, _⟩) (v := ?_) (by kernel_rfl) rfl (by kernel_rfl) (by kernel_rfl) (by kernel_rfl) (by decide) (fun _ _ _ h => h) (Or.inl ⟨by rfl, by intro w hSw; (try dsimp only at hSw); go_simp; try with_reducible rfl⟩) (fun _ => by first | rfl | simp [Oper.about, resolve, go_sem]) hInv hHeld (fun hInv hHeld => ?_)
          try simp only [Act.put, List.setIfInBounds_toArray, List.set_cons_zero, List.set_cons_succ]
          refine anyS_pure (i := 10) (oi := ⟨some 29, _, _, _, _, _⟩) (v := ?_) (by kernel_rfl) rfl (by kernel_rfl) (by kernel_rfl) (by kernel_rfl) (by decide) (fun _ _ _ h => h) (Or.inl ⟨by rfl, by intro w hSw; (try dsimp only at hSw); go_simp; try with_reducible rfl⟩) (fun _ => by first | rfl | simp [Oper.about, resolve, go_sem]) hInv hHeld (fun hInv hHeld => ?_)
          try simp only [Act.put, List.setIfInBounds_toArray, List.set_cons_zero, List.set_cons_succ]
          refine anyS_one (i := 22) (o := ⟨none, _, _, _, _, _⟩) (by kernel_rfl) rfl hInv (fun K hK => ?_)
          go_simp
          refine hK.out _ _ (fun _ => ?_) (fun hInv hHeld => ?_)
          · go_simp
          clear hK K
          try simp only [Act.put, List.setIfInBounds_toArray, List.set_cons_zero, List.set_cons_succ]
          refine anyS_one (i := 23) (o := ⟨none, _, _, _, _, _⟩) (by kernel_rfl) rfl hInv (fun K hK => ?_)
          go_simp
          refine hK.out _ _ (fun e => absurd (show true = false from e) (by decide)) (fun hInv hHeld => ?_)
          clear hK K
          try simp only [Act.put, List.setIfInBounds_toArray, List.set_cons_zero, List.set_cons_succ]
          refine anyS_done (by kernel_rfl) ?_ _
          have hn := two_blocksN (n := T) (w0 := w) (w := wq) (min lo.1 t.c.1, min lo.2 t.c.2) (max hi.1 t.c.1, max hi.2 t.c.2) HIQ.out.B (by omega) (by omega) hne HIQ.out.bL HIQ.out.bH
          have HI' : Off (OtherI t (lowK t (2 + 1)) (highK t (2 + 1)) T La Lb w (World.drew _)) := ⟨OtherI.drew ⟨by rw [HN.out.1]; exact hn.1.1, by rw [HN.out.2]; exact hn.1.2, block_4set _ _ _ _ HIQ.out.bT (by omega) (by omega), block_4set _ _ _ _ HIQ.out.bR (by omega) (by omega), hn.2⟩⟩
          clear hn
          gi_wp2
          go_roundw
          case rel => exact ⟨3, by omega, by go_num, HI'⟩
          case measure => simp only [intOf]; omega
        · go_simp
          refine hK.out _ _ (fun _ => SS) (fun hInv hHeld => ?_)
          clear hK K
          try simp only [Act.put, List.setIfInBounds_toArray, List.set_cons_zero, List.set_cons_succ]
          refine anyS_pure (i := 9) (oi := ⟨some 28, _, _, _, _, _⟩) (v := ?_) (by kernel_rfl) rfl (by kernel_rfl) (by kernel_rfl) (by kernel_rfl) (by decide) (fun _ _ _ h => h) (Or.inl ⟨by rfl, by intro w hSw; (try dsimp only at hSw); go_simp; try with_reducible rfl⟩) (fun _ => by first | rfl | simp [Oper.about, resolve, go_sem]) hInv hHeld (fun hInv hHeld => ?_)
          try simp only [Act.put, List.setIfInBounds_toArray, List.set_cons_zero, List.set_cons_succ]
          refine anyS_one (i := 1) (o := ⟨some 20, _, _, _, _, _⟩) (by kernel_rfl) rfl hInv (fun K hK => ?_)
          go_simp
          refine hK.out _ _ (fun _ => SS) (fun hInv hHeld => ?_)
          clear hK K
          try simp only [Act.put, List.setIfInBounds_toArray, List.set_cons_zero, List.set_cons_succ]
          refine anyS_pure (i := 4) (oi := ⟨some 23, _, _, _, _, _⟩) (v := ?_) (by kernel_rfl) rfl (by kernel_rfl) (by kernel_rfl) (by kernel_rfl) (by decide) (fun _ _ _ h => h) (Or.inl ⟨by rfl, by intro w hSw; (try dsimp only at hSw); go_simp; try with_reducible rfl⟩) (fun _ => by first | rfl | simp [Oper.about, resolve, go_sem]) hInv hHeld (fun hInv hHeld => ?_)
          try simp only [Act.put, List.setIfInBounds_toArray, List.set_cons_zero, List.set_cons_succ]
          refine anyS_pure (i := 10) (oi := ⟨some 29, _, _, _, _, _⟩) (v := ?_) (by kernel_rfl) rfl (by kernel_rfl) (by kernel_rfl) (by kernel_rfl) (by decide) (fun _ _ _ h => h) (Or.inl ⟨by rfl, by intro w hSw; (try dsimp only at hSw); go_simp; try with_reducible rfl⟩) (fun _ => by first | rfl | simp [Oper.about, resolve, go_sem]) hInv hHeld (fun hInv hHeld => ?_)
          try simp only [Act.put, List.setIfInBounds_toArray, List.set_cons_zero, List.set_cons_succ]
          refine anyS_one (i := 22) (o := ⟨none, _, _, _, _, _⟩) (by kernel_rfl) rfl hInv (fun K hK => ?_)
          go_simp
          refine hK.out _ _ (fun _ => ?_) (fun hInv hHeld => ?_)
          · go_simp
          clear hK K
          try simp only [Act.put, List.setIfInBounds_toArray, List.set_cons_zero, List.set_cons_succ]
          refine anyS_one (i := 23) (o := ⟨none, _, _, _, _, _⟩) (by kernel_rfl) rfl hInv (fun K hK => ?_)
          go_simp
          refine hK.out _ _ (fun e => absurd (show true = false from e) (by decide)) (fun hInv hHeld => ?_)
          clear hK K
          try simp only [Act.put, List.setIfInBounds_toArray, List.set_cons_zero, List.set_cons_succ]
          refine anyS_done (by kernel_rfl) ?_ _
          have hn := two_blocksN (n := T) (w0 := w) (w := wq) (min lo.1 t.c.1, min lo.2 t.c.2) (max hi.1 t.c.1, max hi.2 t.c.2) HIQ.out.B (by omega) (by omega) hne HIQ.out.bL HIQ.out.bH
          have HI' : Off (OtherI t (lowK t (2 + 1)) (highK t (2 + 1)) T La Lb w (World.drew _)) := ⟨OtherI.drew ⟨by rw [HN.out.1]; exact hn.1.1, by rw [HN.out.2]; exact hn.1.2, block_4set _ _ _ _ HIQ.out.bT (by omega) (by omega), block_4set _ _ _ _ HIQ.out.bR (by omega) (by omega), hn.2⟩⟩
          clear hn
          gi_wp2
          go_roundw
          case rel => exact ⟨3, by omega, by go_num, HI'⟩
          case measure => simp only [intOf]; omega
end Go.Proofs.Ytbpmiphipjkdlaa
