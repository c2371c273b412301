/- Contracts: border. -/
import Derived.Test.YtbpmiphipjkdlaaAo
namespace Go.Proofs.Ytbpmiphipjkdlaa
open Go.RowKit Go.Shelf
attribute [local go_sem] Oper.semAt_some

theorem points_50 {s : (Int × Int) × (Int × Int)} (hp : inB 50 s.1) (hq : inB 50 s.2) : -((5000 : Nat) : Int) ≤ (pointsS s : Int) ∧ (pointsS s : Int) ≤ ((5000 : Nat) : Int) := by
  unfold inB at hp hq
  refine ⟨by omega, ?_⟩
  have : pointsS s ≤ 100 := by
    unfold pointsS
    by_cases h : s.2.1 - s.1.1 = 0
    · rw [h, Int.gcd_zero_left]
      omega
    · have := Nat.le_of_dvd (by omega) (Int.gcd_dvd_natAbs_left (s.2.1 - s.1.1) (s.2.2 - s.1.2))
      omega
  omega
set_option maxRecDepth 100000 in
set_option maxHeartbeats 4000000 in
theorem border_any (xs : PtL) (g c : Nat) (w : World) (h60 : xs.length ≤ 60) (hP : ∀ i, inB 50 (xs.getD i (0, 0))) (hg : g < w.heap.size)
    (hL : ∀ j, j < xs.length → w.cell? ⟨g, j * 2, none⟩ = some (.int .i64 (xs.getD j (0, 0)).1) ∧ w.cell? ⟨g, j * 2 + 1, none⟩ = some (.int .i64 (xs.getD j (0, 0)).2)) :
    Calls Try.prog 53 #[.slice (some ⟨g, 0, none⟩) xs.length c] w fun e w' => e = .returned (.int .i64 (sumF (fun s => (pointsS s : Int)) xs (List.finRange xs.length))) ∧ Below w.heap.size w w' := by
  have CS : Off (∀ B k c W, Calls Try.prog 56 #[.slice B k c] W fun e w' => e = .returned (.func (.func 94) #[] #[.pointer (some ⟨W.heap.size, 0, none⟩)]) ∧ w' = W.alloc (.cells #[.slice B k c] 58)) := ⟨fun B k c W => (callsIn_wide (n := 5)).1 (sides_in Fence.wide 5 trivial rfl B k c W)⟩
  have HL := Off.mk hL
  clear hL
  refine (callsIn_wide (n := 9)).1 ?_
  refine callsIn_of_wp_marks Try.func53 rfl trivial ?_
  refine wpIn_wide.2 ?_
  simp only [Try.ntmps53, List.size_toArray, List.length_cons, List.length_nil, Nat.reduceAdd, Nat.reduceSub, Array.replicate_succ, Array.replicate_zero, List.push_toArray, List.append_toArray, List.nil_append, List.cons_append]
  go_wp2_with fail
  refine (CS.out _ _ _ _).mono ?_
  rintro e w3 ⟨rfl, hw3⟩
  have hba : Below (w.alloc (.cells #[.int .i64 0] 3)).heap.size (w.alloc (.cells #[.int .i64 0] 3)) w3 := by rw [hw3]; exact (Below.refl _ _).alloc (Nat.le_refl _) _
  have bP : Boxed w3 w.heap.size 3 (.int .i64 0) := by rw [hw3]; exact (Boxed.new w 3 (.int .i64 0)).alloc _
  have bC : Boxed w3 (w.heap.size + 1) 58 (.slice (some ⟨g, 0, none⟩) xs.length c) := by
    rw [hw3]
    have := Boxed.new (w.alloc (.cells #[.int .i64 0] 3)) 58 (.slice (some ⟨g, 0, none⟩) xs.length c)
    rwa [World.size_alloc] at this
  have hsz : w3.heap.size = w.heap.size + 2 := by rw [hw3]; simp
  have hB3 : Below w.heap.size w w3 := belowC (belowA (Below.refl _ w) _) hba
  have HL3 : Off (∀ j, j < xs.length → w3.cell? ⟨g, j * 2, none⟩ = some (.int .i64 (xs.getD j (0, 0)).1) ∧ w3.cell? ⟨g, j * 2 + 1, none⟩ = some (.int .i64 (xs.getD j (0, 0)).2)) :=
    ⟨fun j hj => ⟨cellB hB3 (HL.out j hj).1, cellB hB3 (HL.out j hj).2⟩⟩
  clear hba hw3 HL
  go_wp2_with fail
  obtain ⟨p, hp⟩ : ∃ p, p = w.heap.size := ⟨_, rfl⟩
  rw [← hp] at bP bC hsz hg hB3 ⊢
  have HP := Off.mk hp
  clear hp
  refine (wpIn_wide (n := 9)).1 ?_
  refine wpIn_rangeFunc_ownH (F := Fence.wide) (n := 9) rfl (by omega) (gf := 94) (lb := #[.pointer (some ⟨p + 1, 0, none⟩)]) rfl trivial (enters_of Try.func94 (by kernel_rfl) rfl)
    (sides_stops_but Fence.wide 8 trivial rfl (by omega) p (p + 1) w3.heap.size g c xs h60 w3 (by omega) (by omega) (Nat.le_refl _) bC.cell HL3.out) KeptBut.trans (KeptBut.b (Nat.le_refl _)) (Below.refl _ _) (fun _ => rfl)
    (fun pre W => Boxed W p 3 (.int .i64 (sumF (fun s => (pointsS s : Int)) xs pre)) ∧ Below p w W ∧ w3.heap.size ≤ W.heap.size)
    (fun _ _ _ => False)
    (OwnFrom.and (Own.from (boxed_own _ _ _) _) (OwnFrom.and (ownFrom_below (by have := HP.out; omega) (by omega)) (ownFrom_size _ _)))
    (fun _ _ _ _ _ h _ _ => h)
    ⟨bP, hB3, Nat.le_refl _⟩
    (fun x a' W => ∃ Bi, w3.heap.size ≤ Bi ∧ W.heap[Bi]? = some (.cells #[Value.int IntKind.i64 (sideAt xs x.val).1.1, Value.int IntKind.i64 (sideAt xs x.val).1.2, Value.int IntKind.i64 (sideAt xs x.val).2.1, Value.int IntKind.i64 (sideAt xs x.val).2.2] 75 (0, 0)) ∧ a' = { tmps := #[Value.slice (some ⟨g, 0, none⟩) xs.length c, undef, Value.int IntKind.i64 0, Value.pointer (some ⟨p, 0, none⟩), undef, Value.pointer (some ⟨Bi, 0, none⟩), Value.slice (some ⟨g, 0, none⟩) xs.length c, Value.func (Fn.func 94) #[] #[Value.pointer (some ⟨p + 1, 0, none⟩)], Value.int IntKind.i64 ↑x.val, sdV (sideAt xs x.val), undef, undef, undef, undef, undef], defers := [] })
    (fun x a' _ X Y row hs hg hr => by obtain ⟨Bi, e1, e3, e4⟩ := hs; exact ⟨Bi, e1, block_kept e3 hg (fun r e => (hr r e).2), e4⟩)
    ?assign ?body ?done ?stop
  case assign =>
    rintro l pre x W K ⟨hq, hB, hs3⟩ hK
    simp only [sideEnc]
    gi_wp2
    exact hK _ _ ((KeepsOthers.alloc _ _).from _) (KeptBut.of_below ((Below.refl _ W).alloc hs3 _)) ⟨hq.alloc _, hB.alloc (by have := hB.size; omega) _, by simp; omega⟩
      ⟨W.heap.size, hs3, block_new W (.cells #[Value.int IntKind.i64 (sideAt xs x.val).1.1, Value.int IntKind.i64 (sideAt xs x.val).1.2, Value.int IntKind.i64 (sideAt xs x.val).2.1, Value.int IntKind.i64 (sideAt xs x.val).2.2] 75), rfl⟩
  case body =>
    rintro l pre x a' W hl ⟨r, hr⟩ ⟨hq, hB, hs3⟩ ⟨Bi, hBi, bS, rfl⟩ hlt
    obtain ⟨s, hs⟩ : ∃ s, s = sideAt xs x.val := ⟨_, rfl⟩
    have hs1 : inB 50 s.1 := by rw [hs]; exact hP _
    have hs2 : inB 50 s.2 := by rw [hs]; exact hP _
    obtain ⟨t, ht⟩ : ∃ t, t = sumF (fun s => (pointsS s : Int)) xs pre := ⟨_, rfl⟩
    have htb : -(pre.length * 5000 : Nat) ≤ t ∧ t ≤ (pre.length * 5000 : Nat) := by rw [ht]; exact sumF_in _ 5000 (fun i => points_50 (hP _) (hP _)) pre
    have hcb := points_50 hs1 hs2
    have hsum : sumF (fun s => (pointsS s : Int)) xs (pre ++ [x]) = t + (pointsS s : Int) := by rw [ht, hs, sumF_more]
    have C1 : Off (∀ W, Calls Try.prog 90 #[sdV s] W fun e w' => e = .returned (.int .i64 (pointsS s : Int)) ∧ Below W.heap.size W w') := ⟨fun W => points_any s (inB_mono hs1 (by decide)) (inB_mono hs2 (by decide)) W⟩
    have HS := Off.mk hsum
    obtain ⟨cr, hcr⟩ : ∃ cr, cr = (pointsS s : Int) := ⟨_, rfl⟩
    rw [← hcr] at C1 HS hcb
    have W1 : IntKind.i64.wrap (t + cr) = t + cr := by rw [IntKind.wrap_i64]; omega
    rw [← hs] at bS ⊢
    rw [← ht] at hq
    clear hcr hs ht htb hcb hsum hs1 hs2
    obtain ⟨⟨s0, s1, s2, s3⟩, _⟩ := four_facts bS
    have cq := hq.cell
    have fq := hq.frozen
    gi_wp2
    refine region_anyS' (S := (fun w' => ((w'.cell? ⟨Bi, 0, none⟩ = some (.int .i64 s.1.1) ∧ w'.cell? ⟨Bi, 1, none⟩ = some (.int .i64 s.1.2)) ∧ (w'.cell? ⟨Bi, 2, none⟩ = some (.int .i64 s.2.1) ∧ w'.cell? ⟨Bi, 3, none⟩ = some (.int .i64 s.2.2))) ∧ w'.cell? ⟨p, 0, none⟩ = some (.int .i64 t))) 4 (by kernel_rfl) ⟨⟨⟨s0, s1⟩, s2, s3⟩, cq⟩ (fun hInv hHeld => ?_)
    refine anyS_take (i := 0) (oi := ⟨some 10, _, _, _, _, _⟩) (v := ?_) (by kernel_rfl) rfl (by kernel_rfl) (by kernel_rfl) (by kernel_rfl) (by kernel_rfl) (fun _ _ _ h => h) (Or.inl ⟨by rfl, by intro w hSw; (try dsimp only at hSw); go_simp; try with_reducible rfl⟩) (fun _ => by first | rfl | simp [Oper.about, resolve, go_sem]) hInv hHeld (fun hInv hHeld => ?_)
    try simp only [Act.put, List.setIfInBounds_toArray, List.set_cons_zero, List.set_cons_succ]
    refine anyS_take (i := 1) (oi := ⟨some 11, _, _, _, _, _⟩) (v := ?_) (by kernel_rfl) rfl (by kernel_rfl) (by kernel_rfl) (by kernel_rfl) (by kernel_rfl) (fun _ _ _ h => h) (Or.inl ⟨by rfl, by intro w hSw; (try dsimp only at hSw); go_simp; try with_reducible rfl⟩) (fun _ => by first | rfl | simp [Oper.about, resolve, go_sem]) hInv hHeld (fun hInv hHeld => ?_)
    try simp only [Act.put, List.setIfInBounds_toArray, List.set_cons_zero, List.set_cons_succ]
    refine anyS_one (i := 2) (o := ⟨some 12, _, _, _, _, _⟩) (by kernel_rfl) rfl hInv (fun K hK => ?_)
    go_simp
    refine ⟨trivial, ?_⟩
    refine (CallsIn.inRound l (callsIn_wide.2 (C1.out _))).mono ?_
    rintro e W2 ⟨rfl, hb2⟩
    have hb2 : Below W.heap.size W W2 := ⟨hb2.os, hb2.tape, hb2.output, hb2.size, hb2.block⟩
    refine hK.out _ _ (fun _ => ⟨⟨⟨cellB hb2 s0, cellB hb2 s1⟩, cellB hb2 s2, cellB hb2 s3⟩, cellB hb2 cq⟩) (fun hInv hHeld => ?_)
    clear hK K
    try simp only [Act.put, List.setIfInBounds_toArray, List.set_cons_zero, List.set_cons_succ]
    refine anyS_take (i := 3) (oi := ⟨some 13, _, _, _, _, _⟩) (v := ?_) (by kernel_rfl) rfl (by kernel_rfl) (by kernel_rfl) (by kernel_rfl) (by kernel_rfl) (fun _ _ _ h => h) (Or.inl ⟨by rfl, by intro w hSw; (try dsimp only at hSw); go_simp; try with_reducible rfl⟩) (fun _ => by first | rfl | simp [Oper.about, resolve, go_sem]) hInv hHeld (fun hInv hHeld => ?_)
    try simp only [Act.put, List.setIfInBounds_toArray, List.set_cons_zero, List.set_cons_succ]
    have hq2 : Boxed W2 p 3 (.int .i64 t) := (hb2.block p hq.lt).trans hq
    have cq2 := hq2.cell
    have fq2 := hq2.frozen
    refine anyS_one (i := 4) (o := ⟨none, _, _, _, _, _⟩) (by kernel_rfl) rfl hInv (fun K hK => ?_)
    go_simp
    refine hK.out _ _ (fun e => absurd (show true = false from e) (by decide)) (fun hInv hHeld => ?_)
    clear hK K
    try simp only [Act.put, List.setIfInBounds_toArray, List.set_cons_zero, List.set_cons_succ]
    refine anyS_done (by kernel_rfl) ?_ _
    gi_wp2
    have hq3 := hq2.set (.int .i64 (t + cr))
    rw [← HS.out] at hq3 ⊢
    have hBw2 : Below p w W2 := hB.trans (hb2.mono (by have := hB.size; omega))
    exact ⟨((keepsFrom_below hb2).trans ((KeepsOthers.setCell _ _ _).from _)), (KeptBut.of_below (hb2.mono hs3)).trans (KeptBut.of_set _ _ (by have := hb2.size; omega)), hq3, hBw2.setCell (p := ⟨p, 0, none⟩) (Nat.le_refl _) _, Nat.le_trans (Nat.le_trans hs3 hb2.size) (grownBy_setCell' _ _ _).size⟩
  case stop => exact fun _ _ _ _ _ _ h _ => h.elim
  case done =>
    rintro D ys W hD rfl ⟨hq, hB, hs3⟩ hdf
    have cq := hq.cell
    gi_wp2
    go_wp2
    refine ⟨by simp, .inl ⟨_, _, rfl, run_takeDeferred hdf, ?_⟩⟩
    rw [← HP.out]
    exact ⟨_, by simp [results, Try.results53, go_sem], rfl, hB.trans (belowK_b (w := w) (by rw [HP.out]; exact Nat.le_refl _) _ D _ _ (by have := HP.out; omega) hdf rfl rfl)⟩
end Go.Proofs.Ytbpmiphipjkdlaa
