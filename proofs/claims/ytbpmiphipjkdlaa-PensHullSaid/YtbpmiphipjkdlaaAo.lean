/- Contracts: twice. -/
import Derived.Test.YtbpmiphipjkdlaaAm
import Derived.Test.YtbpmiphipjkdlaaAn
import Derived.Test.YtbpmiphipjkdlaaAi
namespace Go.Proofs.Ytbpmiphipjkdlaa
open Go.RowKit Go.Shelf
attribute [local go_sem] Oper.semAt_some

/-- A sum over sides. -/
def sumF (f : (Int × Int) × (Int × Int) → Int) (xs : PtL) (l : List (Fin xs.length)) : Int := (l.map fun i => f (sideAt xs i.val)).sum
theorem sumF_more (f : (Int × Int) × (Int × Int) → Int) (xs : PtL) (l : List (Fin xs.length)) (x : Fin xs.length) : sumF f xs (l ++ [x]) = sumF f xs l + f (sideAt xs x.val) := by
  unfold sumF
  rw [List.map_append, List.sum_append]
  simp
theorem sumF_in (f : (Int × Int) × (Int × Int) → Int) {xs : PtL} (b : Nat) (h : ∀ i, -(b : Int) ≤ f (sideAt xs i) ∧ f (sideAt xs i) ≤ b) : ∀ l : List (Fin xs.length), -(l.length * b : Nat) ≤ sumF f xs l ∧ sumF f xs l ≤ (l.length * b : Nat)
  | [] => by simp [sumF]
  | x :: l => by
    have h1 := sumF_in f b h l
    have h2 := h x.val
    have e : sumF f xs (x :: l) = f (sideAt xs x.val) + sumF f xs l := by simp [sumF]
    rw [e, List.length_cons, Nat.add_mul]
    omega
theorem cross_50 {p q : Int × Int} (hp : inB 50 p) (hq : inB 50 q) : -((5000 : Nat) : Int) ≤ crossP p q ∧ crossP p q ≤ ((5000 : Nat) : Int) := by
  unfold inB at hp hq
  have m1 := mul_in hp.1 hq.2 (by omega) (by omega)
  have m2 := mul_in hp.2 hq.1 (by omega) (by omega)
  unfold crossP
  omega
theorem KeptBut.of_set {q n₀ : Nat} (W : World) (v : Value) (h : n₀ ≤ W.heap.size) : KeptBut q n₀ W (W.setCell ⟨q, 0, none⟩ v) := by
  have := grownBy_setCell' W q v
  exact ⟨this.size, fun i hi hq => this.block i (by omega) (fun e => hq (Option.some.inj e))⟩
theorem KeptBut.b {q n₀ : Nat} {w : World} (hn : n₀ ≤ w.heap.size) (W : World) (l : Nat) (o o' : Obj) (hl : w.heap.size ≤ l) (h : W.heap[l]? = some o) (hc : o.isCells = false) (hw : o.isWalk = false) : KeptBut q n₀ W (W.putObj l o') :=
  KeptBut.of_below (belowK_b hn W l o o' hl h hc hw)
theorem ownFrom_size {β : Type} (B k : Nat) : OwnFrom B (fun (_ : β) W => k ≤ W.heap.size) := fun _ _ _ _ hs hg _ => Nat.le_trans hs hg.size
theorem ownFrom_kept {β : Type} (q n₀ : Nat) (w₀ : World) (B : Nat) (hn : n₀ ≤ B) (hw : n₀ ≤ w₀.heap.size) : OwnFrom B (fun (_ : β) W => KeptBut q n₀ w₀ W) := fun _ X Y row hs hg hr =>
  ⟨Nat.le_trans hs.size hg.size, fun i hi hq => (hg.block i (by have := hs.size; omega) (fun e => by have := (hr i e.symm).1; omega)).trans (hs.block i hi hq)⟩
set_option maxRecDepth 100000 in
set_option maxHeartbeats 4000000 in
theorem twice_any (xs : PtL) (g c : Nat) (w : World) (h60 : xs.length ≤ 60) (hP : ∀ i, inB 50 (xs.getD i (0, 0))) (hg : g < w.heap.size)
    (hL : ∀ j, j < xs.length → w.cell? ⟨g, j * 2, none⟩ = some (.int .i64 (xs.getD j (0, 0)).1) ∧ w.cell? ⟨g, j * 2 + 1, none⟩ = some (.int .i64 (xs.getD j (0, 0)).2)) :
    Calls Try.prog 89 #[.slice (some ⟨g, 0, none⟩) xs.length c] w fun e w' => e = .returned (.int .i64 (sumF (fun s => crossP s.1 s.2) xs (List.finRange xs.length))) ∧ Below w.heap.size w w' := by
  have CS : Off (∀ B k c W, Calls Try.prog 56 #[.slice B k c] W fun e w' => e = .returned (.func (.func 94) #[] #[.pointer (some ⟨W.heap.size, 0, none⟩)]) ∧ w' = W.alloc (.cells #[.slice B k c] 58)) := ⟨fun B k c W => (callsIn_wide (n := 5)).1 (sides_in Fence.wide 5 trivial rfl B k c W)⟩
  have HL := Off.mk hL
  clear hL
  refine (callsIn_wide (n := 9)).1 ?_
  refine callsIn_of_wp_marks Try.func89 rfl trivial ?_
  refine wpIn_wide.2 ?_
  simp only [Try.ntmps89, List.size_toArray, List.length_cons, List.length_nil, Nat.reduceAdd, Nat.reduceSub, Array.replicate_succ, Array.replicate_zero, List.push_toArray, List.append_toArray, List.nil_append, List.cons_append]
  go_wp2_with fail
  refine (CS.out _ _ _ _).mono ?_
  rintro e w3 ⟨rfl, hw3⟩
  have hba : Below (w.alloc (.cells #[.int .i64 0] 3)).heap.size (w.alloc (.cells #[.int .i64 0] 3)) w3 := by rw [hw3]; exact (Below.refl _ _).alloc (Nat.le_refl _) _
  have bP : Boxed w3 w.heap.size 3 (.int .i64 0) := by rw [hw3]; exact (Boxed.new w 3 (.int .i64 0)).alloc _
  have bC : Boxed w3 (w.heap.size + 1) 58 (.slice (some ⟨g, 0, none⟩) xs.length c) := by
    rw [hw3]
    have := Boxed.new (w.alloc (.cells #[.int .i64 0] 3)) 58 (.slice (some ⟨g, 0, none⟩) xs.length c)
    rwa [World.size_alloc] at this
  have hsz : w3.heap.size = w.heap.size + 2 := by rw [hw3]; simp
  have hB3 : Below w.heap.size w w3 := belowC (belowA (Below.refl _ w) _) hba
  have HL3 : Off (∀ j, j < xs.length → w3.cell? ⟨g, j * 2, none⟩ = some (.int .i64 (xs.getD j (0, 0)).1) ∧ w3.cell? ⟨g, j * 2 + 1, none⟩ = some (.int .i64 (xs.getD j (0, 0)).2)) :=
    ⟨fun j hj => ⟨cellB hB3 (HL.out j hj).1, cellB hB3 (HL.out j hj).2⟩⟩
  clear hba hw3 HL
  go_wp2_with fail
  obtain ⟨p, hp⟩ : ∃ p, p = w.heap.size := ⟨_, rfl⟩
  rw [← hp] at bP bC hsz hg hB3 ⊢
  have HP := Off.mk hp
  clear hp
  refine (wpIn_wide (n := 9)).1 ?_
  refine wpIn_rangeFunc_ownH (F := Fence.wide) (n := 9) rfl (by omega) (gf := 94) (lb := #[.pointer (some ⟨p + 1, 0, none⟩)]) rfl trivial (enters_of Try.func94 (by kernel_rfl) rfl)
    (sides_stops_but Fence.wide 8 trivial rfl (by omega) p (p + 1) w3.heap.size g c xs h60 w3 (by omega) (by omega) (Nat.le_refl _) bC.cell HL3.out) KeptBut.trans (KeptBut.b (Nat.le_refl _)) (Below.refl _ _) (fun _ => rfl)
    (fun pre W => Boxed W p 3 (.int .i64 (sumF (fun s => crossP s.1 s.2) xs pre)) ∧ Below p w W ∧ w3.heap.size ≤ W.heap.size)
    (fun _ _ _ => False)
    (OwnFrom.and (Own.from (boxed_own _ _ _) _) (OwnFrom.and (ownFrom_below (by have := HP.out; omega) (by omega)) (ownFrom_size _ _)))
    (fun _ _ _ _ _ h _ _ => h)
    ⟨bP, hB3, Nat.le_refl _⟩
    (fun x a' W => ∃ Bi, w3.heap.size ≤ Bi ∧ W.heap[Bi]? = some (.cells #[Value.int IntKind.i64 (sideAt xs x.val).1.1, Value.int IntKind.i64 (sideAt xs x.val).1.2, Value.int IntKind.i64 (sideAt xs x.val).2.1, Value.int IntKind.i64 (sideAt xs x.val).2.2] 75 (0, 0)) ∧ a' = { tmps := #[Value.slice (some ⟨g, 0, none⟩) xs.length c, undef, Value.int IntKind.i64 0, Value.pointer (some ⟨p, 0, none⟩), undef, Value.pointer (some ⟨Bi, 0, none⟩), Value.slice (some ⟨g, 0, none⟩) xs.length c, Value.func (Fn.func 94) #[] #[Value.pointer (some ⟨p + 1, 0, none⟩)], Value.int IntKind.i64 ↑x.val, sdV (sideAt xs x.val), undef, undef, undef, undef, undef, undef, undef, undef], defers := [] })
    (fun x a' _ X Y row hs hg hr => by obtain ⟨Bi, e1, e3, e4⟩ := hs; exact ⟨Bi, e1, block_kept e3 hg (fun r e => (hr r e).2), e4⟩)
    ?assign ?body ?done ?stop
  case assign =>
    rintro l pre x W K ⟨hq, hB, hs3⟩ hK
    simp only [sideEnc]
    gi_wp2
    exact hK _ _ ((KeepsOthers.alloc _ _).from _) (KeptBut.of_below ((Below.refl _ W).alloc hs3 _)) ⟨hq.alloc _, hB.alloc (by have := hB.size; omega) _, by simp; omega⟩
      ⟨W.heap.size, hs3, block_new W (.cells #[Value.int IntKind.i64 (sideAt xs x.val).1.1, Value.int IntKind.i64 (sideAt xs x.val).1.2, Value.int IntKind.i64 (sideAt xs x.val).2.1, Value.int IntKind.i64 (sideAt xs x.val).2.2] 75), rfl⟩
  case body =>
    rintro l pre x a' W hl ⟨r, hr⟩ ⟨hq, hB, hs3⟩ ⟨Bi, hBi, bS, rfl⟩ hlt
    obtain ⟨s, hs⟩ : ∃ s, s = sideAt xs x.val := ⟨_, rfl⟩
    have hs1 : inB 50 s.1 := by rw [hs]; exact hP _
    have hs2 : inB 50 s.2 := by rw [hs]; exact hP _
    obtain ⟨t, ht⟩ : ∃ t, t = sumF (fun s => crossP s.1 s.2) xs pre := ⟨_, rfl⟩
    have htb : -(pre.length * 5000 : Nat) ≤ t ∧ t ≤ (pre.length * 5000 : Nat) := by rw [ht]; exact sumF_in _ 5000 (fun i => cross_50 (hP _) (hP _)) pre
    have hcb := cross_50 hs1 hs2
    have hsum : sumF (fun s => crossP s.1 s.2) xs (pre ++ [x]) = t + crossP s.1 s.2 := by rw [ht, hs, sumF_more]
    have C1 : Off (∀ W, Calls Try.prog 57 #[ptV s.1, ptV s.2] W fun e w' => e = .returned (.int .i64 (crossP s.1 s.2)) ∧ Below W.heap.size W w') := ⟨fun W => cross_any s.1 s.2 (inB_mono hs1 (by decide)) (inB_mono hs2 (by decide)) W⟩
    have HS := Off.mk hsum
    obtain ⟨cr, hcr⟩ : ∃ cr, cr = crossP s.1 s.2 := ⟨_, rfl⟩
    rw [← hcr] at C1 HS hcb
    have W1 : IntKind.i64.wrap (t + cr) = t + cr := by rw [IntKind.wrap_i64]; omega
    rw [← hs] at bS ⊢
    rw [← ht] at hq
    clear hcr hs ht htb hcb hsum hs1 hs2
    obtain ⟨⟨s0, s1, s2, s3⟩, _⟩ := four_facts bS
    have cq := hq.cell
    have fq := hq.frozen
    gi_wp2
    refine region_anyS' (S := (fun w' => ((w'.cell? ⟨Bi, 0, none⟩ = some (.int .i64 s.1.1) ∧ w'.cell? ⟨Bi, 1, none⟩ = some (.int .i64 s.1.2)) ∧ (w'.cell? ⟨Bi, 2, none⟩ = some (.int .i64 s.2.1) ∧ w'.cell? ⟨Bi, 3, none⟩ = some (.int .i64 s.2.2))) ∧ w'.cell? ⟨p, 0, none⟩ = some (.int .i64 t))) 7 (by kernel_rfl) ⟨⟨⟨s0, s1⟩, s2, s3⟩, cq⟩ (fun hInv hHeld => ?_)
    refine anyS_take (i := 0) (oi := ⟨some 10, _, _, _, _, _⟩) (v := ?_) (by kernel_rfl) rfl (by kernel_rfl) (by kernel_rfl) (by kernel_rfl) (by kernel_rfl) (fun _ _ _ h => h) (Or.inl ⟨by rfl, by intro w hSw; (try dsimp only at hSw); go_simp; try with_reducible rfl⟩) (fun _ => by first | rfl | simp [Oper.about, resolve, go_sem]) hInv hHeld (fun hInv hHeld => ?_)
    try simp only [Act.put, List.setIfInBounds_toArray, List.set_cons_zero, List.set_cons_succ]
    refine anyS_take (i := 1) (oi := ⟨some 11, _, _, _, _, _⟩) (v := ?_) (by kernel_rfl) rfl (by kernel_rfl) (by kernel_rfl) (by kernel_rfl) (by kernel_rfl) (fun _ _ _ h => h) (Or.inl ⟨by rfl, by intro w hSw; (try dsimp only at hSw); go_simp; try with_reducible rfl⟩) (fun _ => by first | rfl | simp [Oper.about, resolve, go_sem]) hInv hHeld (fun hInv hHeld => ?_)
    try simp only [Act.put, List.setIfInBounds_toArray, List.set_cons_zero, List.set_cons_succ]
    refine anyS_take (i := 2) (oi := ⟨some 12, _, _, _, _, _⟩) (v := ?_) (by kernel_rfl) rfl (by kernel_rfl) (by kernel_rfl) (by kernel_rfl) (by kernel_rfl) (fun _ _ _ h => h) (Or.inl ⟨by rfl, by intro w hSw; (try dsimp only at hSw); go_simp; try with_reducible rfl⟩) (fun _ => by first | rfl | simp [Oper.about, resolve, go_sem]) hInv hHeld (fun hInv hHeld => ?_)
    try simp only [Act.put, List.setIfInBounds_toArray, List.set_cons_zero, List.set_cons_succ]
    refine anyS_take (i := 3) (oi := ⟨some 13, _, _, _, _, _⟩) (v := ?_) (by kernel_rfl) rfl (by kernel_rfl) (by kernel_rfl) (by kernel_rfl) (by kernel_rfl) (fun _ _ _ h => h) (Or.inl ⟨by rfl, by intro w hSw; (try dsimp only at hSw); go_simp; try with_reducible rfl⟩) (fun _ => by first | rfl | simp [Oper.about, resolve, go_sem]) hInv hHeld (fun hInv hHeld => ?_)
    try simp only [Act.put, List.setIfInBounds_toArray, List.set_cons_zero, List.set_cons_succ]
    refine anyS_take (i := 4) (oi := ⟨some 14, _, _, _, _, _⟩) (v := ?_) (by kernel_rfl) rfl (by kernel_rfl) (by kernel_rfl) (by kernel_rfl) (by kernel_rfl) (fun _ _ _ h => h) (Or.inl ⟨by rfl, by intro w hSw; (try dsimp only at hSw); go_simp; try with_reducible rfl⟩) (fun _ => by first | rfl | simp [Oper.about, resolve, go_sem]) hInv hHeld (fun hInv hHeld => ?_)
    try simp only [Act.put, List.setIfInBounds_toArray, List.set_cons_zero, List.set_cons_succ]
    refine anyS_one (i := 5) (o := ⟨some 15, _, _, _, _, _⟩) (by kernel_rfl) rfl hInv (fun K hK => ?_)
    go_simp
    refine ⟨trivial, ?_⟩
    refine (CallsIn.inRound l (callsIn_wide.2 (C1.out _))).mono ?_
    rintro e W2 ⟨rfl, hb2⟩
    have hb2 : Below W.heap.size W W2 := ⟨hb2.os, hb2.tape, hb2.output, hb2.size, hb2.block⟩
    refine hK.out _ _ (fun _ => ⟨⟨⟨cellB hb2 s0, cellB hb2 s1⟩, cellB hb2 s2, cellB hb2 s3⟩, cellB hb2 cq⟩) (fun hInv hHeld => ?_)
    clear hK K
    try simp only [Act.put, List.setIfInBounds_toArray, List.set_cons_zero, List.set_cons_succ]
    refine anyS_take (i := 6) (oi := ⟨some 16, _, _, _, _, _⟩) (v := ?_) (by kernel_rfl) rfl (by kernel_rfl) (by kernel_rfl) (by kernel_rfl) (by kernel_rfl) (fun _ _ _ h => h) (Or.inl ⟨by rfl, by intro w hSw; (try dsimp only at hSw); go_simp; try with_reducible rfl⟩) (fun _ => by first | rfl | simp [Oper.about, resolve, go_sem]) hInv hHeld (fun hInv hHeld => ?_)
    try simp only [Act.put, List.setIfInBounds_toArray, List.set_cons_zero, List.set_cons_succ]
    have hq2 : Boxed W2 p 3 (.int .i64 t) := (hb2.block p hq.lt).trans hq
    have cq2 := hq2.cell
    have fq2 := hq2.frozen
    refine anyS_one (i := 7) (o := ⟨none, _, _, _, _, _⟩) (by kernel_rfl) rfl hInv (fun K hK => ?_)
    go_simp
    refine hK.out _ _ (fun e => absurd (show true = false from e) (by decide)) (fun hInv hHeld => ?_)
    clear hK K
    try simp only [Act.put, List.setIfInBounds_toArray, List.set_cons_zero, List.set_cons_succ]
    refine anyS_done (by kernel_rfl) ?_ _
    gi_wp2
    have hq3 := hq2.set (.int .i64 (t + cr))
    rw [← HS.out] at hq3 ⊢
    have hBw2 : Below p w W2 := hB.trans (hb2.mono (by have := hB.size; omega))
    exact ⟨((keepsFrom_below hb2).trans ((KeepsOthers.setCell _ _ _).from _)), (KeptBut.of_below (hb2.mono hs3)).trans (KeptBut.of_set _ _ (by have := hb2.size; omega)), hq3, hBw2.setCell (p := ⟨p, 0, none⟩) (Nat.le_refl _) _, Nat.le_trans (Nat.le_trans hs3 hb2.size) (grownBy_setCell' _ _ _).size⟩
  case stop => exact fun _ _ _ _ _ _ h _ => h.elim
  case done =>
    rintro D ys W hD rfl ⟨hq, hB, hs3⟩ hdf
    have cq := hq.cell
    gi_wp2
    go_wp2
    refine ⟨by simp, .inl ⟨_, _, rfl, run_takeDeferred hdf, ?_⟩⟩
    rw [← HP.out]
    exact ⟨_, by simp [results, Try.results89, go_sem], rfl, hB.trans (belowK_b (w := w) (by rw [HP.out]; exact Nat.le_refl _) _ D _ _ (by have := HP.out; omega) hdf rfl rfl)⟩
end Go.Proofs.Ytbpmiphipjkdlaa
