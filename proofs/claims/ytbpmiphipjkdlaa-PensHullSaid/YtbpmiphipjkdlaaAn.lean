/- The range over sides where the round writes one box q. -/
import Derived.Test.YtbpmiphipjkdlaaAg
namespace Go.Proofs.Ytbpmiphipjkdlaa
open Go.RowKit Go.Shelf
attribute [local go_sem] Oper.semAt_some

/-- Below n₀ all blocks but q are kept. -/
structure KeptBut (q n₀ : Nat) (A B : World) : Prop where
  size : A.heap.size ≤ B.heap.size
  block : ∀ i, i < n₀ → i ≠ q → B.heap[i]? = A.heap[i]?
theorem KeptBut.refl (q n₀ : Nat) (A : World) : KeptBut q n₀ A A := ⟨Nat.le_refl _, fun _ _ _ => rfl⟩
theorem KeptBut.trans {q n₀ : Nat} {A B C : World} (h : KeptBut q n₀ A B) (k : KeptBut q n₀ B C) : KeptBut q n₀ A C := ⟨Nat.le_trans h.size k.size, fun i hi hq => (k.block i hi hq).trans (h.block i hi hq)⟩
theorem KeptBut.of_below {q n₀ : Nat} {A B : World} (h : Below n₀ A B) : KeptBut q n₀ A B := ⟨h.size, fun i hi _ => h.block i hi⟩
theorem KeptBut.cell {q n₀ : Nat} {A B : World} (h : KeptBut q n₀ A B) {p : Addr} (hp : p.block < n₀ ∧ p.block ≠ q) : B.cell? p = A.cell? p := by
  unfold World.cell?
  rw [h.block p.block hp.1 hp.2]
set_option maxRecDepth 100000 in
set_option maxHeartbeats 2000000 in
theorem sides1_but (F : Fence) (n : Nat) (h94 : F.fn 94) (hro : F.round = none) (hn : 1 ≤ n) (l qb Bn n₀ g c : Nat) (xs : PtL) (h12 : xs.length ≤ 60) (J Jx : List (Fin xs.length) → World → Prop)
    (hY : ∀ pre x W, J pre W → pre.length < xs.length → YieldAt F (n - 1) Try.prog l (sideEnc xs x) W fun e W' =>
      (e = .returned (.bool true) ∧ J (pre ++ [x]) W' ∧ KeptBut qb n₀ W W') ∨ (e = .returned (.bool false) ∧ Jx (pre ++ [x]) W'))
    (hJ : ∀ pre W o, J pre W → J pre (W.alloc o)) (hJd : ∀ pre W, J pre W → J pre W.drew)
    (W : World) (hBn : Bn < n₀ ∧ Bn ≠ qb) (hc : W.cell? ⟨Bn, 0, none⟩ = some (.slice (some ⟨g, 0, none⟩) xs.length c)) (hg : g < n₀ ∧ g ≠ qb) (hn₀ : n₀ ≤ W.heap.size)
    (hL : ∀ j, j < xs.length → W.cell? ⟨g, j * 2, none⟩ = some (.int .i64 (xs.getD j (0, 0)).1) ∧ W.cell? ⟨g, j * 2 + 1, none⟩ = some (.int .i64 (xs.getD j (0, 0)).2)) (h0 : J [] W) :
    CallsIn F n Try.prog 94 #[.func (.yield l) #[] #[], .pointer (some ⟨Bn, 0, none⟩)] W fun e W' => (∃ v, e = .returned v) ∧
      ((∃ ys, ys = List.finRange xs.length ∧ J ys W') ∨ (∃ pre, pre <+: List.finRange xs.length ∧ Jx pre W')) := by
  refine callsIn_of_wp Try.func94 rfl h94 ?_ hro
  simp only [Try.ntmps94, List.size_toArray, List.length_cons, List.length_nil, Nat.reduceAdd, Nat.reduceSub, Array.replicate_succ, Array.replicate_zero, List.push_toArray, List.append_toArray, List.nil_append, List.cons_append]
  have HY := Off.mk hY
  have HJ := Off.mk hJ
  have HL := Off.mk hL
  clear hY hJ hL
  gi_wp2
  gi_loopw [7] (fun iv wr => ∃ k : Nat, k ≤ xs.length ∧ iv = .int .i64 k ∧ Off (J ((List.finRange xs.length).take k) wr) ∧ Off (KeptBut qb n₀ W wr)) (fun iv _ => xs.length - (intOf iv).toNat)
  case atStart => exact ⟨0, by omega, rfl, ⟨h0⟩, ⟨KeptBut.refl _ _ _⟩⟩
  case round =>
    obtain ⟨k, hk, rfl, hJr, HB⟩ := hrel
    by_cases hkl : k < xs.length
    · have hkI : (k : Int) < (xs.length : Int) := by omega
      have hcr := HB.out.cell (p := ⟨Bn, 0, none⟩) hBn
      rw [hc] at hcr
      obtain ⟨x0, x1⟩ := HL.out k hkl
      have y0 := (HB.out.cell (p := ⟨g, k * 2, none⟩) hg).trans x0
      have y1 := (HB.out.cell (p := ⟨g, k * 2 + 1, none⟩) hg).trans x1
      clear x0 x1
      obtain ⟨m, hm⟩ : ∃ m, m = (k + 1) % xs.length := ⟨_, rfl⟩
      have hml : m < xs.length := by rw [hm]; exact Nat.mod_lt _ (by omega)
      obtain ⟨x0, x1⟩ := HL.out m hml
      have z0 := (HB.out.cell (p := ⟨g, m * 2, none⟩) hg).trans x0
      have z1 := (HB.out.cell (p := ⟨g, m * 2 + 1, none⟩) hg).trans x1
      have e5 : ((k : Int) + 1) % (xs.length : Int) = (m : Int) := by
        rw [hm, show (k : Int) + 1 = ((k + 1 : Nat) : Int) by omega]
        exact (Int.natCast_emod _ _).symm
      have e7 : ((k : Int) + 1).tmod (xs.length : Int) = (m : Int) := by rw [Int.tmod_eq_emod_of_nonneg (by omega)]; exact e5
      have w5 : IntKind.i64.wrap ((k : Int) + 1) = (k : Int) + 1 := by rw [IntKind.wrap_i64]; omega
      have hn0 : ¬ xs.length = 0 := by omega
      have hm0 : (0 : Int) ≤ (m : Int) := by omega
      have hmI : (m : Int) < (xs.length : Int) := by omega
      have HK := Off.mk hml
      have hmix : Try.prog.follows .mixedOrders = true := by kernel_rfl
      have hsz := HB.out.size
      have hsz' : n₀ ≤ wr.heap.size := by omega
      have s1 : Bn < wr.heap.size := by omega
      have s2 : g < wr.heap.size := by omega
      have s3 : ¬ Bn = wr.heap.size := by omega
      have s4 : ¬ g = wr.heap.size := by omega
      clear x0 x1 hml
      have hfin : (List.finRange xs.length).take (k + 1) = (List.finRange xs.length).take k ++ [⟨k, hkl⟩] := by
        rw [List.take_succ_eq_append_getElem (by rw [List.length_finRange]; exact hkl)]
        congr 1
        simp
      obtain ⟨p, hp⟩ : ∃ p, p = xs.getD k (0, 0) := ⟨_, rfl⟩
      obtain ⟨q, hq⟩ : ∃ q, q = xs.getD m (0, 0) := ⟨_, rfl⟩
      have hYk := HY.out ((List.finRange xs.length).take k) ⟨k, hkl⟩ (wr.alloc (.cells #[.int .i64 p.1, .int .i64 p.2] 70)).drew (hJd _ _ (HJ.out _ _ _ hJr.out)) (by rw [List.length_take, List.length_finRange]; omega)
      rw [show sideEnc xs ⟨k, hkl⟩ = #[.int .i64 (k : Int), .agg #[.int .i64 p.1, .int .i64 p.2, .int .i64 q.1, .int .i64 q.2]] by unfold sideEnc sideAt; rw [← hm, ← hp, ← hq], ← hfin] at hYk
      obtain ⟨fn, tmps, assign, body, hy, hR⟩ := hYk
      have HR := Off.mk hR
      clear hR
      rw [← hp] at y0 y1
      rw [← hq] at z0 z1
      have HF := Off.mk hfin
      clear hp hq hm hfin
      have hba : Below wr.heap.size wr (wr.alloc (.cells #[.int .i64 p.1, .int .i64 p.2] 70)) := (Below.refl _ _).alloc (Nat.le_refl _) _
      have bx := Box2.new wr p
      have v0 := cellB hba z0
      have v1 := cellB hba z1
      have vc := cellB hba hcr
      gi_wp2
      refine region_anyS' (S := (fun w' => ((w'.cell? ⟨wr.heap.size, 0, none⟩ = some (.int .i64 p.1) ∧ w'.cell? ⟨wr.heap.size, 1, none⟩ = some (.int .i64 p.2)) ∧ (w'.cell? ⟨g, m * 2, none⟩ = some (.int .i64 q.1) ∧ w'.cell? ⟨g, m * 2 + 1, none⟩ = some (.int .i64 q.2))) ∧ w'.cell? ⟨Bn, 0, none⟩ = some (.slice (some ⟨g, 0, none⟩) xs.length c))) 12 (by kernel_rfl) ⟨⟨⟨bx.c0, bx.c1⟩, v0, v1⟩, vc⟩ (fun hInv hHeld => ?_)
      refine anyS_take (i := 0) (oi := ⟨some 12, _, _, _, _, _⟩) (v := ?_) (by kernel_rfl) rfl (by kernel_rfl) (by kernel_rfl) (by kernel_rfl) (by kernel_rfl) (fun _ _ _ h => h) (Or.inl ⟨by rfl, by intro w hSw; (try dsimp only at hSw); go_simp; try with_reducible rfl⟩) (fun _ => by first | rfl | simp [Oper.about, resolve, go_sem]) hInv hHeld (fun hInv hHeld => ?_)
      try simp only [Act.put, List.setIfInBounds_toArray, List.set_cons_zero, List.set_cons_succ]
      refine anyS_take (i := 1) (oi := ⟨some 13, _, _, _, _, _⟩) (v := ?_) (by kernel_rfl) rfl (by kernel_rfl) (by kernel_rfl) (by kernel_rfl) (by kernel_rfl) (fun _ _ _ h => h) (Or.inl ⟨by rfl, by intro w hSw; (try dsimp only at hSw); go_simp; try with_reducible rfl⟩) (fun _ => by first | rfl | simp [Oper.about, resolve, go_sem]) hInv hHeld (fun hInv hHeld => ?_)
      try simp only [Act.put, List.setIfInBounds_toArray, List.set_cons_zero, List.set_cons_succ]
      refine anyS_take (i := 2) (oi := ⟨some 14, _, _, _, _, _⟩) (v := ?_) (by kernel_rfl) rfl (by kernel_rfl) (by kernel_rfl) (by kernel_rfl) (by kernel_rfl) (fun _ _ _ h => h) (Or.inl ⟨by rfl, by intro w hSw; (try dsimp only at hSw); go_simp; try with_reducible rfl⟩) (fun _ => by first | rfl | simp [Oper.about, resolve, go_sem]) hInv hHeld (fun hInv hHeld => ?_)
      try simp only [Act.put, List.setIfInBounds_toArray, List.set_cons_zero, List.set_cons_succ]
      refine anyS_take (i := 3) (oi := ⟨some 15, _, _, _, _, _⟩) (v := ?_) (by kernel_rfl) rfl (by kernel_rfl) (by kernel_rfl) (by kernel_rfl) (by kernel_rfl) (fun _ _ _ h => h) (Or.inl ⟨by rfl, by intro w hSw; (try dsimp only at hSw); go_simp; try with_reducible rfl⟩) (fun _ => by first | rfl | simp [Oper.about, resolve, go_sem]) hInv hHeld (fun hInv hHeld => ?_)
      try simp only [Act.put, List.setIfInBounds_toArray, List.set_cons_zero, List.set_cons_succ]
      refine anyS_take (i := 4) (oi := ⟨some 16, _, _, _, _, _⟩) (v := ?_) (by kernel_rfl) rfl (by kernel_rfl) (by kernel_rfl) (by kernel_rfl) (by kernel_rfl) (fun _ _ _ h => h) (Or.inl ⟨by rfl, by intro w hSw; (try dsimp only at hSw); go_simp; try with_reducible rfl⟩) (fun _ => by first | rfl | simp [Oper.about, resolve, go_sem]) hInv hHeld (fun hInv hHeld => ?_)
      try simp only [Act.put, List.setIfInBounds_toArray, List.set_cons_zero, List.set_cons_succ]
      refine anyS_take (i := 5) (oi := ⟨some 17, _, _, _, _, _⟩) (v := ?_) (by kernel_rfl) rfl (by kernel_rfl) (by kernel_rfl) (by kernel_rfl) (by kernel_rfl) (fun _ _ _ h => h) (Or.inl ⟨by rfl, by intro w hSw; (try dsimp only at hSw); go_simp; try with_reducible rfl⟩) (fun _ => by first | rfl | simp [Oper.about, resolve, go_sem]) hInv hHeld (fun hInv hHeld => ?_)
      try simp only [Act.put, List.setIfInBounds_toArray, List.set_cons_zero, List.set_cons_succ]
      refine anyS_take (i := 6) (oi := ⟨some 18, _, _, _, _, _⟩) (v := ?_) (by kernel_rfl) rfl (by kernel_rfl) (by kernel_rfl) (by kernel_rfl) (by kernel_rfl) (fun _ _ _ h => h) (Or.inl ⟨by rfl, by intro w hSw; (try dsimp only at hSw); go_simp; try with_reducible rfl⟩) (fun _ => by first | rfl | simp [Oper.about, resolve, go_sem]) hInv hHeld (fun hInv hHeld => ?_)
      try simp only [Act.put, List.setIfInBounds_toArray, List.set_cons_zero, List.set_cons_succ]
      refine anyS_take (i := 7) (oi := ⟨some 19, _, _, _, _, _⟩) (v := ?_) (by kernel_rfl) rfl (by kernel_rfl) (by kernel_rfl) (by kernel_rfl) (by kernel_rfl) (fun _ _ _ h => h) (Or.inl ⟨by rfl, by intro w hSw; (try dsimp only at hSw); go_simp; try with_reducible rfl⟩) (fun _ => by first | rfl | simp [Oper.about, resolve, go_sem]) hInv hHeld (fun hInv hHeld => ?_)
      try simp only [Act.put, List.setIfInBounds_toArray, List.set_cons_zero, List.set_cons_succ]
      refine anyS_take (i := 8) (oi := ⟨some 20, _, _, _, _, _⟩) (v := ?_) (by kernel_rfl) rfl (by kernel_rfl) (by kernel_rfl) (by kernel_rfl) (by kernel_rfl) (fun _ _ _ h => h) (Or.inl ⟨by rfl, by intro w hSw; (try dsimp only at hSw); go_simp; try with_reducible rfl⟩) (fun _ => by first | rfl | simp [Oper.about, resolve, go_sem]) hInv hHeld (fun hInv hHeld => ?_)
      try simp only [Act.put, List.setIfInBounds_toArray, List.set_cons_zero, List.set_cons_succ]
      refine anyS_take (i := 9) (oi := ⟨some 21, _, _, _, _, _⟩) (v := ?_) (by kernel_rfl) rfl (by kernel_rfl) (by kernel_rfl) (by kernel_rfl) (by kernel_rfl) (fun _ _ _ h => h) (Or.inl ⟨by rfl, by intro w hSw; (try dsimp only at hSw); go_simp; try with_reducible rfl⟩) (fun _ => by first | rfl | simp [Oper.about, resolve, go_sem]) hInv hHeld (fun hInv hHeld => ?_)
      try simp only [Act.put, List.setIfInBounds_toArray, List.set_cons_zero, List.set_cons_succ]
      refine anyS_take (i := 10) (oi := ⟨some 22, _, _, _, _, _⟩) (v := ?_) (by kernel_rfl) rfl (by kernel_rfl) (by kernel_rfl) (by kernel_rfl) (by kernel_rfl) (fun _ _ _ h => h) (Or.inl ⟨by rfl, by intro w hSw; (try dsimp only at hSw); go_simp; try with_reducible rfl⟩) (fun _ => by first | rfl | simp [Oper.about, resolve, go_sem]) hInv hHeld (fun hInv hHeld => ?_)
      try simp only [Act.put, List.setIfInBounds_toArray, List.set_cons_zero, List.set_cons_succ]
      refine anyS_take (i := 11) (oi := ⟨some 23, _, _, _, _, _⟩) (v := ?_) (by kernel_rfl) rfl (by kernel_rfl) (by kernel_rfl) (by kernel_rfl) (by kernel_rfl) (fun _ _ _ h => h) (Or.inl ⟨by rfl, by intro w hSw; (try dsimp only at hSw); go_simp; try with_reducible rfl⟩) (fun _ => by first | rfl | simp [Oper.about, resolve, go_sem]) hInv hHeld (fun hInv hHeld => ?_)
      try simp only [Act.put, List.setIfInBounds_toArray, List.set_cons_zero, List.set_cons_succ]
      refine anyS_one (i := 12) (o := ⟨some 24, _, _, _, _, _⟩) (by kernel_rfl) rfl hInv (fun K hK => ?_)
      go_simp
      refine HR.out.mono ?_
      rintro e W3 (⟨rfl, hJ3, hk3⟩ | ⟨rfl, hJx3⟩)
      · refine hK.out _ _ (fun e => absurd (show true = false from e) (by decide)) (fun hInv hHeld => ?_)
        clear hK K
        try simp only [Act.put, List.setIfInBounds_toArray, List.set_cons_zero, List.set_cons_succ]
        refine anyS_pure (i := 13) (oi := ⟨some 25, _, _, _, _, _⟩) (v := ?_) (by kernel_rfl) rfl (by kernel_rfl) (by kernel_rfl) (by kernel_rfl) (by decide) (fun _ _ _ h => h) (Or.inl ⟨by rfl, by intro w hSw; (try dsimp only at hSw); go_simp; try with_reducible rfl⟩) (fun _ => by first | rfl | simp [Oper.about, resolve, go_sem]) hInv hHeld (fun hInv hHeld => ?_)
        try simp only [Act.put, List.setIfInBounds_toArray, List.set_cons_zero, List.set_cons_succ]
        refine anyS_done (by kernel_rfl) ?_ _
        gi_wp2
        have HB3 : Off (KeptBut qb n₀ W W3) := ⟨(HB.out.trans (KeptBut.of_below (below_drew ((Below.refl n₀ wr).alloc hsz' _)))).trans hk3⟩
        go_roundw
        case rel => exact ⟨k + 1, by omega, by go_num, ⟨hJ3⟩, HB3⟩
        case measure => simp only [intOf]; omega
      · refine hK.out _ _ (fun e => absurd (show true = false from e) (by decide)) (fun hInv hHeld => ?_)
        clear hK K
        try simp only [Act.put, List.setIfInBounds_toArray, List.set_cons_zero, List.set_cons_succ]
        refine anyS_pure (i := 13) (oi := ⟨some 25, _, _, _, _, _⟩) (v := ?_) (by kernel_rfl) rfl (by kernel_rfl) (by kernel_rfl) (by kernel_rfl) (by decide) (fun _ _ _ h => h) (Or.inl ⟨by rfl, by intro w hSw; (try dsimp only at hSw); go_simp; try with_reducible rfl⟩) (fun _ => by first | rfl | simp [Oper.about, resolve, go_sem]) hInv hHeld (fun hInv hHeld => ?_)
        try simp only [Act.put, List.setIfInBounds_toArray, List.set_cons_zero, List.set_cons_succ]
        refine anyS_done (by kernel_rfl) ?_ _
        gi_wp2
        refine bodyPost_ret (results_none rfl _ _ _) rfl ?_
        exact ⟨⟨_, rfl⟩, .inr ⟨_, List.take_prefix _ _, hJx3⟩⟩
    · obtain rfl : k = xs.length := by omega
      gi_wp2
      go_end0
      exact ⟨⟨_, rfl⟩, .inl ⟨_, rfl, by have := hJr.out; rw [List.take_of_length_le (by rw [List.length_finRange]; exact Nat.le_refl _)] at this; exact this⟩⟩
/-- What sides hands back yields all sides. -/
theorem sides_stops_but (F : Fence) (n : Nat) (h94 : F.fn 94) (hro : F.round = none) (hn : 1 ≤ n) (qb Bn n₀ g c : Nat) (xs : PtL) (h12 : xs.length ≤ 60) (w : World) (hBn : Bn < n₀ ∧ Bn ≠ qb) (hg : g < n₀ ∧ g ≠ qb) (hn₀ : n₀ ≤ w.heap.size)
    (hc : w.cell? ⟨Bn, 0, none⟩ = some (.slice (some ⟨g, 0, none⟩) xs.length c)) (hL : ∀ j, j < xs.length → w.cell? ⟨g, j * 2, none⟩ = some (.int .i64 (xs.getD j (0, 0)).1) ∧ w.cell? ⟨g, j * 2 + 1, none⟩ = some (.int .i64 (xs.getD j (0, 0)).2)) :
    SeqStopsK F n Try.prog 94 #[.pointer (some ⟨Bn, 0, none⟩)] (sideEnc xs) (KeptBut qb n₀) (fun ys => ys = List.finRange xs.length) (fun pre => pre <+: List.finRange xs.length) xs.length w := fun l J Jx W hW hJ _ hY h0 =>
  sides1_but F n h94 hro hn l qb Bn n₀ g c xs h12 J Jx hY (fun pre U o h => hJ pre U _ none h (World.grownBy_alloc U o none) (fun r e => by cases e)) (fun pre U h => hJ pre U _ none h ⟨rfl, rfl, rfl, Nat.le_refl _, fun _ _ _ => rfl⟩ (fun r e => by cases e))
    W hBn ((hW.cell (p := ⟨Bn, 0, none⟩) (by simp only; omega)).trans hc) hg (Nat.le_trans hn₀ hW.size) (fun j hj => ⟨(hW.cell (p := ⟨g, j * 2, none⟩) (by simp only; omega)).trans (hL j hj).1, (hW.cell (p := ⟨g, j * 2 + 1, none⟩) (by simp only; omega)).trans (hL j hj).2⟩) h0
end Go.Proofs.Ytbpmiphipjkdlaa
