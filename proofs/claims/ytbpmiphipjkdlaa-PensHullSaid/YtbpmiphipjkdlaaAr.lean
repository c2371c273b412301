/- Contracts: convex. -/
import Derived.Test.YtbpmiphipjkdlaaAq
namespace Go.Proofs.Ytbpmiphipjkdlaa
open Go.RowKit Go.Shelf
attribute [local go_sem] Oper.semAt_some

/-- The way to which the post behind a side turns. -/
def turnAt (xs : PtL) (i : Nat) : Int := signI (turnP (sideAt xs i).1 (sideAt xs i).2 (xs.getD ((i + 2) % xs.length) (0, 0)))
def hitT (xs : PtL) (k : Int) (l : List (Fin xs.length)) : Bool := l.any fun i => turnAt xs i.val == k
def convexP (xs : PtL) (st : Bool) : Bool := (hitT xs (-1) (List.finRange xs.length) != hitT xs 1 (List.finRange xs.length)) && !(st && hitT xs 0 (List.finRange xs.length))
theorem hitT_more (xs : PtL) (k : Int) (l : List (Fin xs.length)) (x : Fin xs.length) : hitT xs k (l ++ [x]) = (hitT xs k l || turnAt xs x.val == k) := by
  unfold hitT
  rw [List.any_append]
  simp
/-- A box of three truths. -/
def Boxed3 (W : World) (B : Nat) (a b c : Bool) : Prop := W.heap[B]? = some (.cells #[.bool a, .bool b, .bool c] 102 (0, 0))
theorem boxed3_own {β : Type} (B : Nat) (f1 f2 f3 : β → Bool) : Go.Own (fun s W => Boxed3 W B (f1 s) (f2 s) (f3 s)) := fun _ _ _ _ hs hg hrow =>
  block_kept hs hg hrow
theorem Boxed3.facts {W : World} {B : Nat} {a b c : Bool} (h : Boxed3 W B a b c) :
    (W.cell? ⟨B, 0, none⟩ = some (.bool a) ∧ W.cell? ⟨B, 1, none⟩ = some (.bool b) ∧ W.cell? ⟨B, 2, none⟩ = some (.bool c)) ∧ W.frozen? ⟨B, 0, none⟩ = false ∧ W.frozen? ⟨B, 1, none⟩ = false ∧ W.frozen? ⟨B, 2, none⟩ = false := by
  unfold Boxed3 at h
  simp [World.cell?, World.frozen?, h]
theorem Boxed3.set0 {W : World} {B : Nat} {a b c : Bool} (h : Boxed3 W B a b c) : Boxed3 (W.setCell ⟨B, 0, none⟩ (.bool true)) B true b c := heap_setCell_same W B 0 _ _ _ h
theorem Boxed3.set1 {W : World} {B : Nat} {a b c : Bool} (h : Boxed3 W B a b c) : Boxed3 (W.setCell ⟨B, 1, none⟩ (.bool true)) B a true c := heap_setCell_same W B 1 _ _ _ h
theorem Boxed3.set2 {W : World} {B : Nat} {a b c : Bool} (h : Boxed3 W B a b c) : Boxed3 (W.setCell ⟨B, 2, none⟩ (.bool true)) B a b true := heap_setCell_same W B 2 _ _ _ h
theorem KeptBut.of_setAt {q n₀ : Nat} (W : World) (i : Nat) (v : Value) : KeptBut q n₀ W (W.setCell ⟨q, i, none⟩ v) :=
  ⟨by simp, fun k _ hq => heap_setCell_other W ⟨q, i, none⟩ k v hq⟩
theorem next2_tmod (n i : Nat) (h : i < n) : ∃ m : Nat, ((i : Int) + 2).tmod (n : Int) = (m : Int) ∧ m < n ∧ m = (i + 2) % n := by
  refine ⟨(i + 2) % n, ?_, Nat.mod_lt _ (by omega), rfl⟩
  rw [Int.tmod_eq_emod_of_nonneg (by omega), show (i : Int) + 2 = ((i + 2 : Nat) : Int) by omega]
  exact (Int.natCast_emod _ _).symm
set_option maxRecDepth 100000 in
set_option maxHeartbeats 4000000 in
theorem convex_any (xs : PtL) (g c : Nat) (st : Bool) (w : World) (hpen : PenAt w g xs) :
    Calls Try.prog 54 #[.slice (some ⟨g, 0, none⟩) xs.length c, .bool st] w fun e w' => e = .returned (.bool (convexP xs st)) ∧ Below w.heap.size w w' := by
  have CS : Off (∀ B k c W, Calls Try.prog 56 #[.slice B k c] W fun e w' => e = .returned (.func (.func 94) #[] #[.pointer (some ⟨W.heap.size, 0, none⟩)]) ∧ w' = W.alloc (.cells #[.slice B k c] 58)) := ⟨fun B k c W => (callsIn_wide (n := 5)).1 (sides_in Fence.wide 5 trivial rfl B k c W)⟩
  have hg := hpen.lt
  have h60 := hpen.few
  have HP0 := Off.mk hpen
  clear hpen
  have bA := Boxed.new w 58 (.slice (some ⟨g, 0, none⟩) xs.length c)
  have cA := bA.cell
  refine (callsIn_wide (n := 9)).1 ?_
  refine callsIn_of_wp_marks Try.func54 rfl trivial ?_
  refine wpIn_wide.2 ?_
  simp only [Try.ntmps54, List.size_toArray, List.length_cons, List.length_nil, Nat.reduceAdd, Nat.reduceSub, Array.replicate_succ, Array.replicate_zero, List.push_toArray, List.append_toArray, List.nil_append, List.cons_append]
  go_wp2_with fail
  refine (CS.out _ _ _ _).mono ?_
  rintro e w3 ⟨rfl, hw3⟩
  obtain ⟨p, hp⟩ : ∃ p, p = w.heap.size := ⟨_, rfl⟩
  rw [← hp] at bA cA hg
  have HP := Off.mk hp
  have hba : Below w.heap.size w w3 := by rw [hw3]; exact belowA (belowA (belowA (Below.refl _ w) _) _) _
  have bP : Boxed w3 p 58 (.slice (some ⟨g, 0, none⟩) xs.length c) := by rw [hw3]; exact (bA.alloc _).alloc _
  have bQ : Boxed3 w3 (p + 1) false false false := by
    rw [hw3, hp]
    have := block_new (w.alloc (.cells #[.slice (some ⟨g, 0, none⟩) xs.length c] 58)) (.cells #[.bool false, .bool false, .bool false] 102)
    rw [World.size_alloc] at this
    exact alloc_old this
  have bC : Boxed w3 (p + 2) 58 (.slice (some ⟨g, 0, none⟩) xs.length c) := by
    rw [hw3, hp]
    have := Boxed.new ((w.alloc (.cells #[.slice (some ⟨g, 0, none⟩) xs.length c] 58)).alloc (.cells #[.bool false, .bool false, .bool false] 102)) 58 (.slice (some ⟨g, 0, none⟩) xs.length c)
    rwa [World.size_alloc, World.size_alloc] at this
  have hsz : w3.heap.size = p + 3 := by rw [hw3, hp]; simp
  have HPn := Off.mk (HP0.out.below hba)
  rw [← hp] at hba
  have hB3 := hba
  clear hba hw3 bA cA HP0
  go_wp2_with fail
  rw [← HP.out]
  clear hp
  refine (wpIn_wide (n := 9)).1 ?_
  refine wpIn_rangeFunc_ownH (F := Fence.wide) (n := 9) rfl (by omega) (gf := 94) (lb := #[.pointer (some ⟨p + 2, 0, none⟩)]) rfl trivial (enters_of Try.func94 (by kernel_rfl) rfl)
    (sides_stops_but Fence.wide 8 trivial rfl (by omega) (p + 1) (p + 2) w3.heap.size g c xs h60 w3 (by omega) (by omega) (Nat.le_refl _) bC.cell HPn.out.cell) KeptBut.trans (KeptBut.b (Nat.le_refl _)) (Below.refl _ _) (fun _ => rfl)
    (fun pre W => Boxed3 W (p + 1) (hitT xs (-1) pre) (hitT xs 0 pre) (hitT xs 1 pre) ∧ (Below p w W ∧ KeptBut (p + 1) w3.heap.size w3 W))
    (fun _ _ _ => False)
    (OwnFrom.and (Own.from (boxed3_own _ _ _ _) _) (OwnFrom.and (ownFrom_below (by have := HP.out; omega) (by omega)) (ownFrom_kept _ _ _ _ (Nat.le_refl _) (Nat.le_refl _))))
    (fun _ _ _ _ _ h _ _ => h)
    ⟨bQ, hB3, KeptBut.refl _ _ _⟩
    (fun x a' W => ∃ Bi, w3.heap.size ≤ Bi ∧ W.heap[Bi]? = some (.cells #[Value.int IntKind.i64 (sideAt xs x.val).1.1, Value.int IntKind.i64 (sideAt xs x.val).1.2, Value.int IntKind.i64 (sideAt xs x.val).2.1, Value.int IntKind.i64 (sideAt xs x.val).2.2] 75 (0, 0)) ∧ a' = { tmps := #[Value.slice (some ⟨g, 0, none⟩) xs.length c, Value.bool st, Value.pointer (some ⟨p, 0, none⟩), undef, Value.bool false, Value.pointer (some ⟨p + 1, 0, none⟩), Value.int IntKind.i64 ↑x.val, Value.pointer (some ⟨Bi, 0, none⟩), Value.slice (some ⟨g, 0, none⟩) xs.length c, Value.func (Fn.func 94) #[] #[Value.pointer (some ⟨p + 2, 0, none⟩)], Value.int IntKind.i64 ↑x.val, sdV (sideAt xs x.val), undef, undef, undef, undef, undef, undef, undef, undef, undef, undef, undef, undef, undef, undef, undef, undef, undef, undef, undef, undef, undef, undef, undef, undef, undef, undef, undef, undef, undef], defers := [] })
    (fun x a' _ X Y row hs hg hr => by obtain ⟨Bi, e1, e3, e4⟩ := hs; exact ⟨Bi, e1, block_kept e3 hg (fun r e => (hr r e).2), e4⟩)
    ?assign ?body ?done ?stop
  case assign =>
    rintro l pre x W K ⟨hq, hB, hKb⟩ hK
    have hs3 := hKb.size
    simp only [sideEnc]
    gi_wp2
    exact hK _ _ ((KeepsOthers.alloc _ _).from _) (KeptBut.of_below ((Below.refl _ W).alloc hs3 _)) ⟨alloc_old hq, hB.alloc (by have := hB.size; omega) _, hKb.trans (KeptBut.of_below ((Below.refl _ W).alloc hs3 _))⟩
      ⟨W.heap.size, hs3, block_new W (.cells #[Value.int IntKind.i64 (sideAt xs x.val).1.1, Value.int IntKind.i64 (sideAt xs x.val).1.2, Value.int IntKind.i64 (sideAt xs x.val).2.1, Value.int IntKind.i64 (sideAt xs x.val).2.2] 75), rfl⟩
  case body =>
    rintro l pre x a' W hl ⟨r, hr⟩ ⟨hq, hB, hKb⟩ ⟨Bi, hBi, bS, rfl⟩ hlt
    have hs3 := hKb.size
    obtain ⟨s, hs⟩ : ∃ s, s = sideAt xs x.val := ⟨_, rfl⟩
    have hs1 : inB 50 s.1 := by rw [hs]; exact HPn.out.near _
    have hs2 : inB 50 s.2 := by rw [hs]; exact HPn.out.near _
    obtain ⟨m, hm, hml, hme⟩ := next2_tmod xs.length x.val x.isLt
    obtain ⟨o, ho⟩ : ∃ o, o = xs.getD m (0, 0) := ⟨_, rfl⟩
    have ho1 : inB 50 o := by rw [ho]; exact HPn.out.near _
    have HM := Off.mk hm
    have hx5 : IntKind.i64.wrap ((x.val : Int) + 2) = (x.val : Int) + 2 := by have := x.isLt; rw [IntKind.wrap_i64]; omega
    have hn0 : ¬ xs.length = 0 := by have := x.isLt; omega
    have hm0 : (0 : Int) ≤ (m : Int) := by omega
    have hmI : (m : Int) < (xs.length : Int) := by omega
    obtain ⟨t, ht⟩ : ∃ t, t = turnAt xs x.val := ⟨_, rfl⟩
    have hts : signI (turnP s.1 s.2 o) = t := by rw [ht, hs, ho, hme]; rfl
    have HT := Off.mk ht
    have C1 : Off (∀ W, Calls Try.prog 92 #[ptV s.1, ptV s.2, ptV o] W fun e w' => e = .returned (.int .i64 (turnP s.1 s.2 o)) ∧ Below W.heap.size W w') := ⟨fun W => turn_any s.1 s.2 o (inB_mono hs1 (by decide)) (inB_mono hs2 (by decide)) (inB_mono ho1 (by decide)) W⟩
    have C2 : Off (∀ W, Calls Try.prog 91 #[.int .i64 (turnP s.1 s.2 o)] W fun e w' => e = .returned (.int .i64 t) ∧ w' = W) := ⟨fun W => sign_any _ t hts W⟩
    obtain ⟨tp, htp⟩ : ∃ tp, tp = turnP s.1 s.2 o := ⟨_, rfl⟩
    rw [← htp] at C1 C2 hts
    have htc : t = -1 ∨ t = 0 ∨ t = 1 := by
      rw [← hts]
      unfold signI
      split
      · exact .inr (.inr rfl)
      · split
        · exact .inl rfl
        · exact .inr (.inl rfl)
    rw [← hs] at bS ⊢
    have o0 := (hKb.cell (p := ⟨g, m * 2, none⟩) (by simp only; omega)).trans (HPn.out.cell m hml).1
    have o1 := (hKb.cell (p := ⟨g, m * 2 + 1, none⟩) (by simp only; omega)).trans (HPn.out.cell m hml).2
    have cP := (hKb.cell (p := ⟨p, 0, none⟩) (by simp only; omega)).trans bP.cell
    rw [← ho] at o0 o1
    obtain ⟨b0, hb0⟩ : ∃ b0, b0 = hitT xs (-1) pre := ⟨_, rfl⟩
    obtain ⟨b1, hb1⟩ : ∃ b1, b1 = hitT xs 0 pre := ⟨_, rfl⟩
    obtain ⟨b2, hb2⟩ : ∃ b2, b2 = hitT xs 1 pre := ⟨_, rfl⟩
    rw [← hb0, ← hb1, ← hb2] at hq
    have HQ0 := Off.mk hb0
    have HQ1 := Off.mk hb1
    have HQ2 := Off.mk hb2
    have hqL : p + 1 < W.heap.size := by omega
    clear htp hts hs ho hm hme ht hs1 hs2 ho1 hb0 hb1 hb2
    obtain ⟨⟨s0, s1, s2, s3⟩, _⟩ := four_facts bS
    have hmt := HM.out
    clear HM
    have V0 : IntKind.i64.wrap 0 = 0 := by rw [IntKind.wrap_i64]; omega
    have V1 : IntKind.i64.wrap 1 = 1 := by rw [IntKind.wrap_i64]; omega
    have V2 : IntKind.i64.wrap 2 = 2 := by rw [IntKind.wrap_i64]; omega
    rcases htc with rfl | rfl | rfl
    · gi_wp2
      refine region_anyS' (S := (fun w' => ((w'.cell? ⟨Bi, 0, none⟩ = some (.int .i64 s.1.1) ∧ w'.cell? ⟨Bi, 1, none⟩ = some (.int .i64 s.1.2)) ∧ (w'.cell? ⟨Bi, 2, none⟩ = some (.int .i64 s.2.1) ∧ w'.cell? ⟨Bi, 3, none⟩ = some (.int .i64 s.2.2))) ∧ w'.cell? ⟨p, 0, none⟩ = some (.slice (some ⟨g, 0, none⟩) xs.length c) ∧ (w'.cell? ⟨g, m * 2, none⟩ = some (.int .i64 o.1) ∧ w'.cell? ⟨g, m * 2 + 1, none⟩ = some (.int .i64 o.2)))) 16 (by kernel_rfl) ⟨⟨⟨s0, s1⟩, s2, s3⟩, cP, o0, o1⟩ (fun hInv hHeld => ?_)
      refine anyS_take (i := 0) (oi := ⟨some 12, _, _, _, _, _⟩) (v := ?_) (by kernel_rfl) rfl (by kernel_rfl) (by kernel_rfl) (by kernel_rfl) (by kernel_rfl) (fun _ _ _ h => h) (Or.inl ⟨by rfl, by intro w hSw; (try dsimp only at hSw); go_simp; try with_reducible rfl⟩) (fun _ => by first | rfl | simp [Oper.about, resolve, go_sem]) hInv hHeld (fun hInv hHeld => ?_)
      try simp only [Act.put, List.setIfInBounds_toArray, List.set_cons_zero, List.set_cons_succ]
      refine anyS_take (i := 1) (oi := ⟨some 13, _, _, _, _, _⟩) (v := ?_) (by kernel_rfl) rfl (by kernel_rfl) (by kernel_rfl) (by kernel_rfl) (by kernel_rfl) (fun _ _ _ h => h) (Or.inl ⟨by rfl, by intro w hSw; (try dsimp only at hSw); go_simp; try with_reducible rfl⟩) (fun _ => by first | rfl | simp [Oper.about, resolve, go_sem]) hInv hHeld (fun hInv hHeld => ?_)
      try simp only [Act.put, List.setIfInBounds_toArray, List.set_cons_zero, List.set_cons_succ]
      refine anyS_take (i := 2) (oi := ⟨some 14, _, _, _, _, _⟩) (v := ?_) (by kernel_rfl) rfl (by kernel_rfl) (by kernel_rfl) (by kernel_rfl) (by kernel_rfl) (fun _ _ _ h => h) (Or.inl ⟨by rfl, by intro w hSw; (try dsimp only at hSw); go_simp; try with_reducible rfl⟩) (fun _ => by first | rfl | simp [Oper.about, resolve, go_sem]) hInv hHeld (fun hInv hHeld => ?_)
      try simp only [Act.put, List.setIfInBounds_toArray, List.set_cons_zero, List.set_cons_succ]
      refine anyS_take (i := 3) (oi := ⟨some 15, _, _, _, _, _⟩) (v := ?_) (by kernel_rfl) rfl (by kernel_rfl) (by kernel_rfl) (by kernel_rfl) (by kernel_rfl) (fun _ _ _ h => h) (Or.inl ⟨by rfl, by intro w hSw; (try dsimp only at hSw); go_simp; try with_reducible rfl⟩) (fun _ => by first | rfl | simp [Oper.about, resolve, go_sem]) hInv hHeld (fun hInv hHeld => ?_)
      try simp only [Act.put, List.setIfInBounds_toArray, List.set_cons_zero, List.set_cons_succ]
      refine anyS_take (i := 4) (oi := ⟨some 16, _, _, _, _, _⟩) (v := ?_) (by kernel_rfl) rfl (by kernel_rfl) (by kernel_rfl) (by kernel_rfl) (by kernel_rfl) (fun _ _ _ h => h) (Or.inl ⟨by rfl, by intro w hSw; (try dsimp only at hSw); go_simp; try with_reducible rfl⟩) (fun _ => by first | rfl | simp [Oper.about, resolve, go_sem]) hInv hHeld (fun hInv hHeld => ?_)
      try simp only [Act.put, List.setIfInBounds_toArray, List.set_cons_zero, List.set_cons_succ]
      refine anyS_take (i := 5) (oi := ⟨some 17, _, _, _, _, _⟩) (v := ?_) (by kernel_rfl) rfl (by kernel_rfl) (by kernel_rfl) (by kernel_rfl) (by kernel_rfl) (fun _ _ _ h => h) (Or.inl ⟨by rfl, by intro w hSw; (try dsimp only at hSw); go_simp; try with_reducible rfl⟩) (fun _ => by first | rfl | simp [Oper.about, resolve, go_sem]) hInv hHeld (fun hInv hHeld => ?_)
      try simp only [Act.put, List.setIfInBounds_toArray, List.set_cons_zero, List.set_cons_succ]
      refine anyS_take (i := 6) (oi := ⟨some 18, _, _, _, _, _⟩) (v := ?_) (by kernel_rfl) rfl (by kernel_rfl) (by kernel_rfl) (by kernel_rfl) (by kernel_rfl) (fun _ _ _ h => h) (Or.inl ⟨by rfl, by intro w hSw; (try dsimp only at hSw); go_simp; try with_reducible rfl⟩) (fun _ => by first | rfl | simp [Oper.about, resolve, go_sem]) hInv hHeld (fun hInv hHeld => ?_)
      try simp only [Act.put, List.setIfInBounds_toArray, List.set_cons_zero, List.set_cons_succ]
      refine anyS_take (i := 7) (oi := ⟨some 19, _, _, _, _, _⟩) (v := ?_) (by kernel_rfl) rfl (by kernel_rfl) (by kernel_rfl) (by kernel_rfl) (by kernel_rfl) (fun _ _ _ h => h) (Or.inl ⟨by rfl, by intro w hSw; (try dsimp only at hSw); go_simp; try with_reducible rfl⟩) (fun _ => by first | rfl | simp [Oper.about, resolve, go_sem]) hInv hHeld (fun hInv hHeld => ?_)
      try simp only [Act.put, List.setIfInBounds_toArray, List.set_cons_zero, List.set_cons_succ]
      refine anyS_take (i := 8) (oi := ⟨some 20, _, _, _, _, _⟩) (v := ?_) (by kernel_rfl) rfl (by kernel_rfl) (by kernel_rfl) (by kernel_rfl) (by kernel_rfl) (fun _ _ _ h => h) (Or.inl ⟨by rfl, by intro w hSw; (try dsimp only at hSw); go_simp; try with_reducible rfl⟩) (fun _ => by first | rfl | simp [Oper.about, resolve, go_sem]) hInv hHeld (fun hInv hHeld => ?_)
      try simp only [Act.put, List.setIfInBounds_toArray, List.set_cons_zero, List.set_cons_succ]
      refine anyS_take (i := 9) (oi := ⟨some 21, _, _, _, _, _⟩) (v := ?_) (by kernel_rfl) rfl (by kernel_rfl) (by kernel_rfl) (by kernel_rfl) (by kernel_rfl) (fun _ _ _ h => h) (Or.inl ⟨by rfl, by intro w hSw; (try dsimp only at hSw); go_simp; try with_reducible rfl⟩) (fun _ => by first | rfl | simp [Oper.about, resolve, go_sem]) hInv hHeld (fun hInv hHeld => ?_)
      try simp only [Act.put, List.setIfInBounds_toArray, List.set_cons_zero, List.set_cons_succ]
      refine anyS_take (i := 10) (oi := ⟨some 22, _, _, _, _, _⟩) (v := ?_) (by kernel_rfl) rfl (by kernel_rfl) (by kernel_rfl) (by kernel_rfl) (by kernel_rfl) (fun _ _ _ h => h) (Or.inl ⟨by rfl, by intro w hSw; (try dsimp only at hSw); go_simp; try with_reducible rfl⟩) (fun _ => by first | rfl | simp [Oper.about, resolve, go_sem]) hInv hHeld (fun hInv hHeld => ?_)
      try simp only [Act.put, List.setIfInBounds_toArray, List.set_cons_zero, List.set_cons_succ]
      refine anyS_take (i := 11) (oi := ⟨some 23, _, _, _, _, _⟩) (v := ?_) (by kernel_rfl) rfl (by kernel_rfl) (by kernel_rfl) (by kernel_rfl) (by kernel_rfl) (fun _ _ _ h => h) (Or.inl ⟨by rfl, by intro w hSw; (try dsimp only at hSw); go_simp; try with_reducible rfl⟩) (fun _ => by first | rfl | simp [Oper.about, resolve, go_sem]) hInv hHeld (fun hInv hHeld => ?_)
      try simp only [Act.put, List.setIfInBounds_toArray, List.set_cons_zero, List.set_cons_succ]
      refine anyS_one (i := 12) (o := ⟨some 24, _, _, _, _, _⟩) (by kernel_rfl) rfl hInv (fun K hK => ?_)
      go_simp
      refine ⟨trivial, ?_⟩
      refine (CallsIn.inRound l (callsIn_wide.2 (C1.out _))).mono ?_
      rintro e W2 ⟨rfl, hb2⟩
      have hb2 : Below W.heap.size W W2 := ⟨hb2.os, hb2.tape, hb2.output, hb2.size, hb2.block⟩
      refine hK.out _ _ (fun _ => ⟨⟨⟨cellB hb2 s0, cellB hb2 s1⟩, cellB hb2 s2, cellB hb2 s3⟩, cellB hb2 cP, cellB hb2 o0, cellB hb2 o1⟩) (fun hInv hHeld => ?_)
      clear hK K
      try simp only [Act.put, List.setIfInBounds_toArray, List.set_cons_zero, List.set_cons_succ]
      refine anyS_one (i := 13) (o := ⟨some 25, _, _, _, _, _⟩) (by kernel_rfl) rfl hInv (fun K hK => ?_)
      go_simp
      refine ⟨trivial, ?_⟩
      refine (CallsIn.inRound l (callsIn_wide.2 (C2.out _))).mono ?_
      rintro e W3 ⟨rfl, hb3⟩
      refine hK.out _ _ (by rw [hb3]; exact (fun _ => ⟨⟨⟨cellB hb2 s0, cellB hb2 s1⟩, cellB hb2 s2, cellB hb2 s3⟩, cellB hb2 cP, cellB hb2 o0, cellB hb2 o1⟩)) (fun hInv hHeld => ?_)
      clear hK K
      try simp only [Act.put, List.setIfInBounds_toArray, List.set_cons_zero, List.set_cons_succ]
      subst hb3
      refine anyS_take (i := 14) (oi := ⟨some 26, _, _, _, _, _⟩) (v := ?_) (by kernel_rfl) rfl (by kernel_rfl) (by kernel_rfl) (by kernel_rfl) (by kernel_rfl) (fun _ _ _ h => h) (Or.inl ⟨by rfl, by intro w hSw; (try dsimp only at hSw); go_simp; try with_reducible rfl⟩) (fun _ => by first | rfl | simp [Oper.about, resolve, go_sem]) hInv hHeld (fun hInv hHeld => ?_)
      try simp only [Act.put, List.setIfInBounds_toArray, List.set_cons_zero, List.set_cons_succ]
      refine anyS_take (i := 15) (oi := ⟨some 27, _, _, _, _, _⟩) (v := ?_) (by kernel_rfl) rfl (by kernel_rfl) (by kernel_rfl) (by kernel_rfl) (by kernel_rfl) (fun _ _ _ h => h) (Or.inl ⟨by rfl, by intro w hSw; (try dsimp only at hSw); go_simp; try with_reducible rfl⟩) (fun _ => by first | rfl | simp [Oper.about, resolve, go_sem]) hInv hHeld (fun hInv hHeld => ?_)
      try simp only [Act.put, List.setIfInBounds_toArray, List.set_cons_zero, List.set_cons_succ]
      have hq2 : Boxed3 W3 (p + 1) b0 b1 b2 := (hb2.block (p + 1) hqL).trans hq
      obtain ⟨⟨u0, u1, u2⟩, f0, f1, f2⟩ := hq2.facts
      refine anyS_one (i := 16) (o := ⟨none, _, _, _, _, _⟩) (by kernel_rfl) rfl hInv (fun K hK => ?_)
      go_simp
      refine hK.out _ _ (fun e => absurd (show true = false from e) (by decide)) (fun hInv hHeld => ?_)
      clear hK K
      try simp only [Act.put, List.setIfInBounds_toArray, List.set_cons_zero, List.set_cons_succ]
      refine anyS_done (by kernel_rfl) ?_ _
      gi_wp2
      have hq3 := hq2.set0
      have hBw2 : Below p w W3 := hB.trans (hb2.mono (by have := hB.size; omega))
      refine ⟨((keepsFrom_below hb2).trans ((KeepsOthers.setCell _ _ _).from _)), (KeptBut.of_below (hb2.mono hs3)).trans (KeptBut.of_setAt _ _ _), ?_, hBw2.setCell (p := ⟨p + 1, 0, none⟩) (Nat.le_succ p) _, ?_⟩
      rotate_left
      · exact (hKb.trans (KeptBut.of_below (hb2.mono hs3))).trans (KeptBut.of_setAt _ _ _)
      -- [World.size_setCell]; exact Nat.le_trans hs3 hb2.size⟩
      rw [hitT_more, hitT_more, hitT_more, ← HQ0.out, ← HQ1.out, ← HQ2.out, ← HT.out]
      exact (show Boxed3 _ _ (b0 || true) (b1 || false) (b2 || false) by simpa using hq3)
    · gi_wp2
      refine region_anyS' (S := (fun w' => ((w'.cell? ⟨Bi, 0, none⟩ = some (.int .i64 s.1.1) ∧ w'.cell? ⟨Bi, 1, none⟩ = some (.int .i64 s.1.2)) ∧ (w'.cell? ⟨Bi, 2, none⟩ = some (.int .i64 s.2.1) ∧ w'.cell? ⟨Bi, 3, none⟩ = some (.int .i64 s.2.2))) ∧ w'.cell? ⟨p, 0, none⟩ = some (.slice (some ⟨g, 0, none⟩) xs.length c) ∧ (w'.cell? ⟨g, m * 2, none⟩ = some (.int .i64 o.1) ∧ w'.cell? ⟨g, m * 2 + 1, none⟩ = some (.int .i64 o.2)))) 16 (by kernel_rfl) ⟨⟨⟨s0, s1⟩, s2, s3⟩, cP, o0, o1⟩ (fun hInv hHeld => ?_)
      refine anyS_take (i := 0) (oi := ⟨some 12, _, _, _, _, _⟩) (v := ?_) (by kernel_rfl) rfl (by kernel_rfl) (by kernel_rfl) (by kernel_rfl) (by kernel_rfl) (fun _ _ _ h => h) (Or.inl ⟨by rfl, by intro w hSw; (try dsimp only at hSw); go_simp; try with_reducible rfl⟩) (fun _ => by first | rfl | simp [Oper.about, resolve, go_sem]) hInv hHeld (fun hInv hHeld => ?_)
      try simp only [Act.put, List.setIfInBounds_toArray, List.set_cons_zero, List.set_cons_succ]
      refine anyS_take (i := 1) (oi := ⟨some 13, _, _, _, _, _⟩) (v := ?_) (by kernel_rfl) rfl (by kernel_rfl) (by kernel_rfl) (by kernel_rfl) (by kernel_rfl) (fun _ _ _ h => h) (Or.inl ⟨by rfl, by intro w hSw; (try dsimp only at hSw); go_simp; try with_reducible rfl⟩) (fun _ => by first | rfl | simp [Oper.about, resolve, go_sem]) hInv hHeld (fun hInv hHeld => ?_)
      try simp only [Act.put, List.setIfInBounds_toArray, List.set_cons_zero, List.set_cons_succ]
      refine anyS_take (i := 2) (oi := ⟨some 14, _, _, _, _, _⟩) (v := ?_) (by kernel_rfl) rfl (by kernel_rfl) (by kernel_rfl) (by kernel_rfl) (by kernel_rfl) (fun _ _ _ h => h) (Or.inl ⟨by rfl, by intro w hSw; (try dsimp only at hSw); go_simp; try with_reducible rfl⟩) (fun _ => by first | rfl | simp [Oper.about, resolve, go_sem]) hInv hHeld (fun hInv hHeld => ?_)
      try simp only [Act.put, List.setIfInBounds_toArray, List.set_cons_zero, List.set_cons_succ]
      refine anyS_take (i := 3) (oi := ⟨some 15, _, _, _, _, _⟩) (v := ?_) (by kernel_rfl) rfl (by kernel_rfl) (by kernel_rfl) (by kernel_rfl) (by kernel_rfl) (fun _ _ _ h => h) (Or.inl ⟨by rfl, by intro w hSw; (try dsimp only at hSw); go_simp; try with_reducible rfl⟩) (fun _ => by first | rfl | simp [Oper.about, resolve, go_sem]) hInv hHeld (fun hInv hHeld => ?_)
      try simp only [Act.put, List.setIfInBounds_toArray, List.set_cons_zero, List.set_cons_succ]
      refine anyS_take (i := 4) (oi := ⟨some 16, _, _, _, _, _⟩) (v := ?_) (by kernel_rfl) rfl (by kernel_rfl) (by kernel_rfl) (by kernel_rfl) (by kernel_rfl) (fun _ _ _ h => h) (Or.inl ⟨by rfl, by intro w hSw; (try dsimp only at hSw); go_simp; try with_reducible rfl⟩) (fun _ => by first | rfl | simp [Oper.about, resolve, go_sem]) hInv hHeld (fun hInv hHeld => ?_)
      try simp only [Act.put, List.setIfInBounds_toArray, List.set_cons_zero, List.set_cons_succ]
      refine anyS_take (i := 5) (oi := ⟨some 17, _, _, _, _, _⟩) (v := ?_) (by kernel_rfl) rfl (by kernel_rfl) (by kernel_rfl) (by kernel_rfl) (by kernel_rfl) (fun _ _ _ h => h) (Or.inl ⟨by rfl, by intro w hSw; (try dsimp only at hSw); go_simp; try with_reducible rfl⟩) (fun _ => by first | rfl | simp [Oper.about, resolve, go_sem]) hInv hHeld (fun hInv hHeld => ?_)
      try simp only [Act.put, List.setIfInBounds_toArray, List.set_cons_zero, List.set_cons_succ]
      refine anyS_take (i := 6) (oi := ⟨some 18, _, _, _, _, _⟩) (v := ?_) (by kernel_rfl) rfl (by kernel_rfl) (by kernel_rfl) (by kernel_rfl) (by kernel_rfl) (fun _ _ _ h => h) (Or.inl ⟨by rfl, by intro w hSw; (try dsimp only at hSw); go_simp; try with_reducible rfl⟩) (fun _ => by first | rfl | simp [Oper.about, resolve, go_sem]) hInv hHeld (fun hInv hHeld => ?_)
      try simp only [Act.put, List.setIfInBounds_toArray, List.set_cons_zero, List.set_cons_succ]
      refine anyS_take (i := 7) (oi := ⟨some 19, _, _, _, _, _⟩) (v := ?_) (by kernel_rfl) rfl (by kernel_rfl) (by kernel_rfl) (by kernel_rfl) (by kernel_rfl) (fun _ _ _ h => h) (Or.inl ⟨by rfl, by intro w hSw; (try dsimp only at hSw); go_simp; try with_reducible rfl⟩) (fun _ => by first | rfl | simp [Oper.about, resolve, go_sem]) hInv hHeld (fun hInv hHeld => ?_)
      try simp only [Act.put, List.setIfInBounds_toArray, List.set_cons_zero, List.set_cons_succ]
      refine anyS_take (i := 8) (oi := ⟨some 20, _, _, _, _, _⟩) (v := ?_) (by kernel_rfl) rfl (by kernel_rfl) (by kernel_rfl) (by kernel_rfl) (by kernel_rfl) (fun _ _ _ h => h) (Or.inl ⟨by rfl, by intro w hSw; (try dsimp only at hSw); go_simp; try with_reducible rfl⟩) (fun _ => by first | rfl | simp [Oper.about, resolve, go_sem]) hInv hHeld (fun hInv hHeld => ?_)
      try simp only [Act.put, List.setIfInBounds_toArray, List.set_cons_zero, List.set_cons_succ]
      refine anyS_take (i := 9) (oi := ⟨some 21, _, _, _, _, _⟩) (v := ?_) (by kernel_rfl) rfl (by kernel_rfl) (by kernel_rfl) (by kernel_rfl) (by kernel_rfl) (fun _ _ _ h => h) (Or.inl ⟨by rfl, by intro w hSw; (try dsimp only at hSw); go_simp; try with_reducible rfl⟩) (fun _ => by first | rfl | simp [Oper.about, resolve, go_sem]) hInv hHeld (fun hInv hHeld => ?_)
      try simp only [Act.put, List.setIfInBounds_toArray, List.set_cons_zero, List.set_cons_succ]
      refine anyS_take (i := 10) (oi := ⟨some 22, _, _, _, _, _⟩) (v := ?_) (by kernel_rfl) rfl (by kernel_rfl) (by kernel_rfl) (by kernel_rfl) (by kernel_rfl) (fun _ _ _ h => h) (Or.inl ⟨by rfl, by intro w hSw; (try dsimp only at hSw); go_simp; try with_reducible rfl⟩) (fun _ => by first | rfl | simp [Oper.about, resolve, go_sem]) hInv hHeld (fun hInv hHeld => ?_)
      try simp only [Act.put, List.setIfInBounds_toArray, List.set_cons_zero, List.set_cons_succ]
      refine anyS_take (i := 11) (oi := ⟨some 23, _, _, _, _, _⟩) (v := ?_) (by kernel_rfl) rfl (by kernel_rfl) (by kernel_rfl) (by kernel_rfl) (by kernel_rfl) (fun _ _ _ h => h) (Or.inl ⟨by rfl, by intro w hSw; (try dsimp only at hSw); go_simp; try with_reducible rfl⟩) (fun _ => by first | rfl | simp [Oper.about, resolve, go_sem]) hInv hHeld (fun hInv hHeld => ?_)
      try simp only [Act.put, List.setIfInBounds_toArray, List.set_cons_zero, List.set_cons_succ]
      refine anyS_one (i := 12) (o := ⟨some 24, _, _, _, _, _⟩) (by kernel_rfl) rfl hInv (fun K hK => ?_)
      go_simp
      refine ⟨trivial, ?_⟩
      refine (CallsIn.inRound l (callsIn_wide.2 (C1.out _))).mono ?_
      rintro e W2 ⟨rfl, hb2⟩
      have hb2 : Below W.heap.size W W2 := ⟨hb2.os, hb2.tape, hb2.output, hb2.size, hb2.block⟩
      refine hK.out _ _ (fun _ => ⟨⟨⟨cellB hb2 s0, cellB hb2 s1⟩, cellB hb2 s2, cellB hb2 s3⟩, cellB hb2 cP, cellB hb2 o0, cellB hb2 o1⟩) (fun hInv hHeld => ?_)
      clear hK K
      try simp only [Act.put, List.setIfInBounds_toArray, List.set_cons_zero, List.set_cons_succ]
      refine anyS_one (i := 13) (o := ⟨some 25, _, _, _, _, _⟩) (by kernel_rfl) rfl hInv (fun K hK => ?_)
      go_simp
      refine ⟨trivial, ?_⟩
      refine (CallsIn.inRound l (callsIn_wide.2 (C2.out _))).mono ?_
      rintro e W3 ⟨rfl, hb3⟩
      refine hK.out _ _ (by rw [hb3]; exact (fun _ => ⟨⟨⟨cellB hb2 s0, cellB hb2 s1⟩, cellB hb2 s2, cellB hb2 s3⟩, cellB hb2 cP, cellB hb2 o0, cellB hb2 o1⟩)) (fun hInv hHeld => ?_)
      clear hK K
      try simp only [Act.put, List.setIfInBounds_toArray, List.set_cons_zero, List.set_cons_succ]
      subst hb3
      refine anyS_take (i := 14) (oi := ⟨some 26, _, _, _, _, _⟩) (v := ?_) (by kernel_rfl) rfl (by kernel_rfl) (by kernel_rfl) (by kernel_rfl) (by kernel_rfl) (fun _ _ _ h => h) (Or.inl ⟨by rfl, by intro w hSw; (try dsimp only at hSw); go_simp; try with_reducible rfl⟩) (fun _ => by first | rfl | simp [Oper.about, resolve, go_sem]) hInv hHeld (fun hInv hHeld => ?_)
      try simp only [Act.put, List.setIfInBounds_toArray, List.set_cons_zero, List.set_cons_succ]
      refine anyS_take (i := 15) (oi := ⟨some 27, _, _, _, _, _⟩) (v := ?_) (by kernel_rfl) rfl (by kernel_rfl) (by kernel_rfl) (by kernel_rfl) (by kernel_rfl) (fun _ _ _ h => h) (Or.inl ⟨by rfl, by intro w hSw; (try dsimp only at hSw); go_simp; try with_reducible rfl⟩) (fun _ => by first | rfl | simp [Oper.about, resolve, go_sem]) hInv hHeld (fun hInv hHeld => ?_)
      try simp only [Act.put, List.setIfInBounds_toArray, List.set_cons_zero, List.set_cons_succ]
      have hq2 : Boxed3 W3 (p + 1) b0 b1 b2 := (hb2.block (p + 1) hqL).trans hq
      obtain ⟨⟨u0, u1, u2⟩, f0, f1, f2⟩ := hq2.facts
      refine anyS_one (i := 16) (o := ⟨none, _, _, _, _, _⟩) (by kernel_rfl) rfl hInv (fun K hK => ?_)
      go_simp
      refine hK.out _ _ (fun e => absurd (show true = false from e) (by decide)) (fun hInv hHeld => ?_)
      clear hK K
      try simp only [Act.put, List.setIfInBounds_toArray, List.set_cons_zero, List.set_cons_succ]
      refine anyS_done (by kernel_rfl) ?_ _
      gi_wp2
      have hq3 := hq2.set1
      have hBw2 : Below p w W3 := hB.trans (hb2.mono (by have := hB.size; omega))
      refine ⟨((keepsFrom_below hb2).trans ((KeepsOthers.setCell _ _ _).from _)), (KeptBut.of_below (hb2.mono hs3)).trans (KeptBut.of_setAt _ _ _), ?_, hBw2.setCell (p := ⟨p + 1, 1, none⟩) (Nat.le_succ p) _, ?_⟩
      rotate_left
      · exact (hKb.trans (KeptBut.of_below (hb2.mono hs3))).trans (KeptBut.of_setAt _ _ _)
      -- [World.size_setCell]; exact Nat.le_trans hs3 hb2.size⟩
      rw [hitT_more, hitT_more, hitT_more, ← HQ0.out, ← HQ1.out, ← HQ2.out, ← HT.out]
      exact (show Boxed3 _ _ (b0 || false) (b1 || true) (b2 || false) by simpa using hq3)
    · gi_wp2
      refine region_anyS' (S := (fun w' => ((w'.cell? ⟨Bi, 0, none⟩ = some (.int .i64 s.1.1) ∧ w'.cell? ⟨Bi, 1, none⟩ = some (.int .i64 s.1.2)) ∧ (w'.cell? ⟨Bi, 2, none⟩ = some (.int .i64 s.2.1) ∧ w'.cell? ⟨Bi, 3, none⟩ = some (.int .i64 s.2.2))) ∧ w'.cell? ⟨p, 0, none⟩ = some (.slice (some ⟨g, 0, none⟩) xs.length c) ∧ (w'.cell? ⟨g, m * 2, none⟩ = some (.int .i64 o.1) ∧ w'.cell? ⟨g, m * 2 + 1, none⟩ = some (.int .i64 o.2)))) 16 (by kernel_rfl) ⟨⟨⟨s0, s1⟩, s2, s3⟩, cP, o0, o1⟩ (fun hInv hHeld => ?_)
      refine anyS_take (i := 0) (oi := ⟨some 12, _, _, _, _, _⟩) (v := ?_) (by kernel_rfl) rfl (by kernel_rfl) (by kernel_rfl) (by kernel_rfl) (by kernel_rfl) (fun _ _ _ h => h) (Or.inl ⟨by rfl, by intro w hSw; (try dsimp only at hSw); go_simp; try with_reducible rfl⟩) (fun _ => by first | rfl | simp [Oper.about, resolve, go_sem]) hInv hHeld (fun hInv hHeld => ?_)
      try simp only [Act.put, List.setIfInBounds_toArray, List.set_cons_zero, List.set_cons_succ]
      refine anyS_take (i := 1) (oi := ⟨some 13, _, _, _, _, _⟩) (v := ?_) (by kernel_rfl) rfl (by kernel_rfl) (by kernel_rfl) (by kernel_rfl) (by kernel_rfl) (fun _ _ _ h => h) (Or.inl ⟨by rfl, by intro w hSw; (try dsimp only at hSw); go_simp; try with_reducible rfl⟩) (fun _ => by first | rfl | simp [Oper.about, resolve, go_sem]) hInv hHeld (fun hInv hHeld => ?_)
      try simp only [Act.put, List.setIfInBounds_toArray, List.set_cons_zero, List.set_cons_succ]
      refine anyS_take (i := 2) (oi := ⟨some 14, _, _, _, _, _⟩) (v := ?_) (by kernel_rfl) rfl (by kernel_rfl) (by kernel_rfl) (by kernel_rfl) (by kernel_rfl) (fun _ _ _ h => h) (Or.inl ⟨by rfl, by intro w hSw; (try dsimp only at hSw); go_simp; try with_reducible rfl⟩) (fun _ => by first | rfl | simp [Oper.about, resolve, go_sem]) hInv hHeld (fun hInv hHeld => ?_)
      try simp only [Act.put, List.setIfInBounds_toArray, List.set_cons_zero, List.set_cons_succ]
      refine anyS_take (i := 3) (oi := ⟨some 15, _, _, _, _, _⟩) (v := ?_) (by kernel_rfl) rfl (by kernel_rfl) (by kernel_rfl) (by kernel_rfl) (by kernel_rfl) (fun _ _ _ h => h) (Or.inl ⟨by rfl, by intro w hSw; (try dsimp only at hSw); go_simp; try with_reducible rfl⟩) (fun _ => by first | rfl | simp [Oper.about, resolve, go_sem]) hInv hHeld (fun hInv hHeld => ?_)
      try simp only [Act.put, List.setIfInBounds_toArray, List.set_cons_zero, List.set_cons_succ]
      refine anyS_take (i := 4) (oi := ⟨some 16, _, _, _, _, _⟩) (v := ?_) (by kernel_rfl) rfl (by kernel_rfl) (by kernel_rfl) (by kernel_rfl) (by kernel_rfl) (fun _ _ _ h => h) (Or.inl ⟨by rfl, by intro w hSw; (try dsimp only at hSw); go_simp; try with_reducible rfl⟩) (fun _ => by first | rfl | simp [Oper.about, resolve, go_sem]) hInv hHeld (fun hInv hHeld => ?_)
      try simp only [Act.put, List.setIfInBounds_toArray, List.set_cons_zero, List.set_cons_succ]
      refine anyS_take (i := 5) (oi := ⟨some 17, _, _, _, _, _⟩) (v := ?_) (by kernel_rfl) rfl (by kernel_rfl) (by kernel_rfl) (by kernel_rfl) (by kernel_rfl) (fun _ _ _ h => h) (Or.inl ⟨by rfl, by intro w hSw; (try dsimp only at hSw); go_simp; try with_reducible rfl⟩) (fun _ => by first | rfl | simp [Oper.about, resolve, go_sem]) hInv hHeld (fun hInv hHeld => ?_)
      try simp only [Act.put, List.setIfInBounds_toArray, List.set_cons_zero, List.set_cons_succ]
      refine anyS_take (i := 6) (oi := ⟨some 18, _, _, _, _, _⟩) (v := ?_) (by kernel_rfl) rfl (by kernel_rfl) (by kernel_rfl) (by kernel_rfl) (by kernel_rfl) (fun _ _ _ h => h) (Or.inl ⟨by rfl, by intro w hSw; (try dsimp only at hSw); go_simp; try with_reducible rfl⟩) (fun _ => by first | rfl | simp [Oper.about, resolve, go_sem]) hInv hHeld (fun hInv hHeld => ?_)
      try simp only [Act.put, List.setIfInBounds_toArray, List.set_cons_zero, List.set_cons_succ]
      refine anyS_take (i := 7) (oi := ⟨some 19, _, _, _, _, _⟩) (v := ?_) (by kernel_rfl) rfl (by kernel_rfl) (by kernel_rfl) (by kernel_rfl) (by kernel_rfl) (fun _ _ _ h => h) (Or.inl ⟨by rfl, by intro w hSw; (try dsimp only at hSw); go_simp; try with_reducible rfl⟩) (fun _ => by first | rfl | simp [Oper.about, resolve, go_sem]) hInv hHeld (fun hInv hHeld => ?_)
      try simp only [Act.put, List.setIfInBounds_toArray, List.set_cons_zero, List.set_cons_succ]
      refine anyS_take (i := 8) (oi := ⟨some 20, _, _, _, _, _⟩) (v := ?_) (by kernel_rfl) rfl (by kernel_rfl) (by kernel_rfl) (by kernel_rfl) (by kernel_rfl) (fun _ _ _ h => h) (Or.inl ⟨by rfl, by intro w hSw; (try dsimp only at hSw); go_simp; try with_reducible rfl⟩) (fun _ => by first | rfl | simp [Oper.about, resolve, go_sem]) hInv hHeld (fun hInv hHeld => ?_)
      try simp only [Act.put, List.setIfInBounds_toArray, List.set_cons_zero, List.set_cons_succ]
      refine anyS_take (i := 9) (oi := ⟨some 21, _, _, _, _, _⟩) (v := ?_) (by kernel_rfl) rfl (by kernel_rfl) (by kernel_rfl) (by kernel_rfl) (by kernel_rfl) (fun _ _ _ h => h) (Or.inl ⟨by rfl, by intro w hSw; (try dsimp only at hSw); go_simp; try with_reducible rfl⟩) (fun _ => by first | rfl | simp [Oper.about, resolve, go_sem]) hInv hHeld (fun hInv hHeld => ?_)
      try simp only [Act.put, List.setIfInBounds_toArray, List.set_cons_zero, List.set_cons_succ]
      refine anyS_take (i := 10) (oi := ⟨some 22, _, _, _, _, _⟩) (v := ?_) (by kernel_rfl) rfl (by kernel_rfl) (by kernel_rfl) (by kernel_rfl) (by kernel_rfl) (fun _ _ _ h => h) (Or.inl ⟨by rfl, by intro w hSw; (try dsimp only at hSw); go_simp; try with_reducible rfl⟩) (fun _ => by first | rfl | simp [Oper.about, resolve, go_sem]) hInv hHeld (fun hInv hHeld => ?_)
      try simp only [Act.put, List.setIfInBounds_toArray, List.set_cons_zero, List.set_cons_succ]
      refine anyS_take (i := 11) (oi := ⟨some 23, _, _, _, _, _⟩) (v := ?_) (by kernel_rfl) rfl (by kernel_rfl) (by kernel_rfl) (by kernel_rfl) (by kernel_rfl) (fun _ _ _ h => h) (Or.inl ⟨by rfl, by intro w hSw; (try dsimp only at hSw); go_simp; try with_reducible rfl⟩) (fun _ => by first | rfl | simp [Oper.about, resolve, go_sem]) hInv hHeld (fun hInv hHeld => ?_)
      try simp only [Act.put, List.setIfInBounds_toArray, List.set_cons_zero, List.set_cons_succ]
      refine anyS_one (i := 12) (o := ⟨some 24, _, _, _, _, _⟩) (by kernel_rfl) rfl hInv (fun K hK => ?_)
      go_simp
      refine ⟨trivial, ?_⟩
      refine (CallsIn.inRound l (callsIn_wide.2 (C1.out _))).mono ?_
      rintro e W2 ⟨rfl, hb2⟩
      have hb2 : Below W.heap.size W W2 := ⟨hb2.os, hb2.tape, hb2.output, hb2.size, hb2.block⟩
      refine hK.out _ _ (fun _ => ⟨⟨⟨cellB hb2 s0, cellB hb2 s1⟩, cellB hb2 s2, cellB hb2 s3⟩, cellB hb2 cP, cellB hb2 o0, cellB hb2 o1⟩) (fun hInv hHeld => ?_)
      clear hK K
      try simp only [Act.put, List.setIfInBounds_toArray, List.set_cons_zero, List.set_cons_succ]
      refine anyS_one (i := 13) (o := ⟨some 25, _, _, _, _, _⟩) (by kernel_rfl) rfl hInv (fun K hK => ?_)
      go_simp
      refine ⟨trivial, ?_⟩
      refine (CallsIn.inRound l (callsIn_wide.2 (C2.out _))).mono ?_
      rintro e W3 ⟨rfl, hb3⟩
      refine hK.out _ _ (by rw [hb3]; exact (fun _ => ⟨⟨⟨cellB hb2 s0, cellB hb2 s1⟩, cellB hb2 s2, cellB hb2 s3⟩, cellB hb2 cP, cellB hb2 o0, cellB hb2 o1⟩)) (fun hInv hHeld => ?_)
      clear hK K
      try simp only [Act.put, List.setIfInBounds_toArray, List.set_cons_zero, List.set_cons_succ]
      subst hb3
      refine anyS_take (i := 14) (oi := ⟨some 26, _, _, _, _, _⟩) (v := ?_) (by kernel_rfl) rfl (by kernel_rfl) (by kernel_rfl) (by kernel_rfl) (by kernel_rfl) (fun _ _ _ h => h) (Or.inl ⟨by rfl, by intro w hSw; (try dsimp only at hSw); go_simp; try with_reducible rfl⟩) (fun _ => by first | rfl | simp [Oper.about, resolve, go_sem]) hInv hHeld (fun hInv hHeld => ?_)
      try simp only [Act.put, List.setIfInBounds_toArray, List.set_cons_zero, List.set_cons_succ]
      refine anyS_take (i := 15) (oi := ⟨some 27, _, _, _, _, _⟩) (v := ?_) (by kernel_rfl) rfl (by kernel_rfl) (by kernel_rfl) (by kernel_rfl) (by kernel_rfl) (fun _ _ _ h => h) (Or.inl ⟨by rfl, by intro w hSw; (try dsimp only at hSw); go_simp; try with_reducible rfl⟩) (fun _ => by first | rfl | simp [Oper.about, resolve, go_sem]) hInv hHeld (fun hInv hHeld => ?_)
      try simp only [Act.put, List.setIfInBounds_toArray, List.set_cons_zero, List.set_cons_succ]
      have hq2 : Boxed3 W3 (p + 1) b0 b1 b2 := (hb2.block (p + 1) hqL).trans hq
      obtain ⟨⟨u0, u1, u2⟩, f0, f1, f2⟩ := hq2.facts
      refine anyS_one (i := 16) (o := ⟨none, _, _, _, _, _⟩) (by kernel_rfl) rfl hInv (fun K hK => ?_)
      go_simp
      refine hK.out _ _ (fun e => absurd (show true = false from e) (by decide)) (fun hInv hHeld => ?_)
      clear hK K
      try simp only [Act.put, List.setIfInBounds_toArray, List.set_cons_zero, List.set_cons_succ]
      refine anyS_done (by kernel_rfl) ?_ _
      gi_wp2
      have hq3 := hq2.set2
      have hBw2 : Below p w W3 := hB.trans (hb2.mono (by have := hB.size; omega))
      refine ⟨((keepsFrom_below hb2).trans ((KeepsOthers.setCell _ _ _).from _)), (KeptBut.of_below (hb2.mono hs3)).trans (KeptBut.of_setAt _ _ _), ?_, hBw2.setCell (p := ⟨p + 1, 2, none⟩) (Nat.le_succ p) _, ?_⟩
      rotate_left
      · exact (hKb.trans (KeptBut.of_below (hb2.mono hs3))).trans (KeptBut.of_setAt _ _ _)
      -- [World.size_setCell]; exact Nat.le_trans hs3 hb2.size⟩
      rw [hitT_more, hitT_more, hitT_more, ← HQ0.out, ← HQ1.out, ← HQ2.out, ← HT.out]
      exact (show Boxed3 _ _ (b0 || false) (b1 || false) (b2 || true) by simpa using hq3)
  case stop => exact fun _ _ _ _ _ _ h _ => h.elim
  case done =>
    rintro D ys W hD rfl ⟨hq, hB, hKb⟩ hdf
    obtain ⟨⟨c0, c1, c2⟩, _⟩ := hq.facts
    obtain ⟨b0, hb0⟩ : ∃ b0, b0 = hitT xs (-1) (List.finRange xs.length) := ⟨_, rfl⟩
    obtain ⟨b1, hb1⟩ : ∃ b1, b1 = hitT xs 0 (List.finRange xs.length) := ⟨_, rfl⟩
    obtain ⟨b2, hb2⟩ : ∃ b2, b2 = hitT xs 1 (List.finRange xs.length) := ⟨_, rfl⟩
    have hcv : Off (convexP xs st = ((b0 != b2) && !(st && b1))) := ⟨by unfold convexP; rw [← hb0, ← hb1, ← hb2]⟩
    rw [← hb0] at c0
    rw [← hb1] at c1
    rw [← hb2] at c2
    clear hb0 hb1 hb2 hq
    gi_wp2
    cases b0 <;> cases b1 <;> cases b2 <;> cases st <;> go_wp2
    all_goals
      refine ⟨by simp, .inl ⟨_, _, rfl, run_takeDeferred hdf, ?_⟩⟩
      rw [← HP.out, hcv.out]
      exact ⟨_, by simp [results, Try.results54, go_sem], rfl, hB.trans (belowK_b (w := w) (by rw [HP.out]; exact Nat.le_refl _) _ D _ _ (by have := HP.out; omega) hdf rfl rfl)⟩
end Go.Proofs.Ytbpmiphipjkdlaa
