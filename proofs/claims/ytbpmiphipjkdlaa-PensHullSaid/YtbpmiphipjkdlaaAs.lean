/- Contracts: where. -/
import Derived.Test.YtbpmiphipjkdlaaAr
import Derived.Test.YtbpmiphipjkdlaaAi
namespace Go.Proofs.Ytbpmiphipjkdlaa
open Go.RowKit Go.Shelf
attribute [local go_sem] Oper.semAt_some

/-- A line from q to the right meets a side. -/
def lowP (s : (Int × Int) × (Int × Int)) : Int × Int := if s.2.2 < s.1.2 then s.2 else s.1
def highP (s : (Int × Int) × (Int × Int)) : Int × Int := if s.2.2 < s.1.2 then s.1 else s.2
def crossW (q : Int × Int) (s : (Int × Int) × (Int × Int)) : Bool := decide ((lowP s).2 ≤ q.2) && (decide (q.2 < (highP s).2) && decide (0 < turnP (lowP s) (highP s) q))
def parF (xs : PtL) (q : Int × Int) (l : List (Fin xs.length)) : Int := l.foldl (fun a i => if crossW q (sideAt xs i.val) = true then -a else a) (-1)
def whereP (xs : PtL) (q : Int × Int) : Int := if (List.finRange xs.length).any (fun i => onS (sideAt xs i.val) q) = true then 0 else parF xs q (List.finRange xs.length)
theorem parF_more (xs : PtL) (q : Int × Int) (l : List (Fin xs.length)) (x : Fin xs.length) : parF xs q (l ++ [x]) = if crossW q (sideAt xs x.val) = true then - parF xs q l else parF xs q l := by
  unfold parF
  rw [List.foldl_append]
  rfl
theorem parF_in (xs : PtL) (q : Int × Int) (l : List (Fin xs.length)) : parF xs q l = 1 ∨ parF xs q l = -1 := by
  unfold parF
  have : ∀ (l : List (Fin xs.length)) (a : Int), (a = 1 ∨ a = -1) → (l.foldl (fun a i => if crossW q (sideAt xs i.val) = true then -a else a) a = 1 ∨ l.foldl (fun a i => if crossW q (sideAt xs i.val) = true then -a else a) a = -1) := by
    intro l
    induction l with
    | nil => intro a h; exact h
    | cons x l ih =>
      intro a h
      rw [List.foldl_cons]
      apply ih
      split <;> omega
  exact this l (-1) (.inr rfl)
theorem two_blocks {w0 w : World} {A B : Nat} {x y z u : Value} (p q : Int × Int) (hb : Below w0.heap.size w0 w) (hA : w0.heap.size ≤ A) (hB : w0.heap.size ≤ B) (hne : A ≠ B) (bA : w.heap[A]? = some (.cells #[x, y] 70 (0, 0))) (bB : w.heap[B]? = some (.cells #[z, u] 70 (0, 0))) :
    (((((w.setCell ⟨A, 0, none⟩ (.int .i64 p.1)).setCell ⟨A, 1, none⟩ (.int .i64 p.2)).setCell ⟨B, 0, none⟩ (.int .i64 q.1)).setCell ⟨B, 1, none⟩ (.int .i64 q.2)).heap[A]? = some (.cells #[.int .i64 p.1, .int .i64 p.2] 70 (0, 0)) ∧
    ((((w.setCell ⟨A, 0, none⟩ (.int .i64 p.1)).setCell ⟨A, 1, none⟩ (.int .i64 p.2)).setCell ⟨B, 0, none⟩ (.int .i64 q.1)).setCell ⟨B, 1, none⟩ (.int .i64 q.2)).heap[B]? = some (.cells #[.int .i64 q.1, .int .i64 q.2] 70 (0, 0))) ∧
    Below w0.heap.size w0 ((((w.setCell ⟨A, 0, none⟩ (.int .i64 p.1)).setCell ⟨A, 1, none⟩ (.int .i64 p.2)).setCell ⟨B, 0, none⟩ (.int .i64 q.1)).setCell ⟨B, 1, none⟩ (.int .i64 q.2)) := by
  refine ⟨⟨?_, ?_⟩, ?_⟩
  · rw [heap_setCell_other _ _ _ _ hne, heap_setCell_other _ _ _ _ hne]
    exact heap_setCell_same _ A 1 _ _ _ (heap_setCell_same w A 0 _ _ _ bA)
  · have h1 : ((w.setCell ⟨A, 0, none⟩ (.int .i64 p.1)).setCell ⟨A, 1, none⟩ (.int .i64 p.2)).heap[B]? = some (.cells #[z, u] 70 (0, 0)) := by
      rw [heap_setCell_other _ _ _ _ (Ne.symm hne), heap_setCell_other _ _ _ _ (Ne.symm hne)]
      exact bB
    exact heap_setCell_same _ B 1 _ _ _ (heap_setCell_same _ B 0 _ _ _ h1)
  · exact (((hb.setCell (p := ⟨A, 0, none⟩) hA _).setCell (p := ⟨A, 1, none⟩) hA _).setCell (p := ⟨B, 0, none⟩) hB _).setCell (p := ⟨B, 1, none⟩) hB _
theorem skipped {xs : PtL} {q : Int × Int} {w w3 W W3 V V6 : World} {p : Nat} {pre : List (Fin xs.length)} {x : Fin xs.length} {t : Int} (hs3 : w3.heap.size ≤ W.heap.size) (hbW : Below W.heap.size W W3) (h1 : Below W3.heap.size W3 V) (h2 : Below V.heap.size V V6) (hKb : KeptBut (p + 2) w3.heap.size w3 W) (hB : Below p w W) (bI : Boxed W3 (p + 2) 3 (.int .i64 t))
    (ho : onS (sideAt xs x.val) q = false) (hon : ∀ i ∈ pre, onS (sideAt xs i.val) q = false) (hc : crossW q (sideAt xs x.val) = false) (ht : t = parF xs q pre) (hp : p ≤ W.heap.size := by omega) :
    KeepsFrom w3.heap.size W V6 ∧ KeptBut (p + 2) w3.heap.size W V6 ∧ Boxed V6 (p + 2) 3 (.int .i64 (parF xs q (pre ++ [x]))) ∧ (∀ i ∈ pre ++ [x], onS (sideAt xs i.val) q = false) ∧ Below p w V6 ∧ KeptBut (p + 2) w3.heap.size w3 V6 := by
  have hb := belowC (belowC hbW h1) h2
  refine ⟨keepsFrom_below hb, KeptBut.of_below (hb.mono hs3), ?_, fun i hi => ?_, hB.trans (hb.mono hp), hKb.trans (KeptBut.of_below (hb.mono hs3))⟩
  · rw [parF_more, if_neg (by rw [hc]; simp), ← ht]
    exact boxedB h2 (boxedB h1 bI)
  · rcases List.mem_append.1 hi with hi | hi
    · exact hon i hi
    · obtain rfl := List.mem_singleton.1 hi
      exact ho
set_option maxRecDepth 100000 in
set_option maxHeartbeats 8000000 in
theorem where_any (xs : PtL) (g c : Nat) (q : Int × Int) (w : World) (hg : g < w.heap.size) (h60 : xs.length ≤ 60) (hN : ∀ i, inB 2097152 (xs.getD i (0, 0))) (hq1 : inB 2097152 q)
    (hL : ∀ j, j < xs.length → w.cell? ⟨g, j * 2, none⟩ = some (.int .i64 (xs.getD j (0, 0)).1) ∧ w.cell? ⟨g, j * 2 + 1, none⟩ = some (.int .i64 (xs.getD j (0, 0)).2)) :
    Calls Try.prog 55 #[.slice (some ⟨g, 0, none⟩) xs.length c, ptV q] w fun e w' => e = .returned (.int .i64 (whereP xs q)) ∧ Below w.heap.size w w' := by
  have CS : Off (∀ B k c W, Calls Try.prog 56 #[.slice B k c] W fun e w' => e = .returned (.func (.func 94) #[] #[.pointer (some ⟨W.heap.size, 0, none⟩)]) ∧ w' = W.alloc (.cells #[.slice B k c] 58)) := ⟨fun B k c W => (callsIn_wide (n := 5)).1 (sides_in Fence.wide 5 trivial rfl B k c W)⟩
  have HN := Off.mk hN
  have HL := Off.mk hL
  have HQ1 := Off.mk hq1
  clear hN hL hq1
  refine (callsIn_wide (n := 9)).1 ?_
  refine callsIn_of_wp_marks Try.func55 rfl trivial ?_
  refine wpIn_wide.2 ?_
  simp only [Try.ntmps55, List.size_toArray, List.length_cons, List.length_nil, Nat.reduceAdd, Nat.reduceSub, Array.replicate_succ, Array.replicate_zero, List.push_toArray, List.append_toArray, List.nil_append, List.cons_append]
  go_wp2_with fail
  refine (CS.out _ _ _ _).mono ?_
  rintro e w3 ⟨rfl, hw3⟩
  obtain ⟨p, hp⟩ : ∃ p, p = w.heap.size := ⟨_, rfl⟩
  have HP := Off.mk hp
  have hba : Below w.heap.size w w3 := by rw [hw3]; exact belowA (belowA (belowA (belowA (Below.refl _ w) _) _) _) _
  have bQ : w3.heap[p]? = some (.cells #[.int .i64 q.1, .int .i64 q.2] 70 (0, 0)) := by rw [hw3, hp]; exact alloc_old (alloc_old (alloc_old (block_new w (.cells #[.int .i64 q.1, .int .i64 q.2] 70))))
  have bR : Boxed w3 (p + 1) 3 (.int .i64 0) := by
    rw [hw3, hp]
    have := Boxed.new (w.alloc (.cells #[.int .i64 q.1, .int .i64 q.2] 70)) 3 (.int .i64 0)
    rw [World.size_alloc] at this
    exact (this.alloc _).alloc _
  have bI : Boxed w3 (p + 2) 3 (.int .i64 (-1)) := by
    rw [hw3, hp]
    have := Boxed.new ((w.alloc (.cells #[.int .i64 q.1, .int .i64 q.2] 70)).alloc (.cells #[.int .i64 0] 3)) 3 (.int .i64 (-1))
    rw [World.size_alloc, World.size_alloc] at this
    exact this.alloc _
  have bC : Boxed w3 (p + 3) 58 (.slice (some ⟨g, 0, none⟩) xs.length c) := by
    rw [hw3, hp]
    have := Boxed.new (((w.alloc (.cells #[.int .i64 q.1, .int .i64 q.2] 70)).alloc (.cells #[.int .i64 0] 3)).alloc (.cells #[.int .i64 (-1)] 3)) 58 (.slice (some ⟨g, 0, none⟩) xs.length c)
    rwa [World.size_alloc, World.size_alloc, World.size_alloc] at this
  have hsz : w3.heap.size = p + 4 := by rw [hw3, hp]; simp
  have HL3 : Off (∀ j, j < xs.length → w3.cell? ⟨g, j * 2, none⟩ = some (.int .i64 (xs.getD j (0, 0)).1) ∧ w3.cell? ⟨g, j * 2 + 1, none⟩ = some (.int .i64 (xs.getD j (0, 0)).2)) := ⟨fun j hj => ⟨cellB hba (HL.out j hj).1, cellB hba (HL.out j hj).2⟩⟩
  rw [← hp] at hba hg
  have hB3 := hba
  clear hba hw3 HL
  go_wp2_with fail
  rw [← HP.out]
  clear hp
  refine (wpIn_wide (n := 9)).1 ?_
  refine wpIn_rangeFunc_ownH (F := Fence.wide) (n := 9) rfl (by omega) (gf := 94) (lb := #[.pointer (some ⟨p + 3, 0, none⟩)]) rfl trivial (enters_of Try.func94 (by kernel_rfl) rfl)
    (sides_stops_but Fence.wide 8 trivial rfl (by omega) (p + 2) (p + 3) w3.heap.size g c xs h60 w3 (by omega) (by omega) (Nat.le_refl _) bC.cell HL3.out) KeptBut.trans (KeptBut.b (Nat.le_refl _)) (Below.refl _ _) (fun _ => rfl)
    (fun pre W => Boxed W (p + 2) 3 (.int .i64 (parF xs q pre)) ∧ ((∀ i ∈ pre, onS (sideAt xs i.val) q = false) ∧ (Below p w W ∧ KeptBut (p + 2) w3.heap.size w3 W)))
    (fun c pre W => ((c = .ret ∧ ∃ i ∈ pre, onS (sideAt xs i.val) q = true) ∧ Boxed W (p + 1) 3 (.int .i64 0)) ∧ Below p w W)
    (OwnFrom.and (Own.from (boxed_own _ _ _) _) (OwnFrom.and (ownFrom_pure _ _) (OwnFrom.and (ownFrom_below (by have := HP.out; omega) (by omega)) (ownFrom_kept _ _ _ _ (Nat.le_refl _) (Nat.le_refl _)))))
    (fun c => OwnFrom.and (OwnFrom.and (ownFrom_pure _ _) (Own.from (boxed_own _ _ _) _)) (ownFrom_below (by have := HP.out; omega) (by omega)))
    ⟨bI, by simp, hB3, KeptBut.refl _ _ _⟩
    (fun x a' W => ∃ Bi, w3.heap.size ≤ Bi ∧ W.heap[Bi]? = some (.cells #[Value.int IntKind.i64 (sideAt xs x.val).1.1, Value.int IntKind.i64 (sideAt xs x.val).1.2, Value.int IntKind.i64 (sideAt xs x.val).2.1, Value.int IntKind.i64 (sideAt xs x.val).2.2] 75 (0, 0)) ∧ a' = { tmps := #[Value.slice (some ⟨g, 0, none⟩) xs.length c, ptV q, undef, Value.pointer (some ⟨p, 0, none⟩), Value.pointer (some ⟨p + 1, 0, none⟩), Value.pointer (some ⟨p + 2, 0, none⟩), undef, Value.pointer (some ⟨Bi, 0, none⟩), undef, undef, Value.slice (some ⟨g, 0, none⟩) xs.length c, Value.func (Fn.func 94) #[] #[Value.pointer (some ⟨p + 3, 0, none⟩)], Value.int IntKind.i64 ↑x.val, sdV (sideAt xs x.val), undef, undef, undef, undef, undef, undef, undef, undef, undef, undef, undef, undef, undef, undef, undef, undef, undef, undef, undef, undef, undef, undef, undef, undef, undef, undef, undef, undef, undef, undef, undef, undef, undef, undef, undef, undef], defers := [] })
    (fun x a' _ X Y row hs hg hr => by obtain ⟨Bi, e1, e3, e4⟩ := hs; exact ⟨Bi, e1, block_kept e3 hg (fun r e => (hr r e).2), e4⟩)
    ?assign ?body ?done ?stop
  case assign =>
    rintro l pre x W K ⟨hi, hon, hB, hKb⟩ hK
    have hs3 := hKb.size
    simp only [sideEnc]
    gi_wp2
    exact hK _ _ ((KeepsOthers.alloc _ _).from _) (KeptBut.of_below ((Below.refl _ W).alloc hs3 _)) ⟨hi.alloc _, hon, hB.alloc (by have := hB.size; omega) _, hKb.trans (KeptBut.of_below ((Below.refl _ W).alloc hs3 _))⟩
      ⟨W.heap.size, hs3, block_new W (.cells #[Value.int IntKind.i64 (sideAt xs x.val).1.1, Value.int IntKind.i64 (sideAt xs x.val).1.2, Value.int IntKind.i64 (sideAt xs x.val).2.1, Value.int IntKind.i64 (sideAt xs x.val).2.2] 75), rfl⟩
  case body =>
    rintro l pre x a' W hl ⟨r, hr⟩ ⟨bI, hon, hB, hKb⟩ ⟨Bi, hBi, bS, rfl⟩ hlt
    have hs3 := hKb.size
    obtain ⟨s, hs⟩ : ∃ s, s = sideAt xs x.val := ⟨_, rfl⟩
    have hs1 : inB 2097152 s.1 := by rw [hs]; exact HN.out _
    have hs2 : inB 2097152 s.2 := by rw [hs]; exact HN.out _
    have bQ := (hKb.block p (by omega) (by omega)).trans bQ
    have bR : Boxed W (p + 1) 3 (.int .i64 0) := (hKb.block (p + 1) (by omega) (by omega)).trans bR
    obtain ⟨⟨cq0, cq1⟩, _⟩ := two_facts bQ
    have HS := Off.mk hs
    obtain ⟨v, hv⟩ : ∃ v, v = onS s q := ⟨_, rfl⟩
    have C1 : Off (∀ W, Calls Try.prog 93 #[sdV s, ptV q] W fun e w' => e = .returned (.bool v) ∧ Below W.heap.size W w') := ⟨fun W => on_any s q v hv.symm hs1 hs2 HQ1.out W⟩
    have HO := Off.mk hv.symm
    obtain ⟨t, ht⟩ : ∃ t, t = parF xs q pre := ⟨_, rfl⟩
    have htv := parF_in xs q pre
    rw [← ht] at bI htv
    have HT := Off.mk ht
    have W1 : IntKind.i64.wrap (-t) = -t := by rw [IntKind.wrap_i64]; omega
    rw [← hs] at bS ⊢
    clear hs hv ht htv
    obtain ⟨⟨s0, s1, s2, s3⟩, _⟩ := four_facts bS
    gi_wp2_with fail
    refine ⟨trivial, ?_⟩
    refine (CallsIn.inRound l (callsIn_wide.2 (C1.out _))).mono ?_
    rintro e W3 ⟨rfl, hbW⟩
    cases v with
    | true =>
      have bR := boxedB hbW bR
      have cR := bR.cell
      have fR := bR.frozen
      have HbW := Off.mk hbW
      clear hbW
      gi_wp2
      exact ⟨(keepsFrom_below HbW.out).trans ((KeepsOthers.setCell _ _ _).from _), ⟨⟨rfl, x, by simp, by rw [← HS.out]; exact HO.out⟩, bR.set _⟩, (hB.trans (HbW.out.mono (by have := hB.size; omega))).setCell (p := ⟨p + 1, 0, none⟩) (by simp only; omega) _⟩
    | false =>
      have bI := boxedB hbW bI
      have cI := bI.cell
      have cq0 := cellB hbW cq0
      have cq1 := cellB hbW cq1
      have s0 := cellB hbW s0
      have s1 := cellB hbW s1
      have s2 := cellB hbW s2
      have s3 := cellB hbW s3
      have hsW := hbW.size
      gi_wp2_with fail
      refine wpIn_mono (Q := (fun e a'' W5 => e = .normal ∧ ∃ La Lb, ((W5.heap[La]? = some (.cells #[.int .i64 s.1.1, .int .i64 s.1.2] 70 (0, 0)) ∧ W5.heap[Lb]? = some (.cells #[.int .i64 s.2.1, .int .i64 s.2.2] 70 (0, 0))) ∧ Below W3.heap.size W3 W5) ∧ La ≠ Lb ∧ W3.heap.size ≤ La ∧ W3.heap.size ≤ Lb ∧ a'' = { tmps := #[Value.slice (some ⟨g, 0, none⟩) xs.length c, ptV q, undef, Value.pointer (some ⟨p, 0, none⟩), Value.pointer (some ⟨p + 1, 0, none⟩), Value.pointer (some ⟨p + 2, 0, none⟩), undef, Value.pointer (some ⟨Bi, 0, none⟩), Value.pointer (some ⟨La, 0, none⟩), Value.pointer (some ⟨Lb, 0, none⟩), Value.slice (some ⟨g, 0, none⟩) xs.length c, Value.func (Fn.func 94) #[] #[Value.pointer (some ⟨p + 3, 0, none⟩)], Value.int IntKind.i64 ↑x.val, sdV s, sdV s, ptV q, Value.bool false, Value.pointer (some ⟨Bi, 0, none⟩), ptV s.1, Value.pointer (some ⟨Bi, 2, none⟩), ptV s.2, undef, undef, undef, undef, undef, undef, undef, undef, undef, undef, undef, undef, undef, undef, undef, undef, undef, undef, undef, undef, undef, undef, undef, undef, undef, undef, undef, undef, undef], defers := [] })) ?_ ?_
      · clear hr hBi bI HT W1
        have SS : (fun w' => (w'.cell? ⟨Bi, 0, none⟩ = some (.int .i64 s.1.1) ∧ w'.cell? ⟨Bi, 1, none⟩ = some (.int .i64 s.1.2)) ∧ (w'.cell? ⟨Bi, 2, none⟩ = some (.int .i64 s.2.1) ∧ w'.cell? ⟨Bi, 3, none⟩ = some (.int .i64 s.2.2))) W3 := ⟨⟨s0, s1⟩, s2, s3⟩
        have keepS : ∀ {v : World}, Below W3.heap.size W3 v → (fun w' => (w'.cell? ⟨Bi, 0, none⟩ = some (.int .i64 s.1.1) ∧ w'.cell? ⟨Bi, 1, none⟩ = some (.int .i64 s.1.2)) ∧ (w'.cell? ⟨Bi, 2, none⟩ = some (.int .i64 s.2.1) ∧ w'.cell? ⟨Bi, 3, none⟩ = some (.int .i64 s.2.2))) W3 → (fun w' => (w'.cell? ⟨Bi, 0, none⟩ = some (.int .i64 s.1.1) ∧ w'.cell? ⟨Bi, 1, none⟩ = some (.int .i64 s.1.2)) ∧ (w'.cell? ⟨Bi, 2, none⟩ = some (.int .i64 s.2.1) ∧ w'.cell? ⟨Bi, 3, none⟩ = some (.int .i64 s.2.2))) v := fun hb ⟨⟨s0, s1⟩, s2, s3⟩ => ⟨⟨cellB hb s0, cellB hb s1⟩, cellB hb s2, cellB hb s3⟩
        refine region_anyS' (S := (fun w' => (w'.cell? ⟨Bi, 0, none⟩ = some (.int .i64 s.1.1) ∧ w'.cell? ⟨Bi, 1, none⟩ = some (.int .i64 s.1.2)) ∧ (w'.cell? ⟨Bi, 2, none⟩ = some (.int .i64 s.2.1) ∧ w'.cell? ⟨Bi, 3, none⟩ = some (.int .i64 s.2.2)))) 7 (by kernel_rfl) SS (fun hInv hHeld => ?_)
        refine anyS_take (i := 0) (oi := ⟨some 17, _, _, _, _, _⟩) (v := ?_) (by kernel_rfl) rfl (by kernel_rfl) (by kernel_rfl) (by kernel_rfl) (by kernel_rfl) (fun _ _ _ h => by cases h.1) (Or.inl ⟨by rfl, by intro w hSw; (try dsimp only at hSw); go_simp; try with_reducible rfl⟩) (fun _ => by first | rfl | simp [Oper.about, resolve, go_sem]) hInv hHeld (fun hInv hHeld => ?_)
        try simp only [Act.put, List.setIfInBounds_toArray, List.set_cons_zero, List.set_cons_succ]
        refine anyS_take (i := 1) (oi := ⟨some 18, _, _, _, _, _⟩) (v := ?_) (by kernel_rfl) rfl (by kernel_rfl) (by kernel_rfl) (by kernel_rfl) (by kernel_rfl) (fun _ _ _ h => by cases h.1) (Or.inl ⟨by rfl, by intro w hSw; (try dsimp only at hSw); go_simp; try with_reducible rfl⟩) (fun _ => by first | rfl | simp [Oper.about, resolve, go_sem]) hInv hHeld (fun hInv hHeld => ?_)
        try simp only [Act.put, List.setIfInBounds_toArray, List.set_cons_zero, List.set_cons_succ]
        refine anyS_take (i := 2) (oi := ⟨some 19, _, _, _, _, _⟩) (v := ?_) (by kernel_rfl) rfl (by kernel_rfl) (by kernel_rfl) (by kernel_rfl) (by kernel_rfl) (fun _ _ _ h => by cases h.1) (Or.inl ⟨by rfl, by intro w hSw; (try dsimp only at hSw); go_simp; try with_reducible rfl⟩) (fun _ => by first | rfl | simp [Oper.about, resolve, go_sem]) hInv hHeld (fun hInv hHeld => ?_)
        try simp only [Act.put, List.setIfInBounds_toArray, List.set_cons_zero, List.set_cons_succ]
        refine anyS_take (i := 3) (oi := ⟨some 20, _, _, _, _, _⟩) (v := ?_) (by kernel_rfl) rfl (by kernel_rfl) (by kernel_rfl) (by kernel_rfl) (by kernel_rfl) (fun _ _ _ h => by cases h.1) (Or.inl ⟨by rfl, by intro w hSw; (try dsimp only at hSw); go_simp; try with_reducible rfl⟩) (fun _ => by first | rfl | simp [Oper.about, resolve, go_sem]) hInv hHeld (fun hInv hHeld => ?_)
        try simp only [Act.put, List.setIfInBounds_toArray, List.set_cons_zero, List.set_cons_succ]
        obtain ⟨V0, hV0⟩ : ∃ V, W3.drew = V := ⟨_, rfl⟩
        have hb0 : Below W3.heap.size W3 V0 := by rw [← hV0]; exact (Below.refl _ W3).drew
        rw [hV0] at hHeld ⊢
        clear hV0
        refine anyS_two (i := 4) (o := ⟨some 8, _, _, _, _, _⟩) (j := 5) (p := ⟨some 9, _, _, _, _, _⟩) (by kernel_rfl) rfl rfl hInv (fun K hK => ?_) (fun K hK => ?_)
        · go_simp
          have hb1 := belowA hb0 (.cells #[.int .i64 0, .int .i64 0] 70)
          refine hK.out _ _ (fun _ => keepS hb1 SS) (fun hInv hHeld => ?_)
          clear hK K
          try simp only [Act.put, List.setIfInBounds_toArray, List.set_cons_zero, List.set_cons_succ]
          have bA := block_new V0 (.cells #[.int .i64 0, .int .i64 0] 70)
          have szA := hb0.size
          obtain ⟨U1, hU⟩ : ∃ U, (V0.alloc (.cells #[.int .i64 0, .int .i64 0] 70)) = U := ⟨_, rfl⟩
          rw [hU] at hb1 bA ⊢
          rw [hU] at hHeld
          clear hU
          refine anyS_one (i := 5) (o := ⟨some 9, _, _, _, _, _⟩) (by kernel_rfl) rfl hInv (fun K hK => ?_)
          go_simp
          have hb2 := belowA hb1 (.cells #[.int .i64 0, .int .i64 0] 70)
          refine hK.out _ _ (fun _ => keepS hb2 SS) (fun hInv hHeld => ?_)
          clear hK K
          try simp only [Act.put, List.setIfInBounds_toArray, List.set_cons_zero, List.set_cons_succ]
          have hlt2 := (Array.getElem?_eq_some_iff.1 bA).1
          have bA := alloc_old (o' := (.cells #[.int .i64 0, .int .i64 0] 70)) bA
          have bB := block_new U1 (.cells #[.int .i64 0, .int .i64 0] 70)
          have szB := hb1.size
          obtain ⟨U2, hU⟩ : ∃ U, (U1.alloc (.cells #[.int .i64 0, .int .i64 0] 70)) = U := ⟨_, rfl⟩
          rw [hU] at hb2 bB bA ⊢
          rw [hU] at hHeld
          clear hU
          have hne : V0.heap.size ≠ U1.heap.size := by omega
          obtain ⟨⟨x0, x1⟩, y0, y1⟩ := two_facts bA
          obtain ⟨⟨z0, z1⟩, u0, u1⟩ := two_facts bB
          have hne' := Ne.symm hne
          refine anyS_one (i := 6) (o := ⟨none, _, _, _, _, _⟩) (by kernel_rfl) rfl hInv (fun K hK => ?_)
          go_simp
          refine hK.out _ _ (fun _ => keepS ((hb2.setCell (p := ⟨V0.heap.size, 0, none⟩) szA _).setCell (p := ⟨V0.heap.size, 1, none⟩) szA _) SS) (fun hInv hHeld => ?_)
          clear hK K
          try simp only [Act.put, List.setIfInBounds_toArray, List.set_cons_zero, List.set_cons_succ]
          refine anyS_one (i := 7) (o := ⟨none, _, _, _, _, _⟩) (by kernel_rfl) rfl hInv (fun K hK => ?_)
          go_simp
          refine hK.out _ _ (fun e => absurd (show true = false from e) (by decide)) (fun hInv hHeld => ?_)
          clear hK K
          try simp only [Act.put, List.setIfInBounds_toArray, List.set_cons_zero, List.set_cons_succ]
          refine anyS_done (by kernel_rfl) ?_ _
          exact ⟨rfl, V0.heap.size, U1.heap.size, two_blocks s.1 s.2 hb2 szA szB hne bA bB, hne, szA, szB, rfl⟩
        · go_simp
          have hb1 := belowA hb0 (.cells #[.int .i64 0, .int .i64 0] 70)
          refine hK.out _ _ (fun _ => keepS hb1 SS) (fun hInv hHeld => ?_)
          clear hK K
          try simp only [Act.put, List.setIfInBounds_toArray, List.set_cons_zero, List.set_cons_succ]
          have bB := block_new V0 (.cells #[.int .i64 0, .int .i64 0] 70)
          have szB := hb0.size
          obtain ⟨U1, hU⟩ : ∃ U, (V0.alloc (.cells #[.int .i64 0, .int .i64 0] 70)) = U := ⟨_, rfl⟩
          rw [hU] at hb1 bB ⊢
          rw [hU] at hHeld
          clear hU
          refine anyS_one (i := 4) (o := ⟨some 8, _, _, _, _, _⟩) (by kernel_rfl) rfl hInv (fun K hK => ?_)
          go_simp
          have hb2 := belowA hb1 (.cells #[.int .i64 0, .int .i64 0] 70)
          refine hK.out _ _ (fun _ => keepS hb2 SS) (fun hInv hHeld => ?_)
          clear hK K
          try simp only [Act.put, List.setIfInBounds_toArray, List.set_cons_zero, List.set_cons_succ]
          have hlt2 := (Array.getElem?_eq_some_iff.1 bB).1
          have bB := alloc_old (o' := (.cells #[.int .i64 0, .int .i64 0] 70)) bB
          have bA := block_new U1 (.cells #[.int .i64 0, .int .i64 0] 70)
          have szA := hb1.size
          obtain ⟨U2, hU⟩ : ∃ U, (U1.alloc (.cells #[.int .i64 0, .int .i64 0] 70)) = U := ⟨_, rfl⟩
          rw [hU] at hb2 bA bB ⊢
          rw [hU] at hHeld
          clear hU
          have hne : U1.heap.size ≠ V0.heap.size := by omega
          obtain ⟨⟨x0, x1⟩, y0, y1⟩ := two_facts bA
          obtain ⟨⟨z0, z1⟩, u0, u1⟩ := two_facts bB
          have hne' := Ne.symm hne
          refine anyS_one (i := 6) (o := ⟨none, _, _, _, _, _⟩) (by kernel_rfl) rfl hInv (fun K hK => ?_)
          go_simp
          refine hK.out _ _ (fun _ => keepS ((hb2.setCell (p := ⟨U1.heap.size, 0, none⟩) szA _).setCell (p := ⟨U1.heap.size, 1, none⟩) szA _) SS) (fun hInv hHeld => ?_)
          clear hK K
          try simp only [Act.put, List.setIfInBounds_toArray, List.set_cons_zero, List.set_cons_succ]
          refine anyS_one (i := 7) (o := ⟨none, _, _, _, _, _⟩) (by kernel_rfl) rfl hInv (fun K hK => ?_)
          go_simp
          refine hK.out _ _ (fun e => absurd (show true = false from e) (by decide)) (fun hInv hHeld => ?_)
          clear hK K
          try simp only [Act.put, List.setIfInBounds_toArray, List.set_cons_zero, List.set_cons_succ]
          refine anyS_done (by kernel_rfl) ?_ _
          exact ⟨rfl, U1.heap.size, V0.heap.size, two_blocks s.1 s.2 hb2 szA szB hne bA bB, hne, szA, szB, rfl⟩
      rintro _ _ W5 ⟨rfl, La, Lb, ⟨⟨bL, bH⟩, hbV⟩, hne, hLa, hLb, rfl⟩
      obtain ⟨⟨l0, l1⟩, f0, f1⟩ := two_facts bL
      obtain ⟨⟨h0, h1⟩, g0, g1⟩ := two_facts bH
      have cI := cellB hbV cI
      have fI : W5.frozen? ⟨p + 2, 0, none⟩ = false := (boxedB hbV bI).frozen
      have cq0 := cellB hbV cq0
      have cq1 := cellB hbV cq1
      have n1 : ¬ p = La := by omega
      have n2 : ¬ p = Lb := by omega
      have n3 : ¬ p + 2 = La := by omega
      have n4 : ¬ p + 2 = Lb := by omega
      have hne' := Ne.symm hne
      have hszV := hbV.size
      by_cases ksw : s.2.2 < s.1.2
      · have ST := two_blocks s.2 s.1 hbV hLa hLb hne bL bH
        have HV := Off.mk ST.2
        clear bL bH hbV ST
        have HCR : Off (crossW q s = (decide (s.2.2 ≤ q.2) && (decide (q.2 < s.1.2) && decide (0 < turnP s.2 s.1 q)))) := ⟨by unfold crossW lowP highP; rw [if_pos ksw, if_pos ksw]⟩
        have C2 : Off (∀ W, Calls Try.prog 92 #[ptV s.2, ptV s.1, ptV q] W fun e w' => e = .returned (.int .i64 (turnP s.2 s.1 q)) ∧ Below W.heap.size W w') := ⟨fun W => turn_any s.2 s.1 q (by assumption) (by assumption) HQ1.out W⟩
        obtain ⟨tp, htp⟩ : ∃ tp, tp = turnP s.2 s.1 q := ⟨_, rfl⟩
        rw [← htp] at C2 HCR
        clear htp hs1 hs2
        by_cases k1 : s.2.2 ≤ q.2
        · by_cases k2 : q.2 < s.1.2
          · by_cases k3 : 0 < tp
            · gi_wp2_with fail
              refine ⟨trivial, ?_⟩
              refine (CallsIn.inRound l (callsIn_wide.2 (C2.out _))).mono ?_
              rintro e V6 ⟨rfl, hb6⟩
              have bI6 := boxedB hb6 (boxedB HV.out bI)
              have eI6 := bI6.cell
              have fI6 := bI6.frozen
              have hbW6 := belowC (belowC hbW HV.out) hb6
              have HbW6 := Off.mk hbW6
              clear hb6 hbW6
              gi_wp2
              have hbW6 := HbW6.out
              refine ⟨(keepsFrom_below hbW6).trans ((KeepsOthers.setCell _ _ _).from _), (KeptBut.of_below (hbW6.mono hs3)).trans (KeptBut.of_set _ _ (by have := hbW6.size; omega)), ?_, fun i hi => ?_, ?_, ?_⟩
              · rw [parF_more, if_pos (by rw [← HS.out, HCR.out, decide_eq_true (by omega), decide_eq_true (by omega), decide_eq_true (by omega)]; rfl), ← HT.out]
                exact bI6.set _
              · rcases List.mem_append.1 hi with hi | hi
                · exact hon i hi
                · obtain rfl := List.mem_singleton.1 hi
                  rw [← HS.out]
                  exact HO.out
              · exact (hB.trans (hbW6.mono (by have := hB.size; omega))).setCell (p := ⟨p + 2, 0, none⟩) (by simp only; omega) _
              · exact (hKb.trans (KeptBut.of_below (hbW6.mono hs3))).trans (KeptBut.of_set _ _ (by have := hbW6.size; omega))
            · gi_wp2_with fail
              refine ⟨trivial, ?_⟩
              refine (CallsIn.inRound l (callsIn_wide.2 (C2.out _))).mono ?_
              rintro e V6 ⟨rfl, hb6⟩
              have Hb6 := Off.mk hb6
              clear hb6
              gi_wp2
              exact skipped hs3 hbW HV.out Hb6.out hKb hB bI (by rw [← HS.out]; exact HO.out) hon (by rw [← HS.out, HCR.out, decide_eq_false (p := 0 < tp) (by omega)]; simp) HT.out
          · gi_wp2_with fail
            refine ⟨trivial, ?_⟩
            gi_wp2
            exact skipped hs3 hbW HV.out (Below.refl _ _) hKb hB bI (by rw [← HS.out]; exact HO.out) hon (by rw [← HS.out, HCR.out, decide_eq_false (p := q.2 < s.1.2) (by omega)]; simp) HT.out
        · gi_wp2_with fail
          refine ⟨trivial, ?_⟩
          gi_wp2
          exact skipped hs3 hbW HV.out (Below.refl _ _) hKb hB bI (by rw [← HS.out]; exact HO.out) hon (by rw [← HS.out, HCR.out, decide_eq_false (p := s.2.2 ≤ q.2) (by omega)]; simp) HT.out

      · have HV := Off.mk hbV
        clear bL bH hbV
        have HCR : Off (crossW q s = (decide (s.1.2 ≤ q.2) && (decide (q.2 < s.2.2) && decide (0 < turnP s.1 s.2 q)))) := ⟨by unfold crossW lowP highP; rw [if_neg ksw, if_neg ksw]⟩
        have C2 : Off (∀ W, Calls Try.prog 92 #[ptV s.1, ptV s.2, ptV q] W fun e w' => e = .returned (.int .i64 (turnP s.1 s.2 q)) ∧ Below W.heap.size W w') := ⟨fun W => turn_any s.1 s.2 q (by assumption) (by assumption) HQ1.out W⟩
        obtain ⟨tp, htp⟩ : ∃ tp, tp = turnP s.1 s.2 q := ⟨_, rfl⟩
        rw [← htp] at C2 HCR
        clear htp hs1 hs2
        by_cases k1 : s.1.2 ≤ q.2
        · by_cases k2 : q.2 < s.2.2
          · by_cases k3 : 0 < tp
            · gi_wp2_with fail
              refine ⟨trivial, ?_⟩
              refine (CallsIn.inRound l (callsIn_wide.2 (C2.out _))).mono ?_
              rintro e V6 ⟨rfl, hb6⟩
              have bI6 := boxedB hb6 (boxedB HV.out bI)
              have eI6 := bI6.cell
              have fI6 := bI6.frozen
              have hbW6 := belowC (belowC hbW HV.out) hb6
              have HbW6 := Off.mk hbW6
              clear hb6 hbW6
              gi_wp2
              have hbW6 := HbW6.out
              refine ⟨(keepsFrom_below hbW6).trans ((KeepsOthers.setCell _ _ _).from _), (KeptBut.of_below (hbW6.mono hs3)).trans (KeptBut.of_set _ _ (by have := hbW6.size; omega)), ?_, fun i hi => ?_, ?_, ?_⟩
              · rw [parF_more, if_pos (by rw [← HS.out, HCR.out, decide_eq_true (by omega), decide_eq_true (by omega), decide_eq_true (by omega)]; rfl), ← HT.out]
                exact bI6.set _
              · rcases List.mem_append.1 hi with hi | hi
                · exact hon i hi
                · obtain rfl := List.mem_singleton.1 hi
                  rw [← HS.out]
                  exact HO.out
              · exact (hB.trans (hbW6.mono (by have := hB.size; omega))).setCell (p := ⟨p + 2, 0, none⟩) (by simp only; omega) _
              · exact (hKb.trans (KeptBut.of_below (hbW6.mono hs3))).trans (KeptBut.of_set _ _ (by have := hbW6.size; omega))
            · gi_wp2_with fail
              refine ⟨trivial, ?_⟩
              refine (CallsIn.inRound l (callsIn_wide.2 (C2.out _))).mono ?_
              rintro e V6 ⟨rfl, hb6⟩
              have Hb6 := Off.mk hb6
              clear hb6
              gi_wp2
              exact skipped hs3 hbW HV.out Hb6.out hKb hB bI (by rw [← HS.out]; exact HO.out) hon (by rw [← HS.out, HCR.out, decide_eq_false (p := 0 < tp) (by omega)]; simp) HT.out
          · gi_wp2_with fail
            refine ⟨trivial, ?_⟩
            gi_wp2
            exact skipped hs3 hbW HV.out (Below.refl _ _) hKb hB bI (by rw [← HS.out]; exact HO.out) hon (by rw [← HS.out, HCR.out, decide_eq_false (p := q.2 < s.2.2) (by omega)]; simp) HT.out
        · gi_wp2_with fail
          refine ⟨trivial, ?_⟩
          gi_wp2
          exact skipped hs3 hbW HV.out (Below.refl _ _) hKb hB bI (by rw [← HS.out]; exact HO.out) hon (by rw [← HS.out, HCR.out, decide_eq_false (p := s.1.2 ≤ q.2) (by omega)]; simp) HT.out

  case stop =>
    rintro D c pre W hD hpre ⟨⟨⟨rfl, x, hx, hbad⟩, d1⟩, hB⟩ hK
    gi_wp2
    refine ⟨by simp, .inl ⟨_, _, rfl, run_takeDeferred hK, ?_⟩⟩
    have hc5 := cell_kept d1.cell (grownBy_putObj' _ D (.deferred none)) (fun r e => by cases e; exact ⟨_, hK, rfl⟩)
    rw [← HP.out]
    refine ⟨.int .i64 0, by simp [results, Try.results55, go_sem, hc5], ?_, hB.trans (belowK_b (w := w) (by rw [HP.out]; exact Nat.le_refl _) _ D _ _ (by have := HP.out; omega) hK rfl rfl)⟩
    have : whereP xs q = 0 := by
      unfold whereP
      rw [if_pos]
      rw [List.any_eq_true]
      exact ⟨x, hpre.subset hx, hbad⟩
    rw [this]
  case done =>
    rintro D ys W hD rfl ⟨bI, hon, hB, hKb⟩ hdf
    have bR : Boxed W (p + 1) 3 (.int .i64 0) := (hKb.block (p + 1) (by omega) (by omega)).trans bR
    have cI := bI.cell
    have cR := bR.cell
    have fR := bR.frozen
    have hwh : Off (whereP xs q = parF xs q (List.finRange xs.length)) := ⟨by
      unfold whereP
      rw [if_neg]
      rw [List.any_eq_true]
      rintro ⟨x, hx, hy⟩
      rw [hon x hx] at hy
      cases hy⟩
    obtain ⟨t, ht⟩ : ∃ t, t = parF xs q (List.finRange xs.length) := ⟨_, rfl⟩
    rw [← ht] at cI hwh
    clear ht bI hon
    gi_wp2
    go_wp2
    have bR2 := bR.set (.int .i64 t)
    have hK' := (KeepsOthers.setCell W ⟨p + 1, 0, none⟩ (.int .i64 t)).same D _ hdf rfl
    refine ⟨by simp, .inl ⟨_, _, rfl, run_takeDeferred hK', ?_⟩⟩
    have hc5 := cell_kept bR2.cell (grownBy_putObj' _ D (.deferred none)) (fun r e => by cases e; exact ⟨_, hK', rfl⟩)
    rw [← HP.out, hwh.out]
    exact ⟨_, by simp [results, Try.results55, go_sem, hc5], rfl, (hB.setCell (p := ⟨p + 1, 0, none⟩) (by simp only; omega) _).trans (belowK_b (w := w) (by rw [HP.out]; exact Nat.le_refl _) _ D _ _ (by have := HP.out; omega) hK' rfl rfl)⟩
end Go.Proofs.Ytbpmiphipjkdlaa
