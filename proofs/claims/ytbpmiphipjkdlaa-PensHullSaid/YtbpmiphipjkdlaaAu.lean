/- Contracts: Opposite. -/
import Derived.Test.YtbpmiphipjkdlaaAt
namespace Go.Proofs.Ytbpmiphipjkdlaa
open Go.RowKit Go.Shelf
attribute [local go_sem] Oper.semAt_some

/-- A pair more in a list of pairs, in a round of a range over a function. -/
theorem append_pairIn {F : Fence} {n l : Nat} {a : Act} {w : World} {K : Act → World → Prop} {Q : Exit → Act → World → Prop} {o : Oper} (hro : F.round = some l) (s x : Operand)
    (ho : o.op = .call { callee := .builtin .append, args := #[s, x], argTypes := #[57, 57] }) (base : Nat) (v : Value) (xs : List (Int × Int)) (i j : Int) (hO : OwnQ 70 w base v xs) (h100 : xs.length ≤ 1000) (hb : base ≤ w.heap.size)
    (hs : a.eval s = v) (hx : a.eval x = .slice (some ⟨w.heap.size, 0, none⟩) 1 1)
    (h : ∀ v' w', OwnQ 70 w' base v' (xs ++ [(i, j)]) → (w.alloc (.cells #[.int .i64 i, .int .i64 j] 70)).grownBy w' v.ownBlock → K (a.put o.dst v') w') :
    Oper.wpIn F n Try.prog o a (w.alloc (.cells #[.int .i64 (i : Int), .int .i64 (j : Int)] 70)) K Q := by
  obtain ⟨i0, hi, hz0, hz1, hz2⟩ := info_parts info70
  have c1 : ∀ k u, ([.int .i64 (i : Int), .int .i64 (j : Int)] : List Value)[k]? = some u → (w.alloc (.cells #[.int .i64 (i : Int), .int .i64 (j : Int)] 70)).cell? ((⟨w.heap.size, 0, none⟩ : Addr).add k) = some u := by
    intro k u hk
    match k, hk with
    | 0, hk => simp at hk; subst hk; simp [Addr.add_lit]
    | 1, hk => simp at hk; subst hk; simp [Addr.add_lit]
  have c2 : ∀ u ∈ ([.int .i64 (i : Int), .int .i64 (j : Int)] : List Value), u.oneCell' = true := by intro u hu; simp at hu; rcases hu with rfl | rfl <;> rfl
  obtain ⟨v', w', hr, h2, h3, h4⟩ := run_append_own (P := Try.prog) _ base 57 o.type 70 i0 _ 2 16 Try.underlying57 hi hz0 hz1 hz2 rfl (by decide) v xs.length _ (hO.out.alloc _) ⟨w.heap.size, 0, none⟩ 1 1 _ rfl c1 c2 (by unfold maxLen; omega) (by omega) (by simp; omega)
  refine ⟨fun f hf => ?_, ?_⟩
  · simp [Oper.about, ho, resolve, Sem.run_pure, go_sem] at hf
  · rw [hro, Oper.semAt_some _ _ _ (fun c => by rw [ho]; simp)]
    unfold execOp
    simp only [ho, resolve, invoke, builtin, Sem.run_bind, Sem.run_pure, Result.andThen_ok, List.map_toArray, List.map_cons, List.map_nil, hs, hx, hr]
    exact h v' w' ⟨by rw [List.length_append]; simpa [pairCells] using h2⟩ h3
theorem row_kept {W w6 : World} {B base size n : Nat} {c : Array Value} {t e : TypeId} {v : Value} {xs : List Value} {o : Obj} (h : W.heap[B]? = some (.cells c t (0, 0))) (hg : (W.alloc o).grownBy w6 v.ownBlock) (hr : W.ownsRow base e size v n xs) (hte : t ≠ e) : w6.heap[B]? = some (.cells c t (0, 0)) := by
  have h1 := alloc_old (o' := o) h
  refine (hg.block B (Array.getElem?_eq_some_iff.1 h1).1 ?_).trans h1
  rcases hr.2 with ⟨rfl, _⟩ | ⟨g, cap, cur, rfl, _, hgb, _⟩
  · simp [Value.ownBlock]
  · intro e'
    obtain rfl : B = g := by simpa [Value.ownBlock] using e'
    rw [h] at hgb
    simp at hgb
    exact hte hgb.2
/-- The point that stands for a side. -/
def oppAt (xs : PtL) (i : Nat) : Int × Int := (((sideAt xs i).2.2 - (sideAt xs i).1.2).tdiv (crossP (sideAt xs i).1 (sideAt xs i).2), ((sideAt xs i).1.1 - (sideAt xs i).2.1).tdiv (crossP (sideAt xs i).1 (sideAt xs i).2))
def oppL (xs : PtL) : List (Int × Int) := (List.finRange xs.length).map fun i => oppAt xs i.val
/-- Pens for which there is an opposite one. -/
def hasOpp (xs : PtL) : Bool := decide (insG xs 1 = 1) && convexP xs true && decide (whereP xs (0, 0) = 1)
set_option maxRecDepth 100000 in
set_option maxHeartbeats 4000000 in
theorem Opposite_yes (xs : PtL) (A : Option Addr) (c : Nat) (w : World) (hx : PairsI w A xs) (hv : readP xs = true) (hop : hasOpp xs = true) (hd : ∀ i, i < xs.length → crossP (sideAt xs i).1 (sideAt xs i).2 ≠ 0) :
    Calls Try.prog 23 #[.slice A xs.length c] w fun e w' => (∃ u, e = .returned (.tuple #[u, .int .i64 0]) ∧ OwnQ 34 w' w.heap.size u (oppL xs)) ∧ Below w.heap.size w w' := by
  have CS : Off (∀ B k c W, Calls Try.prog 56 #[.slice B k c] W fun e w' => e = .returned (.func (.func 94) #[] #[.pointer (some ⟨W.heap.size, 0, none⟩)]) ∧ w' = W.alloc (.cells #[.slice B k c] 58)) := ⟨fun B k c W => (callsIn_wide (n := 5)).1 (sides_in Fence.wide 5 trivial rfl B k c W)⟩
  have CR := Off.mk (read_any xs A c w true hv hx)
  unfold hasOpp at hop
  rw [Bool.and_eq_true, Bool.and_eq_true, decide_eq_true_eq, decide_eq_true_eq] at hop
  have HV := Off.mk hv
  have HO := Off.mk hop
  have HD := Off.mk hd
  clear hx hv hop hd
  refine (callsIn_wide (n := 9)).1 ?_
  refine callsIn_of_wp_marks Try.func23 rfl trivial ?_
  refine wpIn_wide.2 ?_
  simp only [Try.ntmps23, List.size_toArray, List.length_cons, List.length_nil, Nat.reduceAdd, Nat.reduceSub, Array.replicate_succ, Array.replicate_zero, List.push_toArray, List.append_toArray, List.nil_append, List.cons_append]
  go_wp2_with fail
  refine CR.out.mono ?_
  rintro e w1 ⟨⟨u, rfl, h1, _⟩, hb1⟩
  obtain ⟨g, cg, rfl, _, hp⟩ := penAt_read HV.out (h1 trivial)
  have C1 : Off (∀ c, Calls Try.prog 47 #[.slice (some ⟨g, 0, none⟩) xs.length c, .int .i64 1] w1 fun e w' => e = .returned (.tuple #[.int .i64 (allG xs 1), .int .i64 1]) ∧ Below w1.heap.size w1 w') := ⟨fun c => by have := grown_any xs g c w1 1 (by omega) hp; rwa [HO.out.1.1] at this⟩
  have C2 : Off (∀ W c, Below w1.heap.size w1 W → Calls Try.prog 54 #[.slice (some ⟨g, 0, none⟩) xs.length c, .bool true] W fun e w' => e = .returned (.bool true) ∧ Below W.heap.size W w') := ⟨fun W c hb => by have := convex_any xs g c true W (hp.below hb); rwa [HO.out.1.2] at this⟩
  have C3 : Off (∀ W c, Below w1.heap.size w1 W → Calls Try.prog 55 #[.slice (some ⟨g, 0, none⟩) xs.length c, .agg #[.int .i64 0, .int .i64 0]] W fun e w' => e = .returned (.int .i64 1) ∧ Below W.heap.size W w') := ⟨fun W c hb => by have := where_pen xs g c (0, 0) W (hp.below hb) (by decide); rwa [HO.out.2] at this⟩
  have HPn := Off.mk hp
  obtain ⟨al, hal⟩ : ∃ al, al = allG xs 1 := ⟨_, rfl⟩
  rw [← hal] at C1
  have HB1 := Off.mk hb1
  clear h1 hp hal hb1
  go_wp2_with fail
  refine (C1.out _).mono ?_
  rintro e w2 ⟨rfl, hb2⟩
  go_wp2_with fail
  refine (C2.out _ _ hb2).mono ?_
  rintro e w3 ⟨rfl, hb3⟩
  go_wp2_with fail
  refine (C3.out _ _ (belowC hb2 hb3)).mono ?_
  rintro e w4 ⟨rfl, hb4⟩
  have HB4 := Off.mk (belowC (belowC hb2 hb3) hb4)
  clear hb2 hb3 hb4
  go_wp2_with fail
  refine (CS.out _ _ _ _).mono ?_
  rintro e w5 ⟨rfl, hw5⟩
  have hba : Below w4.heap.size w4 w5 := by rw [hw5]; exact belowA (belowA (Below.refl _ w4) _) _
  have bP : Boxed w5 w4.heap.size 57 (.slice none 0 0) := by rw [hw5]; exact (Boxed.new w4 57 (.slice none 0 0)).alloc _
  have bC : Boxed w5 (w4.heap.size + 1) 58 (.slice (some ⟨g, 0, none⟩) xs.length cg) := by
    rw [hw5]
    have := Boxed.new (w4.alloc (.cells #[.slice none 0 0] 57)) 58 (.slice (some ⟨g, 0, none⟩) xs.length cg)
    rwa [World.size_alloc] at this
  have hsz : w5.heap.size = w4.heap.size + 2 := by rw [hw5]; simp
  have HP5 := Off.mk ((HPn.out.below HB4.out).below hba)
  have hg5 := (HPn.out.below HB4.out).lt
  have h60 := HPn.out.few
  have HB45 := Off.mk hba
  have hw14 := HB4.out.size
  have hw41 := HB1.out.size
  clear hba hw5 C1 C2 C3 CR HPn
  go_wp2_with fail
  obtain ⟨p, hp⟩ : ∃ p, p = w4.heap.size := ⟨_, rfl⟩
  rw [← hp] at bP bC hsz hg5 hw14 HB45 ⊢
  have HP := Off.mk hp
  clear hp
  refine (wpIn_wide (n := 9)).1 ?_
  refine wpIn_rangeFunc_ownH (F := Fence.wide) (n := 9) rfl (by omega) (gf := 94) (lb := #[.pointer (some ⟨p + 1, 0, none⟩)]) rfl trivial (enters_of Try.func94 (by kernel_rfl) rfl)
    (sides_stops_but Fence.wide 8 trivial rfl (by omega) p (p + 1) w5.heap.size g cg xs h60 w5 (by omega) (by omega) (Nat.le_refl _) bC.cell HP5.out.cell) KeptBut.trans (KeptBut.b (Nat.le_refl _)) (Below.refl _ _) (fun _ => rfl)
    (fun pre W => (∃ v, Boxed W p 57 v ∧ W.ownsRow w5.heap.size 70 2 v (pre.map fun i => oppAt xs i.val).length (pairCells (pre.map fun i => oppAt xs i.val)) ∧ True) ∧ (Below p w4 W ∧ KeptBut p w5.heap.size w5 W))
    (fun _ _ _ => False)
    (OwnFrom.and (Own.from (holdsRow_own _ _ _ _ _ _ _ (fun _ _ => True)) _) (OwnFrom.and (ownFrom_below (by have := HP.out; omega) (by omega)) (ownFrom_kept _ _ _ _ (Nat.le_refl _) (Nat.le_refl _))))
    (fun _ _ _ _ _ h _ _ => h)
    ⟨⟨_, bP, World.ownsRow_nil _ _ _ _, trivial⟩, HB45.out, KeptBut.refl _ _ _⟩
    (fun x a' W => ∃ Bi, w5.heap.size ≤ Bi ∧ W.heap[Bi]? = some (.cells #[Value.int IntKind.i64 (sideAt xs x.val).1.1, Value.int IntKind.i64 (sideAt xs x.val).1.2, Value.int IntKind.i64 (sideAt xs x.val).2.1, Value.int IntKind.i64 (sideAt xs x.val).2.2] 75 (0, 0)) ∧ a' = { tmps := #[Value.slice A xs.length c, undef, Value.slice none 0 0, Value.int IntKind.i64 0, Value.slice (some ⟨g, 0, none⟩) xs.length cg, Value.bool true, Value.int IntKind.i64 al, Value.int IntKind.i64 1, Value.pointer (some ⟨p, 0, none⟩), undef, Value.pointer (some ⟨Bi, 0, none⟩), undef, Value.tuple #[Value.slice (some ⟨g, 0, none⟩) xs.length cg, Value.bool true], Value.slice A xs.length c, Value.tuple #[Value.slice (some ⟨g, 0, none⟩) xs.length cg, Value.bool true], Value.slice (some ⟨g, 0, none⟩) xs.length cg, Value.bool true, Value.bool true, Value.bool false, Value.tuple #[Value.int IntKind.i64 al, Value.int IntKind.i64 1], Value.slice (some ⟨g, 0, none⟩) xs.length cg, Value.tuple #[Value.int IntKind.i64 al, Value.int IntKind.i64 1], Value.int IntKind.i64 al, Value.int IntKind.i64 1, Value.int IntKind.i64 1, Value.bool false, Value.bool false, Value.slice (some ⟨g, 0, none⟩) xs.length cg, Value.bool true, Value.bool false, Value.bool false, Value.bool false, Value.slice (some ⟨g, 0, none⟩) xs.length cg, Value.agg #[Value.int IntKind.i64 0, Value.int IntKind.i64 0], Value.int IntKind.i64 1, Value.bool false, Value.bool false, Value.slice (some ⟨g, 0, none⟩) xs.length cg, Value.func (Fn.func 94) #[] #[Value.pointer (some ⟨p + 1, 0, none⟩)], Value.int IntKind.i64 ↑x.val, sdV (sideAt xs x.val), undef, undef, undef, undef, undef, undef, undef, undef, undef, undef, undef, undef, undef, undef, undef, undef, undef, undef, undef, undef, undef, undef, undef, undef, undef, undef, undef, undef, undef], defers := [] })
    (fun x a' _ X Y row hs hg hr => by obtain ⟨Bi, e1, e3, e4⟩ := hs; exact ⟨Bi, e1, block_kept e3 hg (fun r e => (hr r e).2), e4⟩)
    ?assign ?body ?done ?stop
  case assign =>
    rintro l pre x W K ⟨⟨v, hq, hO, _⟩, hB, hKb⟩ hK
    have hs3 := hKb.size
    simp only [sideEnc]
    gi_wp2
    exact hK _ _ ((KeepsOthers.alloc _ _).from _) (KeptBut.of_below ((Below.refl _ W).alloc hs3 _)) ⟨⟨v, hq.alloc _, hO.alloc _, trivial⟩, hB.alloc (by have := hB.size; omega) _, hKb.trans (KeptBut.of_below ((Below.refl _ W).alloc hs3 _))⟩
      ⟨W.heap.size, hs3, block_new W (.cells #[Value.int IntKind.i64 (sideAt xs x.val).1.1, Value.int IntKind.i64 (sideAt xs x.val).1.2, Value.int IntKind.i64 (sideAt xs x.val).2.1, Value.int IntKind.i64 (sideAt xs x.val).2.2] 75), rfl⟩
  case body =>
    rintro l pre x a' W hl ⟨r, hr⟩ ⟨⟨v, hq, hO, _⟩, hB, hKb⟩ ⟨Bi, hBi, bS, rfl⟩ hlt
    have hs3 := hKb.size
    obtain ⟨s, hs⟩ : ∃ s, s = sideAt xs x.val := ⟨_, rfl⟩
    have hs1 : inB 50 s.1 := by rw [hs]; exact HP5.out.near _
    have hs2 : inB 50 s.2 := by rw [hs]; exact HP5.out.near _
    obtain ⟨d, hdd⟩ : ∃ d, d = crossP s.1 s.2 := ⟨_, rfl⟩
    have hd0 : d ≠ 0 := by rw [hdd, hs]; exact HD.out _ x.isLt
    obtain ⟨o, ho⟩ : ∃ o, o = oppAt xs x.val := ⟨_, rfl⟩
    have ho1 : (s.2.2 - s.1.2).tdiv d = o.1 := by rw [ho, hdd, hs]; rfl
    have ho2 : (s.1.1 - s.2.1).tdiv d = o.2 := by rw [ho, hdd, hs]; rfl
    have hoo : pre.map (fun i => oppAt xs i.val) ++ [(o.1, o.2)] = (pre ++ [x]).map fun i => oppAt xs i.val := by rw [List.map_append, ho]; rfl
    have hl100 : (pre.map fun i => oppAt xs i.val).length ≤ 1000 := by rw [List.length_map]; omega
    have hdb := cross_50 hs1 hs2
    rw [← hdd] at hdb
    have W1 : IntKind.i64.wrap (s.2.2 - s.1.2) = s.2.2 - s.1.2 := by unfold inB at hs1 hs2; rw [IntKind.wrap_i64]; omega
    have W2' : IntKind.i64.wrap (s.1.1 - s.2.1) = s.1.1 - s.2.1 := by unfold inB at hs1 hs2; rw [IntKind.wrap_i64]; omega
    have Z1 := Int.natAbs_tdiv_le_natAbs (s.2.2 - s.1.2) d
    have Z2 := Int.natAbs_tdiv_le_natAbs (s.1.1 - s.2.1) d
    have W3' : IntKind.i64.wrap ((s.2.2 - s.1.2).tdiv d) = o.1 := by rw [← ho1]; unfold inB at hs1 hs2; rw [IntKind.wrap_i64]; omega
    have W4' : IntKind.i64.wrap ((s.1.1 - s.2.1).tdiv d) = o.2 := by rw [← ho2]; unfold inB at hs1 hs2; rw [IntKind.wrap_i64]; omega
    have C1 : Off (∀ W, Calls Try.prog 57 #[ptV s.1, ptV s.2] W fun e w' => e = .returned (.int .i64 d) ∧ Below W.heap.size W w') := ⟨fun W => by rw [hdd]; exact cross_any s.1 s.2 (inB_mono hs1 (by decide)) (inB_mono hs2 (by decide)) W⟩
    have HOO := Off.mk hoo
    obtain ⟨ys, hys⟩ : ∃ ys, ys = pre.map fun i => oppAt xs i.val := ⟨_, rfl⟩
    rw [← hys] at hO HOO hl100
    rw [← hs] at bS ⊢
    clear hdd hs ho ho1 ho2 hoo hys hs1 hs2 hdb Z1 Z2
    obtain ⟨⟨s0, s1, s2, s3⟩, _⟩ := four_facts bS
    gi_wp2_with fail
    refine ⟨trivial, ?_⟩
    refine (CallsIn.inRound l (callsIn_wide.2 (C1.out _))).mono ?_
    rintro e W2 ⟨rfl, hb2⟩
    have s0 := cellB hb2 s0
    have s1 := cellB hb2 s1
    have s2 := cellB hb2 s2
    have s3 := cellB hb2 s3
    have hq : Boxed W2 p 57 v := (hb2.block p hq.lt).trans hq
    have hO := ownQ_below (e := 70) ⟨hO⟩ hb2
    have bS := blockB hb2 bS
    have cq := hq.cell
    have hs2 : w5.heap.size ≤ W2.heap.size := Nat.le_trans hs3 hb2.size
    gi_wp2_with fail
    refine region_anyS' (S := (fun w' => ((w'.cell? ⟨Bi, 0, none⟩ = some (.int .i64 s.1.1) ∧ w'.cell? ⟨Bi, 1, none⟩ = some (.int .i64 s.1.2)) ∧ (w'.cell? ⟨Bi, 2, none⟩ = some (.int .i64 s.2.1) ∧ w'.cell? ⟨Bi, 3, none⟩ = some (.int .i64 s.2.2))) ∧ w'.cell? ⟨p, 0, none⟩ = some v)) 22 (by kernel_rfl) ⟨⟨⟨s0, s1⟩, s2, s3⟩, cq⟩ (fun hInv hHeld => ?_)
    refine anyS_take (i := 0) (oi := ⟨some 46, _, _, _, _, _⟩) (v := ?_) (by kernel_rfl) rfl (by kernel_rfl) (by kernel_rfl) (by kernel_rfl) (by kernel_rfl) (fun _ _ _ h => h) (Or.inl ⟨by rfl, by intro w hSw; (try dsimp only at hSw); go_simp; try with_reducible rfl⟩) (fun _ => by first | rfl | simp [Oper.about, resolve, go_sem]) hInv hHeld (fun hInv hHeld => ?_)
    try simp only [Act.put, List.setIfInBounds_toArray, List.set_cons_zero, List.set_cons_succ]
    refine anyS_take (i := 1) (oi := ⟨some 47, _, _, _, _, _⟩) (v := ?_) (by kernel_rfl) rfl (by kernel_rfl) (by kernel_rfl) (by kernel_rfl) (by kernel_rfl) (fun _ _ _ h => h) (Or.inl ⟨by rfl, by intro w hSw; (try dsimp only at hSw); go_simp; try with_reducible rfl⟩) (fun _ => by first | rfl | simp [Oper.about, resolve, go_sem]) hInv hHeld (fun hInv hHeld => ?_)
    try simp only [Act.put, List.setIfInBounds_toArray, List.set_cons_zero, List.set_cons_succ]
    refine anyS_take (i := 2) (oi := ⟨some 48, _, _, _, _, _⟩) (v := ?_) (by kernel_rfl) rfl (by kernel_rfl) (by kernel_rfl) (by kernel_rfl) (by kernel_rfl) (fun _ _ _ h => h) (Or.inl ⟨by rfl, by intro w hSw; (try dsimp only at hSw); go_simp; try with_reducible rfl⟩) (fun _ => by first | rfl | simp [Oper.about, resolve, go_sem]) hInv hHeld (fun hInv hHeld => ?_)
    try simp only [Act.put, List.setIfInBounds_toArray, List.set_cons_zero, List.set_cons_succ]
    refine anyS_take (i := 3) (oi := ⟨some 49, _, _, _, _, _⟩) (v := ?_) (by kernel_rfl) rfl (by kernel_rfl) (by kernel_rfl) (by kernel_rfl) (by kernel_rfl) (fun _ _ _ h => h) (Or.inl ⟨by rfl, by intro w hSw; (try dsimp only at hSw); go_simp; try with_reducible rfl⟩) (fun _ => by first | rfl | simp [Oper.about, resolve, go_sem]) hInv hHeld (fun hInv hHeld => ?_)
    try simp only [Act.put, List.setIfInBounds_toArray, List.set_cons_zero, List.set_cons_succ]
    refine anyS_take (i := 4) (oi := ⟨some 50, _, _, _, _, _⟩) (v := ?_) (by kernel_rfl) rfl (by kernel_rfl) (by kernel_rfl) (by kernel_rfl) (by kernel_rfl) (fun _ _ _ h => h) (Or.inl ⟨by rfl, by intro w hSw; (try dsimp only at hSw); go_simp; try with_reducible rfl⟩) (fun _ => by first | rfl | simp [Oper.about, resolve, go_sem]) hInv hHeld (fun hInv hHeld => ?_)
    try simp only [Act.put, List.setIfInBounds_toArray, List.set_cons_zero, List.set_cons_succ]
    refine anyS_take (i := 5) (oi := ⟨some 51, _, _, _, _, _⟩) (v := ?_) (by kernel_rfl) rfl (by kernel_rfl) (by kernel_rfl) (by kernel_rfl) (by kernel_rfl) (fun _ _ _ h => h) (Or.inl ⟨by rfl, by intro w hSw; (try dsimp only at hSw); go_simp; try with_reducible rfl⟩) (fun _ => by first | rfl | simp [Oper.about, resolve, go_sem]) hInv hHeld (fun hInv hHeld => ?_)
    try simp only [Act.put, List.setIfInBounds_toArray, List.set_cons_zero, List.set_cons_succ]
    refine anyS_take (i := 6) (oi := ⟨some 52, _, _, _, _, _⟩) (v := ?_) (by kernel_rfl) rfl (by kernel_rfl) (by kernel_rfl) (by kernel_rfl) (by kernel_rfl) (fun _ _ _ h => h) (Or.inl ⟨by rfl, by intro w hSw; (try dsimp only at hSw); go_simp; try with_reducible rfl⟩) (fun _ => by first | rfl | simp [Oper.about, resolve, go_sem]) hInv hHeld (fun hInv hHeld => ?_)
    try simp only [Act.put, List.setIfInBounds_toArray, List.set_cons_zero, List.set_cons_succ]
    refine anyS_take (i := 7) (oi := ⟨some 53, _, _, _, _, _⟩) (v := ?_) (by kernel_rfl) rfl (by kernel_rfl) (by kernel_rfl) (by kernel_rfl) (by kernel_rfl) (fun _ _ _ h => h) (Or.inl ⟨by rfl, by intro w hSw; (try dsimp only at hSw); go_simp; try with_reducible rfl⟩) (fun _ => by first | rfl | simp [Oper.about, resolve, go_sem]) hInv hHeld (fun hInv hHeld => ?_)
    try simp only [Act.put, List.setIfInBounds_toArray, List.set_cons_zero, List.set_cons_succ]
    refine anyS_take (i := 8) (oi := ⟨some 54, _, _, _, _, _⟩) (v := ?_) (by kernel_rfl) rfl (by kernel_rfl) (by kernel_rfl) (by kernel_rfl) (by kernel_rfl) (fun _ _ _ h => h) (Or.inl ⟨by rfl, by intro w hSw; (try dsimp only at hSw); go_simp; try with_reducible rfl⟩) (fun _ => by first | rfl | simp [Oper.about, resolve, go_sem]) hInv hHeld (fun hInv hHeld => ?_)
    try simp only [Act.put, List.setIfInBounds_toArray, List.set_cons_zero, List.set_cons_succ]
    refine anyS_take (i := 9) (oi := ⟨some 55, _, _, _, _, _⟩) (v := ?_) (by kernel_rfl) rfl (by kernel_rfl) (by kernel_rfl) (by kernel_rfl) (by kernel_rfl) (fun _ _ _ h => h) (Or.inl ⟨by rfl, by intro w hSw; (try dsimp only at hSw); go_simp; try with_reducible rfl⟩) (fun _ => by first | rfl | simp [Oper.about, resolve, go_sem]) hInv hHeld (fun hInv hHeld => ?_)
    try simp only [Act.put, List.setIfInBounds_toArray, List.set_cons_zero, List.set_cons_succ]
    refine anyS_take (i := 10) (oi := ⟨some 56, _, _, _, _, _⟩) (v := ?_) (by kernel_rfl) rfl (by kernel_rfl) (by kernel_rfl) (by kernel_rfl) (by kernel_rfl) (fun _ _ _ h => h) (Or.inl ⟨by rfl, by intro w hSw; (try dsimp only at hSw); go_simp; try with_reducible rfl⟩) (fun _ => by first | rfl | simp [Oper.about, resolve, go_sem]) hInv hHeld (fun hInv hHeld => ?_)
    try simp only [Act.put, List.setIfInBounds_toArray, List.set_cons_zero, List.set_cons_succ]
    refine anyS_take (i := 11) (oi := ⟨some 57, _, _, _, _, _⟩) (v := ?_) (by kernel_rfl) rfl (by kernel_rfl) (by kernel_rfl) (by kernel_rfl) (by kernel_rfl) (fun _ _ _ h => h) (Or.inl ⟨by rfl, by intro w hSw; (try dsimp only at hSw); go_simp; try with_reducible rfl⟩) (fun _ => by first | rfl | simp [Oper.about, resolve, go_sem]) hInv hHeld (fun hInv hHeld => ?_)
    try simp only [Act.put, List.setIfInBounds_toArray, List.set_cons_zero, List.set_cons_succ]
    refine anyS_take (i := 12) (oi := ⟨some 58, _, _, _, _, _⟩) (v := ?_) (by kernel_rfl) rfl (by kernel_rfl) (by kernel_rfl) (by kernel_rfl) (by kernel_rfl) (fun _ _ _ h => h) (Or.inl ⟨by rfl, by intro w hSw; (try dsimp only at hSw); go_simp; try with_reducible rfl⟩) (fun _ => by first | rfl | simp [Oper.about, resolve, go_sem]) hInv hHeld (fun hInv hHeld => ?_)
    try simp only [Act.put, List.setIfInBounds_toArray, List.set_cons_zero, List.set_cons_succ]
    refine anyS_take (i := 13) (oi := ⟨some 59, _, _, _, _, _⟩) (v := ?_) (by kernel_rfl) rfl (by kernel_rfl) (by kernel_rfl) (by kernel_rfl) (by kernel_rfl) (fun _ _ _ h => h) (Or.inl ⟨by rfl, by intro w hSw; (try dsimp only at hSw); go_simp; try with_reducible rfl⟩) (fun _ => by first | rfl | simp [Oper.about, resolve, go_sem]) hInv hHeld (fun hInv hHeld => ?_)
    try simp only [Act.put, List.setIfInBounds_toArray, List.set_cons_zero, List.set_cons_succ]
    refine anyS_take (i := 14) (oi := ⟨some 60, _, _, _, _, _⟩) (v := ?_) (by kernel_rfl) rfl (by kernel_rfl) (by kernel_rfl) (by kernel_rfl) (by kernel_rfl) (fun _ _ _ h => h) (Or.inl ⟨by rfl, by intro w hSw; (try dsimp only at hSw); go_simp; try with_reducible rfl⟩) (fun _ => by first | rfl | simp [Oper.about, resolve, go_sem]) hInv hHeld (fun hInv hHeld => ?_)
    try simp only [Act.put, List.setIfInBounds_toArray, List.set_cons_zero, List.set_cons_succ]
    refine anyS_take (i := 15) (oi := ⟨some 61, _, _, _, _, _⟩) (v := ?_) (by kernel_rfl) rfl (by kernel_rfl) (by kernel_rfl) (by kernel_rfl) (by kernel_rfl) (fun _ _ _ h => h) (Or.inl ⟨by rfl, by intro w hSw; (try dsimp only at hSw); go_simp; try with_reducible rfl⟩) (fun _ => by first | rfl | simp [Oper.about, resolve, go_sem]) hInv hHeld (fun hInv hHeld => ?_)
    try simp only [Act.put, List.setIfInBounds_toArray, List.set_cons_zero, List.set_cons_succ]
    refine anyS_take (i := 16) (oi := ⟨some 62, _, _, _, _, _⟩) (v := ?_) (by kernel_rfl) rfl (by kernel_rfl) (by kernel_rfl) (by kernel_rfl) (by kernel_rfl) (fun _ _ _ h => h) (Or.inl ⟨by rfl, by intro w hSw; (try dsimp only at hSw); go_simp; try with_reducible rfl⟩) (fun _ => by first | rfl | simp [Oper.about, resolve, go_sem]) hInv hHeld (fun hInv hHeld => ?_)
    try simp only [Act.put, List.setIfInBounds_toArray, List.set_cons_zero, List.set_cons_succ]
    refine anyS_take (i := 17) (oi := ⟨some 63, _, _, _, _, _⟩) (v := ?_) (by kernel_rfl) rfl (by kernel_rfl) (by kernel_rfl) (by kernel_rfl) (by kernel_rfl) (fun _ _ _ h => h) (Or.inl ⟨by rfl, by intro w hSw; (try dsimp only at hSw); go_simp; try with_reducible rfl⟩) (fun _ => by first | rfl | simp [Oper.about, resolve, go_sem]) hInv hHeld (fun hInv hHeld => ?_)
    try simp only [Act.put, List.setIfInBounds_toArray, List.set_cons_zero, List.set_cons_succ]
    refine anyS_take (i := 18) (oi := ⟨some 64, _, _, _, _, _⟩) (v := ?_) (by kernel_rfl) rfl (by kernel_rfl) (by kernel_rfl) (by kernel_rfl) (by kernel_rfl) (fun _ _ _ h => h) (Or.inl ⟨by rfl, by intro w hSw; (try dsimp only at hSw); go_simp; try with_reducible rfl⟩) (fun _ => by first | rfl | simp [Oper.about, resolve, go_sem]) hInv hHeld (fun hInv hHeld => ?_)
    try simp only [Act.put, List.setIfInBounds_toArray, List.set_cons_zero, List.set_cons_succ]
    refine anyS_take (i := 19) (oi := ⟨some 65, _, _, _, _, _⟩) (v := ?_) (by kernel_rfl) rfl (by kernel_rfl) (by kernel_rfl) (by kernel_rfl) (by kernel_rfl) (fun _ _ _ h => h) (Or.inl ⟨by rfl, by intro w hSw; (try dsimp only at hSw); go_simp; try with_reducible rfl⟩) (fun _ => by first | rfl | simp [Oper.about, resolve, go_sem]) hInv hHeld (fun hInv hHeld => ?_)
    try simp only [Act.put, List.setIfInBounds_toArray, List.set_cons_zero, List.set_cons_succ]
    obtain ⟨V0, hV0⟩ : ∃ V, W2.drew = V := ⟨_, rfl⟩
    have hO0 : OwnQ 70 V0 w5.heap.size v ys := by rw [← hV0]; exact ⟨hO.out⟩
    have hq0 : Boxed V0 p 57 v := by rw [← hV0]; exact hq
    have bS0 : V0.heap[Bi]? = some (.cells #[.int .i64 s.1.1, .int .i64 s.1.2, .int .i64 s.2.1, .int .i64 s.2.2] 75 (0, 0)) := by rw [← hV0]; exact bS
    have hs0 : w5.heap.size ≤ V0.heap.size := by rw [← hV0]; exact hs2
    have hb0 : Below W.heap.size W V0 := by rw [← hV0]; exact ⟨hb2.os, hb2.tape, hb2.output, hb2.size, hb2.block⟩
    rw [hV0] at hHeld ⊢
    clear hV0 hO hq bS cq s0 s1 s2 s3 hb2
    have hba := (Below.refl _ V0).alloc (Nat.le_refl _) (.cells #[.int .i64 o.1, .int .i64 o.2] 70)
    refine anyS_one (i := 20) (o := ⟨some 66, _, _, _, _, _⟩) (by kernel_rfl) rfl hInv (fun K hK => ?_)
    go_simp
    refine hK.out _ _ (fun _ => by obtain ⟨⟨s0, s1, s2, s3⟩, _⟩ := four_facts bS0; exact ⟨⟨⟨cellB hba s0, cellB hba s1⟩, cellB hba s2, cellB hba s3⟩, cellB hba hq0.cell⟩) (fun hInv hHeld => ?_)
    clear hK K
    try simp only [Act.put, List.setIfInBounds_toArray, List.set_cons_zero, List.set_cons_succ]
    refine anyS_one (i := 21) (o := ⟨some 67, _, _, _, _, _⟩) (by kernel_rfl) rfl hInv (fun K hK => ?_)
    refine append_pairIn (l := l) rfl _ _ rfl w5.heap.size v ys o.1 o.2 hO0 hl100 hs0 rfl rfl ?_
    intro v' w6 hO6 hg6
    have hap := Boxed.appended (n₀ := p) hq0 (by decide) (ownQ_mono hO0 (by omega)).out (by omega) (Nat.le_refl _) (ownQ_mono hO6 (by omega)).out hg6
    have bS6 := row_kept bS0 hg6 hO0.out (by decide)
    obtain ⟨gq, cq', rfl⟩ := ownsRow_succ (k := ys.length) (by have := hO6.out; rwa [List.length_append] at this)
    clear hHeld
    refine hK.out _ _ (fun _ => by obtain ⟨⟨s0, s1, s2, s3⟩, _⟩ := four_facts bS6; exact ⟨⟨⟨s0, s1⟩, s2, s3⟩, hap.1.cell⟩) (fun hInv hHeld => ?_)
    clear hK K
    try simp only [Act.put, List.setIfInBounds_toArray, List.set_cons_zero, List.set_cons_succ]
    have cq6 := hap.1.cell
    have fq6 := hap.1.frozen
    refine anyS_one (i := 22) (o := ⟨none, _, _, _, _, _⟩) (by kernel_rfl) rfl hInv (fun K hK => ?_)
    go_simp
    refine hK.out _ _ (fun e => absurd (show true = false from e) (by decide)) (fun hInv hHeld => ?_)
    clear hK K
    try simp only [Act.put, List.setIfInBounds_toArray, List.set_cons_zero, List.set_cons_succ]
    refine anyS_done (by kernel_rfl) ?_ _
    gi_wp2
    have hV6 : Below w5.heap.size V0 w6 := ((Below.refl _ V0).alloc hs0 _).grown hg6 (by simp; omega) (fun k e => ownQ_base hO0 e)
    have hKb' : KeptBut p w5.heap.size W w6 := (KeptBut.of_below (hb0.mono hs3)).trans (KeptBut.of_below hV6)
    have hsz6 : w5.heap.size ≤ w6.heap.size := Nat.le_trans hs0 hV6.size
    refine ⟨(keepsFrom_below hb0).trans (hap.2.2.2.1.from _), hKb'.trans (KeptBut.of_set _ _ hsz6), ⟨_, hap.2.1, ?_, trivial⟩, (hB.trans (hb0.mono (by omega))).trans hap.2.2.2.2, (hKb.trans hKb').trans (KeptBut.of_set _ _ hsz6)⟩
    rw [← HOO.out]
    exact ownsRow_setCell_below hO6.out (by simp only; omega) _
  case stop => exact fun _ _ _ _ _ _ h _ => h.elim
  case done =>
    rintro D ys W hD rfl ⟨⟨v, hq, hO, _⟩, hB, hKb⟩ hdf
    have hlen : ((List.finRange xs.length).map fun i => oppAt xs i.val).length ≤ 60 := by rw [List.length_map, List.length_finRange]; exact h60
    obtain ⟨A', c', rfl, hpr, _⟩ := ownQ_pairs (e := 70) ⟨hO⟩ (by omega)
    have CB := Off.mk (fun W' (hb : Below W.heap.size W W') => back_any _ A' c' W' hlen (hpr.below hb))
    have cq := hq.cell
    rw [← HP.out] at *
    obtain ⟨m, hm⟩ : ∃ m, m = ((List.finRange xs.length).map fun i => oppAt xs i.val).length := ⟨_, rfl⟩
    rw [← hm] at cq CB
    have HB := Off.mk hB
    have HDF := Off.mk hdf
    clear hO hpr hq hlen hm hB hKb hdf
    gi_wp2_with fail
    go_wp2_with fail
    refine (CB.out _ (Below.refl _ _)).mono ?_
    rintro e w6 ⟨u, rfl, hO6, hb6⟩
    have hD6 := (hb6.block D (Array.getElem?_eq_some_iff.1 HDF.out).1).trans HDF.out
    have HB6 := Off.mk hb6
    have HO6 := Off.mk hO6
    have HD6 := Off.mk hD6
    clear hb6 hO6 hD6
    go_wp2
    refine ⟨by simp, .inl ⟨_, _, rfl, run_takeDeferred HD6.out, ?_⟩⟩
    have hpW := HB.out.size
    have hbw4 := belowC HB1.out HB4.out
    have hww4 := hbw4.size
    have hbwW : Below w.heap.size w W := hbw4.trans (HB.out.mono (by omega))
    have hbw6 : Below w.heap.size w w6 := hbwW.trans (HB6.out.mono hbwW.size)
    refine ⟨.tuple #[u, .int .i64 0], by simp [results, Try.results23, go_sem], ⟨u, rfl, ownQ_mono ⟨ownsRow_putObj HO6.out.out _ HD6.out rfl⟩ hbwW.size⟩, hbw6.trans (belowK_b (w := w) (Nat.le_refl _) _ D _ _ (by omega) HD6.out rfl rfl)⟩
end Go.Proofs.Ytbpmiphipjkdlaa
