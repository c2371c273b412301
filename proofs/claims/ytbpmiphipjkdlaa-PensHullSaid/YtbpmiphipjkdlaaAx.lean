/- Contracts: Split's closure; small at a triangle that has no other points. -/
import Derived.Test.YtbpmiphipjkdlaaAw
import Derived.Test.YtbpmiphipjkdlaaAu
namespace Go.Proofs.Ytbpmiphipjkdlaa
open Go.RowKit Go.Shelf
attribute [local go_sem] Oper.semAt_some

theorem info53 : (Try.prog.info? 53).map (fun i => (i.zero, i.size, i.bytes)) = some (some (.agg #[.int .i64 0, .int .i64 0, .int .i64 0, .int .i64 0, .int .i64 0, .int .i64 0]), 6, 48) := by kernel_rfl
def triC (t : Tri) : List Value := [.int .i64 t.a.1, .int .i64 t.a.2, .int .i64 t.b.1, .int .i64 t.b.2, .int .i64 t.c.1, .int .i64 t.c.2]
def triCells (ts : List Tri) : List Value := ts.flatMap triC
/-- A row of triangles of the call's own. -/
structure RowT (w : World) (base : Nat) (v : Value) (ts : List Tri) : Prop where
  out : w.ownsRow base 53 6 v ts.length (triCells ts)
theorem RowT.below {w w1 : World} {base : Nat} {v : Value} {ts : List Tri} (h : RowT w base v ts) (hb : Below w.heap.size w w1) : RowT w1 base v ts := ⟨owns_below h.out hb⟩
theorem append_triIn {F : Fence} {n : Nat} {a : Act} {w : World} {K : Act → World → Prop} {Q : Exit → Act → World → Prop} {o : Oper} (s x : Operand)
    (ho : o.op = .call { callee := .builtin .append, args := #[s, x], argTypes := #[49, 49] }) (base : Nat) (v : Value) (ts : List Tri) (t : Tri) (hO : RowT w base v ts) (h100 : ts.length ≤ 100000) (hb : base ≤ w.heap.size)
    (hs : a.eval s = v) (hx : a.eval x = .slice (some ⟨w.heap.size, 0, none⟩) 1 1)
    (h : ∀ v' w', RowT w' base v' (ts ++ [t]) → (w.alloc (.cells #[.int .i64 t.a.1, .int .i64 t.a.2, .int .i64 t.b.1, .int .i64 t.b.2, .int .i64 t.c.1, .int .i64 t.c.2] 53)).grownBy w' v.ownBlock → K (a.put o.dst v') w') :
    Oper.wpIn F n Try.prog o a (w.alloc (.cells #[.int .i64 t.a.1, .int .i64 t.a.2, .int .i64 t.b.1, .int .i64 t.b.2, .int .i64 t.c.1, .int .i64 t.c.2] 53)) K Q := by
  obtain ⟨i0, hi, hz0, hz1, hz2⟩ := info_parts info53
  have c1 : ∀ k u, (triC t)[k]? = some u → (w.alloc (.cells #[.int .i64 t.a.1, .int .i64 t.a.2, .int .i64 t.b.1, .int .i64 t.b.2, .int .i64 t.c.1, .int .i64 t.c.2] 53)).cell? ((⟨w.heap.size, 0, none⟩ : Addr).add k) = some u := by
    intro k u hk
    match k, hk with
    | 0, hk => simp [triC] at hk; subst hk; simp [Addr.add_lit]
    | 1, hk => simp [triC] at hk; subst hk; simp [Addr.add_lit]
    | 2, hk => simp [triC] at hk; subst hk; simp [Addr.add_lit]
    | 3, hk => simp [triC] at hk; subst hk; simp [Addr.add_lit]
    | 4, hk => simp [triC] at hk; subst hk; simp [Addr.add_lit]
    | 5, hk => simp [triC] at hk; subst hk; simp [Addr.add_lit]
    | k + 6, hk => simp [triC] at hk
  have c2 : ∀ u ∈ triC t, u.oneCell' = true := by intro u hu; simp [triC] at hu; rcases hu with rfl | rfl | rfl | rfl | rfl | rfl <;> rfl
  obtain ⟨v', w', hr, h2, h3, h4⟩ := run_append_own (P := Try.prog) _ base 49 o.type 53 i0 _ 6 48 Try.underlying49 hi hz0 hz1 hz2 rfl (by decide) v ts.length _ (hO.out.alloc _) ⟨w.heap.size, 0, none⟩ 1 1 (triC t) rfl c1 c2 (by unfold maxLen; omega) (by omega) (by simp; omega)
  refine ⟨fun f hf => ?_, ?_⟩
  · simp [Oper.about, ho, resolve, Sem.run_pure, go_sem] at hf
  · rw [Oper.semAt_eq _ _ _ (fun c => by rw [ho]; simp)]
    unfold execOp
    simp only [ho, resolve, invoke, builtin, Sem.run_bind, Sem.run_pure, Result.andThen_ok, List.map_toArray, List.map_cons, List.map_nil, hs, hx, hr]
    exact h v' w' ⟨by rw [List.length_append]; simpa [triCells] using h2⟩ h3
theorem own3_block {e : TypeId} {w : World} {base : Nat} {v : Value} {t : Tri} (h : OwnQ e w base v (triL t)) : ∃ g c, v = .slice (some ⟨g, 0, none⟩) 3 c ∧ base ≤ g ∧ 3 ≤ c ∧
    (w.cell? ⟨g, 0, none⟩ = some (.int .i64 t.a.1) ∧ w.cell? ⟨g, 1, none⟩ = some (.int .i64 t.a.2)) ∧ (w.cell? ⟨g, 2, none⟩ = some (.int .i64 t.b.1) ∧ w.cell? ⟨g, 3, none⟩ = some (.int .i64 t.b.2)) ∧ w.cell? ⟨g, 4, none⟩ = some (.int .i64 t.c.1) ∧ w.cell? ⟨g, 5, none⟩ = some (.int .i64 t.c.2) := by
  obtain ⟨g, c, rfl, hb, hg, hL⟩ := ownQ_block h (by simp [triL])
  have hc : 3 ≤ c := by
    rcases h.out.2 with ⟨e1, _⟩ | ⟨g', cap, cur, e1, _, _, hcc, _⟩
    · cases e1
    · cases e1; exact hcc
  exact ⟨g, c, rfl, hb, hc, hL 0 (by simp [triL]), hL 1 (by simp [triL]), hL 2 (by simp [triL])⟩
theorem ownsRow_setCell_other {w : World} {base B size n : Nat} {e t : TypeId} {v u : Value} {xs : List Value} (h : w.ownsRow base e size v n xs) (hb : Boxed w B t u) (hte : t ≠ e) (x : Value) : (w.setCell ⟨B, 0, none⟩ x).ownsRow base e size v n xs :=
  h.kept (grownBy_setCell' w B x) (.inr (hb.not_row hte h).symm)
set_option maxRecDepth 100000 in
set_option maxHeartbeats 4000000 in
theorem split1_any (t : Tri) (B n₀ : Nat) (v : Value) (ts : List Tri) (w : World) (hv : Boxed w B 49 v) (hR : RowT w n₀ v ts) (hnB : n₀ ≤ B) (hts : ts.length ≤ 100000) :
    Calls Try.prog 75 #[triV t, .pointer (some ⟨B, 0, none⟩)] w fun e w' => e = .returned (.tuple #[]) ∧ (∃ v', Boxed w' B 49 v' ∧ RowT w' n₀ v' (ts ++ [t])) ∧ Below n₀ w w' := by
  have hs0 : n₀ ≤ w.heap.size := by have := hv.lt; omega
  have CB : Off (∀ W, Box6 W w.heap.size t → Calls Try.prog 58 #[.slice (some ⟨w.heap.size, 0, none⟩) 3 3] W fun e w' => ∃ v, e = .returned v ∧ OwnQ 34 w' W.heap.size v (triL t) ∧ Below W.heap.size W w') := ⟨fun W hb => back_any (triL t) _ 3 W (by simp [triL]) hb.pairs⟩
  obtain ⟨w0, hw0⟩ : ∃ W, w.alloc (.cells #[.int .i64 t.a.1, .int .i64 t.a.2, .int .i64 t.b.1, .int .i64 t.b.2, .int .i64 t.c.1, .int .i64 t.c.2] 85) = W := ⟨_, rfl⟩
  have hb0 : Below w.heap.size w w0 := by rw [← hw0]; exact belowA (Below.refl _ w) _
  have bT : Box6 w0 w.heap.size t := by rw [← hw0]; exact block_new w _
  have hv0 : Boxed w0.drew B 49 v := boxedB hb0 hv
  have hR0 : RowT w0.drew n₀ v ts := ⟨(hR.below hb0).out⟩
  have bT1 : Box6 w0.drew w.heap.size t := bT
  have hs0 : n₀ ≤ w0.drew.heap.size := Nat.le_trans hs0 hb0.size
  have HBn : Off (Below n₀ w w0.drew) := ⟨below_drew (hb0.mono (by have := hv.lt; omega))⟩
  have cv : w0.drew.cell? ⟨B, 0, none⟩ = some v := hv0.cell
  clear hR hv hb0
  refine (callsIn_wide (n := 9)).1 ?_
  refine callsIn_of_wp Try.func75 rfl trivial ?_ rfl
  simp only [Try.ntmps75, List.size_toArray, List.length_cons, List.length_nil, Nat.reduceAdd, Nat.reduceSub, Array.replicate_succ, Array.replicate_zero, List.push_toArray, List.append_toArray, List.nil_append, List.cons_append]
  gi_wp2_with fail
  refine region_anyS' (S := (fun w' => w'.cell? ⟨B, 0, none⟩ = some v)) 7 (by kernel_rfl) cv (fun hInv hHeld => ?_)
  refine anyS_take (i := 0) (oi := ⟨some 3, _, _, _, _, _⟩) (v := ?_) (by kernel_rfl) rfl (by kernel_rfl) (by kernel_rfl) (by kernel_rfl) (by kernel_rfl) (fun _ _ _ h => h) (Or.inl ⟨by rfl, by intro w hSw; (try dsimp only at hSw); go_simp; try with_reducible rfl⟩) (fun _ => by first | rfl | simp [Oper.about, resolve, go_sem]) hInv hHeld (fun hInv hHeld => ?_)
  try simp only [Act.put, List.setIfInBounds_toArray, List.set_cons_zero, List.set_cons_succ]
  refine anyS_take (i := 1) (oi := ⟨some 4, _, _, _, _, _⟩) (v := ?_) (by kernel_rfl) rfl (by kernel_rfl) (by kernel_rfl) (by kernel_rfl) (by kernel_rfl) (fun _ _ _ h => h) (Or.inl ⟨by rfl, by intro w hSw; (try dsimp only at hSw); go_simp; try with_reducible rfl⟩) (fun _ => by first | rfl | simp [Oper.about, resolve, go_sem]) hInv hHeld (fun hInv hHeld => ?_)
  try simp only [Act.put, List.setIfInBounds_toArray, List.set_cons_zero, List.set_cons_succ]
  refine anyS_one (i := 2) (o := ⟨some 5, _, _, _, _, _⟩) (by kernel_rfl) rfl hInv (fun K hK => ?_)
  go_simp
  refine ⟨trivial, ?_⟩
  refine (callsIn_wide.2 (CB.out _ bT1)).mono ?_
  rintro e W1 ⟨u, rfl, hO1, hb1⟩
  obtain ⟨g1, c1, rfl, hgb, hc1, hL1⟩ := own3_block hO1
  have hv1 := boxedB hb1 hv0
  refine hK.out _ _ (fun _ => hv1.cell) (fun hInv hHeld => ?_)
  clear hK K
  try simp only [Act.put, List.setIfInBounds_toArray, List.set_cons_zero, List.set_cons_succ]
  obtain ⟨⟨x0, x1⟩, ⟨x2, x3⟩, x4, x5⟩ := hL1
  refine anyS_one (i := 3) (o := ⟨some 6, _, _, _, _, _⟩) (by kernel_rfl) rfl hInv (fun K hK => ?_)
  go_simp
  refine hK.out _ _ (fun _ => hv1.cell) (fun hInv hHeld => ?_)
  clear hK K
  try simp only [Act.put, List.setIfInBounds_toArray, List.set_cons_zero, List.set_cons_succ]
  refine anyS_one (i := 4) (o := ⟨some 7, _, _, _, _, _⟩) (by kernel_rfl) rfl hInv (fun K hK => ?_)
  go_simp
  refine hK.out _ _ (fun _ => hv1.cell) (fun hInv hHeld => ?_)
  clear hK K
  try simp only [Act.put, List.setIfInBounds_toArray, List.set_cons_zero, List.set_cons_succ]
  refine anyS_one (i := 5) (o := ⟨some 8, _, _, _, _, _⟩) (by kernel_rfl) rfl hInv (fun K hK => ?_)
  go_simp
  refine hK.out _ _ (fun _ => (hv1.alloc _).cell) (fun hInv hHeld => ?_)
  clear hK K
  try simp only [Act.put, List.setIfInBounds_toArray, List.set_cons_zero, List.set_cons_succ]
  have hR1 : RowT W1 n₀ v ts := hR0.below hb1
  have hs1 : n₀ ≤ W1.heap.size := Nat.le_trans hs0 hb1.size
  refine anyS_one (i := 6) (o := ⟨some 9, _, _, _, _, _⟩) (by kernel_rfl) rfl hInv (fun K hK => ?_)
  refine append_triIn _ _ rfl n₀ v ts t hR1 hts hs1 rfl rfl ?_
  intro v' w6 hO6 hg6
  have hap := Boxed.appended (n₀ := n₀) hv1 (by decide) hR1.out hs1 hnB hO6.out hg6
  obtain ⟨gq, cq', rfl⟩ := ownsRow_succ (k := ts.length) (by have := hO6.out; rwa [List.length_append] at this)
  clear hHeld
  refine hK.out _ _ (fun _ => hap.1.cell) (fun hInv hHeld => ?_)
  clear hK K
  try simp only [Act.put, List.setIfInBounds_toArray, List.set_cons_zero, List.set_cons_succ]
  have cq6 := hap.1.cell
  have fq6 := hap.1.frozen
  refine anyS_one (i := 7) (o := ⟨none, _, _, _, _, _⟩) (by kernel_rfl) rfl hInv (fun K hK => ?_)
  go_simp
  refine hK.out _ _ (fun e => absurd (show true = false from e) (by decide)) (fun hInv hHeld => ?_)
  clear hK K
  try simp only [Act.put, List.setIfInBounds_toArray, List.set_cons_zero, List.set_cons_succ]
  refine anyS_done (by kernel_rfl) ?_ _
  go_end0
  exact ⟨rfl, ⟨_, hap.2.1, ⟨ownsRow_setCell_other hO6.out hap.1 (by decide) _⟩⟩, (HBn.out.trans (hb1.mono hs0)).trans hap.2.2.2.2⟩
theorem small_none (t : Tri) (B n₀ : Nat) (v : Value) (ts : List Tri) (w : World) (ht : inT 50 t) (hno : ∀ q, inBox t q → goodT t q = false) (hv : Boxed w B 49 v) (hR : RowT w n₀ v ts) (hnB : n₀ ≤ B) (hts : ts.length ≤ 100000) :
    Calls Try.prog 74 #[triV t, .func (.func 75) #[] #[.pointer (some ⟨B, 0, none⟩)]] w fun e w' => e = .returned (.tuple #[]) ∧ (∃ v', Boxed w' B 49 v' ∧ RowT w' n₀ v' (ts ++ [t])) ∧ Below n₀ w w' := by
  have hs0 : n₀ ≤ w.heap.size := by have := hv.lt; omega
  have hc75 : ∀ (args : Array Value) (w : World), (callFunc 75 args).run Try.prog w = .ok (.enter 75 args) w := enters_of Try.func75 (by kernel_rfl) rfl
  have CO : Off (∀ W, Calls Try.prog 107 #[triV t] W fun e w' => e = .returned (.tuple #[ptV (0, 0), .bool false]) ∧ Below W.heap.size W w') := ⟨fun W => (other_any t W ht).mono fun e w' ⟨⟨p, b, h1, h2⟩, h3⟩ => by
    rcases h2 with ⟨_, ⟨h4, h5⟩, _⟩ | ⟨rfl, rfl, _⟩
    · rw [hno p h4] at h5; cases h5
    · exact ⟨h1, h3⟩⟩
  obtain ⟨w0, hw0⟩ : ∃ W, w.alloc (.cells #[.int .i64 t.a.1, .int .i64 t.a.2, .int .i64 t.b.1, .int .i64 t.b.2, .int .i64 t.c.1, .int .i64 t.c.2] 85) = W := ⟨_, rfl⟩
  have hb0 : Below w.heap.size w w0 := by rw [← hw0]; exact belowA (Below.refl _ w) _
  have bT : Box6 w0 w.heap.size t := by rw [← hw0]; exact block_new w _
  obtain ⟨⟨⟨a0, a1⟩, ⟨a2, a3⟩, a4, a5⟩, _⟩ := bT.facts
  have C75 : Off (∀ W, Below w0.heap.size w0 W → Calls Try.prog 75 #[triV t, .pointer (some ⟨B, 0, none⟩)] W fun e w' => e = .returned (.tuple #[]) ∧ (∃ v', Boxed w' B 49 v' ∧ RowT w' n₀ v' (ts ++ [t])) ∧ Below n₀ W w') :=
    ⟨fun W hb => split1_any t B n₀ v ts W (boxedB hb (boxedB hb0 hv)) ((hR.below hb0).below hb) hnB hts⟩
  have HB0 := Off.mk hb0
  have HT := Off.mk bT
  clear hv hR hb0 hno ht bT
  go_enter Try.func74, Try.ntmps74
  go_wp2_with fail
  refine (CO.out _).mono ?_
  rintro e w1 ⟨rfl, hb1⟩
  obtain ⟨⟨⟨a0, a1⟩, ⟨a2, a3⟩, a4, a5⟩, _⟩ := (HT.out.below hb1).facts
  have hlt := (HT.out.below hb1).lt
  have HB1 := Off.mk hb1
  clear hb1
  go_wp2_with (go_at_fn 75; refine (C75.out _ (belowA HB1.out _)).mono ?_; rintro e w2 ⟨rfl, hr2, hb2⟩; have HR2 := Off.mk hr2; have HB2 := Off.mk hb2; clear hr2 hb2)
  refine bodyPost_ret (results_none rfl _ _ _) rfl ?_
  have hw01 := HB0.out.size
  exact ⟨rfl, HR2.out, ((HB0.out.mono hs0).trans ((belowA HB1.out _).mono (by omega))).trans HB2.out⟩
end Go.Proofs.Ytbpmiphipjkdlaa
