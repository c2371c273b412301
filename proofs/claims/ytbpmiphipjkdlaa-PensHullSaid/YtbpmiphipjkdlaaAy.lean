/- Contracts: Clone, ears of three posts, Split of a triangle without other points. -/
import Derived.Test.YtbpmiphipjkdlaaAx
import Derived.Laws.AppendOwnNone
namespace Go.Proofs.Ytbpmiphipjkdlaa
open Go.RowKit Go.Shelf

theorem empty_row (w : World) (e : TypeId) (size b : Nat) (h : b ≤ w.heap.size) : (w.alloc (.cells #[] e)).ownsRow b e size (.slice (some ⟨w.heap.size, 0, none⟩) 0 0) 0 [] := by
  refine ⟨by simp, .inr ⟨w.heap.size, 0, #[], rfl, h, ?_, Nat.le_refl _, by simp [maxLen], by simp, by simp⟩⟩
  change (w.heap.push (Obj.cells #[] e))[w.heap.size]? = _
  simp
theorem pairs_cells {w : World} {A : Option Addr} {l : List (Int × Int)} (hl : PairsI w A l) {ad : Addr} (hA : A = some ad) (j : Nat) (u : Value) (hj : (pairCells l)[j]? = some u) : w.cell? (ad.add j) = some u := by
  have hjl : j < l.length * 2 := by
    have := (List.getElem?_eq_some_iff.1 hj).1
    rwa [pairCells_len] at this
  obtain ⟨ad', e, hc, hd⟩ := hl.cell (j / 2) (by omega)
  subst hA
  cases e
  have hp := pairCells_at l (j / 2) (by omega)
  by_cases h : j % 2 = 0
  · have e : j / 2 * 2 = j := by omega
    rw [e] at hc hp
    rw [hc, ← hj, hp.1]
  · have e : j / 2 * 2 + 1 = j := by omega
    have e2 : ad.add j = ⟨(ad.add (j / 2 * 2)).block, (ad.add (j / 2 * 2)).off + 1, none⟩ := by
      by_cases h0 : j / 2 * 2 = 0
      · rw [h0, Addr.add_zero']
        obtain rfl : j = 1 := by omega
        rfl
      · unfold Addr.add
        rw [if_neg (by omega), if_neg h0]
        simp
        omega
    rw [e] at hp
    rw [e2, hd, ← hj, hp.2]
theorem wpList_copyQ {w : World} {ops : Array Oper} {rest : List Oper} {o : Oper} {a : Act} {Q : Exit → Act → World → Prop} (hgd : o.guard = none) (s x : Operand)
    (ho : o.op = .call { callee := .builtin .append, args := #[s, x], argTypes := #[58, 58] }) (A : Option Addr) (l : List (Int × Int)) (c : Nat) (hl : PairsI w A l) (hlc : l.length ≤ c) (h60 : l.length ≤ 60) (hA : A = none → c = 0)
    (hs : a.eval s = .slice (some ⟨w.heap.size, 0, none⟩) 0 0) (hx : a.eval x = .slice A l.length c)
    (h : ∀ v' w', OwnQ 70 w' w.heap.size v' l → Below w.heap.size w w' → wpList Try.prog ops Q rest (a.put o.dst v') w') : wpList Try.prog ops Q (o :: rest) a (w.alloc (.cells #[] 70)) := by
  obtain ⟨i0, hi, hz0, hz1, hz2⟩ := info_parts info70
  have hB : Below w.heap.size w (w.alloc (.cells #[] 70)) := (Below.refl _ _).alloc (Nat.le_refl _) _
  have hsz := hB.size
  cases A with
  | none =>
    obtain rfl := hA rfl
    obtain rfl : l = [] := List.length_eq_zero_iff.1 (by omega)
    exact wpList_append_own_none hgd s x 58 ho w.heap.size 70 i0 2 Try.underlying58 hi _ 0 [] hs (empty_row w _ _ _ (Nat.le_refl _)) hx (h _ _ ⟨empty_row w _ _ _ (Nat.le_refl _)⟩ hB)
  | some ad =>
    refine wpList_append_own _ hgd s x 58 ho w.heap.size 70 i0 (.agg #[.int .i64 0, .int .i64 0]) 2 16 Try.underlying58 hi hz0 hz1 hz2 rfl (by decide) _ 0 [] hs (empty_row _ _ _ _ (Nat.le_refl _)) ad l.length c (pairCells l) hx (by rw [pairCells_len]) (fun j u hj => cellB hB (pairs_cells hl rfl j u hj)) (fun u hu => pairCells_one l u hu) (by unfold maxLen; omega) (by omega) hsz ?_
    intro v' w' hown hgrow _
    refine h v' w' ⟨by simpa using hown⟩ (hB.grown hgrow hsz (fun k e => ?_))
    simp only [Value.ownBlock, Option.some.injEq] at e
    omega
theorem eql_nilQ (a : Option Addr) (l c : Nat) (w : World) : Sem.run Try.prog (binOp .eql 58 (.slice a l c) (.slice none 0 0)) w = .ok (.bool a.isNone) w := by
  have h := run_equal_slice_nil (P := Try.prog) w 58 70 a l c Try.underlying58
  simp [binOp, h]
set_option maxHeartbeats 1000000 in
set_option maxRecDepth 100000 in
theorem cloneQ_any (l : List (Int × Int)) (A : Option Addr) (c : Nat) (w : World) (hl : PairsI w A l) (hlc : l.length ≤ c) (h60 : l.length ≤ 60) (hA : A = none → c = 0) :
    Calls Try.prog 102 #[.slice A l.length c] w fun e w' => ∃ v, e = .returned v ∧ OwnQ 70 w' w.heap.size v l ∧ Below w.heap.size w w' := by
  cases A with
  | none =>
    obtain rfl := hA rfl
    obtain rfl : l = [] := List.length_eq_zero_iff.1 (by omega)
    have heq := eql_nilQ none 0 0
    go_enter Try.func102, Try.ntmps102
    go_wp2
    go_ret
    exact ⟨_, rfl, ⟨World.ownsRow_nil _ _ _ _⟩, Below.refl _ _⟩
  | some ad =>
    have heq := eql_nilQ (some ad) l.length c
    go_enter Try.func102, Try.ntmps102
    go_wp2_with (at_builtin; refine wpList_copyQ rfl _ _ rfl (some ad) l c hl hlc h60 (fun e => by cases e) rfl rfl ?_)
    intro v1 w1 hO1 B1
    obtain ⟨A1, c1, rfl, hI1, hc1⟩ := ownQ_pairs hO1 (by omega)
    go_wp2
    go_ret
    exact ⟨_, rfl, hO1, B1⟩

/-- A row of triangles as arrays. -/
structure RowS (w : World) (base : Nat) (v : Value) (ts : List Tri) : Prop where
  out : w.ownsRow base 85 6 v ts.length (triCells ts)
theorem RowS.below {w w1 : World} {base : Nat} {v : Value} {ts : List Tri} (h : RowS w base v ts) (hb : Below w.heap.size w w1) : RowS w1 base v ts := ⟨owns_below h.out hb⟩
theorem info85 : (Try.prog.info? 85).map (fun i => (i.zero, i.size, i.bytes)) = some (some (.agg #[.int .i64 0, .int .i64 0, .int .i64 0, .int .i64 0, .int .i64 0, .int .i64 0]), 6, 48) := by kernel_rfl
theorem triC_len (t : Tri) : (triC t).length = 6 := rfl
theorem triC_one (t : Tri) : ∀ u ∈ triC t, u.oneCell' = true := by intro u hu; simp [triC] at hu; rcases hu with rfl | rfl | rfl | rfl | rfl | rfl <;> rfl
theorem triC_new (t : Tri) (e : TypeId) (w : World) : ∀ k u, (triC t)[k]? = some u → (w.alloc (.cells #[.int .i64 t.a.1, .int .i64 t.a.2, .int .i64 t.b.1, .int .i64 t.b.2, .int .i64 t.c.1, .int .i64 t.c.2] e)).cell? ((⟨w.heap.size, 0, none⟩ : Addr).add k) = some u := by
  intro k u hk
  match k, hk with
  | 0, hk => simp [triC] at hk; subst hk; simp [Addr.add_lit]
  | 1, hk => simp [triC] at hk; subst hk; simp [Addr.add_lit]
  | 2, hk => simp [triC] at hk; subst hk; simp [Addr.add_lit]
  | 3, hk => simp [triC] at hk; subst hk; simp [Addr.add_lit]
  | 4, hk => simp [triC] at hk; subst hk; simp [Addr.add_lit]
  | 5, hk => simp [triC] at hk; subst hk; simp [Addr.add_lit]
  | k + 6, hk => simp [triC] at hk
/-- A triangle more in a list of triangles. -/
theorem wpList_triS {w : World} {ops : Array Oper} {rest : List Oper} {o : Oper} {a : Act} {Q : Exit → Act → World → Prop} (hgd : o.guard = none) (s x : Operand)
    (ho : o.op = .call { callee := .builtin .append, args := #[s, x], argTypes := #[82, 82] }) (base : Nat) (v : Value) (ts : List Tri) (t : Tri) (hO : RowS w base v ts) (hb : base ≤ w.heap.size) (h100 : ts.length ≤ 100000)
    (hs : a.eval s = v) (hx : a.eval x = .slice (some ⟨w.heap.size, 0, none⟩) 1 1)
    (h : ∀ v' w', RowS w' base v' (ts ++ [t]) → Below base w w' → wpList Try.prog ops Q rest (a.put o.dst v') w') :
    wpList Try.prog ops Q (o :: rest) a (w.alloc (.cells #[.int .i64 t.a.1, .int .i64 t.a.2, .int .i64 t.b.1, .int .i64 t.b.2, .int .i64 t.c.1, .int .i64 t.c.2] 85)) := by
  obtain ⟨i0, hi, hz0, hz1, hz2⟩ := info_parts info85
  refine wpList_append_own _ hgd s x 82 ho base 85 i0 _ 6 48 Try.underlying82 hi hz0 hz1 hz2 rfl (by decide) v ts.length _ hs (hO.out.alloc _) ⟨w.heap.size, 0, none⟩ 1 1 (triC t) hx rfl (triC_new t 85 w) (triC_one t) (by unfold maxLen; omega) (by omega) (by simp; omega) ?_
  intro v' w' h1 h2 _
  refine h v' w' ⟨by rw [List.length_append]; simpa [triCells] using h1⟩ (((Below.refl _ w).alloc hb _).grown h2 (by simp; omega) (fun k e => ?_))
  rcases hO.out.2 with ⟨rfl, _⟩ | ⟨g, cap, cur, rfl, hg, _⟩
  · simp [Value.ownBlock] at e
  · simp [Value.ownBlock] at e; omega
set_option maxHeartbeats 2000000 in
set_option maxRecDepth 100000 in
theorem ears3_any (t : Tri) (g c : Nat) (w : World) (hp : PenAt w g (triL t)) (hc : 3 ≤ c) : Calls Try.prog 73 #[.slice (some ⟨g, 0, none⟩) 3 c] w fun e w' => ∃ u, e = .returned u ∧ RowS w' w.heap.size u [t] ∧ Below w.heap.size w w' := by
  have C1 : Off (Calls Try.prog 89 #[.slice (some ⟨g, 0, none⟩) 3 c] w fun e w' => e = .returned (.int .i64 (twiceP (triL t))) ∧ Below w.heap.size w w') := ⟨twice_any (triL t) g c w hp.few hp.near hp.lt hp.cell⟩
  have C2 : Off (∀ W, Calls Try.prog 91 #[.int .i64 (twiceP (triL t))] W fun e w' => e = .returned (.int .i64 (signI (twiceP (triL t)))) ∧ w' = W) := ⟨fun W => sign_any _ _ rfl W⟩
  have hpr : ∀ W, Below w.heap.size w W → PairsI W (some ⟨g, 0, none⟩) (triL t) := fun W hb => ⟨by simp [triL], fun j hj => ⟨_, rfl, by simpa [Addr.add_lit] using (hp.below hb).cell j hj⟩⟩
  have C3 : Off (∀ W, Below w.heap.size w W → Calls Try.prog 102 #[.slice (some ⟨g, 0, none⟩) 3 c] W fun e w' => ∃ v, e = .returned v ∧ OwnQ 70 w' W.heap.size v (triL t) ∧ Below W.heap.size W w') := ⟨fun W hb => cloneQ_any (triL t) _ c W (hpr W hb) hc (by simp [triL]) (fun e => by cases e)⟩
  obtain ⟨a, ha⟩ : ∃ a, a = twiceP (triL t) := ⟨_, rfl⟩
  rw [← ha] at C1 C2
  obtain ⟨sg, hsg⟩ : ∃ sg, sg = signI a := ⟨_, rfl⟩
  rw [← hsg] at C2
  clear ha hsg hp hpr
  go_enter Try.func73, Try.ntmps73
  go_wp2_with fail
  refine C1.out.mono ?_
  rintro e w1 ⟨rfl, hb1⟩
  go_wp2_with fail
  refine (C2.out _).mono ?_
  rintro e w2 ⟨rfl, rfl⟩
  go_wp2_with fail
  refine (C3.out _ hb1).mono ?_
  rintro e w3 ⟨v, rfl, hO3, hb3⟩
  obtain ⟨g3, c3, rfl, hg3, hc3, ⟨x0, x1⟩, ⟨x2, x3⟩, x4, x5⟩ := own3_block hO3
  have HB3 := Off.mk (belowC hb1 hb3)
  clear hb1 hb3 hO3
  go_wp2_with fail
  go_loopw [3, 5] (fun v3 v5 wr => v3 = .slice none 0 0 ∧ v5 = .slice (some ⟨g3, 0, none⟩) 3 c3 ∧ wr = w3) (fun _ _ _ => 0)
  case atStart => exact ⟨rfl, rfl, rfl⟩
  case round =>
    obtain ⟨rfl, rfl, rfl⟩ := hrel
    have hw := HB3.out.size
    have har : (Instr.arrayAt 85 (.slice (some ⟨g3, 0, none⟩) 3 c3)).run Try.prog wr = .ok (.pointer (some ⟨g3, 0, none⟩)) wr := run_arrayAt _ 85 70 3 _ 3 c3 Try.underlying85 (Nat.le_refl _)
    go_wp2_with (at_builtin; refine wpList_triS rfl _ _ rfl w.heap.size _ [] t ⟨World.ownsRow_nil _ _ _ _⟩ hw (by simp) rfl rfl ?_)
    intro v5 w5 hO5 hb5
    have HO5 := Off.mk hO5
    have HB5 := Off.mk (HB3.out.trans hb5)
    clear hO5 hb5
    go_wp2
    go_ret
    exact ⟨_, rfl, HO5.out, HB5.out⟩
theorem rowS_cells {w : World} {base : Nat} {v : Value} {t : Tri} (h : RowS w base v [t]) : ∃ g c, v = .slice (some ⟨g, 0, none⟩) 1 c ∧ base ≤ g ∧ g < w.heap.size ∧
    (w.cell? ⟨g, 0, none⟩ = some (.int .i64 t.a.1) ∧ w.cell? ⟨g, 1, none⟩ = some (.int .i64 t.a.2)) ∧ (w.cell? ⟨g, 2, none⟩ = some (.int .i64 t.b.1) ∧ w.cell? ⟨g, 3, none⟩ = some (.int .i64 t.b.2)) ∧ w.cell? ⟨g, 4, none⟩ = some (.int .i64 t.c.1) ∧ w.cell? ⟨g, 5, none⟩ = some (.int .i64 t.c.2) := by
  have h' := h.out
  rcases h.out.2 with ⟨rfl, h1⟩ | ⟨g, cap, cur, rfl, hb, hh, hc, _⟩
  · simp at h1
  · refine ⟨g, cap, rfl, hb, (Array.getElem?_eq_some_iff.1 hh).1, ⟨?_, ?_⟩, ⟨?_, ?_⟩, ?_, ?_⟩
    · rw [h'.cellAt 0 (by simp)]; rfl
    · rw [h'.cellAt 1 (by simp)]; rfl
    · rw [h'.cellAt 2 (by simp)]; rfl
    · rw [h'.cellAt 3 (by simp)]; rfl
    · rw [h'.cellAt 4 (by simp)]; rfl
    · rw [h'.cellAt 5 (by simp)]; rfl
set_option maxHeartbeats 2000000 in
set_option maxRecDepth 100000 in
/-- Split of a triangle that has no other points. -/
theorem Split_one (t : Tri) (A : Option Addr) (c : Nat) (w : World) (hx : PairsI w A (triL t)) (hv : readP (triL t) = true) (h120 : ((twiceP (triL t)).natAbs : Int) ≤ 120) (h0 : 0 < ((turnT t).natAbs : Int)) (ht : inT 50 t) (hno : ∀ q, inBox t q → goodT t q = false) :
    Calls Try.prog 39 #[.slice A 3 c] w fun e w' => (∃ u, e = .returned (.tuple #[u, .int .i64 0]) ∧ RowT w' w.heap.size u [t]) ∧ Below w.heap.size w w' := by
  have CR := Off.mk (read_any (triL t) A c w true hv hx)
  have HV := Off.mk hv
  obtain ⟨ta, hta⟩ : ∃ ta : Int, ta = (turnT t).natAbs := ⟨_, rfl⟩
  have C66 : Off (∀ W, Calls Try.prog 66 #[triV t] W fun e w' => e = .returned (.int .i64 ta) ∧ Below W.heap.size W w') := ⟨fun W => by rw [hta]; exact areaT_any t ⟨inB_mono ht.1 (by decide), inB_mono ht.2.1 (by decide), inB_mono ht.2.2 (by decide)⟩ W⟩
  rw [← hta] at h0
  obtain ⟨ar, har⟩ : ∃ ar : Int, ar = (twiceP (triL t)).natAbs := ⟨_, rfl⟩
  rw [← har] at h120
  have C74 : Off (∀ W v n₀ B, Boxed W B 49 v → RowT W n₀ v [] → n₀ ≤ B → Calls Try.prog 74 #[triV t, .func (.func 75) #[] #[.pointer (some ⟨B, 0, none⟩)]] W fun e w' => e = .returned (.tuple #[]) ∧ (∃ v', Boxed w' B 49 v' ∧ RowT w' n₀ v' [t]) ∧ Below n₀ W w') := ⟨fun W v n₀ B h1 h2 h3 => small_none t B n₀ v [] W ht hno h1 h2 h3 (by simp)⟩
  have HAR := Off.mk har
  clear hx hv hno hta har ht
  go_enter Try.func39, Try.ntmps39
  go_wp2_with fail
  refine CR.out.mono ?_
  rintro e w1 ⟨⟨u, rfl, h1, _⟩, hb1⟩
  obtain ⟨g, cg, rfl, _, hp⟩ := penAt_read HV.out (h1 trivial)
  have hcg : 3 ≤ cg := by
    rcases (h1 trivial).out.2 with ⟨e1, _⟩ | ⟨g', cap, cur, e1, _, _, hcc, _⟩
    · cases e1
    · cases e1; exact hcc
  have C1 : Off (∀ c, Calls Try.prog 52 #[.slice (some ⟨g, 0, none⟩) 3 c] w1 fun e w' => e = .returned (.int .i64 ar) ∧ Below w1.heap.size w1 w') := ⟨fun c => by rw [HAR.out]; exact area_any (triL t) g c w1 hp⟩
  have C2 : Off (∀ W, Below w1.heap.size w1 W → Calls Try.prog 73 #[.slice (some ⟨g, 0, none⟩) 3 cg] W fun e w' => ∃ u, e = .returned u ∧ RowS w' W.heap.size u [t] ∧ Below W.heap.size W w') := ⟨fun W hb => ears3_any t g cg W (hp.below hb) hcg⟩
  have HB1 := Off.mk hb1
  clear h1 hp hb1 CR hcg
  go_wp2_with fail
  refine (C1.out _).mono ?_
  rintro e w2 ⟨rfl, hb2⟩
  obtain ⟨P, hP⟩ : ∃ P, P = w2.heap.size := ⟨_, rfl⟩
  obtain ⟨w3, hw3⟩ : ∃ W, w2.alloc (.cells #[.slice none 0 0] 49) = W := ⟨_, rfl⟩
  have hb3 : Below w2.heap.size w2 w3 := by rw [← hw3]; exact belowA (Below.refl _ w2) _
  have bP : Boxed w3 P 49 (.slice none 0 0) := by rw [← hw3, hP]; exact Boxed.new w2 49 _
  have hPw : w.heap.size ≤ P := by rw [hP]; exact (belowC HB1.out hb2).size
  have C2' := Off.mk (C2.out w3 (belowC hb2 hb3))
  have HB3 := Off.mk (belowC (belowC HB1.out hb2) hb3)
  clear hb2 hb3 C2
  go_wp2_with fail
  rw [← hP]
  clear hP hw3
  refine C2'.out.mono ?_
  rintro e w4 ⟨v4, rfl, hS4, hb4⟩
  obtain ⟨g4, c4, rfl, hg4, hgl4, hcell4⟩ := rowS_cells hS4
  have bP4 := boxedB hb4 bP
  have HB4 := Off.mk (belowC HB3.out hb4)
  clear hS4 hb4
  go_wp2_with fail
  go_loopw [24] (fun kv wr => (kv = .int .i64 0 ∧ Off (wr = w4)) ∨ (kv = .int .i64 1 ∧ Off (∃ v, Boxed wr P 49 v ∧ RowT wr w.heap.size v [t] ∧ Below w.heap.size w wr))) (fun kv _ => 1 - (intOf kv).toNat)
  case atStart => exact .inl ⟨rfl, ⟨rfl⟩⟩
  case round =>
    rcases hrel with ⟨rfl, hw⟩ | ⟨rfl, hw⟩
    · obtain rfl := hw.out
      clear hw
      obtain ⟨⟨x0, x1⟩, ⟨x2, x3⟩, x4, x5⟩ := hcell4
      obtain ⟨w5, hw5⟩ : ∃ W, wr.alloc (.cells #[.int .i64 t.a.1, .int .i64 t.a.2, .int .i64 t.b.1, .int .i64 t.b.2, .int .i64 t.c.1, .int .i64 t.c.2] 85) = W := ⟨_, rfl⟩
      have hb5 : Below wr.heap.size wr w5 := by rw [← hw5]; exact belowA (Below.refl _ wr) _
      have b5 : Box6 w5 wr.heap.size t := by rw [← hw5]; exact block_new wr _
      obtain ⟨⟨⟨a0, a1⟩, ⟨a2, a3⟩, a4, a5⟩, _⟩ := b5.facts
      have bP5 := boxedB hb5 bP4
      have HB5 := Off.mk (belowC HB4.out hb5)
      have B5 := Off.mk b5
      clear hb5 b5
      go_wp2_with fail
      clear hw5
      refine (C66.out _).mono ?_
      rintro e w6 ⟨rfl, hb6⟩
      obtain ⟨⟨⟨a0, a1⟩, ⟨a2, a3⟩, a4, a5⟩, _⟩ := (B5.out.below hb6).facts
      have HB6 := Off.mk (belowC HB5.out hb6)
      have bP6 := boxedB hb6 bP5
      have C74' := Off.mk (C74.out w6 _ w.heap.size P bP6 ⟨World.ownsRow_nil _ _ _ _⟩ hPw)
      clear hb6
      go_wp2_with (refine C74'.out.mono ?_; rintro e w7 ⟨rfl, hr7, hb7⟩; have HR7 := Off.mk hr7; have HB7 := Off.mk hb7; clear hr7 hb7)
      have HE : Off (∃ v, Boxed w7 P 49 v ∧ RowT w7 w.heap.size v [t] ∧ Below w.heap.size w w7) := ⟨by
        obtain ⟨v, h1, h2⟩ := HR7.out
        exact ⟨v, h1, h2, HB6.out.trans HB7.out⟩⟩
      go_roundw
      case rel => exact .inr ⟨rfl, HE⟩
      case measure => simp [intOf]
    · obtain ⟨v, hv, hR, hB⟩ := hw.out
      have cv := hv.cell
      have HR := Off.mk hR
      have HB := Off.mk hB
      clear hw hv hR hB
      go_wp2
      refine bodyPost_ret (v := .tuple #[v, .int .i64 0]) (by simp [results, Try.results39, go_sem]) rfl ⟨⟨v, rfl, HR.out⟩, HB.out⟩
end Go.Proofs.Ytbpmiphipjkdlaa
