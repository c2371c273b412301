/- Contracts: the specification's put, Without. -/
import Derived.Test.YtddcdopimpfhcaaEb
import Derived.Laws.AppendOwnNone
import Derived.DataElems
namespace Go.Proofs.Ytddcdopimpfhcaa
open Go.RowKit Go.Shelf

/-- Where the cells of a list of pairs lie. -/
def SrcQ (w : World) (B : Option Addr) (ys : List (Int × Int)) : Prop := ∀ j u, (pairCells ys)[j]? = some u → ∃ ad, B = some ad ∧ w.cell? (ad.add j) = some u
/-- A list of pairs more in a list of pairs. -/
theorem wpList_appQ {w : World} {ops : Array Oper} {rest : List Oper} {o : Oper} {a : Act} {Q : Exit → Act → World → Prop} (hgd : o.guard = none) (s x : Operand)
    (ho : o.op = .call { callee := .builtin .append, args := #[s, x], argTypes := #[22, 22] }) (base : Nat) (v : Value) (xs : List (Int × Int)) (hO : OwnQ w base v xs) (hb : base ≤ w.heap.size)
    (B : Option Addr) (ys : List (Int × Int)) (m c : Nat) (hm : ys.length = m) (hS : SrcQ w B ys) (hB : B = none → m = 0 ∧ c = 0) (h60 : xs.length ≤ 100) (h61 : m ≤ 100)
    (hs : a.eval s = v) (hx : a.eval x = .slice B m c)
    (h : ∀ v' w', OwnQ w' base v' (xs ++ ys) → Below base w w' → wpList Try.prog ops Q rest (a.put o.dst v') w') : wpList Try.prog ops Q (o :: rest) a w := by
  obtain ⟨i0, hi, hz0, hz1, hz2⟩ := info_parts info36
  cases B with
  | none =>
    obtain ⟨rfl, rfl⟩ := hB rfl
    obtain rfl : ys = [] := List.length_eq_zero_iff.1 hm
    have h0 := h v w (by rw [List.append_nil]; exact hO) (Below.refl _ _)
    exact wpList_append_own_none hgd s x 22 ho base 36 i0 2 Try.underlying22 hi v _ _ hs hO.out hx h0
  | some ad =>
    refine wpList_append_own _ hgd s x 22 ho base 36 i0 (.agg #[.int .i64 0, .int .i64 0]) 2 16 Try.underlying22 hi hz0 hz1 hz2 rfl (by decide) v _ _ hs hO.out ad m c (pairCells ys) hx (by rw [pairCells_length, hm]) (fun j u hj => by
      obtain ⟨ad', e, hc⟩ := hS j u hj
      cases e
      exact hc) (fun u hu => pairCells_one ys u hu) (by unfold maxLen; omega) (by omega) hb ?_
    intro v' w' hown hgrow _
    refine h v' w' ⟨by rw [List.length_append, hm]; have e : pairCells (xs ++ ys) = pairCells xs ++ pairCells ys := by simp [pairCells]
                       rw [e]; exact hown⟩ ((Below.refl _ _).grown hgrow hb (fun k e => ownQ_base hO e))
theorem srcQ_take {w : World} {A : Option Addr} {l : List (Int × Int)} (h : PairsI w A l) (k : Nat) : SrcQ w A (l.take k) := by
  intro j u hj
  rw [← pairCells_take, List.getElem?_take] at hj
  split at hj
  · have hjl : j < l.length * 2 := by
      have := (List.getElem?_eq_some_iff.1 hj).1
      rwa [pairCells_len] at this
    obtain ⟨ad, e, _⟩ := h.cell (j / 2) (by omega)
    exact ⟨ad, e, pairs_cells h e j u hj⟩
  · cases hj
theorem srcQ_drop {w : World} {ad : Addr} {l : List (Int × Int)} (h : PairsI w (some ad) l) (k : Nat) : SrcQ w (some (ad.add (k * 2))) (l.drop k) := by
  intro j u hj
  rw [← pairCells_drop, List.getElem?_drop] at hj
  refine ⟨_, rfl, ?_⟩
  have := pairs_cells h rfl (k * 2 + j) u hj
  rw [Addr.add_add]
  exact this
theorem srcQ_nil (w : World) (B : Option Addr) : SrcQ w B [] := fun j u hj => by simp [pairCells] at hj
theorem SrcQ.below {w w1 : World} {B : Option Addr} {ys : List (Int × Int)} (h : SrcQ w B ys) (hb : Below w.heap.size w w1) : SrcQ w1 B ys := fun j u hj => by
  obtain ⟨ad, e, hc⟩ := h j u hj
  exact ⟨ad, e, cellB hb hc⟩
/-- How many lines stand before a line. -/
def rankP (x : Int × Int) : List (Int × Int) → Nat
  | [] => 0
  | y :: l => if beforeB y x then rankP x l + 1 else 0
def rputL (l : List (Int × Int)) (x : Int × Int) : List (Int × Int) := l.take (rankP x l) ++ [x] ++ l.drop (rankP x l)
theorem rankP_le (x : Int × Int) : ∀ l, rankP x l ≤ l.length
  | [] => Nat.le_refl _
  | y :: l => by
    rw [rankP]
    split
    · have := rankP_le x l; simp; omega
    · exact Nat.zero_le _
theorem rankP_at (x : Int × Int) : ∀ (l : List (Int × Int)) (k : Nat), k ≤ l.length → (∀ j, j < k → beforeB (atL l j) x = true) → (k = l.length ∨ beforeB (atL l k) x = false) → rankP x l = k
  | [], k, h, _, _ => by simp at h; subst h; rfl
  | y :: l, 0, _, _, h => by
    rcases h with h | h
    · simp at h
    · rw [rankP, if_neg (by simpa using h)]
  | y :: l, k + 1, hk, hb, h => by
    have h0 := hb 0 (by omega)
    rw [rankP, if_pos (by simpa using h0), rankP_at x l k (by simpa using hk) (fun j hj => by simpa using hb (j + 1) (by omega)) (by simpa using h)]
set_option linter.unusedSimpArgs false in
set_option maxHeartbeats 8000000 in
set_option maxRecDepth 100000 in
theorem rput_some (l : List (Int × Int)) (ad : Addr) (c : Nat) (x0 x1 : Int) (w : World) (hx : PairsI w (some ad) l) (hlc : l.length ≤ c) (h60 : l.length ≤ 60) :
    Calls Try.prog 58 #[.slice (some ad) l.length c, .agg #[.int .i64 x0, .int .i64 x1]] w fun e w' => ∃ v, e = .returned v ∧ OwnQ w' w.heap.size v (rputL l (x0, x1)) ∧ Below w.heap.size w w' := by
  have hP := block_new w (.cells #[.int .i64 x0, .int .i64 x1] 36)
  have hB0 : Below w.heap.size w (w.alloc (.cells #[.int .i64 x0, .int .i64 x1] 36)) := (Below.refl _ _).alloc (Nat.le_refl _) _
  obtain ⟨⟨q0, q1⟩, _, _⟩ := two_facts hP
  obtain ⟨w1, hw1⟩ : ∃ w1, w1 = w.alloc (.cells #[.int .i64 x0, .int .i64 x1] 36) := ⟨_, rfl⟩
  obtain ⟨z, hz⟩ : ∃ z, z = w.heap.size := ⟨_, rfl⟩
  rw [← hw1, ← hz] at q0 q1
  rw [← hw1] at hB0
  have HB0 := Off.mk hB0
  have HX := Off.mk hx
  have HR : Off (rputL l (x0, x1) = l.take (rankP (x0, x1) l) ++ [(x0, x1)] ++ l.drop (rankP (x0, x1) l)) := ⟨rfl⟩
  have HZl : Off (w.heap.size ≤ w1.heap.size) := ⟨hB0.size⟩
  clear hx hP hB0
  go_enter Try.func58, Try.ntmps58
  go_wp2
  rw [← hw1, ← hz]
  clear hw1 hz
  go_loopw [6] (fun kv wr => ∃ k : Nat, k ≤ l.length ∧ kv = .int .i64 k ∧ Off (∀ j, j < k → beforeB (atL l j) (x0, x1) = true) ∧ Off (Below w1.heap.size w1 wr)) (fun kv _ => l.length - (intOf kv).toNat)
  case atStart => exact ⟨0, by omega, rfl, ⟨fun j hj => by omega⟩, ⟨Below.refl _ _⟩⟩
  case round =>
    obtain ⟨k, hk, rfl, HE, HB⟩ := hrel
    have HBw := Off.mk (belowC HB0.out HB.out)
    have r0 := cellB HB.out q0
    have r1 := cellB HB.out q1
    by_cases hkl : k < l.length
    · have hkI : (k : Int) < (l.length : Int) := by omega
      have hk0 : (0 : Int) ≤ (k : Int) := by omega
      have hg : decide ((k : Int) < (l.length : Int)) = true := decide_eq_true hkI
      obtain ⟨ad', e', c0, c1⟩ := (HX.out.below HBw.out).cell k hkl
      cases e'
      have HEn : Off (beforeB (atL l k) (x0, x1) = true → ∀ j, j < k + 1 → beforeB (atL l j) (x0, x1) = true) := ⟨fun h j hj => by
        by_cases e : j = k
        · rw [e]; exact h
        · exact HE.out j (by omega)⟩
      have HRk : Off (beforeB (atL l k) (x0, x1) = false → rankP (x0, x1) l = k) := ⟨fun h => rankP_at _ _ _ (by omega) HE.out (.inr h)⟩
      obtain ⟨y, hy⟩ : ∃ y, y = atL l k := ⟨_, rfl⟩
      have hy' : l.getD k (0, 0) = y := hy.symm
      rw [← hy] at HEn HRk
      rw [hy'] at c0 c1
      have CB := Off.mk (fun v hv W => before_any y.1 y.2 x0 x1 v hv W)
      obtain ⟨b, hb⟩ : ∃ b, beforeB y (x0, x1) = b := ⟨_, rfl⟩
      have CB' := Off.mk (fun W => CB.out b hb W)
      rw [hb] at HEn HRk
      clear hy hy' hb CB HE
      cases b
      · have HRk' := Off.mk (HRk.out rfl)
        clear HEn HRk
        go_wp2
        refine wp_region_held_drew (S := (fun w' => (w'.cell? (ad.add (k * 2)) = some (.int .i64 y.1) ∧ w'.cell? ⟨(ad.add (k * 2)).block, (ad.add (k * 2)).off + 1, none⟩ = some (.int .i64 y.2)) ∧ (w'.cell? ⟨z, 0, none⟩ = some (.int .i64 x0) ∧ w'.cell? ⟨z, 1, none⟩ = some (.int .i64 x1)))) (by kernel_rfl) ⟨⟨c0, c1⟩, r0, r1⟩ (fun hHeld => ?_)
        refine wpAnyH_take (i := 0) (oi := ⟨some 7, _, _, _, _, _⟩) (v := ?_) rfl (by kernel_rfl) (by kernel_rfl) (by kernel_rfl) (fun _ _ _ h => h) (Or.inl ⟨by rfl, by intro w hSw; (try dsimp only at hSw); go_simp; try with_reducible rfl⟩) hHeld ?_
        try simp only [Act.put, List.setIfInBounds_toArray, List.set_cons_zero, List.set_cons_succ]
        refine wpAnyH_take (i := 1) (oi := ⟨some 8, _, _, _, _, _⟩) (v := ?_) rfl (by kernel_rfl) (by kernel_rfl) (by kernel_rfl) (fun _ _ _ h => h) (Or.inl ⟨by rfl, by intro w hSw; (try dsimp only at hSw); go_simp; try with_reducible rfl⟩) hHeld ?_
        try simp only [Act.put, List.setIfInBounds_toArray, List.set_cons_zero, List.set_cons_succ]
        refine wpAnyH_take (i := 2) (oi := ⟨some 9, _, _, _, _, _⟩) (v := ?_) rfl (by kernel_rfl) (by kernel_rfl) (by kernel_rfl) (fun _ _ _ h => h) (Or.inl ⟨by rfl, by intro w hSw; (try dsimp only at hSw); go_simp; try with_reducible rfl⟩) hHeld ?_
        try simp only [Act.put, List.setIfInBounds_toArray, List.set_cons_zero, List.set_cons_succ]
        refine wpAnyH_take (i := 3) (oi := ⟨some 10, _, _, _, _, _⟩) (v := ?_) rfl (by kernel_rfl) (by kernel_rfl) (by kernel_rfl) (fun _ _ _ h => h) (Or.inl ⟨by rfl, by intro w hSw; (try dsimp only at hSw); go_simp; try with_reducible rfl⟩) hHeld ?_
        try simp only [Act.put, List.setIfInBounds_toArray, List.set_cons_zero, List.set_cons_succ]
        refine wpAnyH_take (i := 4) (oi := ⟨some 11, _, _, _, _, _⟩) (v := ?_) rfl (by kernel_rfl) (by kernel_rfl) (by kernel_rfl) (fun _ _ _ h => h) (Or.inl ⟨by rfl, by intro w hSw; (try dsimp only at hSw); go_simp; try with_reducible rfl⟩) hHeld ?_
        try simp only [Act.put, List.setIfInBounds_toArray, List.set_cons_zero, List.set_cons_succ]
        refine wpAnyH_take (i := 5) (oi := ⟨some 12, _, _, _, _, _⟩) (v := ?_) rfl (by kernel_rfl) (by kernel_rfl) (by kernel_rfl) (fun _ _ _ h => h) (Or.inl ⟨by rfl, by intro w hSw; (try dsimp only at hSw); go_simp; try with_reducible rfl⟩) hHeld ?_
        try simp only [Act.put, List.setIfInBounds_toArray, List.set_cons_zero, List.set_cons_succ]
        refine wpAnyH_take (i := 6) (oi := ⟨some 13, _, _, _, _, _⟩) (v := ?_) rfl (by kernel_rfl) (by kernel_rfl) (by kernel_rfl) (fun _ _ _ h => h) (Or.inl ⟨by rfl, by intro w hSw; (try dsimp only at hSw); go_simp; try with_reducible rfl⟩) hHeld ?_
        try simp only [Act.put, List.setIfInBounds_toArray, List.set_cons_zero, List.set_cons_succ]
        refine wpAnyH_take (i := 7) (oi := ⟨some 14, _, _, _, _, _⟩) (v := ?_) rfl (by kernel_rfl) (by kernel_rfl) (by kernel_rfl) (fun _ _ _ h => h) (Or.inl ⟨by rfl, by intro w hSw; (try dsimp only at hSw); go_simp; try with_reducible rfl⟩) hHeld ?_
        try simp only [Act.put, List.setIfInBounds_toArray, List.set_cons_zero, List.set_cons_succ]
        refine wpAnyH_take (i := 8) (oi := ⟨some 15, _, _, _, _, _⟩) (v := ?_) rfl (by kernel_rfl) (by kernel_rfl) (by kernel_rfl) (fun _ _ _ h => h) (Or.inl ⟨by rfl, by intro w hSw; (try dsimp only at hSw); go_simp; try with_reducible rfl⟩) hHeld ?_
        try simp only [Act.put, List.setIfInBounds_toArray, List.set_cons_zero, List.set_cons_succ]
        refine wpAnyH_take (i := 9) (oi := ⟨some 16, _, _, _, _, _⟩) (v := ?_) rfl (by kernel_rfl) (by kernel_rfl) (by kernel_rfl) (fun _ _ _ h => h) (Or.inl ⟨by rfl, by intro w hSw; (try dsimp only at hSw); go_simp; try with_reducible rfl⟩) hHeld ?_
        try simp only [Act.put, List.setIfInBounds_toArray, List.set_cons_zero, List.set_cons_succ]
        refine wpAnyH_ready (rs := [10]) (by kernel_rfl) (by simp) ?_
        refine AllReadyH.cons (o := ⟨some 17, _, _, _, _, _⟩) rfl (fun K hK => ?_) AllReadyH.nil
        go_simp
        go_at_call 61
        refine (CB'.out _).mono ?_
        rintro e w2 ⟨rfl, hb2⟩
        have HB2 := Off.mk (belowC (below_drew HBw.out) hb2)
        have HB2' := Off.mk (belowC (below_drew HB.out) hb2)
        go_wp2_with fail
        refine hK.out _ _ ⟨⟨cellB hb2 hHeld.1.1, cellB hb2 hHeld.1.2⟩, cellB hb2 hHeld.2.1, cellB hb2 hHeld.2.2⟩ (fun hHeld => ?_)
        clear hK K
        try simp only [Act.put, List.setIfInBounds_toArray, List.set_cons_zero, List.set_cons_succ]
        refine wpAnyH_take (i := 11) (oi := ⟨some 18, _, _, _, _, _⟩) (v := ?_) rfl (by kernel_rfl) (by kernel_rfl) (by kernel_rfl) (fun _ _ _ h => h) (Or.inl ⟨by rfl, by intro w hSw; (try dsimp only at hSw); go_simp; try with_reducible rfl⟩) hHeld ?_
        try simp only [Act.put, List.setIfInBounds_toArray, List.set_cons_zero, List.set_cons_succ]
        refine wpAnyH_done (by kernel_rfl) ?_ _
        obtain ⟨⟨_, _⟩, r0, r1⟩ := hHeld
        clear c0 c1 CB' HB2' HB HBw
        have hkc : k ≤ c := by omega
        have hkcI : (k : Int) ≤ (c : Int) := by omega
        have hk00 : (0 : Int) ≤ (k : Int) := by omega
        have hklI : (k : Int) ≤ (l.length : Int) := by omega
        have HL1 : Off ((l.take k).length = k) := ⟨by rw [List.length_take]; omega⟩
        have HL2 : Off ((l.drop k).length = l.length - k) := ⟨by rw [List.length_drop]⟩
        have HX2 := Off.mk (HX.out.below HB2.out)
        obtain ⟨A2, hA2⟩ : ∃ A2, A2 = ad.add (k * 2) := ⟨_, rfl⟩
        have hS2 : Off (SrcQ w2 (some A2) (l.drop k)) := ⟨by rw [hA2]; exact srcQ_drop HX2.out k⟩
        have HA2 := Off.mk hA2
        clear hA2
        have hS2b := hS2
        have hzl := HZl.out
        go_wp2_with (at_builtin; refine wpList_appQ rfl _ _ rfl w2.heap.size _ [] (ownQ_nil _ _) (Nat.le_refl _) (some ad) (l.take k) k c HL1.out (srcQ_take HX2.out k) (fun e => by cases e) (by simp) (by omega) rfl rfl ?_)
        intro v3 w3 hO3 hb3
        have HO3 : Off (OwnQ w3 w2.heap.size v3 (l.take k)) := ⟨by simpa using hO3⟩
        have HB3 := Off.mk (belowC HB2.out hb3)
        have hS3 := Off.mk (hS2.out.below hb3)
        have r0 := cellB hb3 r0
        have r1 := cellB hb3 r1
        have HG3 : Off (w2.heap.size ≤ w3.heap.size) := ⟨hb3.size⟩
        clear hO3 hb3 hS2
        go_wp2_with (at_builtin; refine wpList_pair rfl _ _ rfl w2.heap.size _ (l.take k) x0 x1 HO3.out HG3.out (by rw [HL1.out]; omega) rfl rfl ?_)
        intro v4 w4 hO4 hb4 _
        have HO4 : Off (OwnQ w4 w2.heap.size v4 (l.take k ++ [(x0, x1)])) := ⟨by simpa using hO4⟩
        have HB4 := Off.mk (HB3.out.trans (hb4.mono HB2.out.size))
        have hb34 : Below w2.heap.size w3 w4 := hb4
        have hS4 : Off (SrcQ w4 (some A2) (l.drop k)) := ⟨fun j u hj => by
          obtain ⟨ad', e, hc⟩ := hS3.out j u hj
          exact ⟨ad', e, (hb34.cell (by
            have h6 := hS2b.out j u hj
            obtain ⟨ad'', e2, hc2⟩ := h6
            cases e
            cases e2
            exact World.block_lt_of_cell? _ _ hc2)).trans hc⟩⟩
        have HG4 : Off (w2.heap.size ≤ w4.heap.size) := ⟨Nat.le_trans HG3.out hb4.size⟩
        clear hO4 hb4 hb34 hS3 hS2b
        go_wp2_with (at_builtin; refine wpList_appQ rfl _ _ rfl w2.heap.size _ (l.take k ++ [(x0, x1)]) HO4.out HG4.out (some (ad.add (k * 2))) (l.drop k) (l.length - k) (c - k) HL2.out (by rw [← HA2.out]; exact hS4.out) (fun e => by cases e) (by rw [List.length_append, HL1.out]; simp; omega) (by omega) rfl rfl ?_)
        intro v5 w5 hO5 hb5
        have HO5 : Off (OwnQ w5 w.heap.size v5 (rputL l (x0, x1))) := ⟨by
          rw [HR.out, HRk'.out]
          refine ownQ_mono ?_ HB2.out.size
          simpa using hO5⟩
        have HB5 := Off.mk (HB4.out.trans (hb5.mono HB2.out.size))
        clear hO5 hb5
        go_wp2
        go_ret
        exact ⟨_, rfl, HO5.out, HB5.out⟩
      · have HEn' := Off.mk (HEn.out rfl)
        clear HEn HRk
        go_wp2
        refine wp_region_held_drew (S := (fun w' => (w'.cell? (ad.add (k * 2)) = some (.int .i64 y.1) ∧ w'.cell? ⟨(ad.add (k * 2)).block, (ad.add (k * 2)).off + 1, none⟩ = some (.int .i64 y.2)) ∧ (w'.cell? ⟨z, 0, none⟩ = some (.int .i64 x0) ∧ w'.cell? ⟨z, 1, none⟩ = some (.int .i64 x1)))) (by kernel_rfl) ⟨⟨c0, c1⟩, r0, r1⟩ (fun hHeld => ?_)
        refine wpAnyH_take (i := 0) (oi := ⟨some 7, _, _, _, _, _⟩) (v := ?_) rfl (by kernel_rfl) (by kernel_rfl) (by kernel_rfl) (fun _ _ _ h => h) (Or.inl ⟨by rfl, by intro w hSw; (try dsimp only at hSw); go_simp; try with_reducible rfl⟩) hHeld ?_
        try simp only [Act.put, List.setIfInBounds_toArray, List.set_cons_zero, List.set_cons_succ]
        refine wpAnyH_take (i := 1) (oi := ⟨some 8, _, _, _, _, _⟩) (v := ?_) rfl (by kernel_rfl) (by kernel_rfl) (by kernel_rfl) (fun _ _ _ h => h) (Or.inl ⟨by rfl, by intro w hSw; (try dsimp only at hSw); go_simp; try with_reducible rfl⟩) hHeld ?_
        try simp only [Act.put, List.setIfInBounds_toArray, List.set_cons_zero, List.set_cons_succ]
        refine wpAnyH_take (i := 2) (oi := ⟨some 9, _, _, _, _, _⟩) (v := ?_) rfl (by kernel_rfl) (by kernel_rfl) (by kernel_rfl) (fun _ _ _ h => h) (Or.inl ⟨by rfl, by intro w hSw; (try dsimp only at hSw); go_simp; try with_reducible rfl⟩) hHeld ?_
        try simp only [Act.put, List.setIfInBounds_toArray, List.set_cons_zero, List.set_cons_succ]
        refine wpAnyH_take (i := 3) (oi := ⟨some 10, _, _, _, _, _⟩) (v := ?_) rfl (by kernel_rfl) (by kernel_rfl) (by kernel_rfl) (fun _ _ _ h => h) (Or.inl ⟨by rfl, by intro w hSw; (try dsimp only at hSw); go_simp; try with_reducible rfl⟩) hHeld ?_
        try simp only [Act.put, List.setIfInBounds_toArray, List.set_cons_zero, List.set_cons_succ]
        refine wpAnyH_take (i := 4) (oi := ⟨some 11, _, _, _, _, _⟩) (v := ?_) rfl (by kernel_rfl) (by kernel_rfl) (by kernel_rfl) (fun _ _ _ h => h) (Or.inl ⟨by rfl, by intro w hSw; (try dsimp only at hSw); go_simp; try with_reducible rfl⟩) hHeld ?_
        try simp only [Act.put, List.setIfInBounds_toArray, List.set_cons_zero, List.set_cons_succ]
        refine wpAnyH_take (i := 5) (oi := ⟨some 12, _, _, _, _, _⟩) (v := ?_) rfl (by kernel_rfl) (by kernel_rfl) (by kernel_rfl) (fun _ _ _ h => h) (Or.inl ⟨by rfl, by intro w hSw; (try dsimp only at hSw); go_simp; try with_reducible rfl⟩) hHeld ?_
        try simp only [Act.put, List.setIfInBounds_toArray, List.set_cons_zero, List.set_cons_succ]
        refine wpAnyH_take (i := 6) (oi := ⟨some 13, _, _, _, _, _⟩) (v := ?_) rfl (by kernel_rfl) (by kernel_rfl) (by kernel_rfl) (fun _ _ _ h => h) (Or.inl ⟨by rfl, by intro w hSw; (try dsimp only at hSw); go_simp; try with_reducible rfl⟩) hHeld ?_
        try simp only [Act.put, List.setIfInBounds_toArray, List.set_cons_zero, List.set_cons_succ]
        refine wpAnyH_take (i := 7) (oi := ⟨some 14, _, _, _, _, _⟩) (v := ?_) rfl (by kernel_rfl) (by kernel_rfl) (by kernel_rfl) (fun _ _ _ h => h) (Or.inl ⟨by rfl, by intro w hSw; (try dsimp only at hSw); go_simp; try with_reducible rfl⟩) hHeld ?_
        try simp only [Act.put, List.setIfInBounds_toArray, List.set_cons_zero, List.set_cons_succ]
        refine wpAnyH_take (i := 8) (oi := ⟨some 15, _, _, _, _, _⟩) (v := ?_) rfl (by kernel_rfl) (by kernel_rfl) (by kernel_rfl) (fun _ _ _ h => h) (Or.inl ⟨by rfl, by intro w hSw; (try dsimp only at hSw); go_simp; try with_reducible rfl⟩) hHeld ?_
        try simp only [Act.put, List.setIfInBounds_toArray, List.set_cons_zero, List.set_cons_succ]
        refine wpAnyH_take (i := 9) (oi := ⟨some 16, _, _, _, _, _⟩) (v := ?_) rfl (by kernel_rfl) (by kernel_rfl) (by kernel_rfl) (fun _ _ _ h => h) (Or.inl ⟨by rfl, by intro w hSw; (try dsimp only at hSw); go_simp; try with_reducible rfl⟩) hHeld ?_
        try simp only [Act.put, List.setIfInBounds_toArray, List.set_cons_zero, List.set_cons_succ]
        refine wpAnyH_ready (rs := [10]) (by kernel_rfl) (by simp) ?_
        refine AllReadyH.cons (o := ⟨some 17, _, _, _, _, _⟩) rfl (fun K hK => ?_) AllReadyH.nil
        go_simp
        go_at_call 61
        refine (CB'.out _).mono ?_
        rintro e w2 ⟨rfl, hb2⟩
        have HB2 := Off.mk (belowC (below_drew HBw.out) hb2)
        have HB2' := Off.mk (belowC (below_drew HB.out) hb2)
        go_wp2_with fail
        refine hK.out _ _ ⟨⟨cellB hb2 hHeld.1.1, cellB hb2 hHeld.1.2⟩, cellB hb2 hHeld.2.1, cellB hb2 hHeld.2.2⟩ (fun hHeld => ?_)
        clear hK K
        try simp only [Act.put, List.setIfInBounds_toArray, List.set_cons_zero, List.set_cons_succ]
        refine wpAnyH_take (i := 11) (oi := ⟨some 18, _, _, _, _, _⟩) (v := ?_) rfl (by kernel_rfl) (by kernel_rfl) (by kernel_rfl) (fun _ _ _ h => h) (Or.inl ⟨by rfl, by intro w hSw; (try dsimp only at hSw); go_simp; try with_reducible rfl⟩) hHeld ?_
        try simp only [Act.put, List.setIfInBounds_toArray, List.set_cons_zero, List.set_cons_succ]
        refine wpAnyH_done (by kernel_rfl) ?_ _
        go_wp2
        go_roundw
        case rel => exact ⟨k + 1, by omega, by go_num, HEn', HB2'⟩
        case measure => simp only [intOf]; omega
    · obtain rfl : k = l.length := by omega
      have hg : decide (((l.length : Nat) : Int) < (l.length : Int)) = false := by rw [decide_eq_false_iff_not]; omega
      have hg2 : decide (l.length < l.length) = false := by rw [decide_eq_false_iff_not]; omega
      have HRk' : Off (rankP (x0, x1) l = l.length) := ⟨rankP_at _ _ _ (by omega) HE.out (.inl rfl)⟩
      go_wp2
      refine wp_region_held_drew (S := (fun _ => True)) (by kernel_rfl) trivial (fun hHeld => ?_)
      refine wpAnyH_take (i := 0) (oi := ⟨some 7, _, _, _, _, _⟩) (v := ?_) rfl (by kernel_rfl) (by kernel_rfl) (by kernel_rfl) (fun _ _ _ h => h) (Or.inl ⟨by rfl, by intro w hSw; (try dsimp only at hSw); go_simp; try with_reducible rfl⟩) hHeld ?_
      try simp only [Act.put, List.setIfInBounds_toArray, List.set_cons_zero, List.set_cons_succ]
      refine wpAnyH_take (i := 1) (oi := ⟨some 8, _, _, _, _, _⟩) (v := ?_) rfl (by kernel_rfl) (by kernel_rfl) (by kernel_rfl) (fun _ _ _ h => h) (Or.inl ⟨by rfl, by intro w hSw; (try dsimp only at hSw); go_simp; try with_reducible rfl⟩) hHeld ?_
      try simp only [Act.put, List.setIfInBounds_toArray, List.set_cons_zero, List.set_cons_succ]
      refine wpAnyH_take (i := 2) (oi := ⟨some 9, _, _, _, _, _⟩) (v := ?_) rfl (by kernel_rfl) (by kernel_rfl) (by kernel_rfl) (fun _ _ _ h => h) (Or.inl ⟨by rfl, by intro w hSw; (try dsimp only at hSw); go_simp; try with_reducible rfl⟩) hHeld ?_
      try simp only [Act.put, List.setIfInBounds_toArray, List.set_cons_zero, List.set_cons_succ]
      refine wpAnyH_take (i := 3) (oi := ⟨some 10, _, _, _, _, _⟩) (v := ?_) rfl (by kernel_rfl) (by kernel_rfl) (by kernel_rfl) (fun _ _ _ h => h) (Or.inl ⟨by rfl, by intro w hSw; (try dsimp only at hSw); go_simp; try with_reducible rfl⟩) hHeld ?_
      try simp only [Act.put, List.setIfInBounds_toArray, List.set_cons_zero, List.set_cons_succ]
      refine wpAnyH_take (i := 4) (oi := ⟨some 11, _, _, _, _, _⟩) (v := ?_) rfl (by kernel_rfl) (by kernel_rfl) (by kernel_rfl) (fun _ _ _ h => h) (Or.inl ⟨by rfl, by intro w hSw; (try dsimp only at hSw); go_simp; try with_reducible rfl⟩) hHeld ?_
      try simp only [Act.put, List.setIfInBounds_toArray, List.set_cons_zero, List.set_cons_succ]
      refine wpAnyH_take (i := 5) (oi := ⟨some 12, _, _, _, _, _⟩) (v := undef) rfl (by kernel_rfl) (by kernel_rfl) (by kernel_rfl) (fun _ _ _ h => h) (Or.inr ⟨by rfl, rfl⟩) hHeld ?_
      try simp only [Act.put, List.setIfInBounds_toArray, List.set_cons_zero, List.set_cons_succ]
      refine wpAnyH_take (i := 6) (oi := ⟨some 13, _, _, _, _, _⟩) (v := undef) rfl (by kernel_rfl) (by kernel_rfl) (by kernel_rfl) (fun _ _ _ h => h) (Or.inr ⟨by rfl, rfl⟩) hHeld ?_
      try simp only [Act.put, List.setIfInBounds_toArray, List.set_cons_zero, List.set_cons_succ]
      refine wpAnyH_take (i := 7) (oi := ⟨some 14, _, _, _, _, _⟩) (v := undef) rfl (by kernel_rfl) (by kernel_rfl) (by kernel_rfl) (fun _ _ _ h => h) (Or.inr ⟨by rfl, rfl⟩) hHeld ?_
      try simp only [Act.put, List.setIfInBounds_toArray, List.set_cons_zero, List.set_cons_succ]
      refine wpAnyH_take (i := 8) (oi := ⟨some 15, _, _, _, _, _⟩) (v := undef) rfl (by kernel_rfl) (by kernel_rfl) (by kernel_rfl) (fun _ _ _ h => h) (Or.inr ⟨by rfl, rfl⟩) hHeld ?_
      try simp only [Act.put, List.setIfInBounds_toArray, List.set_cons_zero, List.set_cons_succ]
      refine wpAnyH_take (i := 9) (oi := ⟨some 16, _, _, _, _, _⟩) (v := undef) rfl (by kernel_rfl) (by kernel_rfl) (by kernel_rfl) (fun _ _ _ h => h) (Or.inr ⟨by rfl, rfl⟩) hHeld ?_
      try simp only [Act.put, List.setIfInBounds_toArray, List.set_cons_zero, List.set_cons_succ]
      refine wpAnyH_take (i := 10) (oi := ⟨some 17, _, _, _, _, _⟩) (v := undef) rfl (by kernel_rfl) (by kernel_rfl) (by kernel_rfl) (fun _ _ _ h => h) (Or.inr ⟨by rfl, rfl⟩) hHeld ?_
      try simp only [Act.put, List.setIfInBounds_toArray, List.set_cons_zero, List.set_cons_succ]
      refine wpAnyH_take (i := 11) (oi := ⟨some 18, _, _, _, _, _⟩) (v := ?_) rfl (by kernel_rfl) (by kernel_rfl) (by kernel_rfl) (fun _ _ _ h => h) (Or.inl ⟨by rfl, by intro w hSw; (try dsimp only at hSw); go_simp; try with_reducible rfl⟩) hHeld ?_
      try simp only [Act.put, List.setIfInBounds_toArray, List.set_cons_zero, List.set_cons_succ]
      refine wpAnyH_done (by kernel_rfl) ?_ _
      have HBd := Off.mk (below_drew HBw.out)
      obtain ⟨wd, hwd⟩ : ∃ wd, wd = wr.drew := ⟨_, rfl⟩
      have r0 : wd.cell? ⟨z, 0, none⟩ = some (.int .i64 x0) := by rw [hwd]; exact r0
      have r1 : wd.cell? ⟨z, 1, none⟩ = some (.int .i64 x1) := by rw [hwd]; exact r1
      rw [← hwd] at HBd ⊢
      clear hwd HB HBw hHeld
      have hkc : l.length ≤ c := by omega
      have hkcI : (l.length : Int) ≤ (c : Int) := by omega
      have hk00 : (0 : Int) ≤ (l.length : Int) := by omega
      have hklI : (l.length : Int) ≤ (l.length : Int) := by omega
      have HL1 : Off ((l.take l.length).length = l.length) := ⟨by rw [List.length_take]; omega⟩
      have HL2 : Off ((l.drop l.length).length = 0) := ⟨by rw [List.length_drop]; omega⟩
      have HX2 := Off.mk (HX.out.below HBd.out)
      obtain ⟨A2, hA2, hS2⟩ : ∃ A2 : Addr, (if c = l.length then some ad else some (ad.add (l.length * 2))) = some A2 ∧ Off (SrcQ wd (some A2) (l.drop l.length)) := by
        by_cases h1 : c = l.length
        · refine ⟨ad, by simp [h1], ⟨?_⟩⟩
          rw [List.drop_of_length_le (by omega)]
          exact srcQ_nil _ _
        · exact ⟨_, by simp [h1], ⟨srcQ_drop HX2.out l.length⟩⟩
      have hS2b := hS2
      have hzl := HZl.out
      go_wp2_with (at_builtin; refine wpList_appQ rfl _ _ rfl wd.heap.size _ [] (ownQ_nil _ _) (Nat.le_refl _) (some ad) (l.take l.length) l.length c HL1.out (srcQ_take HX2.out l.length) (fun e => by cases e) (by simp) (by omega) rfl rfl ?_)
      intro v3 w3 hO3 hb3
      have HO3 : Off (OwnQ w3 wd.heap.size v3 (l.take l.length)) := ⟨by simpa using hO3⟩
      have HB3 := Off.mk (belowC HBd.out hb3)
      have hS3 := Off.mk (hS2.out.below hb3)
      have r0 := cellB hb3 r0
      have r1 := cellB hb3 r1
      have HG3 : Off (wd.heap.size ≤ w3.heap.size) := ⟨hb3.size⟩
      clear hO3 hb3 hS2
      go_wp2_with (at_builtin; refine wpList_pair rfl _ _ rfl wd.heap.size _ (l.take l.length) x0 x1 HO3.out HG3.out (by rw [HL1.out]; omega) rfl rfl ?_)
      intro v4 w4 hO4 hb4 _
      have HO4 : Off (OwnQ w4 wd.heap.size v4 (l.take l.length ++ [(x0, x1)])) := ⟨by simpa using hO4⟩
      have HB4 := Off.mk (HB3.out.trans (hb4.mono HBd.out.size))
      have hb34 : Below wd.heap.size w3 w4 := hb4
      have hS4 : Off (SrcQ w4 (some A2) (l.drop l.length)) := ⟨fun j u hj => by
        obtain ⟨ad', e, hc⟩ := hS3.out j u hj
        exact ⟨ad', e, (hb34.cell (by
          have h6 := hS2b.out j u hj
          obtain ⟨ad'', e2, hc2⟩ := h6
          cases e
          cases e2
          exact World.block_lt_of_cell? _ _ hc2)).trans hc⟩⟩
      have HG4 : Off (wd.heap.size ≤ w4.heap.size) := ⟨Nat.le_trans HG3.out hb4.size⟩
      clear hO4 hb4 hb34 hS3 hS2b
      go_wp2_with (at_builtin; refine wpList_appQ rfl _ _ rfl wd.heap.size _ (l.take l.length ++ [(x0, x1)]) HO4.out HG4.out (some A2) (l.drop l.length) 0 (c - l.length) HL2.out hS4.out (fun e => by cases e) (by rw [List.length_append, HL1.out]; simp; omega) (by omega) rfl rfl ?_)
      intro v5 w5 hO5 hb5
      have HO5 : Off (OwnQ w5 w.heap.size v5 (rputL l (x0, x1))) := ⟨by
        rw [HR.out, HRk'.out]
        refine ownQ_mono ?_ HBd.out.size
        simpa using hO5⟩
      have HB5 := Off.mk (HB4.out.trans (hb5.mono HBd.out.size))
      clear hO5 hb5
      go_wp2
      go_ret
      exact ⟨_, rfl, HO5.out, HB5.out⟩
end Go.Proofs.Ytddcdopimpfhcaa
