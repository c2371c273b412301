/- Contracts: Delete, Index of whole numbers. -/
import Derived.Test.YtddcdopimpfhcaaBj
import Derived.Deep.RegionHeld3
import Derived.OwnWalk
import Derived.Lib.SliceRun
namespace Go.Proofs.Ytddcdopimpfhcaa
open Go.RowKit Go.Shelf

theorem zeroI (w : World) : (zeroValue 3).run Try.prog w = .ok (.int .i64 0) w := by kernel_rfl
/-- The cells of the whole room of a row. -/
theorem room_cell {w : World} {base : Nat} {e : TypeId} {size r n m c : Nat} {xs : List Value} (h : w.ownsRow base e size (.slice (some ⟨r, 0, none⟩) n c) m xs) (j : Nat) (hj : j < c * size) : (w.cell? ⟨r, j, none⟩).isSome = true ∧ w.frozen? ⟨r, j, none⟩ = false := by
  rcases h.2 with ⟨h', _⟩ | ⟨g, cap, cur, h', hb, hg, hnc, hcm, hcs, htake⟩
  · simp at h'
  · simp only [Value.slice.injEq, Option.some.injEq, Addr.mk.injEq, and_true] at h'
    obtain ⟨rfl, rfl, rfl⟩ := h'
    simp [World.cell?, World.frozen?, hg, hcs, hj]
theorem room_le {w : World} {base : Nat} {e : TypeId} {size r n m c : Nat} {xs : List Value} (h : w.ownsRow base e size (.slice (some ⟨r, 0, none⟩) n c) m xs) : c ≤ maxLen := by
  rcases h.2 with ⟨h', _⟩ | ⟨g, cap, cur, h', hb, hg, hnc, hcm, hcs, htake⟩
  · simp at h'
  · simp only [Value.slice.injEq, Option.some.injEq, Addr.mk.injEq, and_true] at h'
    obtain ⟨rfl, rfl, rfl⟩ := h'
    exact hcm
/-- The head of a row is a row. -/
theorem owns_take {w : World} {base : Nat} {e : TypeId} {size r n c : Nat} {xs : List Value} (h : w.ownsRow base e size (.slice (some ⟨r, 0, none⟩) n c) n xs) (k : Nat) (hk : k ≤ n) : w.ownsRow base e size (.slice (some ⟨r, 0, none⟩) k c) k (xs.take (k * size)) := by
  have hle : k * size ≤ n * size := Nat.mul_le_mul_right _ hk
  refine ⟨by rw [List.length_take, h.1]; omega, ?_⟩
  rcases h.2 with ⟨h', _⟩ | ⟨g, cap, cur, h', hb, hg, hnc, hcm, hcs, htake⟩
  · simp at h'
  · simp only [Value.slice.injEq, Option.some.injEq, Addr.mk.injEq, and_true, true_and] at h'
    obtain ⟨rfl, rfl⟩ := h'
    refine .inr ⟨r, c, cur, rfl, hb, hg, by omega, hcm, hcs, ?_⟩
    rw [← htake, List.take_take, Nat.min_eq_left hle]
/-- 'append' within the capacity, at a step of a region that draws its order. -/
theorem step_append_fits {ops : Array Oper} {o : Oper} {a : Act} {w : World} {K : Act → World → Prop} {Q : Exit → Act → World → Prop} {E : Prop}
    (hg : o.guard = none) (s x : Operand) (t : TypeId) (hop : o.op = Op.call { callee := Callee.builtin Builtin.append, args := #[s, x], argTypes := #[t, t] })
    (base : Nat) (e : TypeId) (i : TypeInfo) (size : Nat) (h1 : Try.prog.underlying t = some (.slice e)) (h2 : Try.prog.info? e = some i) (h4 : i.size = size)
    (g k cap : Nat) (xs : List Value) (hs : a.eval s = .slice (some ⟨g, 0, none⟩) k cap) (hown : w.ownsRow base e size (.slice (some ⟨g, 0, none⟩) k cap) k xs) (ad : Addr) (m c : Nat) (news : List Value) (hx : a.eval x = .slice (some ad) m c) (hn : news.length = m * size)
    (hc : ∀ j u, news[j]? = some u → w.cell? (ad.add j) = some u) (h1c : ∀ u ∈ news, u.oneCell' = true) (b1 : k + m ≤ cap)
    (hK : ∀ w', w'.ownsRow base e size (.slice (some ⟨g, 0, none⟩) (k + m) cap) (k + m) (xs ++ news) → w.grownBy w' (some g) → K (a.put o.dst (.slice (some ⟨g, 0, none⟩) (k + m) cap)) w') :
    if Region.wanted o (yielded ops a.tmps) = true then Oper.wp Try.prog o a w K Q else E := by
  have hw : Region.wanted o (yielded ops a.tmps) = true := by simp [Region.wanted, hg]
  rw [if_pos hw]
  obtain ⟨w', hrun, r1, r2⟩ := run_append_fits (P := Try.prog) w base t o.type e i size h1 h2 h4 g k cap xs hown ad m c news hn hc h1c b1
  unfold Oper.wp
  simp [execOp, hop, resolve, invoke, builtin, hs, hx, hrun, Result.andThen]
  exact hK w' r1 r2
theorem nums_length (xs : List Int) : (nums xs).length = xs.length * 1 := by simp [nums]
theorem pairCells_length (xs : List (Int × Int)) : (pairCells xs).length = xs.length * 2 := pairCells_len xs
theorem nums_one (xs : List Int) (u : Value) (h : u ∈ nums xs) : u.oneCell' = true := by
  simp only [nums, List.mem_map] at h
  obtain ⟨y, _, rfl⟩ := h
  rfl
theorem nums_erase (xs : List Int) (k : Nat) : (nums xs).take (k * 1) ++ (nums xs).drop ((k + 1) * 1) = nums (xs.eraseIdx k) := by simp [nums, List.eraseIdx_eq_take_drop_succ]
theorem pairCells_take (xs : List (Int × Int)) : ∀ k, (pairCells xs).take (k * 2) = pairCells (xs.take k) := by
  induction xs with
  | nil => intro k; simp [pairCells]
  | cons x xs ih =>
    intro k
    cases k with
    | zero => simp [pairCells]
    | succ k =>
      have h := ih k
      have e : (k + 1) * 2 = k * 2 + 2 := by omega
      rw [e]
      simp only [pairCells, List.flatMap_cons, List.take_succ_cons] at h ⊢
      simpa using h
theorem pairCells_drop (xs : List (Int × Int)) : ∀ k, (pairCells xs).drop (k * 2) = pairCells (xs.drop k) := by
  induction xs with
  | nil => intro k; simp [pairCells]
  | cons x xs ih =>
    intro k
    cases k with
    | zero => simp [pairCells]
    | succ k =>
      have h := ih k
      have e : (k + 1) * 2 = k * 2 + 2 := by omega
      rw [e]
      simp only [pairCells, List.flatMap_cons, List.drop_succ_cons] at h ⊢
      simpa using h
theorem pairCells_erase (xs : List (Int × Int)) (k : Nat) : (pairCells xs).take (k * 2) ++ (pairCells xs).drop ((k + 1) * 2) = pairCells (xs.eraseIdx k) := by
  rw [pairCells_take, pairCells_drop, List.eraseIdx_eq_take_drop_succ]
  simp [pairCells]
theorem zeroQ (w : World) : (zeroValue 36).run Try.prog w = .ok (.agg #[.int .i64 0, .int .i64 0]) w := by kernel_rfl
theorem clearI (W : World) (r o c : Nat) (ty : TypeId) (h : ∀ j, j < 1 → (W.cell? ⟨r, o + j, none⟩).isSome = true ∧ W.frozen? ⟨r, o + j, none⟩ = false) :
    (Builtin.clear_ #[45] ty #[.slice (some ⟨r, o, none⟩) 1 c]).run Try.prog W = .ok (.tuple #[]) (W.setCell ⟨r, o, none⟩ (.int .i64 0)) := by
  have hst := run_storeCells_cells (P := Try.prog) r o [.int .i64 0] 0 W (fun j hj => (h j hj).1) (fun j hj => (h j hj).2) (by intro v hv; simp at hv; subst hv; rfl)
  simp only [Nat.add_zero] at hst
  have hz : (Builtin.zeroCells (Value.int .i64 0).cells 1).toList = [.int .i64 0] := by kernel_rfl
  simp [Builtin.clear_, run_underlying Try.underlying45, hz, hst, World.setCells]
theorem clearQ (W : World) (r o c : Nat) (ty : TypeId) (h : ∀ j, j < 2 → (W.cell? ⟨r, o + j, none⟩).isSome = true ∧ W.frozen? ⟨r, o + j, none⟩ = false) :
    (Builtin.clear_ #[22] ty #[.slice (some ⟨r, o, none⟩) 1 c]).run Try.prog W = .ok (.tuple #[]) ((W.setCell ⟨r, o, none⟩ (.int .i64 0)).setCell ⟨r, o + 1, none⟩ (.int .i64 0)) := by
  have hst := run_storeCells_cells (P := Try.prog) r o [.int .i64 0, .int .i64 0] 0 W (fun j hj => (h j hj).1) (fun j hj => (h j hj).2) (by intro v hv; simp at hv; subst hv; rfl)
  simp only [Nat.add_zero] at hst
  have hz : (Builtin.zeroCells (Value.agg #[.int .i64 0, .int .i64 0]).cells 1).toList = [.int .i64 0, .int .i64 0] := by kernel_rfl
  simp [Builtin.clear_, run_underlying Try.underlying22, hz, hst, World.setCells]

set_option linter.unusedSimpArgs false in
set_option maxHeartbeats 4000000 in
set_option maxRecDepth 100000 in
theorem delI_any (base r n c k : Nat) (xs : List Int) (w : World) (h : IRow w base r n c xs) (hk : k < n) (hn : n ≤ 100) (hc : n ≤ c) :
    Calls Try.prog 67 #[.slice (some ⟨r, 0, none⟩) n c, .int .i64 (k : Int), .int .i64 ((k : Int) + 1)] w fun e w' => e = .returned (.slice (some ⟨r, 0, none⟩) (n - 1) c) ∧ IRow w' base r (n - 1) c (xs.eraseIdx k) ∧ Keeps r w w' := by
  obtain ⟨m, rfl⟩ : ∃ m, n = m + 1 := ⟨n - 1, by omega⟩
  rw [Nat.add_sub_cancel]
  obtain ⟨i0, hi, hz0, hz1, hz2⟩ := info_parts info3
  have hm := room_le h.own
  unfold maxLen at hm
  have hxl := h.len
  have hcl := nums_length xs
  have hO := owns_take (h.own.drew) k (by omega)
  have HO := Off.mk hO
  obtain ⟨A, hA, hsrc⟩ : ∃ A : Addr, (if c = k + 1 then some (⟨r, 0, none⟩ : Addr) else some ⟨r, k + 1, none⟩) = some A ∧ Off (∀ t u, ((nums xs).drop ((k + 1) * 1))[t]? = some u → w.drew.cell? (A.add t) = some u) := by
    by_cases h1 : c = k + 1
    · refine ⟨⟨r, 0, none⟩, by simp [h1], ⟨fun t u hu => ?_⟩⟩
      rw [List.drop_of_length_le (by rw [hcl]; omega)] at hu
      simp at hu
    · refine ⟨⟨r, k + 1, none⟩, by simp [h1], ⟨fun t u hu => ?_⟩⟩
      rw [List.getElem?_drop] at hu
      have hlt := (List.getElem?_eq_some_iff.1 hu).1
      rw [hcl] at hlt
      have e1 : k + 1 + t = (k + 1) * 1 + t := by omega
      rw [Addr.add_lit, e1, World.cell?_drew, h.own.cellAt ((k + 1) * 1 + t) (by omega)]
      exact hu
  have HL : Off (((nums xs).drop ((k + 1) * 1)).length = (m - k) * 1) := ⟨by rw [List.length_drop, hcl]; omega⟩
  have HE : Off ((nums xs).take (k * 1) ++ (nums xs).drop ((k + 1) * 1) = nums (xs.eraseIdx k)) := ⟨nums_erase xs k⟩
  have H1 : Off (∀ u ∈ (nums xs).drop ((k + 1) * 1), u.oneCell' = true) := ⟨fun u hu => nums_one xs u (List.mem_of_mem_drop hu)⟩
  have HEL : Off ((xs.eraseIdx k).length = m) := ⟨by rw [List.length_eraseIdx_of_lt (by omega), hxl]; rfl⟩
  have hkm : k ≤ m := by omega
  have hk1 : (0 : Int) ≤ (k : Int) := by omega
  have hk2 : (k : Int) + 1 ≤ ((m + 1 : Nat) : Int) := by omega
  have hk3 : (k : Int) ≤ (c : Int) := by omega
  have hk4 : (k : Int) + 1 ≤ (c : Int) := by omega
  have hk5 : (0 : Int) ≤ (k : Int) + 1 := by omega
  have hne : ((k : Int) == (k : Int) + 1) = false := by rw [beq_eq_false_iff_ne]; omega
  have HK : Off (k + (m - k) = m) := ⟨by omega⟩
  obtain ⟨ys, hys⟩ : ∃ ys, ys = (nums xs).drop ((k + 1) * 1) := ⟨_, rfl⟩
  rw [← hys] at HL HE H1 hsrc
  have HN := Off.mk hxl
  clear hxl hO hys h hcl
  go_enter Try.func67, Try.ntmps67
  go_wp2
  refine wp_region_held_drew (S := (fun _ => True)) (by kernel_rfl) trivial (fun hHeld => ?_)
  refine wpAnyH_take (i := 0) (oi := ⟨some 20, _, _, _, _, _⟩) (v := ?_) rfl (by kernel_rfl) (by kernel_rfl) (by kernel_rfl) (fun _ _ _ h => h) (Or.inl ⟨by rfl, by intro w hSw; (try dsimp only at hSw); go_simp; try with_reducible rfl⟩) hHeld ?_
  try simp only [Act.put, List.setIfInBounds_toArray, List.set_cons_zero, List.set_cons_succ]
  refine wpAnyH_take (i := 1) (oi := ⟨some 21, _, _, _, _, _⟩) (v := ?_) rfl (by kernel_rfl) (by kernel_rfl) (by kernel_rfl) (fun _ _ _ h => h) (Or.inl ⟨by rfl, by intro w hSw; (try dsimp only at hSw); go_simp; try with_reducible rfl⟩) hHeld ?_
  try simp only [Act.put, List.setIfInBounds_toArray, List.set_cons_zero, List.set_cons_succ]
  refine wpAnyH_take (i := 2) (oi := ⟨some 22, _, _, _, _, _⟩) (v := ?_) rfl (by kernel_rfl) (by kernel_rfl) (by kernel_rfl) (fun _ _ _ h => h) (Or.inl ⟨by rfl, by intro w hSw; (try dsimp only at hSw); go_simp; try with_reducible rfl⟩) hHeld ?_
  try simp only [Act.put, List.setIfInBounds_toArray, List.set_cons_zero, List.set_cons_succ]
  refine wpAnyH_take (i := 3) (oi := ⟨some 23, _, _, _, _, _⟩) (v := ?_) rfl (by kernel_rfl) (by kernel_rfl) (by kernel_rfl) (fun _ _ _ h => h) (Or.inl ⟨by rfl, by intro w hSw; (try dsimp only at hSw); go_simp; try with_reducible rfl⟩) hHeld ?_
  try simp only [Act.put, List.setIfInBounds_toArray, List.set_cons_zero, List.set_cons_succ]
  refine wpAnyH_take (i := 4) (oi := ⟨some 24, _, _, _, _, _⟩) (v := ?_) rfl (by kernel_rfl) (by kernel_rfl) (by kernel_rfl) (fun _ _ _ h => h) (Or.inl ⟨by rfl, by intro w hSw; (try dsimp only at hSw); go_simp; try with_reducible rfl⟩) hHeld ?_
  try simp only [Act.put, List.setIfInBounds_toArray, List.set_cons_zero, List.set_cons_succ]
  refine wpAnyH_take (i := 5) (oi := ⟨some 25, _, _, _, _, _⟩) (v := ?_) rfl (by kernel_rfl) (by kernel_rfl) (by kernel_rfl) (fun _ _ _ h => h) (Or.inl ⟨by rfl, by intro w hSw; (try dsimp only at hSw); go_simp; try with_reducible rfl⟩) hHeld ?_
  try simp only [Act.put, List.setIfInBounds_toArray, List.set_cons_zero, List.set_cons_succ]
  refine wpAnyH_ready (rs := [6]) (by kernel_rfl) (by simp) ?_
  refine AllReadyH.cons (o := ⟨some 26, _, _, _, _, _⟩) rfl (fun K hK => ?_) AllReadyH.nil
  refine step_append_fits rfl _ _ 45 rfl base 3 i0 1 Try.underlying45 hi hz1 r k c _ rfl HO.out A (m - k) (c - (k + 1)) ys rfl HL.out hsrc.out H1.out (by omega) ?_
  intro w2 hO2 hg2
  rw [HE.out] at hO2
  simp only [HK.out] at hO2 ⊢
  have HO2 := Off.mk hO2
  have HG2 := Off.mk hg2
  clear hO2 hg2
  refine hK.out _ _ trivial (fun hHeld => ?_)
  clear hK K
  try simp only [Act.put, List.setIfInBounds_toArray, List.set_cons_zero, List.set_cons_succ]
  refine wpAnyH_take (i := 7) (oi := ⟨some 0, _, _, _, _, _⟩) (v := ?_) rfl (by kernel_rfl) (by kernel_rfl) (by kernel_rfl) (fun _ _ _ h => h) (Or.inl ⟨by rfl, by intro w hSw; (try dsimp only at hSw); go_simp; try with_reducible rfl⟩) hHeld ?_
  try simp only [Act.put, List.setIfInBounds_toArray, List.set_cons_zero, List.set_cons_succ]
  refine wpAnyH_done (by kernel_rfl) ?_ _
  have hcl : ∀ ty, (Builtin.clear_ #[45] ty #[.slice (some ⟨r, m, none⟩) 1 (c - m)]).run Try.prog w2 = .ok (.tuple #[]) (w2.setCell ⟨r, m, none⟩ (.int .i64 0)) := fun ty => clearI w2 r (m) (c - m) ty (fun j hj => room_cell HO2.out _ (by omega))
  have hk7 : (m : Int) ≤ (c : Int) := by omega
  have hk8 : (m : Int) + 1 ≤ (c : Int) := by omega
  have hk9 : (0 : Int) ≤ (m : Int) + 1 := by omega
  have hk6 : (0 : Int) ≤ (m : Int) := by omega
  have HG0 : Off (Keeps r w w2) := ⟨⟨⟨HG2.out.os, HG2.out.tape, HG2.out.output, HG2.out.size, HG2.out.block⟩⟩⟩
  clear HG2 hA hsrc
  go_wp2
  go_ret
  obtain ⟨ho, hg⟩ := HO2.out.stored m (.int .i64 0)
  rw [List.set_eq_of_length_le (by simp [nums, HEL.out])] at ho
  exact ⟨rfl, ⟨HEL.out, ho⟩, HG0.out.trans ⟨hg⟩⟩
set_option linter.unusedSimpArgs false in
set_option maxHeartbeats 4000000 in
set_option maxRecDepth 100000 in
theorem delQ_any (base r n c k : Nat) (xs : List (Int × Int)) (w : World) (h : QRow w base r n c xs) (hk : k < n) (hn : n ≤ 100) (hc : n ≤ c) :
    Calls Try.prog 53 #[.slice (some ⟨r, 0, none⟩) n c, .int .i64 (k : Int), .int .i64 ((k : Int) + 1)] w fun e w' => e = .returned (.slice (some ⟨r, 0, none⟩) (n - 1) c) ∧ QRow w' base r (n - 1) c (xs.eraseIdx k) ∧ Keeps r w w' := by
  obtain ⟨m, rfl⟩ : ∃ m, n = m + 1 := ⟨n - 1, by omega⟩
  rw [Nat.add_sub_cancel]
  obtain ⟨i0, hi, hz0, hz1, hz2⟩ := info_parts info36
  have hm := room_le h.own
  unfold maxLen at hm
  have hxl := h.len
  have hcl := pairCells_length xs
  have hO := owns_take (h.own.drew) k (by omega)
  have HO := Off.mk hO
  obtain ⟨A, hA, hsrc⟩ : ∃ A : Addr, (if c = k + 1 then some (⟨r, 0, none⟩ : Addr) else some ⟨r, (k + 1) * 2, none⟩) = some A ∧ Off (∀ t u, ((pairCells xs).drop ((k + 1) * 2))[t]? = some u → w.drew.cell? (A.add t) = some u) := by
    by_cases h1 : c = k + 1
    · refine ⟨⟨r, 0, none⟩, by simp [h1], ⟨fun t u hu => ?_⟩⟩
      rw [List.drop_of_length_le (by rw [hcl]; omega)] at hu
      simp at hu
    · refine ⟨⟨r, (k + 1) * 2, none⟩, by simp [h1], ⟨fun t u hu => ?_⟩⟩
      rw [List.getElem?_drop] at hu
      have hlt := (List.getElem?_eq_some_iff.1 hu).1
      rw [hcl] at hlt
      have e1 : (k + 1) * 2 + t = (k + 1) * 2 + t := by omega
      rw [Addr.add_lit, e1, World.cell?_drew, h.own.cellAt ((k + 1) * 2 + t) (by omega)]
      exact hu
  have HL : Off (((pairCells xs).drop ((k + 1) * 2)).length = (m - k) * 2) := ⟨by rw [List.length_drop, hcl]; omega⟩
  have HE : Off ((pairCells xs).take (k * 2) ++ (pairCells xs).drop ((k + 1) * 2) = pairCells (xs.eraseIdx k)) := ⟨pairCells_erase xs k⟩
  have H1 : Off (∀ u ∈ (pairCells xs).drop ((k + 1) * 2), u.oneCell' = true) := ⟨fun u hu => pairCells_one xs u (List.mem_of_mem_drop hu)⟩
  have HEL : Off ((xs.eraseIdx k).length = m) := ⟨by rw [List.length_eraseIdx_of_lt (by omega), hxl]; rfl⟩
  have hkm : k ≤ m := by omega
  have hk1 : (0 : Int) ≤ (k : Int) := by omega
  have hk2 : (k : Int) + 1 ≤ ((m + 1 : Nat) : Int) := by omega
  have hk3 : (k : Int) ≤ (c : Int) := by omega
  have hk4 : (k : Int) + 1 ≤ (c : Int) := by omega
  have hk5 : (0 : Int) ≤ (k : Int) + 1 := by omega
  have hne : ((k : Int) == (k : Int) + 1) = false := by rw [beq_eq_false_iff_ne]; omega
  have HK : Off (k + (m - k) = m) := ⟨by omega⟩
  obtain ⟨ys, hys⟩ : ∃ ys, ys = (pairCells xs).drop ((k + 1) * 2) := ⟨_, rfl⟩
  rw [← hys] at HL HE H1 hsrc
  have HN := Off.mk hxl
  clear hxl hO hys h hcl
  go_enter Try.func53, Try.ntmps53
  go_wp2
  refine wp_region_held_drew (S := (fun _ => True)) (by kernel_rfl) trivial (fun hHeld => ?_)
  refine wpAnyH_take (i := 0) (oi := ⟨some 20, _, _, _, _, _⟩) (v := ?_) rfl (by kernel_rfl) (by kernel_rfl) (by kernel_rfl) (fun _ _ _ h => h) (Or.inl ⟨by rfl, by intro w hSw; (try dsimp only at hSw); go_simp; try with_reducible rfl⟩) hHeld ?_
  try simp only [Act.put, List.setIfInBounds_toArray, List.set_cons_zero, List.set_cons_succ]
  refine wpAnyH_take (i := 1) (oi := ⟨some 21, _, _, _, _, _⟩) (v := ?_) rfl (by kernel_rfl) (by kernel_rfl) (by kernel_rfl) (fun _ _ _ h => h) (Or.inl ⟨by rfl, by intro w hSw; (try dsimp only at hSw); go_simp; try with_reducible rfl⟩) hHeld ?_
  try simp only [Act.put, List.setIfInBounds_toArray, List.set_cons_zero, List.set_cons_succ]
  refine wpAnyH_take (i := 2) (oi := ⟨some 22, _, _, _, _, _⟩) (v := ?_) rfl (by kernel_rfl) (by kernel_rfl) (by kernel_rfl) (fun _ _ _ h => h) (Or.inl ⟨by rfl, by intro w hSw; (try dsimp only at hSw); go_simp; try with_reducible rfl⟩) hHeld ?_
  try simp only [Act.put, List.setIfInBounds_toArray, List.set_cons_zero, List.set_cons_succ]
  refine wpAnyH_take (i := 3) (oi := ⟨some 23, _, _, _, _, _⟩) (v := ?_) rfl (by kernel_rfl) (by kernel_rfl) (by kernel_rfl) (fun _ _ _ h => h) (Or.inl ⟨by rfl, by intro w hSw; (try dsimp only at hSw); go_simp; try with_reducible rfl⟩) hHeld ?_
  try simp only [Act.put, List.setIfInBounds_toArray, List.set_cons_zero, List.set_cons_succ]
  refine wpAnyH_take (i := 4) (oi := ⟨some 24, _, _, _, _, _⟩) (v := ?_) rfl (by kernel_rfl) (by kernel_rfl) (by kernel_rfl) (fun _ _ _ h => h) (Or.inl ⟨by rfl, by intro w hSw; (try dsimp only at hSw); go_simp; try with_reducible rfl⟩) hHeld ?_
  try simp only [Act.put, List.setIfInBounds_toArray, List.set_cons_zero, List.set_cons_succ]
  refine wpAnyH_take (i := 5) (oi := ⟨some 25, _, _, _, _, _⟩) (v := ?_) rfl (by kernel_rfl) (by kernel_rfl) (by kernel_rfl) (fun _ _ _ h => h) (Or.inl ⟨by rfl, by intro w hSw; (try dsimp only at hSw); go_simp; try with_reducible rfl⟩) hHeld ?_
  try simp only [Act.put, List.setIfInBounds_toArray, List.set_cons_zero, List.set_cons_succ]
  refine wpAnyH_ready (rs := [6]) (by kernel_rfl) (by simp) ?_
  refine AllReadyH.cons (o := ⟨some 26, _, _, _, _, _⟩) rfl (fun K hK => ?_) AllReadyH.nil
  refine step_append_fits rfl _ _ 22 rfl base 36 i0 2 Try.underlying22 hi hz1 r k c _ rfl HO.out A (m - k) (c - (k + 1)) ys rfl HL.out hsrc.out H1.out (by omega) ?_
  intro w2 hO2 hg2
  rw [HE.out] at hO2
  simp only [HK.out] at hO2 ⊢
  have HO2 := Off.mk hO2
  have HG2 := Off.mk hg2
  clear hO2 hg2
  refine hK.out _ _ trivial (fun hHeld => ?_)
  clear hK K
  try simp only [Act.put, List.setIfInBounds_toArray, List.set_cons_zero, List.set_cons_succ]
  refine wpAnyH_take (i := 7) (oi := ⟨some 0, _, _, _, _, _⟩) (v := ?_) rfl (by kernel_rfl) (by kernel_rfl) (by kernel_rfl) (fun _ _ _ h => h) (Or.inl ⟨by rfl, by intro w hSw; (try dsimp only at hSw); go_simp; try with_reducible rfl⟩) hHeld ?_
  try simp only [Act.put, List.setIfInBounds_toArray, List.set_cons_zero, List.set_cons_succ]
  refine wpAnyH_done (by kernel_rfl) ?_ _
  have hcl : ∀ ty, (Builtin.clear_ #[22] ty #[.slice (some ⟨r, (m) * 2, none⟩) 1 (c - m)]).run Try.prog w2 = .ok (.tuple #[]) ((w2.setCell ⟨r, (m) * 2, none⟩ (.int .i64 0)).setCell ⟨r, (m) * 2 + 1, none⟩ (.int .i64 0)) := fun ty => clearQ w2 r ((m) * 2) (c - m) ty (fun j hj => room_cell HO2.out _ (by omega))
  have hk7 : (m : Int) ≤ (c : Int) := by omega
  have hk8 : (m : Int) + 1 ≤ (c : Int) := by omega
  have hk9 : (0 : Int) ≤ (m : Int) + 1 := by omega
  have hk6 : (0 : Int) ≤ (m : Int) := by omega
  have HG0 : Off (Keeps r w w2) := ⟨⟨⟨HG2.out.os, HG2.out.tape, HG2.out.output, HG2.out.size, HG2.out.block⟩⟩⟩
  clear HG2 hA hsrc
  go_wp2
  go_ret
  obtain ⟨ho, hg⟩ := HO2.out.stored (m * 2) (.int .i64 0)
  obtain ⟨ho2, hg2⟩ := ho.stored (m * 2 + 1) (.int .i64 0)
  rw [List.set_eq_of_length_le (by rw [List.length_set, pairCells_length, HEL.out]; omega), List.set_eq_of_length_le (by rw [pairCells_length, HEL.out]; omega)] at ho2
  exact ⟨rfl, ⟨HEL.out, ho2⟩, HG0.out.trans ((Keeps.mk hg).trans ⟨hg2⟩)⟩
end Go.Proofs.Ytddcdopimpfhcaa
