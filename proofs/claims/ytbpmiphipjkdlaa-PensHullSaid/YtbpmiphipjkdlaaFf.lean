/- Contracts of the library laid at rows of pairs: slices.SortFunc, slices.Reverse. Contracts: compare of two points. Contracts: compare, slices.SortFunc of points. Contracts: slices.SortFunc, slices.Reverse of a row of points. Contracts: slices.Compact of a row of points. Contracts: slices.Compact of a row of points: the walk. -/
import Derived.Shelf.SlSortCmp.WholeK
import Derived.Shelf.SlicesQ.Reverse
import Derived.Test.YtbpmiphipjkdlaaProg
import Derived.Test.YtbpmiphipjkdlaaAd
import Derived.Test.YtbpmiphipjkdlaaAw
import Derived.Test.YtbpmiphipjkdlaaAb
import Derived.Test.YtbpmiphipjkdlaaEc
import Derived.Test.YtbpmiphipjkdlaaAi
import Derived.Lib.SliceRun
namespace Go.Proofs.Ytbpmiphipjkdlaa
section
open Go.RowKit Go.Shelf

def sortRen : Ren := ⟨fun | 6 => 77 | 15 => 109 | 14 => 108 | 28 => 123 | 29 => 124 | 20 => 115 | 21 => 116 | 22 => 117 | 23 => 118 | 24 => 119 | 25 => 120 | 26 => 121 | 27 => 122 | 46 => 126 | 47 => 127 | 48 => 128 | 49 => 129 | 50 => 130 | 57 => 132 | n => n, fun | 22 => 57 | 24 => 70 | 25 => 76 | 3 => 3 | 39 => 121 | 0 => 0 | 53 => 135 | 55 => 137 | 4 => 4 | 46 => 128 | 45 => 127 | 50 => 132 | 5 => 5 | 9 => 9 | 66 => 138 | 70 => 142 | 76 => 144 | 77 => 61 | n => n, fun n => n⟩
theorem sortLays : SlLaysF0.n6 Try.prog sortRen where
  mixed := by kernel_rfl
  f6 := ⟨"slices.SortFunc[[]droveway/pens.at,droveway/pens.at]", by decide, Try.func77.trans (congrArg some (by kernel_rfl))⟩
  f14 := ⟨"slices.pdqsortCmpFunc[droveway/pens.at]", by decide, Try.func108.trans (congrArg some (by kernel_rfl))⟩
  f15 := Try.func109.trans (congrArg some (by kernel_rfl))
  f20 := ⟨"slices.insertionSortCmpFunc[droveway/pens.at]", by decide, Try.func115.trans (congrArg some (by kernel_rfl))⟩
  f21 := ⟨"slices.heapSortCmpFunc[droveway/pens.at]", by decide, Try.func116.trans (congrArg some (by kernel_rfl))⟩
  f22 := ⟨"slices.breakPatternsCmpFunc[droveway/pens.at]", by decide, Try.func117.trans (congrArg some (by kernel_rfl))⟩
  f23 := ⟨"slices.choosePivotCmpFunc[droveway/pens.at]", by decide, Try.func118.trans (congrArg some (by kernel_rfl))⟩
  f24 := ⟨"slices.reverseRangeCmpFunc[droveway/pens.at]", by decide, Try.func119.trans (congrArg some (by kernel_rfl))⟩
  f25 := ⟨"slices.partialInsertionSortCmpFunc[droveway/pens.at]", by decide, Try.func120.trans (congrArg some (by kernel_rfl))⟩
  f26 := ⟨"slices.partitionEqualCmpFunc[droveway/pens.at]", by decide, Try.func121.trans (congrArg some (by kernel_rfl))⟩
  f27 := ⟨"slices.partitionCmpFunc[droveway/pens.at]", by decide, Try.func122.trans (congrArg some (by kernel_rfl))⟩
  f28 := Try.func123.trans (congrArg some (by kernel_rfl))
  f29 := Try.func124.trans (congrArg some (by kernel_rfl))
  f46 := ⟨"slices.siftDownCmpFunc[droveway/pens.at]", by decide, Try.func126.trans (congrArg some (by kernel_rfl))⟩
  f47 := Try.func127.trans (congrArg some (by kernel_rfl))
  f48 := Try.func128.trans (congrArg some (by kernel_rfl))
  f49 := ⟨"slices.medianAdjacentCmpFunc[droveway/pens.at]", by decide, Try.func129.trans (congrArg some (by kernel_rfl))⟩
  f50 := ⟨"slices.medianCmpFunc[droveway/pens.at]", by decide, Try.func130.trans (congrArg some (by kernel_rfl))⟩
  f57 := ⟨"slices.order2CmpFunc[droveway/pens.at]", by decide, Try.func132.trans (congrArg some (by kernel_rfl))⟩
  t0 := Try.underlying0
  a0 := Try.isAgg0
  z0 := Try.sizeOf0
  v0 := Try.zeroValue0
  t3 := Try.underlying3
  a3 := Try.isAgg3
  z3 := Try.sizeOf3
  v3 := Try.zeroValue3
  t4 := Try.underlying4
  a4 := Try.isAgg4
  z4 := Try.sizeOf4
  v4 := Try.zeroValue4
  t5 := Try.underlying5
  a5 := Try.isAgg5
  z5 := Try.sizeOf5
  v5 := Try.zeroValue5
  t9 := Try.underlying9
  a9 := Try.isAgg9
  z9 := Try.sizeOf9
  v9 := Try.zeroValue9
  t22 := Try.underlying57
  a22 := Try.isAgg57
  z22 := Try.sizeOf57
  v22 := Try.zeroValue57
  t25 := Try.underlying76
  a25 := Try.isAgg76
  z25 := Try.sizeOf76
  v25 := Try.zeroValue76
  t39 := Try.underlying121
  a39 := Try.isAgg121
  z39 := Try.sizeOf121
  v39 := Try.zeroValue121
  t45 := Try.underlying127
  a45 := Try.isAgg127
  z45 := Try.sizeOf127
  v45 := Try.zeroValue127
  t46 := Try.underlying128
  a46 := Try.isAgg128
  z46 := Try.sizeOf128
  v46 := Try.zeroValue128
  t50 := Try.underlying132
  a50 := Try.isAgg132
  z50 := Try.sizeOf132
  v50 := Try.zeroValue132
  t53 := Try.underlying135
  a53 := Try.isAgg135
  z53 := Try.sizeOf135
  v53 := Try.zeroValue135
  t55 := Try.underlying137
  a55 := Try.isAgg137
  z55 := Try.sizeOf137
  v55 := Try.zeroValue137
  t66 := Try.underlying138
  a66 := Try.isAgg138
  z66 := Try.sizeOf138
  v66 := Try.zeroValue138
  t70 := Try.underlying142
  a70 := Try.isAgg142
  z70 := Try.sizeOf142
  v70 := Try.zeroValue142
  t76 := Try.underlying144
  a76 := Try.isAgg144
  z76 := Try.sizeOf144
  v76 := Try.zeroValue144
  t77 := Try.underlying61
  a77 := Try.isAgg61
  z77 := Try.sizeOf61
  v77 := Try.zeroValue61
def revRen : Ren := ⟨fun | 35 => 81 | n => n, fun | 22 => 57 | 23 => 70 | 3 => 3 | 4 => 4 | 0 => 0 | n => n, fun n => n⟩
theorem revLays : SlLaysE0.n35 Try.prog revRen where
  mixed := by kernel_rfl
  f35 := ⟨"slices.Reverse[[]droveway/pens.at,droveway/pens.at]", by decide, Try.func81.trans (congrArg some (by kernel_rfl))⟩
  t0 := Try.underlying0
  a0 := Try.isAgg0
  z0 := Try.sizeOf0
  v0 := Try.zeroValue0
  t3 := Try.underlying3
  a3 := Try.isAgg3
  z3 := Try.sizeOf3
  v3 := Try.zeroValue3
  t4 := Try.underlying4
  a4 := Try.isAgg4
  z4 := Try.sizeOf4
  v4 := Try.zeroValue4
  t22 := Try.underlying57
  a22 := Try.isAgg57
  z22 := Try.sizeOf57
  v22 := Try.zeroValue57
end
section
open Go.RowKit Go.Shelf Go.Sort

theorem nan_any (x : Int) (w : World) : Calls Try.prog 131 #[.int .i64 x] w fun e w' => e = .returned (.bool false) ∧ w' = w := by
  go_enter Try.func131, Try.ntmps131
  go_wp2
  go_ret
  exact ⟨rfl, rfl⟩
/-- cmp.Compare. -/
def cmpI (x y : Int) : Int := if x < y then -1 else if y < x then 1 else 0
theorem cmpI_any (x y : Int) (w : World) : Calls Try.prog 125 #[.int .i64 x, .int .i64 y] w fun e w' => e = .returned (.int .i64 (cmpI x y)) ∧ w' = w := by
  by_cases h1 : x < y
  · have e : cmpI x y = -1 := by unfold cmpI; rw [if_pos h1]
    rw [e]
    go_enter Try.func125, Try.ntmps125
    go_wp2_with fail
    refine (nan_any _ _).mono ?_
    rintro e w1 ⟨rfl, rfl⟩
    go_wp2_with fail
    refine (nan_any _ _).mono ?_
    rintro e w1 ⟨rfl, rfl⟩
    go_wp2
    go_ret
    exact ⟨rfl, rfl⟩
  · by_cases h2 : y < x
    · have e : cmpI x y = 1 := by unfold cmpI; rw [if_neg h1, if_pos h2]
      rw [e]
      go_enter Try.func125, Try.ntmps125
      go_wp2_with fail
      refine (nan_any _ _).mono ?_
      rintro e w1 ⟨rfl, rfl⟩
      go_wp2_with fail
      refine (nan_any _ _).mono ?_
      rintro e w1 ⟨rfl, rfl⟩
      go_wp2
      go_ret
      exact ⟨rfl, rfl⟩
    · have e : cmpI x y = 0 := by unfold cmpI; rw [if_neg h1, if_neg h2]
      rw [e]
      go_enter Try.func125, Try.ntmps125
      go_wp2_with fail
      refine (nan_any _ _).mono ?_
      rintro e w1 ⟨rfl, rfl⟩
      go_wp2_with fail
      refine (nan_any _ _).mono ?_
      rintro e w1 ⟨rfl, rfl⟩
      go_wp2
      go_ret
      exact ⟨rfl, rfl⟩
/-- The order of points. -/
def cmpP (p q : Int × Int) : Int := if cmpI p.1 q.1 ≠ 0 then cmpI p.1 q.1 else cmpI p.2 q.2
/-- Number i of a point. -/
def nthP (p : Int × Int) (i : Nat) : Int := if i = 0 then p.1 else p.2
theorem cmpI_near (x y : Int) : cmpI x y = -1 ∨ cmpI x y = 1 ∨ cmpI x y = 0 := by
  unfold cmpI
  repeat' split
  · exact .inl rfl
  · exact .inr (.inl rfl)
  · exact .inr (.inr rfl)
set_option maxHeartbeats 1000000 in
theorem sliceCmp_any (p q : Int × Int) (A B : Nat) (ca cb : Nat) (w : World) (ha : ∀ i, i < 2 → w.cell? ⟨A, i, none⟩ = some (.int .i64 (nthP p i))) (hb : ∀ i, i < 2 → w.cell? ⟨B, i, none⟩ = some (.int .i64 (nthP q i))) :
    Calls Try.prog 110 #[.slice (some ⟨A, 0, none⟩) 2 ca, .slice (some ⟨B, 0, none⟩) 2 cb] w fun e w' => e = .returned (.int .i64 (cmpP p q)) ∧ w' = w := by
  have HA := Off.mk ha
  have HB := Off.mk hb
  clear ha hb
  go_enter Try.func110, Try.ntmps110
  go_wp2
  go_loop [11] (fun iv => ∃ k : Nat, k ≤ 2 ∧ iv = .int .i64 k ∧ Off (0 < k → cmpI p.1 q.1 = 0) ∧ Off (1 < k → cmpI p.2 q.2 = 0)) (fun iv => 2 - (intOf iv).toNat)
  case atStart => exact ⟨0, by omega, rfl, ⟨by omega⟩, ⟨by omega⟩⟩
  case round =>
    obtain ⟨k, hk, rfl, H1, H2⟩ := hrel
    by_cases hlt : k < 2
    · have hki : (k : Int) < 2 := by omega
      have hge : ¬ 2 ≤ (k : Int) := by omega
      have ca' := HA.out k hlt
      have cb' := HB.out k hlt
      obtain ⟨x, hx⟩ : ∃ x, x = nthP p k := ⟨_, rfl⟩
      obtain ⟨y, hy⟩ : ∃ y, y = nthP q k := ⟨_, rfl⟩
      rw [← hx] at ca'
      rw [← hy] at cb'
      obtain ⟨r, hr⟩ : ∃ r, r = cmpI x y := ⟨_, rfl⟩
      have C1 : Off (∀ W, Calls Try.prog 125 #[.int .i64 x, .int .i64 y] W fun e w' => e = .returned (.int .i64 r) ∧ w' = W) := ⟨fun W => by rw [hr]; exact cmpI_any x y W⟩
      have hw : IntKind.i64.wrap ((k : Int) + 1) = (k : Int) + 1 := by rw [IntKind.wrap_i64]; omega
      have HR : Off (r = cmpI (nthP p k) (nthP q k)) := ⟨by rw [hr, hx, hy]⟩
      clear hx hy hr
      by_cases h0 : r = 0
      · have hb0 : (r != 0) = false := by rw [h0]; rfl
        have HN1 : Off (0 < k + 1 → cmpI p.1 q.1 = 0) := ⟨fun _ => by
          by_cases e : k = 0
          · have := HR.out
            rw [e] at this
            unfold nthP at this
            simp only [if_true] at this
            omega
          · exact H1.out (by omega)⟩
        have HN2 : Off (1 < k + 1 → cmpI p.2 q.2 = 0) := ⟨fun _ => by
          have e : k = 1 := by omega
          have := HR.out
          rw [e] at this
          unfold nthP at this
          simp only [show ¬ (1 = 0) by decide, if_false] at this
          omega⟩
        clear HR
        subst h0
        go_wp2_with fail
        refine (C1.out _).mono ?_
        rintro e w1 ⟨rfl, rfl⟩
        go_wp2
        go_roundw
        case rel => exact ⟨k + 1, by omega, by go_num, HN1, HN2⟩
        case measure => simp only [intOf]; omega
      · have hb0 : (r != 0) = true := by simpa using h0
        have HRES : Off (r = cmpP p q) := ⟨by
          have := HR.out
          unfold cmpP
          by_cases e : k = 0
          · rw [e] at this
            unfold nthP at this
            simp only [if_true] at this
            rw [← this, if_pos h0]
          · have e1 : k = 1 := by omega
            rw [e1] at this
            unfold nthP at this
            simp only [show ¬ (1 = 0) by decide, if_false] at this
            rw [if_neg (by rw [H1.out (by omega)]; simp), ← this]⟩
        clear HR
        go_wp2_with fail
        refine (C1.out _).mono ?_
        rintro e w1 ⟨rfl, rfl⟩
        go_wp2
        go_ret
        exact ⟨ret_int HRES.out, rfl⟩
    · have e : (k : Int) = 2 := by omega
      have HRES : Off (0 = cmpP p q) := ⟨by unfold cmpP; rw [H1.out (by omega), H2.out (by omega)]; rfl⟩
      clear H1 H2
      have hge : ¬ (k : Int) < 2 := by omega
      go_wp2
      go_ret
      exact ⟨ret_int HRES.out, rfl⟩
end
section
open Go.RowKit Go.Shelf Go.Sort

/-- A point's two cells. -/
def encP (x : Int × Int) : List Value := [.int .i64 x.1, .int .i64 x.2]
theorem nthP_cells {w : World} {A : Nat} {p : Int × Int} (h0 : w.cell? ⟨A, 0, none⟩ = some (.int .i64 p.1)) (h1 : w.cell? ⟨A, 1, none⟩ = some (.int .i64 p.2)) : ∀ i, i < 2 → w.cell? ⟨A, i, none⟩ = some (.int .i64 (nthP p i)) := fun i hi => by
  by_cases e : i = 0
  · subst e; exact h0
  · obtain rfl : i = 1 := by omega
    exact h1
set_option maxHeartbeats 1000000 in
theorem compare_any (p q : Int × Int) (W : World) : Calls Try.prog 78 #[.agg #[.int .i64 p.1, .int .i64 p.2], .agg #[.int .i64 q.1, .int .i64 q.2]] W fun e w' => e = .returned (.int .i64 (cmpP p q)) ∧ ∃ n os, w' = grow (W.drewN n) os := by
  obtain ⟨W2, hW2⟩ : ∃ W2, (W.alloc (.cells #[.int .i64 p.1, .int .i64 p.2] 70)).alloc (.cells #[.int .i64 q.1, .int .i64 q.2] 70) = W2 := ⟨_, rfl⟩
  have HG : Off (∃ os, W2 = grow W os) := ⟨⟨_, by rw [← hW2, alloc_eq_grow, alloc_eq_grow, grow_grow]⟩⟩
  obtain ⟨A, hA⟩ : ∃ A, A = W.heap.size := ⟨_, rfl⟩
  obtain ⟨B, hB⟩ : ∃ B, B = W.heap.size + 1 := ⟨_, rfl⟩
  obtain ⟨⟨a0, a1⟩, ⟨b0, b1⟩⟩ : (W2.cell? ⟨A, 0, none⟩ = some (.int .i64 p.1) ∧ W2.cell? ⟨A, 1, none⟩ = some (.int .i64 p.2)) ∧ (W2.cell? ⟨B, 0, none⟩ = some (.int .i64 q.1) ∧ W2.cell? ⟨B, 1, none⟩ = some (.int .i64 q.2)) := by
    have h1 := block_new W (.cells #[.int .i64 p.1, .int .i64 p.2] 70)
    have h2 := alloc_old (o' := .cells #[.int .i64 q.1, .int .i64 q.2] 70) h1
    have h3 := block_new (W.alloc (.cells #[.int .i64 p.1, .int .i64 p.2] 70)) (.cells #[.int .i64 q.1, .int .i64 q.2] 70)
    rw [hW2, ← hA] at h2
    rw [World.size_alloc, hW2, ← hB] at h3
    exact ⟨(two_facts h2).1, (two_facts h3).1⟩
  have C1 : Off (∀ u, u = W2.drew → Calls Try.prog 110 #[.slice (some ⟨A, 0, none⟩) 2 2, .slice (some ⟨B, 0, none⟩) 2 2] u fun e w' => e = .returned (.int .i64 (cmpP p q)) ∧ w' = u) := ⟨fun u hu => by
    subst hu
    exact sliceCmp_any p q A B 2 2 W2.drew (nthP_cells a0 a1) (nthP_cells b0 b1)⟩
  obtain ⟨r, hr⟩ : ∃ r, r = cmpP p q := ⟨_, rfl⟩
  rw [← hr] at C1 ⊢
  have HA := Off.mk hA
  have HB := Off.mk hB
  have HW := Off.mk hW2
  clear hA hB hr hW2
  go_enter Try.func78, Try.ntmps78
  go_wp2_with fail
  rw [HW.out, ← HB.out, ← HA.out]
  refine wp_region_held_drew (S := (fun u => ((u.cell? ⟨A, 0, none⟩ = some (.int .i64 p.1) ∧ u.cell? ⟨A, 1, none⟩ = some (.int .i64 p.2)) ∧ u.cell? ⟨B, 0, none⟩ = some (.int .i64 q.1) ∧ u.cell? ⟨B, 1, none⟩ = some (.int .i64 q.2)) ∧ u = W2.drew)) (by kernel_rfl) ⟨⟨⟨a0, a1⟩, b0, b1⟩, rfl⟩ (fun hHeld => ?_)
  refine wpAnyH_take (i := 0) (oi := ⟨some 5, _, _, _, _, _⟩) (v := ?_) rfl (by kernel_rfl) (by kernel_rfl) (by kernel_rfl) (fun _ _ _ h => h) (Or.inl ⟨by rfl, by intro w hSw; (try dsimp only at hSw); go_simp; try with_reducible rfl⟩) hHeld ?_
  try simp only [Act.put, List.setIfInBounds_toArray, List.set_cons_zero, List.set_cons_succ]
  refine wpAnyH_take (i := 1) (oi := ⟨some 6, _, _, _, _, _⟩) (v := ?_) rfl (by kernel_rfl) (by kernel_rfl) (by kernel_rfl) (fun _ _ _ h => h) (Or.inl ⟨by rfl, by intro w hSw; (try dsimp only at hSw); go_simp; try with_reducible rfl⟩) hHeld ?_
  try simp only [Act.put, List.setIfInBounds_toArray, List.set_cons_zero, List.set_cons_succ]
  refine wpAnyH_ready (rs := [2]) (by kernel_rfl) (by simp) ?_
  refine AllReadyH.cons (o := ⟨some 7, _, _, _, _, _⟩) rfl (fun K hK => ?_) AllReadyH.nil
  go_simp
  refine (C1.out _ (hHeld.2)).mono ?_
  rintro e w3 ⟨rfl, rfl⟩
  go_wp2_with fail
  refine hK.out _ _ ⟨⟨⟨a0, a1⟩, b0, b1⟩, rfl⟩ (fun hHeld => ?_)
  clear hK K
  try simp only [Act.put, List.setIfInBounds_toArray, List.set_cons_zero, List.set_cons_succ]
  refine wpAnyH_take (i := 3) (oi := ⟨some 4, _, _, _, _, _⟩) (v := ?_) rfl (by kernel_rfl) (by kernel_rfl) (by kernel_rfl) (fun _ _ _ h => h) (Or.inl ⟨by rfl, by intro w hSw; (try dsimp only at hSw); go_simp; try with_reducible rfl⟩) hHeld ?_
  try simp only [Act.put, List.setIfInBounds_toArray, List.set_cons_zero, List.set_cons_succ]
  refine wpAnyH_done (by kernel_rfl) ?_ _
  clear hHeld
  go_wp2
  go_ret
  obtain ⟨os, hos⟩ := HG.out
  exact ⟨rfl, 1, os, by rw [hos]; rfl⟩
theorem cmpLays_any (blk off size : Nat) (w : World) : CmpLays Try.prog 78 #[] encP 2 cmpP blk off size w := fun _ _ _ _ x y => compare_any x y _
theorem cmp_lt (x y : Int × Int) : ltOf cmpP x y = decide (x.1 < y.1 ∨ (x.1 = y.1 ∧ x.2 < y.2)) := by
  unfold ltOf cmpP cmpI
  refine decide_eq_decide.2 ?_
  repeat' split
  all_goals omega
theorem cmp_swo : SWO (ltOf cmpP) where
  irrefl x := by rw [cmp_lt]; simp
  trans x y z h1 h2 := by rw [cmp_lt, decide_eq_true_iff] at *; omega
  ntrans x y z h1 h2 := by rw [cmp_lt, decide_eq_false_iff_not] at *; omega
end
section
open Go.RowKit Go.Shelf Go.Sort

theorem flat_pairs (ys : List (Int × Int)) : (flatK encP 2 ys.toArray).toList = pairCells ys := by
  apply List.ext_getElem?
  intro t
  by_cases ht : t < ys.length * 2
  · have hsz : t < (flatK encP 2 ys.toArray).size := by rw [size_flatK]; simpa using ht
    have h1 := get_flatK encP 2 ys.toArray t (by simpa using ht)
    rw [getElem!_pos _ t hsz] at h1
    rw [Array.getElem?_toList, Array.getElem?_eq_getElem hsz, h1]
    have hd : t / 2 < ys.length := by omega
    have e1 : ys.toArray[t / 2]! = ys.getD (t / 2) (0, 0) := by
      rw [getElem!_pos _ (t / 2) (by simpa using hd), List.getElem_toArray, List.getD_eq_getElem?_getD, List.getElem?_eq_getElem hd]
      rfl
    have hp := pairCells_at ys (t / 2) hd
    rw [e1]
    rcases Nat.mod_two_eq_zero_or_one t with hm | hm
    · have : t / 2 * 2 = t := by omega
      rw [this] at hp
      rw [hp.1, hm]
      rfl
    · have : t / 2 * 2 + 1 = t := by omega
      rw [this] at hp
      rw [hp.2, hm]
      rfl
  · rw [List.getElem?_eq_none (by rw [Array.length_toList, size_flatK]; simp; omega), List.getElem?_eq_none (by rw [pairCells_len]; omega)]
theorem putCells_take (F cur : Array Value) (h : F.size ≤ cur.size) : (putCells id 0 F cur).toList.take F.size = F.toList := by
  apply List.ext_getElem?
  intro t
  by_cases ht : t < F.size
  · rw [List.getElem?_take_of_lt ht, Array.getElem?_toList, Array.getElem?_toList]
    unfold putCells
    rw [Array.getElem?_mapIdx, Array.getElem?_eq_getElem (show t < cur.size by omega), Array.getElem?_eq_getElem ht, Option.map_some, if_pos ⟨Nat.zero_le _, by omega⟩, Nat.sub_zero, getElem!_pos F t ht]
    rfl
  · rw [List.getElem?_eq_none (by simp; omega), List.getElem?_eq_none (by simp; omega)]
/-- A row whose cells are laid anew. -/
theorem row_put {e : TypeId} {w : World} {base r k c : Nat} {xs ys : List (Int × Int)} (h : QRow e w base r k c xs) (hl : ys.length = k) (_ : base ≤ r) (m : Nat) (os : Array Obj) :
    QRow e (sortWorldK encP 2 w r 0 m ys.toArray os) base r k c ys ∧ Keeps r w (sortWorldK encP 2 w r 0 m ys.toArray os) := by
  have hlt := h.lt
  obtain ⟨h1, h2⟩ := h.own
  rcases h2 with ⟨e0, _⟩ | ⟨g, cap, cur, e0, hbg, hg, hnc, hcm, hcs, htk⟩
  · cases e0
  · cases e0
    have hF : (flatK encP 2 ys.toArray).size = k * 2 := by rw [size_flatK]; simp [hl]
    have hgw : (sortWorldK encP 2 w r 0 m ys.toArray os).heap[r]? = some (.cells (putCells id 0 (flatK encP 2 ys.toArray) cur) e (0, 0)) := by
      unfold sortWorldK grow putRowK putRow mapBlock
      simp only [heap_ahead]
      rw [Array.getElem?_append_left (by simp; exact hlt), Array.getElem?_modify, if_pos rfl, hg]
      rfl
    refine ⟨⟨hl, by rw [pairCells_len, hl], .inr ⟨r, c, _, rfl, hbg, hgw, hnc, hcm, ?_, ?_⟩⟩, ⟨⟨rfl, rfl, rfl, ?_, fun i hi hne => ?_⟩⟩⟩
    · unfold putCells
      rw [Array.size_mapIdx]
      exact hcs
    · have := putCells_take (flatK encP 2 ys.toArray) cur (by rw [hF, hcs]; exact Nat.mul_le_mul_right _ hnc)
      rw [hF, flat_pairs] at this
      exact this
    · unfold sortWorldK grow
      simp [size_putRowK]
    · unfold sortWorldK grow putRowK putRow mapBlock
      simp only [heap_ahead]
      rw [Array.getElem?_append_left (by simp; exact hi), Array.getElem?_modify, if_neg (fun e => hne (by rw [e]))]
theorem holds_row {e : TypeId} {w : World} {base r k c : Nat} {xs : List (Int × Int)} (h : QRow e w base r k c xs) : HoldsK encP 2 w r 0 xs.toArray := by
  intro j hj
  rw [size_flatK] at hj
  have hj' : j < k * 2 := by simpa [h.len] using hj
  refine ⟨?_, h.frozen _⟩
  rw [Nat.zero_add, h.own.cellAt j hj']
  have hsz : j < (flatK encP 2 xs.toArray).size := by rw [size_flatK]; exact hj
  rw [getElem!_pos _ j hsz, ← flat_pairs, Array.getElem?_toList, Array.getElem?_eq_getElem hsz]
  rfl
theorem enters78 : ∀ args w, (callFunc 78 args).run Try.prog w = .ok (.enter 78 args) w := enters_of Try.func78 (by kernel_rfl) rfl
set_option maxRecDepth 100000 in
theorem sort_row {w : World} {base r k c : Nat} {xs : List (Int × Int)} (h : QRow 70 w base r k c xs) (hb : base ≤ r) (hk : k ≤ 60) :
    Calls Try.prog 77 #[.slice (some ⟨r, 0, none⟩) k c, .func (.func 78) #[] #[]] w fun e w' => e = .returned (.tuple #[]) ∧ ∃ ys, QRow 70 w' base r k c ys ∧ Keeps r w w' ∧ (∀ q, q ∈ ys ↔ q ∈ xs) ∧ (∀ i j, i < j → j < k → ¬ Hu.Lt 1 (ys.getD j (0, 0)) (ys.getD i (0, 0))) := by
  have hs : xs.toArray.size = k := by simpa using h.len
  have hcon := AnyQ.slices_SortFunc sortLays 2 Try.isAgg70 Try.sizeOf70 encP (fun _ => rfl) (fun x v hv => by simp [encP] at hv; rcases hv with rfl | rfl <;> rfl) cmpP cmp_swo 78 #[] r 0 c xs.toArray w enters78 (cmpLays_any r 0 xs.toArray.size w) (holds_row h) h.lt (by rw [hs]; omega)
  rw [hs] at hcon
  refine Calls.mono hcon ?_
  rintro e w' ⟨rfl, d', n, os, ⟨p1, _, p3⟩, hso, rfl⟩
  rw [hs] at p1
  have hd : d' = d'.toList.toArray := by simp
  have hdl : d'.toList.length = k := by simpa using p1
  have hrow := row_put (ys := d'.toList) h hdl hb n os
  rw [← hd] at hrow
  have hperm : d'.toList.Perm xs := by
    have e1 : (d'.extract 0 k).toList = d'.toList := by rw [← p1]; simp
    have e2 : (xs.toArray.extract 0 k).toList = xs := by rw [← hs]; simp
    rwa [e1, e2] at p3
  refine ⟨rfl, d'.toList, hrow.1, hrow.2, fun q => hperm.mem_iff, fun i j hij hj hlt => ?_⟩
  have := hso i j (Nat.zero_le _) hij hj
  rw [cmp_lt, decide_eq_false_iff_not] at this
  have g : ∀ i, i < k → d'[i]! = d'.toList.getD i (0, 0) := fun i hi => by
    rw [getElem!_pos d' i (by omega), List.getD_eq_getElem?_getD, Array.getElem?_toList, Array.getElem?_eq_getElem (by omega)]
    rfl
  rw [g j hj, g i (by omega)] at this
  apply this
  unfold Hu.Lt Hu.Up Hu.sm Hu.sb at hlt
  simp only at hlt
  omega
end
section
open Go.RowKit Go.Shelf

/-- A row's first points. -/
theorem row_cut {e : TypeId} {w : World} {base r k c : Nat} {xs : List (Int × Int)} (h : QRow e w base r k c xs) {m : Nat} (hm : m ≤ k) : QRow e w base r m c (xs.take m) := by
  have hl := h.len
  refine ⟨by rw [List.length_take]; omega, by rw [pairCells_len, List.length_take]; congr 1; omega, ?_⟩
  rcases h.own.2 with ⟨e0, _⟩ | ⟨g, cap, cur, e0, hbg, hg, hnc, hcm, hcs, htk⟩
  · cases e0
  · cases e0
    refine .inr ⟨r, c, cur, rfl, hbg, hg, by omega, hcm, hcs, ?_⟩
    have e1 : (cur.toList.take (k * 2)).take (m * 2) = cur.toList.take (m * 2) := by rw [List.take_take]; congr 1; omega
    rw [← e1, htk]
    apply List.ext_getElem?
    intro t
    by_cases ht : t < m * 2
    · rw [List.getElem?_take_of_lt ht]
      have a1 := pairCells_at xs (t / 2) (by omega)
      have a2 := pairCells_at (xs.take m) (t / 2) (by rw [List.length_take]; omega)
      have e2 : (xs.take m).getD (t / 2) (0, 0) = xs.getD (t / 2) (0, 0) := by rw [List.getD_eq_getElem?_getD, List.getElem?_take_of_lt (by omega), List.getD_eq_getElem?_getD]
      rw [e2] at a2
      rcases Nat.mod_two_eq_zero_or_one t with h0 | h0
      · have : t / 2 * 2 = t := by omega
        rw [this] at a1 a2
        rw [a1.1, a2.1]
      · have : t / 2 * 2 + 1 = t := by omega
        rw [this] at a1 a2
        rw [a1.2, a2.2]
    · rw [List.getElem?_eq_none (by rw [List.length_take]; omega), List.getElem?_eq_none (by rw [pairCells_len, List.length_take]; omega)]
/-- Cells behind a row do not matter to it. -/
theorem row_behind {e : TypeId} {base r k c : Nat} {xs : List (Int × Int)} : ∀ (vs : List Value) (o : Nat) (w : World), QRow e w base r k c xs → k * 2 ≤ o → QRow e (w.setCells r o vs) base r k c xs ∧ Keeps r w (w.setCells r o vs)
  | [], _, w, h, _ => ⟨h, Keeps.refl _ _⟩
  | v :: vs, o, w, h, ho => by
    obtain ⟨h1, h2⟩ := h.own.stored o v
    have e1 : (pairCells xs).set o v = pairCells xs := List.set_eq_of_length_le (by rw [pairCells_len, h.len]; exact ho)
    rw [e1] at h1
    obtain ⟨h3, h4⟩ := row_behind vs (o + 1) (w.setCell ⟨r, o, none⟩ v) ⟨h.len, h1⟩ (by omega)
    exact ⟨h3, (Keeps.mk h2).trans h4⟩
theorem run_clear_pairs (w : World) (b o n c : Nat) (hn : 0 < n) (hc : ∀ j, j < n * 2 → (w.cell? ⟨b, o + j, none⟩).isSome = true) (hf : ∀ j, j < n * 2 → w.frozen? ⟨b, o + j, none⟩ = false) :
    ∃ vs, ∀ ty, (Builtin.clear_ #[57] ty #[.slice (some ⟨b, o, none⟩) n c]).run Try.prog w = .ok (.tuple #[]) (w.setCells b o vs) := by
  obtain ⟨vs, hvs⟩ : ∃ vs, vs = (Builtin.zeroCells (Value.agg #[.int .i64 0, .int .i64 0]).cells n).toList := ⟨_, rfl⟩
  have hz : (Value.agg #[.int .i64 0, .int .i64 0]).cells = #[.int .i64 0, .int .i64 0] := rfl
  have hl : vs.length = n * 2 := by rw [hvs, hz]; simp [Builtin.zeroCells]
  have h1 : ∀ v ∈ vs, v.oneCell' = true := by
    intro v hv
    rw [hvs, hz] at hv
    simp only [Builtin.zeroCells, Array.toList_map, List.mem_map] at hv
    obtain ⟨i, _, rfl⟩ := hv
    rcases Nat.mod_two_eq_zero_or_one i with h0 | h0
    · simp [h0]; rfl
    · simp [h0]; rfl
  have hst := run_storeCells_cells (P := Try.prog) b o vs 0 w (by rw [hl]; simpa using hc) (by rw [hl]; simpa using hf) h1
  simp only [Nat.add_zero] at hst
  obtain ⟨m, rfl⟩ : ∃ m, n = m + 1 := ⟨n - 1, by omega⟩
  refine ⟨vs, fun ty => ?_⟩
  have hv := Try.zeroValue70
  simp [Builtin.clear_, run_underlying Try.underlying57, hv, ← hvs, hst]
/-- The points that differ from the one ahead of them, of the first k. -/
def compTo (ys : List (Int × Int)) : Nat → List (Int × Int)
  | 0 => []
  | k + 1 => if k = 0 ∨ ys.getD k (0, 0) ≠ ys.getD (k - 1) (0, 0) then compTo ys k ++ [ys.getD k (0, 0)] else compTo ys k
theorem compTo_facts {ys : List (Int × Int)} (hs : ∀ i j, i < j → j < ys.length → ¬ Hu.Lt 1 (ys.getD j (0, 0)) (ys.getD i (0, 0))) : ∀ k, k ≤ ys.length → Hu.Sorted 1 (compTo ys k) ∧ (∀ q, q ∈ compTo ys k ↔ ∃ i, i < k ∧ ys.getD i (0, 0) = q) ∧ (compTo ys k).length ≤ k ∧ (0 < k → compTo ys k ≠ [])
  | 0, _ => ⟨trivial, fun q => ⟨fun h => (by cases h), fun ⟨i, h, _⟩ => (by omega)⟩, Nat.le_refl _, fun h => by omega⟩
  | k + 1, hk => by
    obtain ⟨h1, h2, h3, h4⟩ := compTo_facts hs k (by omega)
    unfold compTo
    split
    next hc =>
      have app : ∀ (m : List (Int × Int)) (p : Int × Int), Hu.Sorted 1 m → (∀ q ∈ m, Hu.Lt 1 q p) → Hu.Sorted 1 (m ++ [p]) := fun m p => by
        induction m with
        | nil => intro _ _; exact ⟨fun q hq => (by cases hq), trivial⟩
        | cons x m ih =>
          intro hm hq
          refine ⟨fun q hqm => ?_, ih hm.2 fun q hqm => hq q (List.mem_cons_of_mem _ hqm)⟩
          rcases List.mem_append.1 hqm with g | g
          · exact hm.1 q g
          · rw [List.mem_singleton.1 g]; exact hq x (List.mem_cons_self ..)
      refine ⟨app _ _ h1 fun q hq => ?_, fun q => ?_, by rw [List.length_append, List.length_singleton]; omega, fun _ => by simp⟩
      · obtain ⟨i, hi, rfl⟩ := (h2 q).1 hq
        have hne : ys.getD k (0, 0) ≠ ys.getD (k - 1) (0, 0) := by
          rcases hc with h | h
          · omega
          · exact h
        have hlt : Hu.Lt 1 (ys.getD (k - 1) (0, 0)) (ys.getD k (0, 0)) := by
          rcases Hu.lt_three (.inl rfl) (ys.getD (k - 1) (0, 0)) (ys.getD k (0, 0)) with h | h | h
          · exact h
          · exact absurd h.symm hne
          · exact absurd h (hs (k - 1) k (by omega) (by omega))
        by_cases e : i = k - 1
        · rw [e]; exact hlt
        · rcases Hu.lt_three (.inl rfl) (ys.getD i (0, 0)) (ys.getD (k - 1) (0, 0)) with h | h | h
          · exact h.trans hlt
          · rw [h]; exact hlt
          · exact absurd h (hs i (k - 1) (by omega) (by omega))
      · rw [List.mem_append, h2, List.mem_singleton]
        constructor
        · rintro (⟨i, hi, e⟩ | e)
          · exact ⟨i, by omega, e⟩
          · exact ⟨k, by omega, e.symm⟩
        · rintro ⟨i, hi, e⟩
          by_cases ei : i = k
          · right; rw [← e, ei]
          · exact .inl ⟨i, by omega, e⟩
    next hc =>
      refine ⟨h1, fun q => ?_, by omega, fun _ => ?_⟩
      · rw [h2]
        constructor
        · rintro ⟨i, hi, e⟩
          exact ⟨i, by omega, e⟩
        · rintro ⟨i, hi, e⟩
          by_cases ei : i = k
          · have : k ≠ 0 ∧ ys.getD k (0, 0) = ys.getD (k - 1) (0, 0) := by
              constructor
              · exact fun h => hc (.inl h)
              · exact Classical.byContradiction fun h => hc (.inr h)
            exact ⟨k - 1, by omega, by rw [← this.2, ← ei]; exact e⟩
          · exact ⟨i, by omega, e⟩
      · exact h4 (by
          have : k ≠ 0 := fun h => hc (.inl h)
          omega)
theorem compTo_take {ys : List (Int × Int)} : ∀ k, k ≤ ys.length → (∀ i, 0 < i → i < k → ys.getD i (0, 0) ≠ ys.getD (i - 1) (0, 0)) → compTo ys k = ys.take k
  | 0, _, _ => by simp [compTo]
  | k + 1, hk, h => by
    rw [compTo, if_pos (by
      by_cases e : k = 0
      · exact .inl e
      · exact .inr (h k (by omega) (by omega))), compTo_take k (by omega) (fun i h1 h2 => h i h1 (by omega)), List.take_succ_eq_append_getElem (show k < ys.length by omega), List.getD_eq_getElem?_getD, List.getElem?_eq_getElem (show k < ys.length by omega)]
    rfl
end
section
open Go.RowKit Go.Shelf

set_option maxHeartbeats 4000000 in
set_option maxRecDepth 100000 in
theorem compact_row {w : World} {base r k c : Nat} {ys : List (Int × Int)} (h : QRow 70 w base r k c ys) (hk : k ≤ 60) (hkc : k ≤ c) :
    Calls Try.prog 79 #[.slice (some ⟨r, 0, none⟩) k c] w fun e w' => ∃ m, e = .returned (.slice (some ⟨r, 0, none⟩) m c) ∧ m ≤ k ∧ QRow 70 w' base r m c (compTo ys k) ∧ Keeps r w w' := by
  have hlen := h.len
  have HQ := Off.mk h
  by_cases h2 : k < 2
  · have h2' : (k : Int) < 2 := by omega
    have HR : Off (compTo ys k = ys) := ⟨by
      rw [compTo_take k (by omega) (fun i h1 h3 => by omega)]
      exact List.take_of_length_le (by omega)⟩
    clear h
    go_enter Try.func79, Try.ntmps79
    go_wp2
    go_ret
    exact ⟨k, rfl, Nat.le_refl _, by rw [HR.out]; exact HQ.out, Keeps.refl _ _⟩
  have h2' : ¬ (k : Int) < 2 := by omega
  have HL := Off.mk hlen
  clear h hlen
  go_enter Try.func79, Try.ntmps79
  go_wp2
  go_loopw [3] (fun kv wr => ∃ j M : Nat, Off (M = j + 1) ∧ M ≤ k ∧ kv = .int .i64 M ∧ Off (∀ i, 0 < i → i < M → ys.getD i (0, 0) ≠ ys.getD (i - 1) (0, 0)) ∧ Off (Below w.heap.size w wr)) (fun kv _ => k - (intOf kv).toNat)
  case atStart => exact ⟨0, 1, ⟨rfl⟩, by omega, rfl, ⟨fun i h1 h3 => by omega⟩, ⟨Below.refl _ _⟩⟩
  case round =>
    obtain ⟨j, M, HM, hMk, rfl, HD, HB⟩ := hrel
    by_cases hlt : M < k
    · have hMi : (M : Int) < (k : Int) := by omega
      have hjk : j < k := by have := HM.out; omega
      have hji : (j : Int) < (k : Int) := by omega
      have hjw : IntKind.i64.wrap ((M : Int) - 1) = (j : Int) := by have := HM.out; rw [IntKind.wrap_i64]; omega
      have hMw : IntKind.i64.wrap ((M : Int) + 1) = (M : Int) + 1 := by rw [IntKind.wrap_i64]; omega
      have hq := HQ.out.below HB.out
      obtain ⟨a0, a1⟩ := hq.cells hlt
      obtain ⟨b0, b1⟩ := hq.cells hjk
      obtain ⟨p, hp⟩ : ∃ p, p = ys.getD M (0, 0) := ⟨_, rfl⟩
      obtain ⟨q, hqq⟩ : ∃ q, q = ys.getD j (0, 0) := ⟨_, rfl⟩
      rw [← hp] at a0 a1
      rw [← hqq] at b0 b1
      have HPQ : Off (p = ys.getD M (0, 0) ∧ q = ys.getD j (0, 0)) := ⟨hp, hqq⟩
      clear hp hqq hq
      by_cases hne : p = q
      · have E1 := eq_at p.1 p.2 q.1 q.2 true (by rw [hne]; simp)
        have HEQ := Off.mk hne
        have HC0 : Off (ys.take M = compTo ys (M + 1)) := ⟨by
          rw [compTo, if_neg (by
            rintro (h | h)
            · have := HM.out; omega
            · rw [show M - 1 = j by have := HM.out; omega, ← HPQ.out.1, ← HPQ.out.2] at h; exact h hne), compTo_take M (by have := HL.out; omega) HD.out]⟩
        clear hne
        go_wp2
        go_quiet (fail)
        go_wp2
        go_loopw [3, 5] (fun kv iv wi => ∃ K t I : Nat, ∃ zs : List (Int × Int), Off (I = t + 1) ∧ kv = .int .i64 K ∧ iv = .int .i64 I ∧ (M ≤ K ∧ K + 1 ≤ M + I) ∧ M + I ≤ k ∧ Off (QRow 70 wi base r k c zs) ∧ Off (Keeps r w wi) ∧ Off (zs.take K = compTo ys (M + I) ∧ ∀ u, M + t ≤ u → zs.getD u (0, 0) = ys.getD u (0, 0))) (fun _ iv _ => k - (intOf iv).toNat)
        case atStart => exact ⟨M, 0, 1, ys, ⟨rfl⟩, rfl, rfl, ⟨Nat.le_refl _, Nat.le_refl _⟩, by omega, ⟨HQ.out.below (below_drewN' HB.out _)⟩, ⟨Keeps.of_below (below_drewN' HB.out _)⟩, ⟨HC0.out, fun u _ => rfl⟩⟩
        case round =>
          clear HB a0 a1 b0 b1 E1 HPQ HEQ HD hjw hMw hji hMi
          obtain ⟨K, t, I, zs, HI, rfl, rfl, hK, hIk, HZ, HKp, HT⟩ := hrel
          by_cases hlt2 : M + I < k
          · have hIi : (I : Int) < ((k - M : Nat) : Int) := by omega
            have htk : M + t < k := by have := HI.out; omega
            have hti : (t : Int) < ((k - M : Nat) : Int) := by have := HI.out; omega
            have htw : IntKind.i64.wrap ((I : Int) - 1) = (t : Int) := by have := HI.out; rw [IntKind.wrap_i64]; omega
            have hIw : IntKind.i64.wrap ((I : Int) + 1) = (I : Int) + 1 := by rw [IntKind.wrap_i64]; omega
            have hKw : IntKind.i64.wrap ((K : Int) + 1) = (K : Int) + 1 := by rw [IntKind.wrap_i64]; omega
            have hKk : K < k := by omega
            have hKi : (K : Int) < (k : Int) := by omega
            obtain ⟨a0, a1⟩ := HZ.out.cells hlt2
            obtain ⟨b0, b1⟩ := HZ.out.cells htk
            rw [Nat.add_mul] at a0 a1 b0 b1
            obtain ⟨p, hp⟩ : ∃ p, p = zs.getD (M + I) (0, 0) := ⟨_, rfl⟩
            obtain ⟨q, hqq⟩ : ∃ q, q = zs.getD (M + t) (0, 0) := ⟨_, rfl⟩
            rw [← hp] at a0 a1
            rw [← hqq] at b0 b1
            have HPQ : Off (p = ys.getD (M + I) (0, 0) ∧ q = ys.getD (M + I - 1) (0, 0)) := ⟨by
              have h1 := HT.out.2 (M + I) (by have := HI.out; omega)
              have h2 := HT.out.2 (M + t) (Nat.le_refl _)
              refine ⟨by rw [hp, h1], ?_⟩
              rw [hqq, h2, show M + t = M + I - 1 by have := HI.out; omega]⟩
            clear hp hqq
            by_cases hne : p = q
            · have E1 := eq_at p.1 p.2 q.1 q.2 true (by rw [hne]; simp)
              have HT2 : Off (zs.take K = compTo ys (M + (I + 1)) ∧ ∀ u, M + I ≤ u → zs.getD u (0, 0) = ys.getD u (0, 0)) := ⟨by
                refine ⟨?_, fun u hu => HT.out.2 u (by have := HI.out; omega)⟩
                rw [← Nat.add_assoc, compTo, if_neg (by
                  rintro (h | h)
                  · omega
                  · rw [← HPQ.out.1, ← HPQ.out.2] at h; exact h hne)]
                exact HT.out.1⟩
              clear hne HPQ
              go_wp2
              go_quiet (fail)
              go_wp2
              go_roundw
              case rel => exact ⟨K, I, I + 1, zs, ⟨rfl⟩, rfl, by go_num, by omega, by omega, ⟨HZ.out.below (below_drewN' (Below.refl _ _) _)⟩, ⟨HKp.out.trans (Keeps.of_below (below_drewN' (Below.refl _ _) _))⟩, HT2⟩
              case measure => simp only [intOf]; omega
            · have E1 := eq_at p.1 p.2 q.1 q.2 false (by simpa [Prod.ext_iff] using hne)
              have HT2 : Off ((zs.set K (p.1, p.2)).take (K + 1) = compTo ys (M + (I + 1)) ∧ ∀ u, M + I ≤ u → (zs.set K (p.1, p.2)).getD u (0, 0) = ys.getD u (0, 0)) := ⟨by
                refine ⟨?_, fun u hu => ?_⟩
                · rw [← Nat.add_assoc, compTo, if_pos (.inr (by rw [← HPQ.out.1, ← HPQ.out.2]; exact hne)), ← HT.out.1, ← HPQ.out.1]
                  have hl := HZ.out.len
                  rw [List.take_succ_eq_append_getElem (by rw [List.length_set]; omega), List.getElem_set_self, List.take_set_of_le (Nat.le_refl _)]
                · rw [List.getD_eq_getElem?_getD, List.getElem?_set_ne (by omega), ← List.getD_eq_getElem?_getD]
                  exact HT.out.2 u (by have := HI.out; omega)⟩
              clear hne HPQ
              obtain ⟨c0, c1⟩ := HZ.out.cells hKk
              have f0 := HZ.out.frozen (K * 2)
              have f1 := HZ.out.frozen (K * 2 + 1)
              go_wp2
              go_quiet (fail)
              go_wp2
              go_roundw
              case rel => exact ⟨K + 1, I, I + 1, _, ⟨rfl⟩, by go_num, by go_num, by omega, by omega, ⟨((HZ.out.below (below_drewN' (Below.refl _ _) _)).stored hKk p.1 p.2).1⟩, ⟨(HKp.out.trans (Keeps.of_below (below_drewN' (Below.refl _ _) _))).trans ((HZ.out.below (below_drewN' (Below.refl _ _) _)).stored hKk p.1 p.2).2⟩, HT2⟩
              case measure => simp only [intOf]; omega
          · have hIe : ¬ (I : Int) < ((k - M : Nat) : Int) := by omega
            have hKk : K < k := by omega
            have HF : Off (zs.take K = compTo ys k) := ⟨by rw [HT.out.1]; congr 1; omega⟩
            have hq := HZ.out
            obtain ⟨vs, hcl⟩ := run_clear_pairs wr r (K * 2) (k - K) (c - K) (by omega) (fun j hj => by rw [hq.own.cellAt _ (by omega), List.getElem?_eq_getElem (by rw [pairCells_len, hq.len]; omega)]; rfl) (fun j hj => hq.frozen _)
            obtain ⟨h1, h2⟩ := row_behind vs (K * 2) _ (row_cut hq (show K ≤ k by omega)) (Nat.le_refl _)
            rw [HF.out] at h1
            have H1 := Off.mk h1
            have H2 := Off.mk (HKp.out.trans h2)
            clear h1 h2 hq HZ HT
            go_wp2
            go_ret
            exact ⟨K, rfl, by omega, H1.out, H2.out⟩
      · have E1 := eq_at p.1 p.2 q.1 q.2 false (by simpa [Prod.ext_iff] using hne)
        have HN : Off (∀ i, 0 < i → i < M + 1 → ys.getD i (0, 0) ≠ ys.getD (i - 1) (0, 0)) := ⟨fun i h1 h3 => by
          by_cases e : i = M
          · rw [e, show M - 1 = j by have := HM.out; omega, ← HPQ.out.1, ← HPQ.out.2]; exact hne
          · exact HD.out i h1 (by omega)⟩
        clear hne HD
        go_wp2
        go_quiet (fail)
        go_wp2
        go_roundw
        case rel => exact ⟨M, M + 1, ⟨rfl⟩, by omega, by go_num, HN, ⟨below_drewN' HB.out _⟩⟩
        case measure => simp only [intOf]; omega
    · obtain rfl : M = k := by omega
      have HR : Off (compTo ys M = ys) := ⟨by
        rw [compTo_take M (by have := HL.out; omega) HD.out]
        exact List.take_of_length_le (by have := HL.out; omega)⟩
      go_wp2
      go_ret
      exact ⟨M, rfl, Nat.le_refl _, by rw [HR.out]; exact HQ.out.below HB.out, Keeps.of_below HB.out⟩
end
end Go.Proofs.Ytbpmiphipjkdlaa
