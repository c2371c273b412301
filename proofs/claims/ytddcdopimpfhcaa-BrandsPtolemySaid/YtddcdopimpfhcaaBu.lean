/- Contracts: same, pairs, alive. -/
import Derived.Test.YtddcdopimpfhcaaBr
import Derived.Test.YtddcdopimpfhcaaBt
namespace Go.Proofs.Ytddcdopimpfhcaa
open Go.RowKit Go.Shelf

theorem getD_ext {α : Type} {d : α} : ∀ {xs ys : List α}, xs.length = ys.length → (∀ j, j < xs.length → xs.getD j d = ys.getD j d) → xs = ys := by
  intro xs ys h1 h2
  refine List.ext_getElem h1 fun j h3 h4 => ?_
  have := h2 j h3
  rw [List.getD_eq_getElem?_getD, List.getD_eq_getElem?_getD, List.getElem?_eq_getElem h3, List.getElem?_eq_getElem h4] at this
  exact this
set_option linter.unusedSimpArgs false in
set_option maxHeartbeats 4000000 in
set_option maxRecDepth 100000 in
theorem same_any (xs ys : List Int) (A B : Option Addr) (c d : Nat) (v : Bool) (hv : decide (xs = ys) = v) (w : World) (hx : IntsAt w A xs) (hy : IntsAt w B ys) :
    Calls Try.prog 32 #[.slice A xs.length c, .slice B ys.length d] w fun e w' => e = .returned (.bool v) ∧ Below w.heap.size w w' := by
  have hlx := hx.len
  have hly := hy.len
  by_cases hl : xs.length = ys.length
  · have HX := Off.mk hx
    have HY := Off.mk hy
    have HV := Off.mk hv
    have HL := Off.mk hl
    rw [← hl]
    have hlb : ((xs.length : Int) != (xs.length : Int)) = false := by simp
    clear hx hy hv hly hl
    go_enter Try.func32, Try.ntmps32
    go_wp2
    go_loopw [5] (fun iv wr => ∃ k : Nat, k ≤ xs.length ∧ iv = .int .i64 k ∧ Off (∀ j, j < k → xs.getD j 0 = ys.getD j 0) ∧ Off (Below w.heap.size w wr)) (fun iv _ => xs.length - (intOf iv).toNat)
    case atStart => exact ⟨0, by omega, rfl, ⟨fun j hj => by omega⟩, ⟨Below.refl _ _⟩⟩
    case round =>
      obtain ⟨k, hk, rfl, HE0, HB⟩ := hrel
      by_cases hlt : k < xs.length
      · have hkI : (k : Int) < (xs.length : Int) := by omega
        have hxr := HX.out.below HB.out
        have hyr := HY.out.below HB.out
        have hlt2 : k < ys.length := by rw [← HL.out]; exact hlt
        obtain ⟨ad, rfl, x0⟩ := hxr.cell k hlt
        obtain ⟨bd, rfl, y0⟩ := hyr.cell k (by omega)
        have HE : Off ((xs.getD k 0 = ys.getD k 0 → ∀ j, j < k + 1 → xs.getD j 0 = ys.getD j 0) ∧ (xs.getD k 0 ≠ ys.getD k 0 → v = false)) := ⟨fun h j hj => by
            by_cases e : j = k
            · rw [e]; exact h
            · exact HE0.out j (by omega), fun h => by
            rw [← HV.out, decide_eq_false_iff_not]
            intro e
            exact h (by rw [e])⟩
        obtain ⟨x, hx⟩ : ∃ x, x = xs.getD k 0 := ⟨_, rfl⟩
        obtain ⟨y, hy⟩ : ∃ y, y = ys.getD k 0 := ⟨_, rfl⟩
        rw [← hx] at x0 HE
        rw [← hy] at y0 HE
        clear hx hy hxr hyr HE0
        by_cases hxy : x = y
        · have HR := Off.mk (HE.out.1 hxy)
          have hb : (x != y) = false := by rw [hxy]; simp
          clear hxy HE
          go_wp2
          refine wp_region_held_drew (S := (fun w' => w'.cell? (ad.add k) = some (.int .i64 x) ∧ w'.cell? (bd.add k) = some (.int .i64 y))) (by kernel_rfl) ⟨x0, y0⟩ (fun hHeld => ?_)
          refine wpAnyH_take (i := 0) (oi := ⟨some 17, _, _, _, _, _⟩) (v := ?_) rfl (by kernel_rfl) (by kernel_rfl) (by kernel_rfl) (fun _ _ _ h => h) (Or.inl ⟨by rfl, by intro w hSw; (try dsimp only at hSw); go_simp; try with_reducible rfl⟩) hHeld ?_
          try simp only [Act.put, List.setIfInBounds_toArray, List.set_cons_zero, List.set_cons_succ]
          refine wpAnyH_take (i := 1) (oi := ⟨some 18, _, _, _, _, _⟩) (v := ?_) rfl (by kernel_rfl) (by kernel_rfl) (by kernel_rfl) (fun _ _ _ h => h) (Or.inl ⟨by rfl, by intro w hSw; (try dsimp only at hSw); go_simp; try with_reducible rfl⟩) hHeld ?_
          try simp only [Act.put, List.setIfInBounds_toArray, List.set_cons_zero, List.set_cons_succ]
          refine wpAnyH_take (i := 2) (oi := ⟨some 19, _, _, _, _, _⟩) (v := ?_) rfl (by kernel_rfl) (by kernel_rfl) (by kernel_rfl) (fun _ _ _ h => h) (Or.inl ⟨by rfl, by intro w hSw; (try dsimp only at hSw); go_simp; try with_reducible rfl⟩) hHeld ?_
          try simp only [Act.put, List.setIfInBounds_toArray, List.set_cons_zero, List.set_cons_succ]
          refine wpAnyH_take (i := 3) (oi := ⟨some 20, _, _, _, _, _⟩) (v := ?_) rfl (by kernel_rfl) (by kernel_rfl) (by kernel_rfl) (fun _ _ _ h => h) (Or.inl ⟨by rfl, by intro w hSw; (try dsimp only at hSw); go_simp; try with_reducible rfl⟩) hHeld ?_
          try simp only [Act.put, List.setIfInBounds_toArray, List.set_cons_zero, List.set_cons_succ]
          refine wpAnyH_take (i := 4) (oi := ⟨some 21, _, _, _, _, _⟩) (v := ?_) rfl (by kernel_rfl) (by kernel_rfl) (by kernel_rfl) (fun _ _ _ h => h) (Or.inl ⟨by rfl, by intro w hSw; (try dsimp only at hSw); go_simp; try with_reducible rfl⟩) hHeld ?_
          try simp only [Act.put, List.setIfInBounds_toArray, List.set_cons_zero, List.set_cons_succ]
          refine wpAnyH_take (i := 5) (oi := ⟨some 22, _, _, _, _, _⟩) (v := ?_) rfl (by kernel_rfl) (by kernel_rfl) (by kernel_rfl) (fun _ _ _ h => h) (Or.inl ⟨by rfl, by intro w hSw; (try dsimp only at hSw); go_simp; try with_reducible rfl⟩) hHeld ?_
          try simp only [Act.put, List.setIfInBounds_toArray, List.set_cons_zero, List.set_cons_succ]
          refine wpAnyH_take (i := 6) (oi := ⟨some 23, _, _, _, _, _⟩) (v := ?_) rfl (by kernel_rfl) (by kernel_rfl) (by kernel_rfl) (fun _ _ _ h => h) (Or.inl ⟨by rfl, by intro w hSw; (try dsimp only at hSw); go_simp; try with_reducible rfl⟩) hHeld ?_
          try simp only [Act.put, List.setIfInBounds_toArray, List.set_cons_zero, List.set_cons_succ]
          refine wpAnyH_take (i := 7) (oi := ⟨some 24, _, _, _, _, _⟩) (v := ?_) rfl (by kernel_rfl) (by kernel_rfl) (by kernel_rfl) (fun _ _ _ h => h) (Or.inl ⟨by rfl, by intro w hSw; (try dsimp only at hSw); go_simp; try with_reducible rfl⟩) hHeld ?_
          try simp only [Act.put, List.setIfInBounds_toArray, List.set_cons_zero, List.set_cons_succ]
          refine wpAnyH_take (i := 8) (oi := ⟨some 25, _, _, _, _, _⟩) (v := ?_) rfl (by kernel_rfl) (by kernel_rfl) (by kernel_rfl) (fun _ _ _ h => h) (Or.inl ⟨by rfl, by intro w hSw; (try dsimp only at hSw); go_simp; try with_reducible rfl⟩) hHeld ?_
          try simp only [Act.put, List.setIfInBounds_toArray, List.set_cons_zero, List.set_cons_succ]
          refine wpAnyH_done (by kernel_rfl) ?_ _
          go_wp2
          go_roundw
          case rel => exact ⟨k + 1, by omega, by go_num, HR, ⟨below_drew HB.out⟩⟩
          case measure => simp only [intOf]; omega
        · have HR := Off.mk (HE.out.2 hxy)
          have hb : (x != y) = true := by rw [bne_iff_ne]; exact hxy
          clear hxy HE
          go_wp2
          refine wp_region_held_drew (S := (fun w' => w'.cell? (ad.add k) = some (.int .i64 x) ∧ w'.cell? (bd.add k) = some (.int .i64 y))) (by kernel_rfl) ⟨x0, y0⟩ (fun hHeld => ?_)
          refine wpAnyH_take (i := 0) (oi := ⟨some 17, _, _, _, _, _⟩) (v := ?_) rfl (by kernel_rfl) (by kernel_rfl) (by kernel_rfl) (fun _ _ _ h => h) (Or.inl ⟨by rfl, by intro w hSw; (try dsimp only at hSw); go_simp; try with_reducible rfl⟩) hHeld ?_
          try simp only [Act.put, List.setIfInBounds_toArray, List.set_cons_zero, List.set_cons_succ]
          refine wpAnyH_take (i := 1) (oi := ⟨some 18, _, _, _, _, _⟩) (v := ?_) rfl (by kernel_rfl) (by kernel_rfl) (by kernel_rfl) (fun _ _ _ h => h) (Or.inl ⟨by rfl, by intro w hSw; (try dsimp only at hSw); go_simp; try with_reducible rfl⟩) hHeld ?_
          try simp only [Act.put, List.setIfInBounds_toArray, List.set_cons_zero, List.set_cons_succ]
          refine wpAnyH_take (i := 2) (oi := ⟨some 19, _, _, _, _, _⟩) (v := ?_) rfl (by kernel_rfl) (by kernel_rfl) (by kernel_rfl) (fun _ _ _ h => h) (Or.inl ⟨by rfl, by intro w hSw; (try dsimp only at hSw); go_simp; try with_reducible rfl⟩) hHeld ?_
          try simp only [Act.put, List.setIfInBounds_toArray, List.set_cons_zero, List.set_cons_succ]
          refine wpAnyH_take (i := 3) (oi := ⟨some 20, _, _, _, _, _⟩) (v := ?_) rfl (by kernel_rfl) (by kernel_rfl) (by kernel_rfl) (fun _ _ _ h => h) (Or.inl ⟨by rfl, by intro w hSw; (try dsimp only at hSw); go_simp; try with_reducible rfl⟩) hHeld ?_
          try simp only [Act.put, List.setIfInBounds_toArray, List.set_cons_zero, List.set_cons_succ]
          refine wpAnyH_take (i := 4) (oi := ⟨some 21, _, _, _, _, _⟩) (v := ?_) rfl (by kernel_rfl) (by kernel_rfl) (by kernel_rfl) (fun _ _ _ h => h) (Or.inl ⟨by rfl, by intro w hSw; (try dsimp only at hSw); go_simp; try with_reducible rfl⟩) hHeld ?_
          try simp only [Act.put, List.setIfInBounds_toArray, List.set_cons_zero, List.set_cons_succ]
          refine wpAnyH_take (i := 5) (oi := ⟨some 22, _, _, _, _, _⟩) (v := ?_) rfl (by kernel_rfl) (by kernel_rfl) (by kernel_rfl) (fun _ _ _ h => h) (Or.inl ⟨by rfl, by intro w hSw; (try dsimp only at hSw); go_simp; try with_reducible rfl⟩) hHeld ?_
          try simp only [Act.put, List.setIfInBounds_toArray, List.set_cons_zero, List.set_cons_succ]
          refine wpAnyH_take (i := 6) (oi := ⟨some 23, _, _, _, _, _⟩) (v := ?_) rfl (by kernel_rfl) (by kernel_rfl) (by kernel_rfl) (fun _ _ _ h => h) (Or.inl ⟨by rfl, by intro w hSw; (try dsimp only at hSw); go_simp; try with_reducible rfl⟩) hHeld ?_
          try simp only [Act.put, List.setIfInBounds_toArray, List.set_cons_zero, List.set_cons_succ]
          refine wpAnyH_take (i := 7) (oi := ⟨some 24, _, _, _, _, _⟩) (v := ?_) rfl (by kernel_rfl) (by kernel_rfl) (by kernel_rfl) (fun _ _ _ h => h) (Or.inl ⟨by rfl, by intro w hSw; (try dsimp only at hSw); go_simp; try with_reducible rfl⟩) hHeld ?_
          try simp only [Act.put, List.setIfInBounds_toArray, List.set_cons_zero, List.set_cons_succ]
          refine wpAnyH_take (i := 8) (oi := ⟨some 25, _, _, _, _, _⟩) (v := ?_) rfl (by kernel_rfl) (by kernel_rfl) (by kernel_rfl) (fun _ _ _ h => h) (Or.inl ⟨by rfl, by intro w hSw; (try dsimp only at hSw); go_simp; try with_reducible rfl⟩) hHeld ?_
          try simp only [Act.put, List.setIfInBounds_toArray, List.set_cons_zero, List.set_cons_succ]
          refine wpAnyH_done (by kernel_rfl) ?_ _
          go_wp2
          go_ret
          exact ⟨ret_bool HR.out.symm, below_drew HB.out⟩
      · obtain rfl : k = xs.length := by omega
        have HR : Off (true = v) := ⟨by rw [← HV.out, decide_eq_true (getD_ext HL.out HE0.out)]⟩
        go_wp2
        go_ret
        exact ⟨ret_bool HR.out, HB.out⟩
  · have hv' : v = false := by rw [← hv, decide_eq_false (fun e => hl (by rw [e]))]
    subst hv'
    have hlb : ((xs.length : Int) != (ys.length : Int)) = true := by rw [bne_iff_ne]; omega
    clear hx hy hv hl
    go_enter Try.func32, Try.ntmps32
    go_wp2
    go_ret
    exact ⟨rfl, Below.refl _ _⟩
set_option linter.unusedSimpArgs false in
set_option maxHeartbeats 4000000 in
set_option maxRecDepth 100000 in
theorem pairs_any (xs ys : List (Int × Int)) (A B : Option Addr) (c d : Nat) (v : Bool) (hv : decide (xs = ys) = v) (w : World) (hx : PairsI w A xs) (hy : PairsI w B ys) :
    Calls Try.prog 22 #[.slice A xs.length c, .slice B ys.length d] w fun e w' => e = .returned (.bool v) ∧ Below w.heap.size w w' := by
  have hlx := hx.len
  have hly := hy.len
  by_cases hl : xs.length = ys.length
  · have HX := Off.mk hx
    have HY := Off.mk hy
    have HV := Off.mk hv
    have HL := Off.mk hl
    rw [← hl]
    have hlb : ((xs.length : Int) != (xs.length : Int)) = false := by simp
    clear hx hy hv hly hl
    go_enter Try.func22, Try.ntmps22
    go_wp2
    go_loopw [5] (fun iv wr => ∃ k : Nat, k ≤ xs.length ∧ iv = .int .i64 k ∧ Off (∀ j, j < k → xs.getD j (0, 0) = ys.getD j (0, 0)) ∧ Off (Below w.heap.size w wr)) (fun iv _ => xs.length - (intOf iv).toNat)
    case atStart => exact ⟨0, by omega, rfl, ⟨fun j hj => by omega⟩, ⟨Below.refl _ _⟩⟩
    case round =>
      obtain ⟨k, hk, rfl, HE0, HB⟩ := hrel
      by_cases hlt : k < xs.length
      · have hkI : (k : Int) < (xs.length : Int) := by omega
        have hxr := HX.out.below HB.out
        have hyr := HY.out.below HB.out
        have hlt2 : k < ys.length := by rw [← HL.out]; exact hlt
        obtain ⟨ad, rfl, x0, x1⟩ := hxr.cell k hlt
        obtain ⟨bd, rfl, y0, y1⟩ := hyr.cell k (by omega)
        have HE : Off ((xs.getD k (0, 0) = ys.getD k (0, 0) → ∀ j, j < k + 1 → xs.getD j (0, 0) = ys.getD j (0, 0)) ∧ (xs.getD k (0, 0) ≠ ys.getD k (0, 0) → v = false)) := ⟨fun h j hj => by
            by_cases e : j = k
            · rw [e]; exact h
            · exact HE0.out j (by omega), fun h => by
            rw [← HV.out, decide_eq_false_iff_not]
            intro e
            exact h (by rw [e])⟩
        obtain ⟨x, hx⟩ : ∃ x, x = xs.getD k (0, 0) := ⟨_, rfl⟩
        obtain ⟨y, hy⟩ : ∃ y, y = ys.getD k (0, 0) := ⟨_, rfl⟩
        rw [← hx] at x0 x1 HE
        rw [← hy] at y0 y1 HE
        clear hx hy hxr hyr HE0
        by_cases hxy : x = y
        · have HR := Off.mk (HE.out.1 hxy)
          have hb : ∀ W, Sem.run Try.prog (binOp .neq 36 (.agg #[.int .i64 x.1, .int .i64 x.2]) (.agg #[.int .i64 y.1, .int .i64 y.2])) W = .ok (.bool false) W := fun W => neq_pair _ _ _ _ _ (by rw [hxy]; simp) W
          clear hxy HE
          go_wp2
          refine wp_region_held_drew (S := (fun w' => (w'.cell? (ad.add (k * 2)) = some (.int .i64 x.1) ∧ w'.cell? ⟨(ad.add (k * 2)).block, (ad.add (k * 2)).off + 1, none⟩ = some (.int .i64 x.2)) ∧ (w'.cell? (bd.add (k * 2)) = some (.int .i64 y.1) ∧ w'.cell? ⟨(bd.add (k * 2)).block, (bd.add (k * 2)).off + 1, none⟩ = some (.int .i64 y.2)))) (by kernel_rfl) ⟨⟨x0, x1⟩, y0, y1⟩ (fun hHeld => ?_)
          refine wpAnyH_take (i := 0) (oi := ⟨some 17, _, _, _, _, _⟩) (v := ?_) rfl (by kernel_rfl) (by kernel_rfl) (by kernel_rfl) (fun _ _ _ h => h) (Or.inl ⟨by rfl, by intro w hSw; (try dsimp only at hSw); go_simp; try with_reducible rfl⟩) hHeld ?_
          try simp only [Act.put, List.setIfInBounds_toArray, List.set_cons_zero, List.set_cons_succ]
          refine wpAnyH_take (i := 1) (oi := ⟨some 18, _, _, _, _, _⟩) (v := ?_) rfl (by kernel_rfl) (by kernel_rfl) (by kernel_rfl) (fun _ _ _ h => h) (Or.inl ⟨by rfl, by intro w hSw; (try dsimp only at hSw); go_simp; try with_reducible rfl⟩) hHeld ?_
          try simp only [Act.put, List.setIfInBounds_toArray, List.set_cons_zero, List.set_cons_succ]
          refine wpAnyH_take (i := 2) (oi := ⟨some 19, _, _, _, _, _⟩) (v := ?_) rfl (by kernel_rfl) (by kernel_rfl) (by kernel_rfl) (fun _ _ _ h => h) (Or.inl ⟨by rfl, by intro w hSw; (try dsimp only at hSw); go_simp; try with_reducible rfl⟩) hHeld ?_
          try simp only [Act.put, List.setIfInBounds_toArray, List.set_cons_zero, List.set_cons_succ]
          refine wpAnyH_take (i := 3) (oi := ⟨some 20, _, _, _, _, _⟩) (v := ?_) rfl (by kernel_rfl) (by kernel_rfl) (by kernel_rfl) (fun _ _ _ h => h) (Or.inl ⟨by rfl, by intro w hSw; (try dsimp only at hSw); go_simp; try with_reducible rfl⟩) hHeld ?_
          try simp only [Act.put, List.setIfInBounds_toArray, List.set_cons_zero, List.set_cons_succ]
          refine wpAnyH_take (i := 4) (oi := ⟨some 21, _, _, _, _, _⟩) (v := ?_) rfl (by kernel_rfl) (by kernel_rfl) (by kernel_rfl) (fun _ _ _ h => h) (Or.inl ⟨by rfl, by intro w hSw; (try dsimp only at hSw); go_simp; try with_reducible rfl⟩) hHeld ?_
          try simp only [Act.put, List.setIfInBounds_toArray, List.set_cons_zero, List.set_cons_succ]
          refine wpAnyH_take (i := 5) (oi := ⟨some 22, _, _, _, _, _⟩) (v := ?_) rfl (by kernel_rfl) (by kernel_rfl) (by kernel_rfl) (fun _ _ _ h => h) (Or.inl ⟨by rfl, by intro w hSw; (try dsimp only at hSw); go_simp; try with_reducible rfl⟩) hHeld ?_
          try simp only [Act.put, List.setIfInBounds_toArray, List.set_cons_zero, List.set_cons_succ]
          refine wpAnyH_take (i := 6) (oi := ⟨some 23, _, _, _, _, _⟩) (v := ?_) rfl (by kernel_rfl) (by kernel_rfl) (by kernel_rfl) (fun _ _ _ h => h) (Or.inl ⟨by rfl, by intro w hSw; (try dsimp only at hSw); go_simp; try with_reducible rfl⟩) hHeld ?_
          try simp only [Act.put, List.setIfInBounds_toArray, List.set_cons_zero, List.set_cons_succ]
          refine wpAnyH_take (i := 7) (oi := ⟨some 24, _, _, _, _, _⟩) (v := ?_) rfl (by kernel_rfl) (by kernel_rfl) (by kernel_rfl) (fun _ _ _ h => h) (Or.inl ⟨by rfl, by intro w hSw; (try dsimp only at hSw); go_simp; try with_reducible rfl⟩) hHeld ?_
          try simp only [Act.put, List.setIfInBounds_toArray, List.set_cons_zero, List.set_cons_succ]
          refine wpAnyH_take (i := 8) (oi := ⟨some 25, _, _, _, _, _⟩) (v := ?_) rfl (by kernel_rfl) (by kernel_rfl) (by kernel_rfl) (fun _ _ _ h => h) (Or.inl ⟨by rfl, by intro w hSw; (try dsimp only at hSw); go_simp; try with_reducible rfl⟩) hHeld ?_
          try simp only [Act.put, List.setIfInBounds_toArray, List.set_cons_zero, List.set_cons_succ]
          refine wpAnyH_done (by kernel_rfl) ?_ _
          go_wp2
          go_roundw
          case rel => exact ⟨k + 1, by omega, by go_num, HR, ⟨below_drew HB.out⟩⟩
          case measure => simp only [intOf]; omega
        · have HR := Off.mk (HE.out.2 hxy)
          have hb : ∀ W, Sem.run Try.prog (binOp .neq 36 (.agg #[.int .i64 x.1, .int .i64 x.2]) (.agg #[.int .i64 y.1, .int .i64 y.2])) W = .ok (.bool true) W := fun W => neq_pair _ _ _ _ _ (by
            by_cases e1 : x.1 = y.1
            · have e2 : ¬ x.2 = y.2 := fun e2 => hxy (Prod.ext e1 e2)
              rw [decide_eq_false e2]; simp
            · rw [decide_eq_false e1]; simp) W
          clear hxy HE
          go_wp2
          refine wp_region_held_drew (S := (fun w' => (w'.cell? (ad.add (k * 2)) = some (.int .i64 x.1) ∧ w'.cell? ⟨(ad.add (k * 2)).block, (ad.add (k * 2)).off + 1, none⟩ = some (.int .i64 x.2)) ∧ (w'.cell? (bd.add (k * 2)) = some (.int .i64 y.1) ∧ w'.cell? ⟨(bd.add (k * 2)).block, (bd.add (k * 2)).off + 1, none⟩ = some (.int .i64 y.2)))) (by kernel_rfl) ⟨⟨x0, x1⟩, y0, y1⟩ (fun hHeld => ?_)
          refine wpAnyH_take (i := 0) (oi := ⟨some 17, _, _, _, _, _⟩) (v := ?_) rfl (by kernel_rfl) (by kernel_rfl) (by kernel_rfl) (fun _ _ _ h => h) (Or.inl ⟨by rfl, by intro w hSw; (try dsimp only at hSw); go_simp; try with_reducible rfl⟩) hHeld ?_
          try simp only [Act.put, List.setIfInBounds_toArray, List.set_cons_zero, List.set_cons_succ]
          refine wpAnyH_take (i := 1) (oi := ⟨some 18, _, _, _, _, _⟩) (v := ?_) rfl (by kernel_rfl) (by kernel_rfl) (by kernel_rfl) (fun _ _ _ h => h) (Or.inl ⟨by rfl, by intro w hSw; (try dsimp only at hSw); go_simp; try with_reducible rfl⟩) hHeld ?_
          try simp only [Act.put, List.setIfInBounds_toArray, List.set_cons_zero, List.set_cons_succ]
          refine wpAnyH_take (i := 2) (oi := ⟨some 19, _, _, _, _, _⟩) (v := ?_) rfl (by kernel_rfl) (by kernel_rfl) (by kernel_rfl) (fun _ _ _ h => h) (Or.inl ⟨by rfl, by intro w hSw; (try dsimp only at hSw); go_simp; try with_reducible rfl⟩) hHeld ?_
          try simp only [Act.put, List.setIfInBounds_toArray, List.set_cons_zero, List.set_cons_succ]
          refine wpAnyH_take (i := 3) (oi := ⟨some 20, _, _, _, _, _⟩) (v := ?_) rfl (by kernel_rfl) (by kernel_rfl) (by kernel_rfl) (fun _ _ _ h => h) (Or.inl ⟨by rfl, by intro w hSw; (try dsimp only at hSw); go_simp; try with_reducible rfl⟩) hHeld ?_
          try simp only [Act.put, List.setIfInBounds_toArray, List.set_cons_zero, List.set_cons_succ]
          refine wpAnyH_take (i := 4) (oi := ⟨some 21, _, _, _, _, _⟩) (v := ?_) rfl (by kernel_rfl) (by kernel_rfl) (by kernel_rfl) (fun _ _ _ h => h) (Or.inl ⟨by rfl, by intro w hSw; (try dsimp only at hSw); go_simp; try with_reducible rfl⟩) hHeld ?_
          try simp only [Act.put, List.setIfInBounds_toArray, List.set_cons_zero, List.set_cons_succ]
          refine wpAnyH_take (i := 5) (oi := ⟨some 22, _, _, _, _, _⟩) (v := ?_) rfl (by kernel_rfl) (by kernel_rfl) (by kernel_rfl) (fun _ _ _ h => h) (Or.inl ⟨by rfl, by intro w hSw; (try dsimp only at hSw); go_simp; try with_reducible rfl⟩) hHeld ?_
          try simp only [Act.put, List.setIfInBounds_toArray, List.set_cons_zero, List.set_cons_succ]
          refine wpAnyH_take (i := 6) (oi := ⟨some 23, _, _, _, _, _⟩) (v := ?_) rfl (by kernel_rfl) (by kernel_rfl) (by kernel_rfl) (fun _ _ _ h => h) (Or.inl ⟨by rfl, by intro w hSw; (try dsimp only at hSw); go_simp; try with_reducible rfl⟩) hHeld ?_
          try simp only [Act.put, List.setIfInBounds_toArray, List.set_cons_zero, List.set_cons_succ]
          refine wpAnyH_take (i := 7) (oi := ⟨some 24, _, _, _, _, _⟩) (v := ?_) rfl (by kernel_rfl) (by kernel_rfl) (by kernel_rfl) (fun _ _ _ h => h) (Or.inl ⟨by rfl, by intro w hSw; (try dsimp only at hSw); go_simp; try with_reducible rfl⟩) hHeld ?_
          try simp only [Act.put, List.setIfInBounds_toArray, List.set_cons_zero, List.set_cons_succ]
          refine wpAnyH_take (i := 8) (oi := ⟨some 25, _, _, _, _, _⟩) (v := ?_) rfl (by kernel_rfl) (by kernel_rfl) (by kernel_rfl) (fun _ _ _ h => h) (Or.inl ⟨by rfl, by intro w hSw; (try dsimp only at hSw); go_simp; try with_reducible rfl⟩) hHeld ?_
          try simp only [Act.put, List.setIfInBounds_toArray, List.set_cons_zero, List.set_cons_succ]
          refine wpAnyH_done (by kernel_rfl) ?_ _
          go_wp2
          go_ret
          exact ⟨ret_bool HR.out.symm, below_drew HB.out⟩
      · obtain rfl : k = xs.length := by omega
        have HR : Off (true = v) := ⟨by rw [← HV.out, decide_eq_true (getD_ext HL.out HE0.out)]⟩
        go_wp2
        go_ret
        exact ⟨ret_bool HR.out, HB.out⟩
  · have hv' : v = false := by rw [← hv, decide_eq_false (fun e => hl (by rw [e]))]
    subst hv'
    have hlb : ((xs.length : Int) != (ys.length : Int)) = true := by rw [bne_iff_ne]; omega
    clear hx hy hv hl
    go_enter Try.func22, Try.ntmps22
    go_wp2
    go_ret
    exact ⟨rfl, Below.refl _ _⟩
theorem cells_at {W : World} {b : Nat} {vs : Array Value} {t : TypeId} (h : W.heap[b]? = some (.cells vs t (0, 0))) (j : Nat) : W.cell? ⟨b, j, none⟩ = vs[j]? := by simp [World.cell?, h]
theorem pairs_new (w : World) (x y : Int) : PairsI (w.alloc (.cells #[.int .i64 x, .int .i64 y] 36)) (some ⟨w.heap.size, 0, none⟩) [(x, y)] :=
  ⟨by simp, fun j hj => ⟨_, rfl, by
    obtain rfl : j = 0 := by simp at hj; omega
    obtain ⟨⟨h0, h1⟩, _⟩ := two_facts (block_new w (.cells #[.int .i64 x, .int .i64 y] 36))
    exact ⟨h0, h1⟩⟩⟩
theorem below_new {w w1 : World} {o : Obj} (h : Below (w.alloc o).heap.size (w.alloc o) w1) : Below w.heap.size w w1 := belowC ((Below.refl _ _).alloc (Nat.le_refl _) _) h
theorem own_new {w w1 : World} {o : Obj} {v : Value} {xs : List Int} (h : Own w1 (w.alloc o).heap.size v xs) : Own w1 w.heap.size v xs := own_mono h (by rw [World.size_alloc]; omega)
theorem ownQ_new {w w1 : World} {o : Obj} {v : Value} {xs : List (Int × Int)} (h : OwnQ w1 (w.alloc o).heap.size v xs) : OwnQ w1 w.heap.size v xs := ownQ_mono h (by rw [World.size_alloc]; omega)
theorem a_round (w : World) : Calls Try.prog 30 #[.int .i64 4, .slice (some ⟨w.heap.size, 0, none⟩) 1 1] (w.alloc (.cells #[.int .i64 0, .int .i64 2] 36)) fun e w' => ∃ v, e = .returned (.tuple #[v, .int .i64 0]) ∧ Own w' w.heap.size v [2, 1, 2, 1] ∧ Below w.heap.size w w' := by
  have h : roundOf 4 [(0, 2)] = [2, 1, 2, 1] := by decide +kernel
  refine (Round_yes 4 [(0, 2)] _ 1 (by decide +kernel) _ (pairs_new w 0 2) (Nat.le_refl _)).mono ?_
  rintro e w' ⟨v, rfl, hO, hb⟩
  rw [h] at hO
  exact ⟨v, rfl, own_new hO, below_new hb⟩
theorem five_new (w : World) (a b c d e : Int) : IntsAt (w.alloc (.cells #[.int .i64 a, .int .i64 b, .int .i64 c, .int .i64 d, .int .i64 e] 3)) (some ⟨w.heap.size, 0, none⟩) [a, b, c, d, e] :=
  ⟨by simp, fun j hj => ⟨_, rfl, by
    have h := block_new w (.cells #[.int .i64 a, .int .i64 b, .int .i64 c, .int .i64 d, .int .i64 e] 3)
    rw [Addr.add_lit, Nat.zero_add]
    obtain rfl | rfl | rfl | rfl | rfl : j = 0 ∨ j = 1 ∨ j = 2 ∨ j = 3 ∨ j = 4 := by simp at hj; omega
    all_goals (rw [cells_at h]; rfl)⟩⟩
theorem four_new (w : World) (a b c d : Int) : IntsAt (w.alloc (.cells #[.int .i64 a, .int .i64 b, .int .i64 c, .int .i64 d] 3)) (some ⟨w.heap.size, 0, none⟩) [a, b, c, d] :=
  ⟨by simp, fun j hj => ⟨_, rfl, by
    have h := block_new w (.cells #[.int .i64 a, .int .i64 b, .int .i64 c, .int .i64 d] 3)
    rw [Addr.add_lit, Nat.zero_add]
    obtain rfl | rfl | rfl | rfl : j = 0 ∨ j = 1 ∨ j = 2 ∨ j = 3 := by simp at hj; omega
    all_goals (rw [cells_at h]; rfl)⟩⟩
theorem pairs2_new (w : World) (a b c d : Int) : PairsI (w.alloc (.cells #[.int .i64 a, .int .i64 b, .int .i64 c, .int .i64 d] 36)) (some ⟨w.heap.size, 0, none⟩) [(a, b), (c, d)] :=
  ⟨by simp, fun j hj => ⟨_, rfl, by
    have h := block_new w (.cells #[.int .i64 a, .int .i64 b, .int .i64 c, .int .i64 d] 36)
    simp only [Addr.add_lit, Nat.zero_add]
    obtain rfl | rfl : j = 0 ∨ j = 1 := by simp at hj; omega
    all_goals exact ⟨by rw [cells_at h]; rfl, by rw [cells_at h]; rfl⟩⟩⟩
theorem a_of (w : World) : Calls Try.prog 36 #[.slice (some ⟨w.heap.size, 0, none⟩) 5 5] (w.alloc (.cells #[.int .i64 1, .int .i64 3, .int .i64 1, .int .i64 2, .int .i64 2] 3)) fun e w' => ∃ v, e = .returned (.tuple #[v, .int .i64 0]) ∧ OwnQ w' w.heap.size v [(1, 3), (1, 4)] ∧ Below w.heap.size w w' := by
  have h : ofL [1, 3, 1, 2, 2] = some [(1, 3), (1, 4)] := by decide +kernel
  refine (of_any [1, 3, 1, 2, 2] _ 5 (by decide +kernel) _ (five_new w 1 3 1 2 2) (Nat.le_refl _) (fun e => by cases e)).mono ?_
  rintro e w' ⟨hb, hp⟩
  rw [h] at hp
  obtain ⟨v, rfl, hO⟩ := hp
  exact ⟨v, rfl, ownQ_new hO, below_new hb⟩
theorem a_flip (w : World) : Calls Try.prog 20 #[.int .i64 4, .slice (some ⟨w.heap.size, 0, none⟩) 1 1, .int .i64 0] (w.alloc (.cells #[.int .i64 0, .int .i64 2] 36)) fun e w' => ∃ v, e = .returned (.tuple #[v, .int .i64 0]) ∧ OwnQ w' w.heap.size v [(1, 3)] ∧ Below w.heap.size w w' := by
  have h : flipL 4 [(0, 2)] 0 = some [(1, 3)] := by decide +kernel
  refine (flip_yes 4 [(0, 2)] _ 1 0 (by decide +kernel) (by decide) _ (pairs_new w 0 2) (Nat.le_refl _) (fun e => by cases e)).mono ?_
  rintro e w' ⟨hb, hp⟩
  rw [h] at hp
  obtain ⟨v, rfl, hO⟩ := hp
  exact ⟨v, rfl, ownQ_new hO, below_new hb⟩
theorem a_count (w : World) : Calls Try.prog 23 #[.int .i64 6] w fun e w' => e = .returned (.tuple #[.int .i64 14, .int .i64 0]) ∧ Below w.heap.size w w' := by
  have h : countI 6 = 14 := by decide +kernel
  have := count_yes 6 (by decide) (by decide) w
  rw [h] at this
  exact this
theorem a_choices (w : World) : Calls Try.prog 18 #[.int .i64 4, .slice (some ⟨w.heap.size, 0, none⟩) 1 1, .int .i64 1, .int .i64 3] (w.alloc (.cells #[.int .i64 0, .int .i64 2] 36)) fun e w' => e = .returned (.tuple #[.int .i64 2, .int .i64 0]) ∧ Below w.heap.size w w' := by
  have h : choI 4 [(0, 2)] 1 3 = 2 := by decide +kernel
  refine (choices_yes 4 [(0, 2)] _ 1 1 3 (by decide +kernel) (by decide) (by decide) (by decide) (by decide +kernel) _ (pairs_new w 0 2) (Nat.le_refl _)).mono ?_
  rintro e w' ⟨rfl, hb⟩
  rw [h]
  exact ⟨rfl, below_new hb⟩
set_option maxHeartbeats 4000000 in
set_option maxRecDepth 100000 in
theorem alive_any (w : World) : Calls Try.prog 17 #[] w fun e w' => e = .returned (.bool true) ∧ Below w.heap.size w w' := by
  go_enter Try.func17, Try.ntmps17
  go_wp2_with fail
  refine (a_round _).mono ?_
  rintro e w1 ⟨v1, rfl, hO1, hb1⟩
  obtain ⟨A1, c1, rfl, hI1, _⟩ := own_ints hO1 (by simp)
  have HI1 := Off.mk hI1
  have HB1 := Off.mk hb1
  clear hO1 hI1 hb1
  go_wp2_with fail
  refine (a_of _).mono ?_
  rintro e w2 ⟨v2, rfl, hO2, hb2⟩
  obtain ⟨A2, c2, rfl, hI2, _⟩ := ownQ_pairs hO2 (by simp)
  have HI2 := Off.mk hI2
  have HI1 := Off.mk (HI1.out.below hb2)
  have HB2 := Off.mk (belowC HB1.out hb2)
  clear hO2 hI2 hb2
  go_wp2_with fail
  refine (a_flip _).mono ?_
  rintro e w3 ⟨v3, rfl, hO3, hb3⟩
  obtain ⟨A3, c3, rfl, hI3, _⟩ := ownQ_pairs hO3 (by simp)
  have HI3 := Off.mk hI3
  have HI1 := Off.mk (HI1.out.below hb3)
  have HI2 := Off.mk (HI2.out.below hb3)
  have HB3 := Off.mk (belowC HB2.out hb3)
  clear hO3 hI3 hb3
  go_wp2_with fail
  refine (a_count _).mono ?_
  rintro e w4 ⟨rfl, hb4⟩
  have HI1 := Off.mk (HI1.out.below hb4)
  have HI2 := Off.mk (HI2.out.below hb4)
  have HI3 := Off.mk (HI3.out.below hb4)
  have HB4 := Off.mk (belowC HB3.out hb4)
  clear hb4
  go_wp2_with fail
  refine (a_choices _).mono ?_
  rintro e w5 ⟨rfl, hb5⟩
  have HI1 := Off.mk (HI1.out.below hb5)
  have HI2 := Off.mk (HI2.out.below hb5)
  have HI3 := Off.mk (HI3.out.below hb5)
  have HB5 := Off.mk (belowC HB4.out hb5)
  clear hb5
  go_wp2_with fail
  have hB : Below w5.heap.size w5 (w5.alloc (.cells #[.int .i64 2, .int .i64 1, .int .i64 2, .int .i64 1] 3)) := (Below.refl _ _).alloc (Nat.le_refl _) _
  refine (same_any [2, 1, 2, 1] [2, 1, 2, 1] A1 _ c1 4 true (by decide) _ (HI1.out.below hB) (four_new w5 2 1 2 1)).mono ?_
  rintro e w6 ⟨rfl, hb6⟩
  have HB6 := Off.mk (belowC HB5.out (below_new hb6))
  have HI2 := Off.mk ((HI2.out.below hB).below hb6)
  have HI3 := Off.mk ((HI3.out.below hB).below hb6)
  clear hB hb6
  go_wp2_with fail
  have hB : Below w6.heap.size w6 (w6.alloc (.cells #[.int .i64 1, .int .i64 3, .int .i64 1, .int .i64 4] 36)) := (Below.refl _ _).alloc (Nat.le_refl _) _
  refine (pairs_any [(1, 3), (1, 4)] [(1, 3), (1, 4)] A2 _ c2 2 true (by decide) _ (HI2.out.below hB) (pairs2_new w6 1 3 1 4)).mono ?_
  rintro e w7 ⟨rfl, hb7⟩
  have HB7 := Off.mk (belowC HB6.out (below_new hb7))
  have HI3 := Off.mk ((HI3.out.below hB).below hb7)
  clear hB hb7
  go_wp2_with fail
  have hB : Below w7.heap.size w7 (w7.alloc (.cells #[.int .i64 1, .int .i64 3] 36)) := (Below.refl _ _).alloc (Nat.le_refl _) _
  refine (pairs_any [(1, 3)] [(1, 3)] A3 _ c3 1 true (by decide) _ (HI3.out.below hB) (pairs_new w7 1 3)).mono ?_
  rintro e w8 ⟨rfl, hb8⟩
  have HB8 := Off.mk (belowC HB7.out (below_new hb8))
  clear hB hb8
  go_wp2
  go_ret
  exact ⟨rfl, HB8.out⟩
end Go.Proofs.Ytddcdopimpfhcaa
