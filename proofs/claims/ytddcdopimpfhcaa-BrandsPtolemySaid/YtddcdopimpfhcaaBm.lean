/- Contracts: sorting lines, the loops. -/
import Derived.Test.YtddcdopimpfhcaaBl
import Derived.RegionTactic
namespace Go.Proofs.Ytddcdopimpfhcaa
open Go.RowKit Go.Shelf

abbrev byFn (P : Nat) : Value := .func (.func 80) #[] #[.pointer (some ⟨P, 0, none⟩)]
theorem cmpI_lt (a b : Int) : decide (cmpI a b < 0) = decide (a < b) := by
  unfold cmpI
  by_cases h : a < b
  · rw [if_pos h, decide_eq_true h]; rfl
  · rw [if_neg h, decide_eq_false h]
    split <;> rfl
theorem swap_cells {w : World} {base r n c : Nat} {xs : List (Int × Int)} (h : QRow w base r n c xs) {j : Nat} (hj : j + 1 < n) (x y : Int × Int) (hx : x = xs.getD (j + 1) (0, 0)) (hy : y = xs.getD j (0, 0)) :
    QRow ((((w.setCell ⟨r, (j + 1) * 2, none⟩ (.int .i64 y.1)).setCell ⟨r, (j + 1) * 2 + 1, none⟩ (.int .i64 y.2)).setCell ⟨r, j * 2, none⟩ (.int .i64 x.1)).setCell ⟨r, j * 2 + 1, none⟩ (.int .i64 x.2)) base r n c (swapAt xs (j + 1)) ∧
    Keeps r w ((((w.setCell ⟨r, (j + 1) * 2, none⟩ (.int .i64 y.1)).setCell ⟨r, (j + 1) * 2 + 1, none⟩ (.int .i64 y.2)).setCell ⟨r, j * 2, none⟩ (.int .i64 x.1)).setCell ⟨r, j * 2 + 1, none⟩ (.int .i64 x.2)) := by
  obtain ⟨h1, k1⟩ := h.stored hj y.1 y.2
  obtain ⟨h2, k2⟩ := h1.stored (i := j) (by omega) x.1 x.2
  exact ⟨by rw [swapAt, ← hx]; simp only [Nat.add_sub_cancel]; rw [← hy]; exact h2, k1.trans k2⟩
theorem swap_cells' {w : World} {base r n c : Nat} {xs : List (Int × Int)} (h : QRow w base r n c xs) {j : Nat} (hj : j + 1 < n) (x y : Int × Int) (hx : x = xs.getD (j + 1) (0, 0)) (hy : y = xs.getD j (0, 0)) :
    QRow ((((w.setCell ⟨r, j * 2, none⟩ (.int .i64 x.1)).setCell ⟨r, j * 2 + 1, none⟩ (.int .i64 x.2)).setCell ⟨r, (j + 1) * 2, none⟩ (.int .i64 y.1)).setCell ⟨r, (j + 1) * 2 + 1, none⟩ (.int .i64 y.2)) base r n c (swapAt xs (j + 1)) ∧
    Keeps r w ((((w.setCell ⟨r, j * 2, none⟩ (.int .i64 x.1)).setCell ⟨r, j * 2 + 1, none⟩ (.int .i64 x.2)).setCell ⟨r, (j + 1) * 2, none⟩ (.int .i64 y.1)).setCell ⟨r, (j + 1) * 2 + 1, none⟩ (.int .i64 y.2)) := by
  obtain ⟨h1, k1⟩ := h.stored (i := j) (by omega) x.1 x.2
  obtain ⟨h2, k2⟩ := h1.stored hj y.1 y.2
  exact ⟨by rw [swapAt, ← hx]; simp only [Nat.add_sub_cancel]; rw [← hy, List.set_comm _ _ (by omega)]; exact h2, k1.trans k2⟩

set_option linter.unusedSimpArgs false in
set_option maxHeartbeats 4000000 in
set_option maxRecDepth 100000 in
theorem insertion_any (base r n c P : Nat) (xs : List (Int × Int)) (w : World) (h : QRow w base r n c xs) (hR : ∀ x, x ∈ xs → inR x) (hn : n ≤ 12) (hc : n ≤ c) (hP : OrdBox w P) (hne : P ≠ r) :
    Calls Try.prog 95 #[.slice (some ⟨r, 0, none⟩) n c, .int .i64 0, .int .i64 (n : Int), byFn P] w fun e w' => e = .returned (.tuple #[]) ∧ QRow w' base r n c (sortTo xs n) ∧ Keeps r w w' := by
  have hc80 : ∀ (args : Array Value) (w : World), (callFunc 80 args).run Try.prog w = .ok (.enter 80 args) w := enters_of Try.func80 (by kernel_rfl) rfl
  have hm := room_le h.own
  unfold maxLen at hm
  have hxl := h.len
  have HXL := Off.mk hxl
  have HR := Off.mk hR
  have H1 : Off (n ≤ 1 → sortTo xs n = xs) := ⟨fun e => by
    rcases n with _ | _ | n
    · rfl
    · rfl
    · omega⟩
  have HQ0 : Off (QRow w base r n c (sortTo xs 1)) := ⟨h⟩
  have HP := Off.mk hP
  clear h hR hP hxl
  go_enter Try.func95, Try.ntmps95
  go_wp2
  go_loopw [8] (fun iv wr => ∃ i : Nat, 1 ≤ i ∧ (i ≤ n ∨ i = 1) ∧ iv = .int .i64 i ∧ Off (QRow wr base r n c (sortTo xs i)) ∧ Off (Keeps r w wr)) (fun iv _ => n - (intOf iv).toNat)
  case atStart => exact ⟨1, by omega, .inr rfl, by go_num, HQ0, ⟨Keeps.refl _ _⟩⟩
  case round =>
    clear HQ0
    obtain ⟨i, hi1, hin, rfl, HQ, HK⟩ := hrel
    by_cases hlt : i < n
    · have hil : i < xs.length := by have := HXL.out; omega
      have HT : Off (sortTo xs (i + 1) = insTo i (sortTo xs i)) := ⟨rfl⟩
      have HA : Off (∀ x, x ∈ sortTo xs i → inR x) := ⟨sortTo_all xs HR.out i (by omega)⟩
      have HL : Off ((sortTo xs i).length = n) := ⟨by rw [sortTo_len]; exact HXL.out⟩
      obtain ⟨zs, hzs⟩ : ∃ zs, zs = sortTo xs i := ⟨_, rfl⟩
      rw [← hzs] at HQ HT HA HL
      clear hzs hil
      go_wp2
      go_loopw [9] (fun jv wr => ∃ (j : Nat) (ys : List (Int × Int)), j ≤ i ∧ jv = .int .i64 j ∧ Off (insTo i zs = insTo j ys) ∧ Off (ys.length = n) ∧ Off (∀ x, x ∈ ys → inR x) ∧ Off (QRow wr base r n c ys) ∧ Off (Keeps r w wr)) (fun jv _ => (intOf jv).toNat)
      case atStart => exact ⟨i, zs, by omega, rfl, ⟨rfl⟩, HL, HA, HQ, HK⟩
      case round =>
        clear HQ HK HA HL
        obtain ⟨j, ys, hji, rfl, HE, HL, HA, HQ, HK⟩ := hrel
        have HPw : Off (OrdBox wr P) := ⟨HK.out.cell HP.out hne⟩
        by_cases hj0 : j = 0
        · subst hj0
          have hg : decide ((0 : Int) < ((0 : Nat) : Int)) = false := rfl
          have HZ : Off (sortTo xs (i + 1) = ys) := ⟨by rw [HT.out, HE.out]; rfl⟩
          clear HT HE
          go_wp2
          refine wp_region_held_drew (S := (fun _ => True)) (by kernel_rfl) trivial (fun hHeld => ?_)
          refine wpAnyH_take (i := 0) (oi := ⟨some 18, _, _, _, _, _⟩) (v := ?_) rfl (by kernel_rfl) (by kernel_rfl) (by kernel_rfl) (fun _ _ _ h => h) (Or.inl ⟨by rfl, by intro w hSw; (try dsimp only at hSw); go_simp; try with_reducible rfl⟩) hHeld ?_
          try simp only [Act.put, List.setIfInBounds_toArray, List.set_cons_zero, List.set_cons_succ]
          refine wpAnyH_take (i := 1) (oi := ⟨some 19, _, _, _, _, _⟩) (v := ?_) rfl (by kernel_rfl) (by kernel_rfl) (by kernel_rfl) (fun _ _ _ h => h) (Or.inl ⟨by rfl, by intro w hSw; (try dsimp only at hSw); go_simp; try with_reducible rfl⟩) hHeld ?_
          try simp only [Act.put, List.setIfInBounds_toArray, List.set_cons_zero, List.set_cons_succ]
          refine wpAnyH_take (i := 2) (oi := ⟨some 20, _, _, _, _, _⟩) (v := ?_) rfl (by kernel_rfl) (by kernel_rfl) (by kernel_rfl) (fun _ _ _ h => h) (Or.inl ⟨by rfl, by intro w hSw; (try dsimp only at hSw); go_simp; try with_reducible rfl⟩) hHeld ?_
          try simp only [Act.put, List.setIfInBounds_toArray, List.set_cons_zero, List.set_cons_succ]
          refine wpAnyH_take (i := 3) (oi := ⟨some 21, _, _, _, _, _⟩) (v := ?_) rfl (by kernel_rfl) (by kernel_rfl) (by kernel_rfl) (fun _ _ _ h => h) (Or.inl ⟨by rfl, by intro w hSw; (try dsimp only at hSw); go_simp; try with_reducible rfl⟩) hHeld ?_
          try simp only [Act.put, List.setIfInBounds_toArray, List.set_cons_zero, List.set_cons_succ]
          refine wpAnyH_take (i := 4) (oi := ⟨some 22, _, _, _, _, _⟩) (v := undef) rfl (by kernel_rfl) (by kernel_rfl) (by kernel_rfl) (fun _ _ _ h => h) (Or.inr ⟨by rfl, rfl⟩) hHeld ?_
          try simp only [Act.put, List.setIfInBounds_toArray, List.set_cons_zero, List.set_cons_succ]
          refine wpAnyH_take (i := 5) (oi := ⟨some 23, _, _, _, _, _⟩) (v := undef) rfl (by kernel_rfl) (by kernel_rfl) (by kernel_rfl) (fun _ _ _ h => h) (Or.inr ⟨by rfl, rfl⟩) hHeld ?_
          try simp only [Act.put, List.setIfInBounds_toArray, List.set_cons_zero, List.set_cons_succ]
          refine wpAnyH_take (i := 6) (oi := ⟨some 24, _, _, _, _, _⟩) (v := undef) rfl (by kernel_rfl) (by kernel_rfl) (by kernel_rfl) (fun _ _ _ h => h) (Or.inr ⟨by rfl, rfl⟩) hHeld ?_
          try simp only [Act.put, List.setIfInBounds_toArray, List.set_cons_zero, List.set_cons_succ]
          refine wpAnyH_take (i := 7) (oi := ⟨some 25, _, _, _, _, _⟩) (v := undef) rfl (by kernel_rfl) (by kernel_rfl) (by kernel_rfl) (fun _ _ _ h => h) (Or.inr ⟨by rfl, rfl⟩) hHeld ?_
          try simp only [Act.put, List.setIfInBounds_toArray, List.set_cons_zero, List.set_cons_succ]
          refine wpAnyH_take (i := 8) (oi := ⟨some 26, _, _, _, _, _⟩) (v := undef) rfl (by kernel_rfl) (by kernel_rfl) (by kernel_rfl) (fun _ _ _ h => h) (Or.inr ⟨by rfl, rfl⟩) hHeld ?_
          try simp only [Act.put, List.setIfInBounds_toArray, List.set_cons_zero, List.set_cons_succ]
          refine wpAnyH_take (i := 9) (oi := ⟨some 27, _, _, _, _, _⟩) (v := undef) rfl (by kernel_rfl) (by kernel_rfl) (by kernel_rfl) (fun _ _ _ h => h) (Or.inr ⟨by rfl, rfl⟩) hHeld ?_
          try simp only [Act.put, List.setIfInBounds_toArray, List.set_cons_zero, List.set_cons_succ]
          refine wpAnyH_take (i := 10) (oi := ⟨some 28, _, _, _, _, _⟩) (v := undef) rfl (by kernel_rfl) (by kernel_rfl) (by kernel_rfl) (fun _ _ _ h => h) (Or.inr ⟨by rfl, rfl⟩) hHeld ?_
          try simp only [Act.put, List.setIfInBounds_toArray, List.set_cons_zero, List.set_cons_succ]
          refine wpAnyH_take (i := 11) (oi := ⟨some 29, _, _, _, _, _⟩) (v := undef) rfl (by kernel_rfl) (by kernel_rfl) (by kernel_rfl) (fun _ _ _ h => h) (Or.inr ⟨by rfl, rfl⟩) hHeld ?_
          try simp only [Act.put, List.setIfInBounds_toArray, List.set_cons_zero, List.set_cons_succ]
          refine wpAnyH_take (i := 12) (oi := ⟨some 30, _, _, _, _, _⟩) (v := undef) rfl (by kernel_rfl) (by kernel_rfl) (by kernel_rfl) (fun _ _ _ h => h) (Or.inr ⟨by rfl, rfl⟩) hHeld ?_
          try simp only [Act.put, List.setIfInBounds_toArray, List.set_cons_zero, List.set_cons_succ]
          refine wpAnyH_take (i := 13) (oi := ⟨some 31, _, _, _, _, _⟩) (v := undef) rfl (by kernel_rfl) (by kernel_rfl) (by kernel_rfl) (fun _ _ _ h => h) (Or.inr ⟨by rfl, rfl⟩) hHeld ?_
          try simp only [Act.put, List.setIfInBounds_toArray, List.set_cons_zero, List.set_cons_succ]
          refine wpAnyH_take (i := 14) (oi := ⟨some 32, _, _, _, _, _⟩) (v := undef) rfl (by kernel_rfl) (by kernel_rfl) (by kernel_rfl) (fun _ _ _ h => h) (Or.inr ⟨by rfl, rfl⟩) hHeld ?_
          try simp only [Act.put, List.setIfInBounds_toArray, List.set_cons_zero, List.set_cons_succ]
          refine wpAnyH_take (i := 15) (oi := ⟨some 33, _, _, _, _, _⟩) (v := undef) rfl (by kernel_rfl) (by kernel_rfl) (by kernel_rfl) (fun _ _ _ h => h) (Or.inr ⟨by rfl, rfl⟩) hHeld ?_
          try simp only [Act.put, List.setIfInBounds_toArray, List.set_cons_zero, List.set_cons_succ]
          refine wpAnyH_take (i := 16) (oi := ⟨some 34, _, _, _, _, _⟩) (v := ?_) rfl (by kernel_rfl) (by kernel_rfl) (by kernel_rfl) (fun _ _ _ h => h) (Or.inl ⟨by rfl, by intro w hSw; (try dsimp only at hSw); go_simp; try with_reducible rfl⟩) hHeld ?_
          try simp only [Act.put, List.setIfInBounds_toArray, List.set_cons_zero, List.set_cons_succ]
          refine wpAnyH_done (by kernel_rfl) ?_ _
          go_wp2
          go_roundw
          case rel => exact ⟨i + 1, by omega, .inl (by omega), by go_num, ⟨by rw [HZ.out]; exact ⟨HQ.out.len, HQ.out.own⟩⟩, ⟨HK.out.trans ⟨⟨rfl, rfl, rfl, Nat.le_refl _, fun _ _ _ => rfl⟩⟩⟩⟩
          case measure => simp only [intOf]; omega
        · obtain ⟨k, rfl⟩ : ∃ k, j = k + 1 := ⟨j - 1, by omega⟩
          have hkn : k + 1 < n := by omega
          obtain ⟨a0, a1⟩ := HQ.out.cells hkn
          obtain ⟨b0, b1⟩ := HQ.out.cells (i := k) (by omega)
          have hf0 := HQ.out.frozen ((k + 1) * 2)
          have hf1 := HQ.out.frozen ((k + 1) * 2 + 1)
          have hf2 := HQ.out.frozen (k * 2)
          have hf3 := HQ.out.frozen (k * 2 + 1)
          have hyl := HL.out
          have rx := HA.out _ (getD_mem (j := k + 1) (by omega))
          have ry := HA.out _ (getD_mem (j := k) (by omega))
          have HS : Off (insTo (k + 1) ys = if orderI (ys.getD (k + 1) (0, 0)) < orderI (ys.getD k (0, 0)) then insTo k (swapAt ys (k + 1)) else ys) := ⟨rfl⟩
          have HSA : Off (∀ x, x ∈ swapAt ys (k + 1) → inR x) := ⟨swapAt_all HA.out _ (by omega)⟩
          have HSL : Off ((swapAt ys (k + 1)).length = n) := ⟨by rw [swapAt_len]; exact hyl⟩
          obtain ⟨x, hx⟩ : ∃ x, x = ys.getD (k + 1) (0, 0) := ⟨_, rfl⟩
          obtain ⟨y, hy⟩ : ∃ y, y = ys.getD k (0, 0) := ⟨_, rfl⟩
          have HX := Off.mk hx
          have HY := Off.mk hy
          rw [← hx] at a0 a1 rx HS
          rw [← hy] at b0 b1 ry HS
          have CB := Off.mk (fun v hv W hW => by_any x y v hv rx ry P W hW)
          have hk1 : (0 : Int) ≤ (k : Int) := by omega
          have hk2 : (k : Int) + 1 < (n : Int) := by omega
          have hk3 : (k : Int) < (n : Int) := by omega
          have hk4 : (0 : Int) ≤ (k : Int) + 1 := by omega
          have hg : decide ((0 : Int) < ((k + 1 : Nat) : Int)) = true := by rw [decide_eq_true_iff]; omega
          have hg2 : decide ((0 : Int) < (k : Int) + 1) = true := by rw [decide_eq_true_iff]; omega
          have hw1 : IntKind.i64.wrap ((k : Int) + 1 - 1) = (k : Int) := by rw [IntKind.wrap_i64]; omega
          have hw2 : IntKind.i64.wrap (k : Int) = (k : Int) := by rw [IntKind.wrap_i64]; omega
          clear hx hy hyl rx ry hj0
          by_cases ho : orderI x < orderI y
          · obtain ⟨v, hv⟩ : ∃ v, cmpI (orderI x) (orderI y) = v := ⟨_, rfl⟩
            have hv0 : decide (v < 0) = true := by rw [← hv, cmpI_lt]; simpa using ho
            have HT' : Off (insTo (k + 1) ys = insTo k (swapAt ys (k + 1))) := ⟨by rw [HS.out, if_pos ho]⟩
            have CB' := Off.mk (fun W hW => CB.out v hv W hW)
            clear hv ho HS CB
            go_wp2
            refine wp_region_held_drew (S := (fun w' => (w'.cell? ⟨r, (k + 1) * 2, none⟩ = some (.int .i64 x.1) ∧ w'.cell? ⟨r, (k + 1) * 2 + 1, none⟩ = some (.int .i64 x.2)) ∧ (w'.cell? ⟨r, k * 2, none⟩ = some (.int .i64 y.1) ∧ w'.cell? ⟨r, k * 2 + 1, none⟩ = some (.int .i64 y.2)))) (by kernel_rfl) ⟨⟨a0, a1⟩, b0, b1⟩ (fun hHeld => ?_)
            refine wpAnyH_take (i := 0) (oi := ⟨some 18, _, _, _, _, _⟩) (v := ?_) rfl (by kernel_rfl) (by kernel_rfl) (by kernel_rfl) (fun _ _ _ h => h) (Or.inl ⟨by rfl, by intro w hSw; (try dsimp only at hSw); go_simp; try with_reducible rfl⟩) hHeld ?_
            try simp only [Act.put, List.setIfInBounds_toArray, List.set_cons_zero, List.set_cons_succ]
            refine wpAnyH_take (i := 1) (oi := ⟨some 19, _, _, _, _, _⟩) (v := ?_) rfl (by kernel_rfl) (by kernel_rfl) (by kernel_rfl) (fun _ _ _ h => h) (Or.inl ⟨by rfl, by intro w hSw; (try dsimp only at hSw); go_simp; try with_reducible rfl⟩) hHeld ?_
            try simp only [Act.put, List.setIfInBounds_toArray, List.set_cons_zero, List.set_cons_succ]
            refine wpAnyH_take (i := 2) (oi := ⟨some 20, _, _, _, _, _⟩) (v := ?_) rfl (by kernel_rfl) (by kernel_rfl) (by kernel_rfl) (fun _ _ _ h => h) (Or.inl ⟨by rfl, by intro w hSw; (try dsimp only at hSw); go_simp; try with_reducible rfl⟩) hHeld ?_
            try simp only [Act.put, List.setIfInBounds_toArray, List.set_cons_zero, List.set_cons_succ]
            refine wpAnyH_take (i := 3) (oi := ⟨some 21, _, _, _, _, _⟩) (v := ?_) rfl (by kernel_rfl) (by kernel_rfl) (by kernel_rfl) (fun _ _ _ h => h) (Or.inl ⟨by rfl, by intro w hSw; (try dsimp only at hSw); go_simp; try with_reducible rfl⟩) hHeld ?_
            try simp only [Act.put, List.setIfInBounds_toArray, List.set_cons_zero, List.set_cons_succ]
            refine wpAnyH_take (i := 4) (oi := ⟨some 22, _, _, _, _, _⟩) (v := ?_) rfl (by kernel_rfl) (by kernel_rfl) (by kernel_rfl) (fun _ _ _ h => h) (Or.inl ⟨by rfl, by intro w hSw; (try dsimp only at hSw); go_simp; try with_reducible rfl⟩) hHeld ?_
            try simp only [Act.put, List.setIfInBounds_toArray, List.set_cons_zero, List.set_cons_succ]
            refine wpAnyH_take (i := 5) (oi := ⟨some 23, _, _, _, _, _⟩) (v := ?_) rfl (by kernel_rfl) (by kernel_rfl) (by kernel_rfl) (fun _ _ _ h => h) (Or.inl ⟨by rfl, by intro w hSw; (try dsimp only at hSw); go_simp; try with_reducible rfl⟩) hHeld ?_
            try simp only [Act.put, List.setIfInBounds_toArray, List.set_cons_zero, List.set_cons_succ]
            refine wpAnyH_take (i := 6) (oi := ⟨some 24, _, _, _, _, _⟩) (v := ?_) rfl (by kernel_rfl) (by kernel_rfl) (by kernel_rfl) (fun _ _ _ h => h) (Or.inl ⟨by rfl, by intro w hSw; (try dsimp only at hSw); go_simp; try with_reducible rfl⟩) hHeld ?_
            try simp only [Act.put, List.setIfInBounds_toArray, List.set_cons_zero, List.set_cons_succ]
            refine wpAnyH_take (i := 7) (oi := ⟨some 25, _, _, _, _, _⟩) (v := ?_) rfl (by kernel_rfl) (by kernel_rfl) (by kernel_rfl) (fun _ _ _ h => h) (Or.inl ⟨by rfl, by intro w hSw; (try dsimp only at hSw); go_simp; try with_reducible rfl⟩) hHeld ?_
            try simp only [Act.put, List.setIfInBounds_toArray, List.set_cons_zero, List.set_cons_succ]
            refine wpAnyH_take (i := 8) (oi := ⟨some 26, _, _, _, _, _⟩) (v := ?_) rfl (by kernel_rfl) (by kernel_rfl) (by kernel_rfl) (fun _ _ _ h => h) (Or.inl ⟨by rfl, by intro w hSw; (try dsimp only at hSw); go_simp; try with_reducible rfl⟩) hHeld ?_
            try simp only [Act.put, List.setIfInBounds_toArray, List.set_cons_zero, List.set_cons_succ]
            refine wpAnyH_take (i := 9) (oi := ⟨some 27, _, _, _, _, _⟩) (v := ?_) rfl (by kernel_rfl) (by kernel_rfl) (by kernel_rfl) (fun _ _ _ h => h) (Or.inl ⟨by rfl, by intro w hSw; (try dsimp only at hSw); go_simp; try with_reducible rfl⟩) hHeld ?_
            try simp only [Act.put, List.setIfInBounds_toArray, List.set_cons_zero, List.set_cons_succ]
            refine wpAnyH_take (i := 10) (oi := ⟨some 28, _, _, _, _, _⟩) (v := ?_) rfl (by kernel_rfl) (by kernel_rfl) (by kernel_rfl) (fun _ _ _ h => h) (Or.inl ⟨by rfl, by intro w hSw; (try dsimp only at hSw); go_simp; try with_reducible rfl⟩) hHeld ?_
            try simp only [Act.put, List.setIfInBounds_toArray, List.set_cons_zero, List.set_cons_succ]
            refine wpAnyH_take (i := 11) (oi := ⟨some 29, _, _, _, _, _⟩) (v := ?_) rfl (by kernel_rfl) (by kernel_rfl) (by kernel_rfl) (fun _ _ _ h => h) (Or.inl ⟨by rfl, by intro w hSw; (try dsimp only at hSw); go_simp; try with_reducible rfl⟩) hHeld ?_
            try simp only [Act.put, List.setIfInBounds_toArray, List.set_cons_zero, List.set_cons_succ]
            refine wpAnyH_take (i := 12) (oi := ⟨some 30, _, _, _, _, _⟩) (v := ?_) rfl (by kernel_rfl) (by kernel_rfl) (by kernel_rfl) (fun _ _ _ h => h) (Or.inl ⟨by rfl, by intro w hSw; (try dsimp only at hSw); go_simp; try with_reducible rfl⟩) hHeld ?_
            try simp only [Act.put, List.setIfInBounds_toArray, List.set_cons_zero, List.set_cons_succ]
            refine wpAnyH_take (i := 13) (oi := ⟨some 31, _, _, _, _, _⟩) (v := ?_) rfl (by kernel_rfl) (by kernel_rfl) (by kernel_rfl) (fun _ _ _ h => h) (Or.inl ⟨by rfl, by intro w hSw; (try dsimp only at hSw); go_simp; try with_reducible rfl⟩) hHeld ?_
            try simp only [Act.put, List.setIfInBounds_toArray, List.set_cons_zero, List.set_cons_succ]
            refine wpAnyH_ready (rs := [14]) (by kernel_rfl) (by simp) ?_
            refine AllReadyH.cons (o := ⟨some 32, _, _, _, _, _⟩) rfl (fun K hK => ?_) AllReadyH.nil
            go_simp
            go_at_fn 80
            refine (CB'.out wr.drew HPw.out).mono ?_
            rintro e w2 ⟨rfl, hb2⟩
            have HQ2 := Off.mk (QRow.below (w := wr.drew) (show QRow wr.drew base r n c ys from ⟨HQ.out.len, HQ.out.own⟩) hb2)
            have HB2 : Off (Keeps r wr w2) := ⟨⟨⟨hb2.os, hb2.tape, hb2.output, hb2.size, fun i hi _ => hb2.block i hi⟩⟩⟩
            go_wp2_with fail
            refine hK.out _ _ ⟨⟨cellB hb2 hHeld.1.1, cellB hb2 hHeld.1.2⟩, cellB hb2 hHeld.2.1, cellB hb2 hHeld.2.2⟩ (fun hHeld => ?_)
            clear hK K
            try simp only [Act.put, List.setIfInBounds_toArray, List.set_cons_zero, List.set_cons_succ]
            refine wpAnyH_take (i := 15) (oi := ⟨some 33, _, _, _, _, _⟩) (v := ?_) rfl (by kernel_rfl) (by kernel_rfl) (by kernel_rfl) (fun _ _ _ h => h) (Or.inl ⟨by rfl, by intro w hSw; (try dsimp only at hSw); go_simp; try with_reducible rfl⟩) hHeld ?_
            try simp only [Act.put, List.setIfInBounds_toArray, List.set_cons_zero, List.set_cons_succ]
            refine wpAnyH_take (i := 16) (oi := ⟨some 34, _, _, _, _, _⟩) (v := ?_) rfl (by kernel_rfl) (by kernel_rfl) (by kernel_rfl) (fun _ _ _ h => h) (Or.inl ⟨by rfl, by intro w hSw; (try dsimp only at hSw); go_simp; try with_reducible rfl⟩) hHeld ?_
            try simp only [Act.put, List.setIfInBounds_toArray, List.set_cons_zero, List.set_cons_succ]
            refine wpAnyH_done (by kernel_rfl) ?_ _
            clear hHeld hf0 hf1 hf2 hf3 a0 a1 b0 b1
            obtain ⟨a0, a1⟩ := HQ2.out.cells hkn
            obtain ⟨b0, b1⟩ := HQ2.out.cells (i := k) (by omega)
            rw [← HX.out] at a0 a1
            rw [← HY.out] at b0 b1
            have hf0 := HQ2.out.frozen ((k + 1) * 2)
            have hf1 := HQ2.out.frozen ((k + 1) * 2 + 1)
            have hf2 := HQ2.out.frozen (k * 2)
            have hf3 := HQ2.out.frozen (k * 2 + 1)
            go_wp2
            go_region
            have HSW := Off.mk (swap_cells HQ2.out hkn x y HX.out HY.out)
            clear hf0 hf1 hf2 hf3 a0 a1 b0 b1
            go_wp2
            go_roundw
            case rel => exact ⟨k, swapAt ys (k + 1), by omega, by go_num, ⟨by rw [HE.out, HT'.out]⟩, HSL, HSA, ⟨⟨HSW.out.1.len, HSW.out.1.own⟩⟩, ⟨HK.out.trans (HB2.out.trans (HSW.out.2.trans ⟨⟨rfl, rfl, rfl, Nat.le_refl _, fun _ _ _ => rfl⟩⟩))⟩⟩
            case measure => simp only [intOf]; omega
          · obtain ⟨v, hv⟩ : ∃ v, cmpI (orderI x) (orderI y) = v := ⟨_, rfl⟩
            have hv0 : decide (v < 0) = false := by rw [← hv, cmpI_lt]; simpa using ho
            have HT' : Off (sortTo xs (i + 1) = ys) := ⟨by rw [HT.out, HE.out, HS.out, if_neg ho]⟩
            have CB' := Off.mk (fun W hW => CB.out v hv W hW)
            clear hv ho HS CB
            go_wp2
            refine wp_region_held_drew (S := (fun w' => (w'.cell? ⟨r, (k + 1) * 2, none⟩ = some (.int .i64 x.1) ∧ w'.cell? ⟨r, (k + 1) * 2 + 1, none⟩ = some (.int .i64 x.2)) ∧ (w'.cell? ⟨r, k * 2, none⟩ = some (.int .i64 y.1) ∧ w'.cell? ⟨r, k * 2 + 1, none⟩ = some (.int .i64 y.2)))) (by kernel_rfl) ⟨⟨a0, a1⟩, b0, b1⟩ (fun hHeld => ?_)
            refine wpAnyH_take (i := 0) (oi := ⟨some 18, _, _, _, _, _⟩) (v := ?_) rfl (by kernel_rfl) (by kernel_rfl) (by kernel_rfl) (fun _ _ _ h => h) (Or.inl ⟨by rfl, by intro w hSw; (try dsimp only at hSw); go_simp; try with_reducible rfl⟩) hHeld ?_
            try simp only [Act.put, List.setIfInBounds_toArray, List.set_cons_zero, List.set_cons_succ]
            refine wpAnyH_take (i := 1) (oi := ⟨some 19, _, _, _, _, _⟩) (v := ?_) rfl (by kernel_rfl) (by kernel_rfl) (by kernel_rfl) (fun _ _ _ h => h) (Or.inl ⟨by rfl, by intro w hSw; (try dsimp only at hSw); go_simp; try with_reducible rfl⟩) hHeld ?_
            try simp only [Act.put, List.setIfInBounds_toArray, List.set_cons_zero, List.set_cons_succ]
            refine wpAnyH_take (i := 2) (oi := ⟨some 20, _, _, _, _, _⟩) (v := ?_) rfl (by kernel_rfl) (by kernel_rfl) (by kernel_rfl) (fun _ _ _ h => h) (Or.inl ⟨by rfl, by intro w hSw; (try dsimp only at hSw); go_simp; try with_reducible rfl⟩) hHeld ?_
            try simp only [Act.put, List.setIfInBounds_toArray, List.set_cons_zero, List.set_cons_succ]
            refine wpAnyH_take (i := 3) (oi := ⟨some 21, _, _, _, _, _⟩) (v := ?_) rfl (by kernel_rfl) (by kernel_rfl) (by kernel_rfl) (fun _ _ _ h => h) (Or.inl ⟨by rfl, by intro w hSw; (try dsimp only at hSw); go_simp; try with_reducible rfl⟩) hHeld ?_
            try simp only [Act.put, List.setIfInBounds_toArray, List.set_cons_zero, List.set_cons_succ]
            refine wpAnyH_take (i := 4) (oi := ⟨some 22, _, _, _, _, _⟩) (v := ?_) rfl (by kernel_rfl) (by kernel_rfl) (by kernel_rfl) (fun _ _ _ h => h) (Or.inl ⟨by rfl, by intro w hSw; (try dsimp only at hSw); go_simp; try with_reducible rfl⟩) hHeld ?_
            try simp only [Act.put, List.setIfInBounds_toArray, List.set_cons_zero, List.set_cons_succ]
            refine wpAnyH_take (i := 5) (oi := ⟨some 23, _, _, _, _, _⟩) (v := ?_) rfl (by kernel_rfl) (by kernel_rfl) (by kernel_rfl) (fun _ _ _ h => h) (Or.inl ⟨by rfl, by intro w hSw; (try dsimp only at hSw); go_simp; try with_reducible rfl⟩) hHeld ?_
            try simp only [Act.put, List.setIfInBounds_toArray, List.set_cons_zero, List.set_cons_succ]
            refine wpAnyH_take (i := 6) (oi := ⟨some 24, _, _, _, _, _⟩) (v := ?_) rfl (by kernel_rfl) (by kernel_rfl) (by kernel_rfl) (fun _ _ _ h => h) (Or.inl ⟨by rfl, by intro w hSw; (try dsimp only at hSw); go_simp; try with_reducible rfl⟩) hHeld ?_
            try simp only [Act.put, List.setIfInBounds_toArray, List.set_cons_zero, List.set_cons_succ]
            refine wpAnyH_take (i := 7) (oi := ⟨some 25, _, _, _, _, _⟩) (v := ?_) rfl (by kernel_rfl) (by kernel_rfl) (by kernel_rfl) (fun _ _ _ h => h) (Or.inl ⟨by rfl, by intro w hSw; (try dsimp only at hSw); go_simp; try with_reducible rfl⟩) hHeld ?_
            try simp only [Act.put, List.setIfInBounds_toArray, List.set_cons_zero, List.set_cons_succ]
            refine wpAnyH_take (i := 8) (oi := ⟨some 26, _, _, _, _, _⟩) (v := ?_) rfl (by kernel_rfl) (by kernel_rfl) (by kernel_rfl) (fun _ _ _ h => h) (Or.inl ⟨by rfl, by intro w hSw; (try dsimp only at hSw); go_simp; try with_reducible rfl⟩) hHeld ?_
            try simp only [Act.put, List.setIfInBounds_toArray, List.set_cons_zero, List.set_cons_succ]
            refine wpAnyH_take (i := 9) (oi := ⟨some 27, _, _, _, _, _⟩) (v := ?_) rfl (by kernel_rfl) (by kernel_rfl) (by kernel_rfl) (fun _ _ _ h => h) (Or.inl ⟨by rfl, by intro w hSw; (try dsimp only at hSw); go_simp; try with_reducible rfl⟩) hHeld ?_
            try simp only [Act.put, List.setIfInBounds_toArray, List.set_cons_zero, List.set_cons_succ]
            refine wpAnyH_take (i := 10) (oi := ⟨some 28, _, _, _, _, _⟩) (v := ?_) rfl (by kernel_rfl) (by kernel_rfl) (by kernel_rfl) (fun _ _ _ h => h) (Or.inl ⟨by rfl, by intro w hSw; (try dsimp only at hSw); go_simp; try with_reducible rfl⟩) hHeld ?_
            try simp only [Act.put, List.setIfInBounds_toArray, List.set_cons_zero, List.set_cons_succ]
            refine wpAnyH_take (i := 11) (oi := ⟨some 29, _, _, _, _, _⟩) (v := ?_) rfl (by kernel_rfl) (by kernel_rfl) (by kernel_rfl) (fun _ _ _ h => h) (Or.inl ⟨by rfl, by intro w hSw; (try dsimp only at hSw); go_simp; try with_reducible rfl⟩) hHeld ?_
            try simp only [Act.put, List.setIfInBounds_toArray, List.set_cons_zero, List.set_cons_succ]
            refine wpAnyH_take (i := 12) (oi := ⟨some 30, _, _, _, _, _⟩) (v := ?_) rfl (by kernel_rfl) (by kernel_rfl) (by kernel_rfl) (fun _ _ _ h => h) (Or.inl ⟨by rfl, by intro w hSw; (try dsimp only at hSw); go_simp; try with_reducible rfl⟩) hHeld ?_
            try simp only [Act.put, List.setIfInBounds_toArray, List.set_cons_zero, List.set_cons_succ]
            refine wpAnyH_take (i := 13) (oi := ⟨some 31, _, _, _, _, _⟩) (v := ?_) rfl (by kernel_rfl) (by kernel_rfl) (by kernel_rfl) (fun _ _ _ h => h) (Or.inl ⟨by rfl, by intro w hSw; (try dsimp only at hSw); go_simp; try with_reducible rfl⟩) hHeld ?_
            try simp only [Act.put, List.setIfInBounds_toArray, List.set_cons_zero, List.set_cons_succ]
            refine wpAnyH_ready (rs := [14]) (by kernel_rfl) (by simp) ?_
            refine AllReadyH.cons (o := ⟨some 32, _, _, _, _, _⟩) rfl (fun K hK => ?_) AllReadyH.nil
            go_simp
            go_at_fn 80
            refine (CB'.out wr.drew HPw.out).mono ?_
            rintro e w2 ⟨rfl, hb2⟩
            have HQ2 := Off.mk (QRow.below (w := wr.drew) (show QRow wr.drew base r n c ys from ⟨HQ.out.len, HQ.out.own⟩) hb2)
            have HB2 : Off (Keeps r wr w2) := ⟨⟨⟨hb2.os, hb2.tape, hb2.output, hb2.size, fun i hi _ => hb2.block i hi⟩⟩⟩
            go_wp2_with fail
            refine hK.out _ _ ⟨⟨cellB hb2 hHeld.1.1, cellB hb2 hHeld.1.2⟩, cellB hb2 hHeld.2.1, cellB hb2 hHeld.2.2⟩ (fun hHeld => ?_)
            clear hK K
            try simp only [Act.put, List.setIfInBounds_toArray, List.set_cons_zero, List.set_cons_succ]
            refine wpAnyH_take (i := 15) (oi := ⟨some 33, _, _, _, _, _⟩) (v := ?_) rfl (by kernel_rfl) (by kernel_rfl) (by kernel_rfl) (fun _ _ _ h => h) (Or.inl ⟨by rfl, by intro w hSw; (try dsimp only at hSw); go_simp; try with_reducible rfl⟩) hHeld ?_
            try simp only [Act.put, List.setIfInBounds_toArray, List.set_cons_zero, List.set_cons_succ]
            refine wpAnyH_take (i := 16) (oi := ⟨some 34, _, _, _, _, _⟩) (v := ?_) rfl (by kernel_rfl) (by kernel_rfl) (by kernel_rfl) (fun _ _ _ h => h) (Or.inl ⟨by rfl, by intro w hSw; (try dsimp only at hSw); go_simp; try with_reducible rfl⟩) hHeld ?_
            try simp only [Act.put, List.setIfInBounds_toArray, List.set_cons_zero, List.set_cons_succ]
            refine wpAnyH_done (by kernel_rfl) ?_ _
            go_wp2
            go_roundw
            case rel => exact ⟨i + 1, by omega, .inl (by omega), by go_num, ⟨by rw [HT'.out]; exact HQ2.out⟩, ⟨HK.out.trans HB2.out⟩⟩
            case measure => simp only [intOf]; omega
    · have HE : Off (sortTo xs i = sortTo xs n) := ⟨by
        by_cases e : i = n
        · rw [e]
        · have e1 : i = 1 := by omega
          rw [H1.out (by omega), e1]; rfl⟩
      go_wp2
      go_end0
      exact ⟨rfl, by rw [← HE.out]; exact HQ.out, HK.out⟩
end Go.Proofs.Ytddcdopimpfhcaa
