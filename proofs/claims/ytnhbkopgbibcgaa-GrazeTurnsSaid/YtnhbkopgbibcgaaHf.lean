/- Contracts: the specification's Turn, Turns. -/
import Derived.Test.YtnhbkopgbibcgaaHc
namespace Go.Proofs.Ytnhbkopgbibcgaa
open Go.RowKit Go.Shelf

theorem out_yes {a b : Int} {xs : List (Int × Int)} {k : Nat} (hk : k < xs.length) (h : hasB a b (xs.getD k (0, 0)).1 (xs.getD k (0, 0)).2 = false) : outB a b xs = true := by
  unfold outB
  rw [List.any_eq_true]
  refine ⟨xs[k], List.getElem_mem hk, ?_⟩
  rw [List.getD_eq_getElem?_getD, List.getElem?_eq_getElem hk] at h
  have h' : hasB a b xs[k].1 xs[k].2 = false := h
  rw [h']; rfl
theorem has_all {a b : Int} {xs : List (Int × Int)} (h : ∀ j, j < xs.length → hasB a b (xs.getD j (0, 0)).1 (xs.getD j (0, 0)).2 = true) : outB a b xs = false := by
  unfold outB
  rw [List.any_eq_false]
  intro x hx
  obtain ⟨j, hj, rfl⟩ := List.mem_iff_getElem.1 hx
  have := h j hj
  rw [List.getD_eq_getElem?_getD, List.getElem?_eq_getElem hj] at this
  simpa using this
theorem turnsTo_state' {a b : Int} {xs : List (Int × Int)} {l : List Int} (h : stateB a b l = true) (k : Nat) (ho : ∀ j, j < k → hasB a b (xs.getD j (0, 0)).1 (xs.getD j (0, 0)).2 = true) : stateB a b (turnsTo xs l k) = true := by
  induction k with
  | zero => exact h
  | succ k ih =>
    have hh := of_decide_eq_true (ho k (by omega))
    have hl := (of_decide_eq_true h).1
    exact turnS_state (ih (fun j hj => ho j (by omega))) _ _ (by rw [turnsTo_length]; omega) hh.2.1 hh.2.2

set_option maxHeartbeats 4000000 in
set_option maxRecDepth 100000 in
theorem rTurns_any (a b : Int) (l : List Int) (A : Option Addr) (c : Nat) (xs : List (Int × Int)) (Ax : Option Addr) (cx : Nat) (w : World) (hl : IntsAt w A l) (hlc : l.length ≤ c) (hA : A = none → c = 0) (hx : PairsI w Ax xs) :
    Calls Try.prog 34 #[.int .i64 a, .int .i64 b, .slice A l.length c, .slice Ax xs.length cx] w fun e w' => TurnsPost a b l xs w e w' := by
  have hxl := hx.len
  have HX := Off.mk hx
  clear hx
  cases hk : askedB a b l
  · have CA := Off.mk (asked_any a b l A c false hk w hl)
    have HE : Off (turnsErr a b l xs = 2) := ⟨by unfold turnsErr; rw [hk]; rfl⟩
    clear hk
    go_enter Try.func34, Try.ntmps34
    go_wp2_with (go_at_call 58; refine CA.out.mono ?_; rintro e w1 ⟨rfl, hb⟩; simp only [askedErr])
    go_ret2
    exact ⟨_, by rw [HE.out]; rfl, by rw [HE.out]; exact ⟨World.ownsRow_nil _ _ _ _⟩, hb⟩
  · have CA := Off.mk (asked_any a b l A c true hk w hl)
    obtain ⟨n, m, rfl, rfl, hn, hn1, hn6, hm1, hm6, hs⟩ := asked_nat hk
    by_cases h200 : 200 < xs.length
    · have HE : Off (turnsErr n m l xs = 3) := ⟨by unfold turnsErr; rw [hk, if_pos rfl, if_pos h200]⟩
      clear hk hs hn
      go_enter Try.func34, Try.ntmps34
      go_wp2_with (go_at_call 58; refine CA.out.mono ?_; rintro e w1 ⟨rfl, hb⟩; simp only [askedErr])
      go_ret2
      exact ⟨_, by rw [HE.out]; rfl, by rw [HE.out]; exact ⟨World.ownsRow_nil _ _ _ _⟩, hb⟩
    · have HE2 : Off (outB n m xs = true → turnsErr n m l xs = 2) := ⟨fun ho => by unfold turnsErr; rw [hk, if_pos rfl, if_neg h200, ho]; rfl⟩
      have HE0 : Off (outB n m xs = false → turnsErr n m l xs = 0) := ⟨fun ho => by unfold turnsErr; rw [hk, if_pos rfl, if_neg h200, ho]; rfl⟩
      have HS := Off.mk hs
      have HL : Off (∀ k, (turnsTo xs l k).length = n) := ⟨fun k => by rw [turnsTo_length]; exact hn⟩
      have hll : l.length ≤ 60 := by omega
      clear hk hs hn
      go_enter Try.func34, Try.ntmps34
      go_wp2_with fail
      refine CA.out.mono ?_
      rintro e w1 ⟨rfl, hb⟩
      simp only [askedErr]
      have hl1 := hl.below hb
      go_wp2_with (at_builtin; refine wpList_copy rfl _ _ rfl A l c hl1 hlc hll hA rfl rfl ?_)
      intro v1 w2 hO1 B1
      have hO0 : Own w2 w.heap.size v1 (turnsTo xs l 0) := own_mono hO1 hb.size
      have hb2 := belowC hb B1
      clear hO1 B1 hb hl1 hl CA
      go_wp2
      go_loopw [11, 12] (fun v iv wr => ∃ k : Nat, k ≤ xs.length ∧ iv = .int .i64 k ∧ Own wr w.heap.size v (turnsTo xs l k) ∧ Below w.heap.size w wr ∧ Off (∀ j, j < k → hasB n m (xs.getD j (0, 0)).1 (xs.getD j (0, 0)).2 = true)) (fun _ iv _ => xs.length - (intOf iv).toNat)
      case atStart => exact ⟨0, by omega, rfl, hO0, hb2, ⟨fun j hj => by omega⟩⟩
      case round =>
        clear hO0 hb2
        obtain ⟨k, hk, rfl, hO, hB, hno⟩ := hrel
        obtain ⟨wo, rfl⟩ : ∃ wo : World, wo = wr := ⟨_, rfl⟩
        have hsz := hB.size
        by_cases hkl : k < xs.length
        · have hki : (k : Int) < (xs.length : Int) := by omega
          have hk0 : (0 : Int) ≤ (k : Int) := by omega
          obtain ⟨ad, rfl, cA, cB⟩ := (HX.out.below hB).cell k hkl
          have HU : Off (turnsTo xs l (k + 1) = turnS (turnsTo xs l k) (xs.getD k (0, 0)).1.toNat (xs.getD k (0, 0)).2) := ⟨rfl⟩
          have hst := turnsTo_state' HS.out k hno.out
          have hlm := HL.out k
          have HO : Off (hasB n m (xs.getD k (0, 0)).1 (xs.getD k (0, 0)).2 = false → outB n m xs = true) := ⟨fun h => out_yes hkl h⟩
          have HN : Off (hasB n m (xs.getD k (0, 0)).1 (xs.getD k (0, 0)).2 = true → ∀ j, j < k + 1 → hasB n m (xs.getD j (0, 0)).1 (xs.getD j (0, 0)).2 = true) := ⟨fun h j hj => by
            by_cases e : j = k
            · subst e; exact h
            · exact hno.out j (by omega)⟩
          obtain ⟨x, hx⟩ : ∃ x, x = (xs.getD k (0, 0)).1 := ⟨_, rfl⟩
          obtain ⟨y, hy⟩ : ∃ y, y = (xs.getD k (0, 0)).2 := ⟨_, rfl⟩
          rw [← hx] at cA HU
          rw [← hy] at cB HU
          rw [← hx, ← hy] at HO HN
          clear hx hy
          cases hh : hasB n m x y
          · have HER := Off.mk (HE2.out (HO.out hh))
            have hd : x < 0 ∨ (0 ≤ x ∧ n ≤ x) ∨ ((0 ≤ x ∧ x < n) ∧ y < 0) ∨ ((0 ≤ x ∧ x < n) ∧ 0 ≤ y ∧ m ≤ y) := by
              have := of_decide_eq_false hh
              omega
            clear hst hlm hh HO HN
            rcases hd with h | ⟨h, h1⟩ | ⟨⟨h, h1⟩, h2⟩ | ⟨⟨h, h1⟩, h2, h3⟩
            all_goals
              go_wp2
              go_ret2
              exact ⟨_, by rw [HER.out]; rfl, by rw [HER.out]; exact ⟨World.ownsRow_nil _ _ _ _⟩, hB⟩
          · have HNN := Off.mk (HN.out hh)
            obtain ⟨⟨g1, g2⟩, g3, g4⟩ := of_decide_eq_true hh
            obtain ⟨i, rfl⟩ : ∃ i : Nat, x = i := ⟨x.toNat, by omega⟩
            rw [Int.toNat_natCast] at HU
            have CT : Off (∀ v W, Own W w.heap.size v (turnsTo xs l k) → Calls Try.prog 66 #[v, .int .i64 (i : Int), .int .i64 y] W fun e w' => ∃ v', e = .returned v' ∧ Own w' W.heap.size v' (turnS (turnsTo xs l k) i y) ∧ Below W.heap.size W w') := ⟨fun v W hW => by
              have hr := state_range hst (show i < (turnsTo xs l k).length by omega)
              obtain ⟨A, c, rfl, hI, hc⟩ := own_ints hW (by omega)
              exact rturn_any (turnsTo xs l k) A c i y W hI hc (by omega) g3 (by omega) (by omega) (by omega)⟩
            clear hst hlm hh HO HN
            go_wp2_with fail
            refine wp_region_still_tail 11 (by kernel_rfl) (by kernel_rfl) ?_
            simp only [List.take_succ_cons, List.take_zero, List.drop_succ_cons, List.drop_zero]
            repeat still_step
            refine wpStill_nil ?_
            change wpList _ _ _ _ _ wo.drew
            have hOd : Own wo.drew w.heap.size u11 (turnsTo xs l k) := own_below hO (Below.refl _ _).drew
            have hBd : Below w.heap.size w wo.drew := hB.drew
            have hszd : w.heap.size ≤ wo.drew.heap.size := hsz
            obtain ⟨wd, hwd⟩ : ∃ wd, wd = wo.drew := ⟨_, rfl⟩
            rw [← hwd] at hOd hBd hszd ⊢
            clear hwd hO
            go_wp2_with fail
            refine (CT.out _ _ hOd).mono ?_
            rintro e w3 ⟨v3, rfl, hO3, hb3⟩
            go_wp2
            go_roundw
            case rel => exact ⟨k + 1, by omega, by go_num, by rw [HU.out]; exact own_mono hO3 hszd, belowC hBd hb3, HNN⟩
            case measure => simp only [intOf]; omega
        · obtain rfl : k = xs.length := by omega
          have HER := Off.mk (HE0.out (has_all hno.out))
          have HF : Off (turnsP xs l = turnsTo xs l xs.length) := ⟨rfl⟩
          go_wp2
          go_ret2
          exact ⟨_, by rw [HER.out]; rfl, by rw [HER.out, if_pos rfl, HF.out]; exact hO, hB⟩

theorem turnsErr_one (a b : Int) (l : List Int) (i j : Int) : turnsErr a b l [(i, j)] = if askedB a b l && hasB a b i j then 0 else 2 := by
  unfold turnsErr outB
  cases askedB a b l
  · rfl
  · cases h : hasB a b i j <;> simp [h]
set_option maxHeartbeats 2000000 in
theorem rTurn_any (a b : Int) (l : List Int) (A : Option Addr) (c : Nat) (i j : Int) (w : World) (hl : IntsAt w A l) (hlc : l.length ≤ c) :
    Calls Try.prog 33 #[.int .i64 a, .int .i64 b, .slice A l.length c, .int .i64 i, .int .i64 j] w fun e w' => TurnsPost a b l [(i, j)] w e w' := by
  have HQ := Off.mk (turnsErr_one a b l i j)
  cases hk : askedB a b l
  · have CA := Off.mk (asked_any a b l A c false hk w hl)
    have HE : Off (turnsErr a b l [(i, j)] = 2) := ⟨by rw [HQ.out, hk]; rfl⟩
    clear hk
    go_enter Try.func33, Try.ntmps33
    go_wp2_with (go_at_call 58; refine CA.out.mono ?_; rintro e w1 ⟨rfl, hb⟩; simp only [askedErr])
    go_ret2
    exact ⟨_, by rw [HE.out]; rfl, by rw [HE.out]; exact ⟨World.ownsRow_nil _ _ _ _⟩, hb⟩
  · have CA := Off.mk (asked_any a b l A c true hk w hl)
    obtain ⟨n, m, rfl, rfl, hn, hn1, hn6, hm1, hm6, hs⟩ := asked_nat hk
    cases hh : hasB n m i j
    · have HE : Off (turnsErr n m l [(i, j)] = 2) := ⟨by rw [HQ.out, hk, hh]; rfl⟩
      have hd : i < 0 ∨ (0 ≤ i ∧ n ≤ i) ∨ ((0 ≤ i ∧ i < n) ∧ j < 0) ∨ ((0 ≤ i ∧ i < n) ∧ 0 ≤ j ∧ m ≤ j) := by
        have := of_decide_eq_false hh
        omega
      clear hk hs hn hh
      rcases hd with h | ⟨h, h1⟩ | ⟨⟨h, h1⟩, h2⟩ | ⟨⟨h, h1⟩, h2, h3⟩
      all_goals
        go_enter Try.func33, Try.ntmps33
        go_wp2_with (go_at_call 58; refine CA.out.mono ?_; rintro e w1 ⟨rfl, hb⟩; simp only [askedErr])
        go_ret2
        exact ⟨_, by rw [HE.out]; rfl, by rw [HE.out]; exact ⟨World.ownsRow_nil _ _ _ _⟩, hb⟩
    · have HE : Off (turnsErr n m l [(i, j)] = 0) := ⟨by rw [HQ.out, hk, hh]; rfl⟩
      obtain ⟨⟨g1, g2⟩, g3, g4⟩ := of_decide_eq_true hh
      obtain ⟨i, rfl⟩ : ∃ k : Nat, i = k := ⟨i.toNat, by omega⟩
      have HF : Off (turnsP [((i : Int), j)] l = turnS l i j) := ⟨rfl⟩
      have CT : Off (∀ W, Below w.heap.size w W → Calls Try.prog 66 #[.slice A l.length c, .int .i64 (i : Int), .int .i64 j] W fun e w' => ∃ v', e = .returned v' ∧ Own w' W.heap.size v' (turnS l i j) ∧ Below W.heap.size W w') := ⟨fun W hW => by
        have hr := state_range hs (show i < l.length by omega)
        exact rturn_any l A c i j W (hl.below hW) hlc (by omega) g3 (by omega) (by omega) (by omega)⟩
      clear hk hs hn hh
      go_enter Try.func33, Try.ntmps33
      go_wp2_with (first
        | (go_at_call 58; refine CA.out.mono ?_; rintro e w1 ⟨rfl, hb⟩; simp only [askedErr])
        | (go_at_call 66; refine (CT.out _ hb).mono ?_; rintro e w2 ⟨v, rfl, hO, hb2⟩; have hsz := hb.size))
      go_ret2
      exact ⟨_, by rw [HE.out]; rfl, by rw [HE.out, if_pos rfl, HF.out]; exact own_mono hO hsz, belowC hb hb2⟩
end Go.Proofs.Ytnhbkopgbibcgaa
