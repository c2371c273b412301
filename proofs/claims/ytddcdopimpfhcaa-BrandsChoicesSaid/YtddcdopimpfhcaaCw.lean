/- Contracts: the specification's Choices. -/
import Derived.Test.YtddcdopimpfhcaaCv
namespace Go.Proofs.Ytddcdopimpfhcaa
open Go.RowKit Go.Shelf

set_option maxHeartbeats 1000000 in
theorem rchoices_arg (n : Int) (l : List (Int × Int)) (A : Option Addr) (c : Nat) (i k : Int) (h : ¬ (rbrandB n l = true ∧ (0 ≤ i ∧ i < n) ∧ (0 ≤ k ∧ k < n) ∧ i ≠ k)) (w : World) (hx : PairsI w A l) :
    Calls Try.prog 19 #[.int .i64 n, .slice A l.length c, .int .i64 i, .int .i64 k] w fun e w' => e = .returned (.tuple #[.int .i64 0, .int .i64 2]) ∧ Below w.heap.size w w' := by
  have CB := Off.mk (fun v hv => rbrand_any n l A c v hv w hx)
  by_cases hb : rbrandB n l = true
  · have CB' := Off.mk (CB.out _ hb)
    clear CB hx
    by_cases h0 : i < 0
    · clear h hb
      go_enter Try.func19, Try.ntmps19
      go_wp2_with (go_at_call 25; refine CB'.out.mono ?_; rintro e w1 ⟨rfl, hb1⟩)
      go_ret2
      exact ⟨rfl, hb1⟩
    · skip
      by_cases h1 : n ≤ i
      · clear h hb
        go_enter Try.func19, Try.ntmps19
        go_wp2_with (go_at_call 25; refine CB'.out.mono ?_; rintro e w1 ⟨rfl, hb1⟩)
        go_ret2
        exact ⟨rfl, hb1⟩
      · skip
        by_cases h2 : k < 0
        · clear h hb
          go_enter Try.func19, Try.ntmps19
          go_wp2_with (go_at_call 25; refine CB'.out.mono ?_; rintro e w1 ⟨rfl, hb1⟩)
          go_ret2
          exact ⟨rfl, hb1⟩
        · skip
          by_cases h3 : n ≤ k
          · clear h hb
            go_enter Try.func19, Try.ntmps19
            go_wp2_with (go_at_call 25; refine CB'.out.mono ?_; rintro e w1 ⟨rfl, hb1⟩)
            go_ret2
            exact ⟨rfl, hb1⟩
          · skip
            have hik : i = k := by
              by_cases e : i = k
              · exact e
              · exact (h ⟨hb, by omega, by omega, e⟩).elim
            subst hik
            clear h hb
            go_enter Try.func19, Try.ntmps19
            go_wp2_with (go_at_call 25; refine CB'.out.mono ?_; rintro e w1 ⟨rfl, hb1⟩)
            go_ret2
            exact ⟨rfl, hb1⟩
  · have CB' := Off.mk (CB.out _ (by simpa using hb))
    clear CB hx h hb
    go_enter Try.func19, Try.ntmps19
    go_wp2_with (go_at_call 25; refine CB'.out.mono ?_; rintro e w1 ⟨rfl, hb1⟩)
    go_ret2
    exact ⟨rfl, hb1⟩
set_option linter.unusedSimpArgs false in
set_option maxHeartbeats 4000000 in
set_option maxRecDepth 100000 in
theorem rchoices_yes (n : Nat) (l : List (Int × Int)) (A : Option Addr) (c i k : Nat) (hv : brandB n l = true) (hi : i < n) (hk : k < n) (hik : i ≠ k) (hts : (trisOf (jn n l) n).length ≤ 10) (w : World) (hx : PairsI w A l) :
    Calls Try.prog 19 #[.int .i64 (n : Int), .slice A l.length c, .int .i64 (i : Int), .int .i64 (k : Int)] w fun e w' => e = .returned (.tuple #[.int .i64 (choI n l i k : Int), .int .i64 0]) ∧ Below w.heap.size w w' := by
  have hr := brand_range hv
  have CB := Off.mk (rbrand_any n l A c true (by rw [← brand_eq]; exact hv) w hx)
  have CT := Off.mk (fun W (hW : Below w.heap.size w W) => rtriangles_any n l A c (by omega) W (hx.below hW))
  rw [← tris_eq] at CT
  have HC : Off (choI n l i k = choTo (trisOf (jn n l) n) n ((k + n - i - 1) % n) ((i + 1) % n) 0) := ⟨rfl⟩
  obtain ⟨ts, hts'⟩ : ∃ ts, ts = trisOf (jn n l) n := ⟨_, rfl⟩
  rw [← hts'] at CT HC hts
  obtain ⟨d, hd⟩ : ∃ d, d = (k + n - i - 1) % n := ⟨_, rfl⟩
  obtain ⟨c1, hc1⟩ : ∃ c1, c1 = (i + 1) % n := ⟨_, rfl⟩
  have hw := way_mod hi hk
  rw [← hd, ← hc1] at hw HC
  have hdn : d < n := by rw [hd]; exact Nat.mod_lt _ (by omega)
  have hcn : c1 < n := by rw [hc1]; exact Nat.mod_lt _ (by omega)
  have CC := Off.mk (fun B cap W (hT : TrisI W B ts) => rcho_any B cap ts n k (by omega) hk hts d c1 0 W hT hcn hdn hw (by omega))
  have t1 : ((i : Int) + 1) % (n : Int) = (c1 : Int) := by
    rw [hc1, show (i : Int) + 1 = ((i + 1 : Nat) : Int) by omega]
    exact (Int.natCast_emod _ _).symm
  have t2 : ((i : Int) + 1).tmod (n : Int) = (c1 : Int) := by rw [Int.tmod_eq_emod_of_nonneg (by omega)]; exact t1
  have t3 : IntKind.i64.wrap ((i : Int) + 1) = (i : Int) + 1 := by rw [IntKind.wrap_i64]; omega
  have hn0 : ¬ n = 0 := by omega
  have hiI : ¬ (n : Int) ≤ (i : Int) := by omega
  have hkI : ¬ (n : Int) ≤ (k : Int) := by omega
  have hi0 : ¬ (i : Int) < 0 := by omega
  have hk0 : ¬ (k : Int) < 0 := by omega
  have hikb : ((i : Int) == (k : Int)) = false := by rw [beq_eq_false_iff_ne]; omega
  clear hx hv hr hts' hd hc1 hw hik
  go_enter Try.func19, Try.ntmps19
  go_wp2_with fail
  refine CB.out.mono ?_
  rintro e w1 ⟨rfl, hb1⟩
  have HB1 := Off.mk (below_drew hb1)
  clear hb1 CB
  go_wp2
  refine wp_region_held_drew (S := (fun _ => True)) (by kernel_rfl) trivial (fun hHeld => ?_)
  refine wpAnyH_take (i := 0) (oi := ⟨some 37, _, _, _, _, _⟩) (v := ?_) rfl (by kernel_rfl) (by kernel_rfl) (by kernel_rfl) (fun _ _ _ h => h) (Or.inl ⟨by rfl, by intro w hSw; (try dsimp only at hSw); go_simp; try with_reducible rfl⟩) hHeld ?_
  try simp only [Act.put, List.setIfInBounds_toArray, List.set_cons_zero, List.set_cons_succ]
  refine wpAnyH_take (i := 1) (oi := ⟨some 38, _, _, _, _, _⟩) (v := ?_) rfl (by kernel_rfl) (by kernel_rfl) (by kernel_rfl) (fun _ _ _ h => h) (Or.inl ⟨by rfl, by intro w hSw; (try dsimp only at hSw); go_simp; try with_reducible rfl⟩) hHeld ?_
  try simp only [Act.put, List.setIfInBounds_toArray, List.set_cons_zero, List.set_cons_succ]
  refine wpAnyH_take (i := 2) (oi := ⟨some 39, _, _, _, _, _⟩) (v := ?_) rfl (by kernel_rfl) (by kernel_rfl) (by kernel_rfl) (fun _ _ _ h => h) (Or.inl ⟨by rfl, by intro w hSw; (try dsimp only at hSw); go_simp; try with_reducible rfl⟩) hHeld ?_
  try simp only [Act.put, List.setIfInBounds_toArray, List.set_cons_zero, List.set_cons_succ]
  refine wpAnyH_take (i := 4) (oi := ⟨some 41, _, _, _, _, _⟩) (v := ?_) rfl (by kernel_rfl) (by kernel_rfl) (by kernel_rfl) (fun _ _ _ h => h) (Or.inl ⟨by rfl, by intro w hSw; (try dsimp only at hSw); go_simp; try with_reducible rfl⟩) hHeld ?_
  try simp only [Act.put, List.setIfInBounds_toArray, List.set_cons_zero, List.set_cons_succ]
  refine wpAnyH_take (i := 5) (oi := ⟨some 42, _, _, _, _, _⟩) (v := ?_) rfl (by kernel_rfl) (by kernel_rfl) (by kernel_rfl) (fun _ _ _ h => h) (Or.inl ⟨by rfl, by intro w hSw; (try dsimp only at hSw); go_simp; try with_reducible rfl⟩) hHeld ?_
  try simp only [Act.put, List.setIfInBounds_toArray, List.set_cons_zero, List.set_cons_succ]
  refine wpAnyH_take (i := 6) (oi := ⟨some 43, _, _, _, _, _⟩) (v := ?_) rfl (by kernel_rfl) (by kernel_rfl) (by kernel_rfl) (fun _ _ _ h => h) (Or.inl ⟨by rfl, by intro w hSw; (try dsimp only at hSw); go_simp; try with_reducible rfl⟩) hHeld ?_
  try simp only [Act.put, List.setIfInBounds_toArray, List.set_cons_zero, List.set_cons_succ]
  refine wpAnyH_take (i := 7) (oi := ⟨some 44, _, _, _, _, _⟩) (v := ?_) rfl (by kernel_rfl) (by kernel_rfl) (by kernel_rfl) (fun _ _ _ h => h) (Or.inl ⟨by rfl, by intro w hSw; (try dsimp only at hSw); go_simp; try with_reducible rfl⟩) hHeld ?_
  try simp only [Act.put, List.setIfInBounds_toArray, List.set_cons_zero, List.set_cons_succ]
  refine wpAnyH_take (i := 8) (oi := ⟨some 45, _, _, _, _, _⟩) (v := ?_) rfl (by kernel_rfl) (by kernel_rfl) (by kernel_rfl) (fun _ _ _ h => h) (Or.inl ⟨by rfl, by intro w hSw; (try dsimp only at hSw); go_simp; try with_reducible rfl⟩) hHeld ?_
  try simp only [Act.put, List.setIfInBounds_toArray, List.set_cons_zero, List.set_cons_succ]
  refine wpAnyH_ready (rs := [3]) (by kernel_rfl) (by simp) ?_
  refine AllReadyH.cons (o := ⟨some 40, _, _, _, _, _⟩) rfl (fun K hK => ?_) AllReadyH.nil
  go_simp
  go_at_call 52
  refine (CT.out _ HB1.out).mono ?_
  rintro e w2 ⟨v2, rfl, hO2, hb2⟩
  obtain ⟨A2, c2, rfl, hT2⟩ := ownT_tris hO2 (by omega)
  have C2 := Off.mk (CC.out A2 c2 w2 hT2)
  have HB2 := Off.mk (belowC HB1.out hb2)
  clear hO2 hT2 hb2
  go_wp2_with fail
  refine hK.out _ _ trivial (fun hHeld => ?_)
  clear hK K
  try simp only [Act.put, List.setIfInBounds_toArray, List.set_cons_zero, List.set_cons_succ]
  refine wpAnyH_ready (rs := [9]) (by kernel_rfl) (by simp) ?_
  refine AllReadyH.cons (o := ⟨some 46, _, _, _, _, _⟩) rfl (fun K hK => ?_) AllReadyH.nil
  go_simp
  go_at_call 51
  refine C2.out.mono ?_
  rintro e w3 ⟨rfl, hb3⟩
  have HB3 := Off.mk (belowC HB2.out hb3)
  clear hb3
  go_wp2_with fail
  refine hK.out _ _ trivial (fun hHeld => ?_)
  clear hK K
  try simp only [Act.put, List.setIfInBounds_toArray, List.set_cons_zero, List.set_cons_succ]
  refine wpAnyH_take (i := 10) (oi := ⟨some 8, _, _, _, _, _⟩) (v := ?_) rfl (by kernel_rfl) (by kernel_rfl) (by kernel_rfl) (fun _ _ _ h => h) (Or.inl ⟨by rfl, by intro w hSw; (try dsimp only at hSw); go_simp; try with_reducible rfl⟩) hHeld ?_
  try simp only [Act.put, List.setIfInBounds_toArray, List.set_cons_zero, List.set_cons_succ]
  refine wpAnyH_take (i := 11) (oi := ⟨some 9, _, _, _, _, _⟩) (v := ?_) rfl (by kernel_rfl) (by kernel_rfl) (by kernel_rfl) (fun _ _ _ h => h) (Or.inl ⟨by rfl, by intro w hSw; (try dsimp only at hSw); go_simp; try with_reducible rfl⟩) hHeld ?_
  try simp only [Act.put, List.setIfInBounds_toArray, List.set_cons_zero, List.set_cons_succ]
  refine wpAnyH_done (by kernel_rfl) ?_ _
  go_wp2
  go_ret2
  exact ⟨by rw [HC.out]; rfl, HB3.out⟩
end Go.Proofs.Ytddcdopimpfhcaa
