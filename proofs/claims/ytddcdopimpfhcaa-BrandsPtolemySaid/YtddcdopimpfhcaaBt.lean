/- Contracts: Choices. -/
import Derived.Test.YtddcdopimpfhcaaBs
namespace Go.Proofs.Ytddcdopimpfhcaa
open Go.RowKit Go.Shelf

/-- In how many ways triangles can be chosen for the corners between i and k. -/
def choI (n : Nat) (l : List (Int × Int)) (i k : Nat) : Nat := choTo (trisOf (jn n l) n) n ((k + n - i - 1) % n) ((i + 1) % n) 0
theorem way_mod {n i k : Nat} (hi : i < n) (hk : k < n) : ((i + 1) % n + (k + n - i - 1) % n) % n = k := by
  rw [← Nat.add_mod, show i + 1 + (k + n - i - 1) = k + n by omega, Nat.add_mod_right, Nat.mod_eq_of_lt hk]
theorem choices_arg (n : Int) (l : List (Int × Int)) (A : Option Addr) (c : Nat) (i k : Int) (h : ¬ (brandB n l = true ∧ (0 ≤ i ∧ i < n) ∧ (0 ≤ k ∧ k < n) ∧ i ≠ k)) (w : World) (hx : PairsI w A l) (hlc : l.length ≤ c) :
    Calls Try.prog 18 #[.int .i64 n, .slice A l.length c, .int .i64 i, .int .i64 k] w fun e w' => e = .returned (.tuple #[.int .i64 0, .int .i64 2]) ∧ Below w.heap.size w w' := by
  have hB1 : Below w.heap.size w (w.alloc (.cells #[.int .i64 n] 3)) := (Below.refl _ _).alloc (Nat.le_refl _) _
  have hB2 := belowA hB1 (.cells #[.int .i64 k] 3)
  have CB := Off.mk (fun v hv => isBrand_any n l A c v hv _ (hx.below hB2) hlc)
  have hn0 := (one_facts (alloc_old (o' := .cells #[.int .i64 k] 3) (block_new w (.cells #[.int .i64 n] 3)))).1
  have hk0 := (one_facts (block_new (w.alloc (.cells #[.int .i64 n] 3)) (.cells #[.int .i64 k] 3))).1
  rw [World.size_alloc] at hk0
  obtain ⟨w2, hw2⟩ : ∃ w2, w2 = (w.alloc (.cells #[.int .i64 n] 3)).alloc (.cells #[.int .i64 k] 3) := ⟨_, rfl⟩
  obtain ⟨z, hz⟩ : ∃ z, z = w.heap.size := ⟨_, rfl⟩
  rw [← hw2] at CB hB2 hn0 hk0
  rw [← hz] at hn0 hk0
  have HB2 := Off.mk hB2
  have HN0 := Off.mk hn0
  have HK0 := Off.mk hk0
  by_cases hb : brandB n l = true
  · have CB' := Off.mk (CB.out _ hb)
    have hr := brand_range hb
    clear CB hx hB1 hB2 hn0 hk0
    by_cases h1 : min i k < 0
    · have h1' : i < 0 ∨ k < 0 := by omega
      clear h hb
      rcases h1' with h1' | h1'
      all_goals
        go_enter Try.func18, Try.ntmps18
        go_wp2_with fail
        rw [← hw2, ← hz]
        clear hw2 hz
        refine CB'.out.mono ?_
        rintro e w3 ⟨rfl, hb3⟩
        have hk3 := cellB hb3 HK0.out
        have hn3 := cellB hb3 HN0.out
        go_wp2
        all_goals go_ret2
        all_goals exact ⟨rfl, belowC HB2.out hb3⟩
    · by_cases h2 : n ≤ max i k
      · have i0 : 0 ≤ i := by omega
        have k0 : 0 ≤ k := by omega
        clear h hb
        go_enter Try.func18, Try.ntmps18
        go_wp2_with fail
        rw [← hw2, ← hz]
        clear hw2 hz
        refine CB'.out.mono ?_
        rintro e w3 ⟨rfl, hb3⟩
        have hk3 := cellB hb3 HK0.out
        have hn3 := cellB hb3 HN0.out
        clear CB'
        go_wp2
        all_goals (first | go_ret2 | omega)
        all_goals (first | exact ⟨rfl, belowC HB2.out hb3⟩ | omega)
      · have h3 : i = k := by
          by_cases e : i = k
          · exact e
          · exact (h ⟨hb, by omega, by omega, e⟩).elim
        subst h3
        have i0 : 0 ≤ i := by omega
        have i1 : i < n := by omega
        clear h hb
        go_enter Try.func18, Try.ntmps18
        go_wp2_with fail
        rw [← hw2, ← hz]
        clear hw2 hz
        refine CB'.out.mono ?_
        rintro e w3 ⟨rfl, hb3⟩
        have hk3 := cellB hb3 HK0.out
        have hn3 := cellB hb3 HN0.out
        clear CB'
        go_wp2
        all_goals go_ret2
        all_goals exact ⟨rfl, belowC HB2.out hb3⟩
  · have CB' := Off.mk (CB.out _ (by simpa using hb))
    clear CB hx h hb hB1 hB2 hn0 hk0
    go_enter Try.func18, Try.ntmps18
    go_wp2_with fail
    rw [← hw2, ← hz]
    clear hw2 hz
    refine CB'.out.mono ?_
    rintro e w3 ⟨rfl, hb3⟩
    go_wp2
    go_ret2
    exact ⟨rfl, belowC HB2.out hb3⟩
set_option linter.unusedSimpArgs false in
set_option maxHeartbeats 4000000 in
set_option maxRecDepth 100000 in
theorem choices_yes (n : Nat) (l : List (Int × Int)) (A : Option Addr) (c i k : Nat) (hv : brandB n l = true) (hi : i < n) (hk : k < n) (hik : i ≠ k) (hts : (trisOf (jn n l) n).length ≤ 10) (w : World) (hx : PairsI w A l) (hlc : l.length ≤ c) :
    Calls Try.prog 18 #[.int .i64 (n : Int), .slice A l.length c, .int .i64 (i : Int), .int .i64 (k : Int)] w fun e w' => e = .returned (.tuple #[.int .i64 (choI n l i k : Int), .int .i64 0]) ∧ Below w.heap.size w w' := by
  have hc49 : ∀ (args : Array Value) (w : World), (callFunc 49 args).run Try.prog w = .ok (.enter 49 args) w := enters_of Try.func49 (by kernel_rfl) rfl
  have hr := brand_range hv
  have hB1 : Below w.heap.size w (w.alloc (.cells #[.int .i64 (n : Int)] 3)) := (Below.refl _ _).alloc (Nat.le_refl _) _
  have hB2 := belowA hB1 (.cells #[.int .i64 (k : Int)] 3)
  have CB := Off.mk (isBrand_any n l A c true hv _ (hx.below hB2) hlc)
  have CT := Off.mk (fun W (hW : Below w.heap.size w W) => triangles_any n l A c (by omega) W (hx.below hW))
  have hn0 := (one_facts (alloc_old (o' := .cells #[.int .i64 (k : Int)] 3) (block_new w (.cells #[.int .i64 (n : Int)] 3)))).1
  have hk0 := (one_facts (block_new (w.alloc (.cells #[.int .i64 (n : Int)] 3)) (.cells #[.int .i64 (k : Int)] 3))).1
  rw [World.size_alloc] at hk0
  obtain ⟨w2, hw2⟩ : ∃ w2, w2 = (w.alloc (.cells #[.int .i64 (n : Int)] 3)).alloc (.cells #[.int .i64 (k : Int)] 3) := ⟨_, rfl⟩
  obtain ⟨z, hz⟩ : ∃ z, z = w.heap.size := ⟨_, rfl⟩
  rw [← hw2] at CB hB2 hn0 hk0
  rw [← hz] at hn0 hk0
  have HB2 := Off.mk hB2
  have HN0 := Off.mk hn0
  have HK0 := Off.mk hk0
  have HC : Off (choI n l i k = choTo (trisOf (jn n l) n) n ((k + n - i - 1) % n) ((i + 1) % n) 0) := ⟨rfl⟩
  obtain ⟨ts, hts'⟩ : ∃ ts, ts = trisOf (jn n l) n := ⟨_, rfl⟩
  rw [← hts'] at HC hts CT
  have hway := way_mod hi hk
  have hc1 : (i + 1) % n < n := Nat.mod_lt _ (by omega)
  have hd1 : (k + n - i - 1) % n < n := Nat.mod_lt _ (by omega)
  have HN12 : Off (3 ≤ n ∧ n ≤ 12) := ⟨by omega⟩
  have HTS := Off.mk hts
  obtain ⟨c1, hc1'⟩ : ∃ c1, c1 = (i + 1) % n := ⟨_, rfl⟩
  obtain ⟨d1, hd1'⟩ : ∃ d1, d1 = (k + n - i - 1) % n := ⟨_, rfl⟩
  rw [← hc1', ← hd1'] at HC hway
  rw [← hc1'] at hc1
  rw [← hd1'] at hd1
  have HWay := Off.mk hway
  have HC1 := Off.mk hc1
  have HD1 := Off.mk hd1
  have t1 : ((i : Int) + 1) % (n : Int) = (c1 : Int) := by
    rw [hc1', show (i : Int) + 1 = ((i + 1 : Nat) : Int) by omega]
    exact (Int.natCast_emod _ _).symm
  have t2 : ((i : Int) + 1).tmod (n : Int) = (c1 : Int) := by rw [Int.tmod_eq_emod_of_nonneg (by omega)]; exact t1
  have t3 : IntKind.i64.wrap ((i : Int) + 1) = (i : Int) + 1 := by rw [IntKind.wrap_i64]; omega
  have t4 : IntKind.i64.wrap (c1 : Int) = (c1 : Int) := by rw [IntKind.wrap_i64]; omega
  have hn0' : ¬ n = 0 := by omega
  have hikb : ((i : Int) == (k : Int)) = false := by rw [beq_eq_false_iff_ne]; omega
  have hmin : ¬ (min (i : Int) (k : Int) < 0) := by omega
  have hiI : (i : Int) < (n : Int) := by omega
  have hkI : (k : Int) < (n : Int) := by omega
  clear hx hB1 hB2 hn0 hk0 hv hway hc1 hd1 hc1' hd1' hts' hr
  go_enter Try.func18, Try.ntmps18
  go_wp2_with fail
  rw [← hw2, ← hz]
  clear hw2 hz
  refine CB.out.mono ?_
  rintro e w3 ⟨rfl, hb3⟩
  have HB3 := Off.mk (belowC HB2.out hb3)
  have hk3 := cellB hb3 HK0.out
  have hn3 := cellB hb3 HN0.out
  clear hb3 CB
  go_wp2_with fail
  all_goals
    refine (CT.out _ HB3.out).mono ?_
    rintro e w4 ⟨v4, rfl, hO4, hb4⟩
    obtain ⟨A4, c4, rfl, hT4⟩ := ownT_tris hO4 (by have := HTS.out; omega)
    have HB4 := Off.mk (belowC HB3.out hb4)
    have hk4 := cellB hb4 hk3
    have hn4 := cellB hb4 hn3
    have HT4 := Off.mk hT4
    clear hO4 hb4 hk3 hn3 HB3 CT hT4
    go_wp2
    obtain ⟨p, hp⟩ : ∃ p, p = w4.heap.size := ⟨_, rfl⟩
    have hbl1 := alloc_old (o' := .cells #[.func (.func 49) #[] #[.pointer (some ⟨z + 1, 0, none⟩), .pointer (some ⟨w4.heap.size, 0, none⟩), .pointer (some ⟨w4.heap.size + 1, 0, none⟩), .pointer (some ⟨z, 0, none⟩)]] 38) (block_new w4 (.cells #[.slice A4 ts.length c4] 41))
    have hbl2 := block_new (w4.alloc (.cells #[.slice A4 ts.length c4] 41)) (.cells #[.func (.func 49) #[] #[.pointer (some ⟨z + 1, 0, none⟩), .pointer (some ⟨w4.heap.size, 0, none⟩), .pointer (some ⟨w4.heap.size + 1, 0, none⟩), .pointer (some ⟨z, 0, none⟩)]] 38)
    rw [World.size_alloc] at hbl2
    have hB5 : Below w4.heap.size w4 ((w4.alloc (.cells #[.slice A4 ts.length c4] 41)).alloc (.cells #[.func (.func 49) #[] #[.pointer (some ⟨z + 1, 0, none⟩), .pointer (some ⟨w4.heap.size, 0, none⟩), .pointer (some ⟨w4.heap.size + 1, 0, none⟩), .pointer (some ⟨z, 0, none⟩)]] 38)) := belowA ((Below.refl _ _).alloc (Nat.le_refl _) _) _
    rw [← hp] at hbl1 hbl2 hB5 ⊢
    obtain ⟨w5, hw5⟩ : ∃ w5, w5 = (w4.alloc (.cells #[.slice A4 ts.length c4] 41)).alloc (.cells #[.func (.func 49) #[] #[.pointer (some ⟨z + 1, 0, none⟩), .pointer (some ⟨p, 0, none⟩), .pointer (some ⟨p + 1, 0, none⟩), .pointer (some ⟨z, 0, none⟩)]] 38) := ⟨_, rfl⟩
    rw [← hw5] at hbl1 hbl2 hB5 ⊢
    have hl5 := (one_facts hbl1).1
    have ho5 := (one_facts hbl2).1
    rw [hp] at hB5
    have HB5 := Off.mk (belowC HB4.out hB5)
    have hk5 := cellB hB5 hk4
    have hn5 := cellB hB5 hn4
    have HW5 : Off (ChoW w5 (z + 1) p (p + 1) z A4 c4 ts n k) := ⟨⟨hk5, hl5, ho5, hn5, HT4.out.below hB5⟩⟩
    have CR := Off.mk (cho_any (z + 1) p (p + 1) z A4 c4 ts n k HN12.out HTS.out d1 c1 0 w5.drew ⟨HW5.out.kc, HW5.out.lc, HW5.out.oc, HW5.out.nc, ⟨HW5.out.tris.len, HW5.out.tris.cell⟩⟩ HC1.out HD1.out HWay.out (by decide))
    clear hbl1 hbl2 hB5 hw5 hp hk4 hn4 HB4 HT4
    refine wp_region_held_drew (S := (fun w' => w'.cell? ⟨p + 1, 0, none⟩ = some (.func (.func 49) #[] #[.pointer (some ⟨z + 1, 0, none⟩), .pointer (some ⟨p, 0, none⟩), .pointer (some ⟨p + 1, 0, none⟩), .pointer (some ⟨z, 0, none⟩)]) ∧ w'.cell? ⟨z, 0, none⟩ = some (.int .i64 (n : Int)))) (by kernel_rfl) ⟨ho5, hn5⟩ (fun hHeld => ?_)
    refine wpAnyH_take (i := 0) (oi := ⟨some 38, _, _, _, _, _⟩) (v := ?_) rfl (by kernel_rfl) (by kernel_rfl) (by kernel_rfl) (fun _ _ _ h => h) (Or.inl ⟨by rfl, by intro w hSw; (try dsimp only at hSw); go_simp; try with_reducible rfl⟩) hHeld ?_
    try simp only [Act.put, List.setIfInBounds_toArray, List.set_cons_zero, List.set_cons_succ]
    refine wpAnyH_take (i := 1) (oi := ⟨some 39, _, _, _, _, _⟩) (v := ?_) rfl (by kernel_rfl) (by kernel_rfl) (by kernel_rfl) (fun _ _ _ h => h) (Or.inl ⟨by rfl, by intro w hSw; (try dsimp only at hSw); go_simp; try with_reducible rfl⟩) hHeld ?_
    try simp only [Act.put, List.setIfInBounds_toArray, List.set_cons_zero, List.set_cons_succ]
    refine wpAnyH_take (i := 2) (oi := ⟨some 40, _, _, _, _, _⟩) (v := ?_) rfl (by kernel_rfl) (by kernel_rfl) (by kernel_rfl) (fun _ _ _ h => h) (Or.inl ⟨by rfl, by intro w hSw; (try dsimp only at hSw); go_simp; try with_reducible rfl⟩) hHeld ?_
    try simp only [Act.put, List.setIfInBounds_toArray, List.set_cons_zero, List.set_cons_succ]
    refine wpAnyH_take (i := 3) (oi := ⟨some 41, _, _, _, _, _⟩) (v := ?_) rfl (by kernel_rfl) (by kernel_rfl) (by kernel_rfl) (fun _ _ _ h => h) (Or.inl ⟨by rfl, by intro w hSw; (try dsimp only at hSw); go_simp; try with_reducible rfl⟩) hHeld ?_
    try simp only [Act.put, List.setIfInBounds_toArray, List.set_cons_zero, List.set_cons_succ]
    refine wpAnyH_take (i := 4) (oi := ⟨some 42, _, _, _, _, _⟩) (v := ?_) rfl (by kernel_rfl) (by kernel_rfl) (by kernel_rfl) (fun _ _ _ h => h) (Or.inl ⟨by rfl, by intro w hSw; (try dsimp only at hSw); go_simp; try with_reducible rfl⟩) hHeld ?_
    try simp only [Act.put, List.setIfInBounds_toArray, List.set_cons_zero, List.set_cons_succ]
    refine wpAnyH_ready (rs := [5]) (by kernel_rfl) (by simp) ?_
    refine AllReadyH.cons (o := ⟨some 43, _, _, _, _, _⟩) rfl (fun K hK => ?_) AllReadyH.nil
    go_simp
    go_at_fn 49
    refine CR.out.mono ?_
    rintro e w6 ⟨rfl, hb6⟩
    have HB6 := Off.mk (belowC (below_drew HB5.out) hb6)
    go_wp2_with fail
    refine hK.out _ _ ⟨cellB hb6 hHeld.1, cellB hb6 hHeld.2⟩ (fun hHeld => ?_)
    clear hK K
    try simp only [Act.put, List.setIfInBounds_toArray, List.set_cons_zero, List.set_cons_succ]
    refine wpAnyH_take (i := 6) (oi := ⟨some 8, _, _, _, _, _⟩) (v := ?_) rfl (by kernel_rfl) (by kernel_rfl) (by kernel_rfl) (fun _ _ _ h => h) (Or.inl ⟨by rfl, by intro w hSw; (try dsimp only at hSw); go_simp; try with_reducible rfl⟩) hHeld ?_
    try simp only [Act.put, List.setIfInBounds_toArray, List.set_cons_zero, List.set_cons_succ]
    refine wpAnyH_take (i := 7) (oi := ⟨some 9, _, _, _, _, _⟩) (v := ?_) rfl (by kernel_rfl) (by kernel_rfl) (by kernel_rfl) (fun _ _ _ h => h) (Or.inl ⟨by rfl, by intro w hSw; (try dsimp only at hSw); go_simp; try with_reducible rfl⟩) hHeld ?_
    try simp only [Act.put, List.setIfInBounds_toArray, List.set_cons_zero, List.set_cons_succ]
    refine wpAnyH_done (by kernel_rfl) ?_ _
    go_wp2
    go_ret2
    refine ⟨?_, HB6.out⟩
    rw [HC.out]
    rfl
end Go.Proofs.Ytddcdopimpfhcaa
