/- The law BrandsParts: its walk. -/
import Derived.Test.YtddcdopimpfhcaaEb
import Derived.ChangeKeysEq
namespace Go.Proofs.Ytddcdopimpfhcaa
open Go.RowKit Go.Shelf

theorem eq_tri (x y z : Int) (w : World) : Sem.run Try.prog (Op.equalIn 10000 44 (.agg #[.int .i64 x, .int .i64 y, .int .i64 z]) (.agg #[.int .i64 x, .int .i64 y, .int .i64 z])) w = .ok true w := by
  obtain ⟨i0, hi, _⟩ := info_parts info3
  have hc : Try.prog.cellsOf 3 = 1 := by kernel_rfl
  refine (run_equalIn_array (P := Try.prog) w 9999 (t := 44) (e := 3) (n := 3) (i := i0) _ _ Try.underlying44 hi).trans ?_
  rw [hc, show List.range 3 = [0, 1, 2] from rfl]
  have he : Try.prog.plainKey 3 = true := by kernel_rfl
  have h0 : (part 3 #[.int .i64 x, .int .i64 y, .int .i64 z] 0).run Try.prog w = .ok (.int .i64 x) w := run_part_plain w he rfl
  have h1 : (part 3 #[.int .i64 x, .int .i64 y, .int .i64 z] 1).run Try.prog w = .ok (.int .i64 y) w := run_part_plain w he rfl
  have h2 : (part 3 #[.int .i64 x, .int .i64 y, .int .i64 z] 2).run Try.prog w = .ok (.int .i64 z) w := run_part_plain w he rfl
  have hq : ∀ v : Int, (Op.equalIn 9999 3 (.int .i64 v) (.int .i64 v)).run Try.prog w = .ok true w := fun v => (run_equalIn_int w 9998 3 .i64 .i64 v v Try.underlying3).trans (by simp)
  simp [Op.eqItems, Sem.run_bind, h0, h1, h2, hq]
theorem neq_tri (x y z : Int) (w : World) : Sem.run Try.prog (binOp .neq 44 (.agg #[.int .i64 x, .int .i64 y, .int .i64 z]) (.agg #[.int .i64 x, .int .i64 y, .int .i64 z])) w = .ok (.bool false) w := by
  have h := eq_tri x y z w
  simp [binOp, Op.equal, Op.maxDepth, h]
theorem parts_many (n : Int) (l : List (Int × Int)) (A : Option Addr) (c : Nat) (w : World) (h60 : 60 < l.length) :
    Calls Try.prog 8 #[.int .i64 n, .slice A l.length c] w fun e w' => e = .returned (.bool true) ∧ Below w.heap.size w w' := by
  go_enter Try.func8, Try.ntmps8
  go_wp2_with (go_at_call 17; refine (alive_any _).mono ?_; rintro e w2 ⟨rfl, hb2⟩)
  go_ret
  exact ⟨rfl, hb2⟩
theorem ints_nil (w : World) (A : Option Addr) : IntsAt w A [] := ⟨by simp, fun j hj => by simp at hj⟩
set_option linter.unusedSimpArgs false in
set_option maxHeartbeats 8000000 in
set_option maxRecDepth 100000 in
theorem parts_few (n : Int) (l : List (Int × Int)) (A : Option Addr) (c : Nat) (w : World) (hx : PairsI w A l) (hlc : l.length ≤ c) (hA : A = none → c = 0) (h60 : l.length ≤ 60) :
    Calls Try.prog 8 #[.int .i64 n, .slice A l.length c] w fun e w' => e = .returned (.bool true) ∧ Below w.heap.size w w' := by
  have HX := Off.mk hx
  go_enter Try.func8, Try.ntmps8
  go_wp2_with (at_builtin; refine wpList_copyQ rfl _ _ rfl A l c hx hlc h60 hA rfl rfl ?_)
  intro v1 w1 hO1 hb1
  obtain ⟨A1, c1, rfl, hI1, hc1, _⟩ := ownQ_pairs hO1 (by omega)
  have HI1 := Off.mk hI1
  have HB1 := Off.mk hb1
  clear hO1 hI1 hb1 hx
  obtain ⟨b, hb⟩ : ∃ b, brandB n l = b := ⟨_, rfl⟩
  have hrb : rbrandB n l = b := by rw [← brand_eq, hb]
  have C1 := Off.mk (fun W (hW : Below w1.heap.size w1 W) => isBrand_any n l A1 c1 b hb W (HI1.out.below hW) hc1)
  have C2 := Off.mk (fun W (hW : Below w.heap.size w W) => rbrand_any n l A c b hrb W (HX.out.below hW))
  go_wp2_with fail
  refine (C1.out _ (Below.refl _ _)).mono ?_
  rintro e w2 ⟨rfl, hb2⟩
  have HB2 := Off.mk (belowC HB1.out hb2)
  have HI2 := Off.mk (HI1.out.below hb2)
  clear hb2 C1
  go_wp2_with fail
  refine (C2.out _ HB2.out).mono ?_
  rintro e w3 ⟨rfl, hb3⟩
  have HB3 := Off.mk (belowC HB2.out hb3)
  have HI3 := Off.mk (HI2.out.below hb3)
  clear hb3 C2 HI2 HB2
  cases b
  · have C3 := Off.mk (Tri_no n l A1 c1 hb w3 HI3.out hc1)
    have C4 := Off.mk (fun W (hW : Below w.heap.size w W) => rTri_no n l A c hrb W (HX.out.below hW))
    have C5 := Off.mk (fun W (hW : Below w3.heap.size w3 W) => Round_no n l A1 c1 hb W (HI3.out.below hW) hc1)
    have C6 := Off.mk (fun W (hW : Below w.heap.size w W) => rRound_no n l A c hrb W (HX.out.below hW))
    clear hb hrb
    go_wp2_with fail
    refine C3.out.mono ?_
    rintro e w4 ⟨rfl, hb4⟩
    have HB4 := Off.mk (belowC HB3.out hb4)
    have H34 := Off.mk hb4
    clear hb4 C3
    go_wp2_with fail
    refine (C4.out _ HB4.out).mono ?_
    rintro e w5 ⟨rfl, hb5⟩
    have HB5 := Off.mk (belowC HB4.out hb5)
    have H35 := Off.mk (belowC H34.out hb5)
    clear hb5 C4
    go_wp2
    refine wp_loop_rounds 1 ?_
    rw [rounds_succ]
    go_wp2_with fail
    refine (C5.out _ H35.out).mono ?_
    rintro e w6 ⟨rfl, hb6⟩
    have HB6 := Off.mk (belowC HB5.out hb6)
    have H36 := Off.mk (belowC H35.out hb6)
    clear hb6 C5
    go_wp2_with fail
    refine (C6.out _ HB6.out).mono ?_
    rintro e w7 ⟨rfl, hb7⟩
    have HB7 := Off.mk (belowC HB6.out hb7)
    have H37 := Off.mk (belowC H36.out hb7)
    clear hb7 C6
    go_wp2_with fail
    refine (same_any [] [] none none 0 0 true (by decide) _ (ints_nil _ _) (ints_nil _ _)).mono ?_
    rintro e w8 ⟨rfl, hb8⟩
    have HB8 := Off.mk (belowC HB7.out hb8)
    have H38 := Off.mk (belowC H37.out hb8)
    clear hb8
    go_wp2_with fail
    refine (pairs_any l l A1 A c1 c true (by simp) _ (HI3.out.below H38.out) (HX.out.below HB8.out)).mono ?_
    rintro e w9 ⟨rfl, hb9⟩
    have HB9 := Off.mk (belowC HB8.out hb9)
    clear hb9
    go_wp2_with (go_at_call 17; refine (alive_any _).mono ?_; rintro e w10 ⟨rfl, hb10⟩)
    go_ret
    exact ⟨rfl, belowC HB9.out hb10⟩
  · have hr := brand_range hb
    obtain ⟨m, rfl⟩ : ∃ m : Nat, n = m := ⟨n.toNat, by omega⟩
    have hts := trisOf_len (jn m l) m (by omega)
    have C3 := Off.mk (Tri_yes m l A1 c1 hb w3 HI3.out hc1)
    have C4 := Off.mk (fun W (hW : Below w.heap.size w W) => rTri_yes m l A c hrb W (HX.out.below hW))
    have C5 := Off.mk (fun W (hW : Below w3.heap.size w3 W) => Round_yes m l A1 c1 hb W (HI3.out.below hW) hc1)
    have C6 := Off.mk (fun W (hW : Below w.heap.size w W) => rRound_yes m l A c hrb W (HX.out.below hW))
    have hrl : (roundOf m l).length ≤ 12 := by rw [roundOf, roundTo_len]; omega
    rw [← round_eq] at C6
    rw [← tris_eq] at C4
    obtain ⟨ts, hts'⟩ : ∃ ts, ts = trisOf (jn m l) m := ⟨_, rfl⟩
    obtain ⟨rs, hrs'⟩ : ∃ rs, rs = roundOf m l := ⟨_, rfl⟩
    rw [← hts'] at C3 C4 hts
    rw [← hrs'] at C5 C6 hrl
    clear hb hrb hr hts' hrs'
    go_wp2_with fail
    refine C3.out.mono ?_
    rintro e w4 ⟨v4, rfl, hO4, hb4⟩
    obtain ⟨A4, c4, rfl, hT4⟩ := ownT_tris hO4 (by omega)
    have HB4 := Off.mk (belowC HB3.out hb4)
    have H34 := Off.mk hb4
    have HT4 := Off.mk hT4
    clear hb4 C3 hO4 hT4
    go_wp2_with fail
    refine (C4.out _ HB4.out).mono ?_
    rintro e w5 ⟨v5, rfl, hO5, hb5⟩
    obtain ⟨A5, c5, rfl, hT5⟩ := ownT_tris hO5 (by omega)
    have HB5 := Off.mk (belowC HB4.out hb5)
    have H35 := Off.mk (belowC H34.out hb5)
    have HT5 := Off.mk hT5
    have HT4 := Off.mk (HT4.out.below hb5)
    clear hb5 C4 hO5 hT5
    go_wp2
    go_loopw [10] (fun kv wr => ∃ k : Nat, k ≤ ts.length ∧ kv = .int .i64 k ∧ Off (Below w5.heap.size w5 wr)) (fun kv _ => ts.length - (intOf kv).toNat)
    case atStart => exact ⟨0, by omega, rfl, ⟨Below.refl _ _⟩⟩
    case round =>
      obtain ⟨k, hk, rfl, HB⟩ := hrel
      by_cases hkt : k < ts.length
      · have hkI : (k : Int) < (ts.length : Int) := by omega
        obtain ⟨ad, rfl, x0, x1, x2⟩ := (HT4.out.below HB.out).cell k hkt
        obtain ⟨bd, rfl, y0, y1, y2⟩ := (HT5.out.below HB.out).cell k hkt
        obtain ⟨t, ht⟩ : ∃ t, t = ts.getD k (0, 0, 0) := ⟨_, rfl⟩
        rw [← ht] at x0 x1 x2 y0 y1 y2
        have hne := fun W => neq_tri (t.1 : Int) (t.2.1 : Int) (t.2.2 : Int) W
        clear ht
        go_wp2
        refine wp_region_held_drew (S := (fun w' => (w'.cell? (ad.add (k * 3)) = some (.int .i64 (t.1 : Int)) ∧ w'.cell? ⟨(ad.add (k * 3)).block, (ad.add (k * 3)).off + 1, none⟩ = some (.int .i64 (t.2.1 : Int)) ∧ w'.cell? ⟨(ad.add (k * 3)).block, (ad.add (k * 3)).off + 2, none⟩ = some (.int .i64 (t.2.2 : Int))) ∧ (w'.cell? (bd.add (k * 3)) = some (.int .i64 (t.1 : Int)) ∧ w'.cell? ⟨(bd.add (k * 3)).block, (bd.add (k * 3)).off + 1, none⟩ = some (.int .i64 (t.2.1 : Int)) ∧ w'.cell? ⟨(bd.add (k * 3)).block, (bd.add (k * 3)).off + 2, none⟩ = some (.int .i64 (t.2.2 : Int))))) (by kernel_rfl) ⟨⟨x0, x1, x2⟩, y0, y1, y2⟩ (fun hHeld => ?_)
        refine wpAnyH_take (i := 0) (oi := ⟨some 55, _, _, _, _, _⟩) (v := ?_) rfl (by kernel_rfl) (by kernel_rfl) (by kernel_rfl) (fun _ _ _ h => h) (Or.inl ⟨by rfl, by intro w hSw; (try dsimp only at hSw); go_simp; try with_reducible rfl⟩) hHeld ?_
        try simp only [Act.put, List.setIfInBounds_toArray, List.set_cons_zero, List.set_cons_succ]
        refine wpAnyH_take (i := 1) (oi := ⟨some 56, _, _, _, _, _⟩) (v := ?_) rfl (by kernel_rfl) (by kernel_rfl) (by kernel_rfl) (fun _ _ _ h => h) (Or.inl ⟨by rfl, by intro w hSw; (try dsimp only at hSw); go_simp; try with_reducible rfl⟩) hHeld ?_
        try simp only [Act.put, List.setIfInBounds_toArray, List.set_cons_zero, List.set_cons_succ]
        refine wpAnyH_take (i := 2) (oi := ⟨some 57, _, _, _, _, _⟩) (v := ?_) rfl (by kernel_rfl) (by kernel_rfl) (by kernel_rfl) (fun _ _ _ h => h) (Or.inl ⟨by rfl, by intro w hSw; (try dsimp only at hSw); go_simp; try with_reducible rfl⟩) hHeld ?_
        try simp only [Act.put, List.setIfInBounds_toArray, List.set_cons_zero, List.set_cons_succ]
        refine wpAnyH_take (i := 3) (oi := ⟨some 58, _, _, _, _, _⟩) (v := ?_) rfl (by kernel_rfl) (by kernel_rfl) (by kernel_rfl) (fun _ _ _ h => h) (Or.inl ⟨by rfl, by intro w hSw; (try dsimp only at hSw); go_simp; try with_reducible rfl⟩) hHeld ?_
        try simp only [Act.put, List.setIfInBounds_toArray, List.set_cons_zero, List.set_cons_succ]
        refine wpAnyH_take (i := 4) (oi := ⟨some 59, _, _, _, _, _⟩) (v := ?_) rfl (by kernel_rfl) (by kernel_rfl) (by kernel_rfl) (fun _ _ _ h => h) (Or.inl ⟨by rfl, by intro w hSw; (try dsimp only at hSw); go_simp; try with_reducible rfl⟩) hHeld ?_
        try simp only [Act.put, List.setIfInBounds_toArray, List.set_cons_zero, List.set_cons_succ]
        refine wpAnyH_take (i := 5) (oi := ⟨some 60, _, _, _, _, _⟩) (v := ?_) rfl (by kernel_rfl) (by kernel_rfl) (by kernel_rfl) (fun _ _ _ h => h) (Or.inl ⟨by rfl, by intro w hSw; (try dsimp only at hSw); go_simp; try with_reducible rfl⟩) hHeld ?_
        try simp only [Act.put, List.setIfInBounds_toArray, List.set_cons_zero, List.set_cons_succ]
        refine wpAnyH_take (i := 6) (oi := ⟨some 61, _, _, _, _, _⟩) (v := ?_) rfl (by kernel_rfl) (by kernel_rfl) (by kernel_rfl) (fun _ _ _ h => h) (Or.inl ⟨by rfl, by intro w hSw; (try dsimp only at hSw); go_simp; try with_reducible rfl⟩) hHeld ?_
        try simp only [Act.put, List.setIfInBounds_toArray, List.set_cons_zero, List.set_cons_succ]
        refine wpAnyH_take (i := 7) (oi := ⟨some 62, _, _, _, _, _⟩) (v := ?_) rfl (by kernel_rfl) (by kernel_rfl) (by kernel_rfl) (fun _ _ _ h => h) (Or.inl ⟨by rfl, by intro w hSw; (try dsimp only at hSw); go_simp; try with_reducible rfl⟩) hHeld ?_
        try simp only [Act.put, List.setIfInBounds_toArray, List.set_cons_zero, List.set_cons_succ]
        refine wpAnyH_take (i := 8) (oi := ⟨some 63, _, _, _, _, _⟩) (v := ?_) rfl (by kernel_rfl) (by kernel_rfl) (by kernel_rfl) (fun _ _ _ h => h) (Or.inl ⟨by rfl, by intro w hSw; (try dsimp only at hSw); go_simp; try with_reducible rfl⟩) hHeld ?_
        try simp only [Act.put, List.setIfInBounds_toArray, List.set_cons_zero, List.set_cons_succ]
        refine wpAnyH_done (by kernel_rfl) ?_ _
        go_wp2
        go_roundw
        case rel => exact ⟨k + 1, by omega, by go_num, ⟨below_drew HB.out⟩⟩
        case measure => simp only [intOf]; omega
      · obtain rfl : k = ts.length := by omega
        have HB5' := Off.mk (belowC HB5.out HB.out)
        have H35' := Off.mk (belowC H35.out HB.out)
        go_wp2_with fail
        refine (C5.out _ H35'.out).mono ?_
        rintro e w6 ⟨v6, rfl, hO6, hb6⟩
        obtain ⟨A6, c6, rfl, hI6, _⟩ := own_ints hO6 (by omega)
        have HB6 := Off.mk (belowC HB5'.out hb6)
        have H36 := Off.mk (belowC H35'.out hb6)
        have HI6 := Off.mk hI6
        clear hb6 C5 hO6 hI6
        go_wp2_with fail
        refine (C6.out _ HB6.out).mono ?_
        rintro e w7 ⟨v7, rfl, hO7, hb7⟩
        obtain ⟨A7, c7, rfl, hI7, _⟩ := own_ints hO7 (by omega)
        have HB7 := Off.mk (belowC HB6.out hb7)
        have H37 := Off.mk (belowC H36.out hb7)
        have HI6 := Off.mk (HI6.out.below hb7)
        have HI7 := Off.mk hI7
        clear hb7 C6 hO7 hI7
        go_wp2_with fail
        refine (same_any rs rs A6 A7 c6 c7 true (by simp) _ HI6.out HI7.out).mono ?_
        rintro e w8 ⟨rfl, hb8⟩
        have HB8 := Off.mk (belowC HB7.out hb8)
        have H38 := Off.mk (belowC H37.out hb8)
        clear hb8
        go_wp2_with fail
        refine (pairs_any l l A1 A c1 c true (by simp) _ (HI3.out.below H38.out) (HX.out.below HB8.out)).mono ?_
        rintro e w9 ⟨rfl, hb9⟩
        have HB9 := Off.mk (belowC HB8.out hb9)
        clear hb9
        go_wp2_with (go_at_call 17; refine (alive_any _).mono ?_; rintro e w10 ⟨rfl, hb10⟩)
        go_ret
        exact ⟨rfl, belowC HB9.out hb10⟩
theorem parts_walk (n : Int) (l : List (Int × Int)) (A : Option Addr) (c : Nat) (w : World) (hx : l.length ≤ 140737488351232 → PairsI w A l) (hlc : l.length ≤ c) (hA : A = none → c = 0) :
    Calls Try.prog 8 #[.int .i64 n, .slice A l.length c] w fun e w' => e = .returned (.bool true) ∧ Below w.heap.size w w' := by
  by_cases h60 : l.length ≤ 60
  · exact parts_few n l A c w (hx (by omega)) hlc hA h60
  · exact parts_many n l A c w (by omega)
end Go.Proofs.Ytddcdopimpfhcaa
