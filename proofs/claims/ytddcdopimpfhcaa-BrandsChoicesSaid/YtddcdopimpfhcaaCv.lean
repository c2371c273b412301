/- Contracts: the specification's choices. -/
import Derived.Test.YtddcdopimpfhcaaCu
import Derived.Test.YtddcdopimpfhcaaCe
namespace Go.Proofs.Ytddcdopimpfhcaa
open Go.RowKit Go.Shelf

theorem triL_contains (t : Tri) (c : Nat) : (triL t).contains (c : Int) = (decide (t.1 = c) || decide (t.2.1 = c) || decide (t.2.2 = c)) := by
  rw [Bool.eq_iff_iff, List.contains_iff_mem]
  simp only [triL, List.mem_cons, List.not_mem_nil, or_false, Bool.or_eq_true, decide_eq_true_iff]
  omega
set_option linter.unusedSimpArgs false in
set_option maxHeartbeats 4000000 in
set_option maxRecDepth 100000 in
theorem rcho_any (A : Option Addr) (cap : Nat) (ts : List Tri) (n k : Nat) (hn : 3 ≤ n ∧ n ≤ 12) (hkn : k < n) (hts : ts.length ≤ 10) : ∀ (d c used : Nat) (w : World), TrisI w A ts → c < n → d < n → (c + d) % n = k → used < 2 ^ 10 →
    Calls Try.prog 51 #[.int .i64 (n : Int), .slice A ts.length cap, .int .i64 (c : Int), .int .i64 (k : Int), .int .i64 (used : Int)] w fun e w' => e = .returned (.int .i64 (choTo ts n d c used : Int)) ∧ Below w.heap.size w w' := by
  intro d
  induction d with
  | zero =>
    intro c used w hW hc hd hk hu
    have hck : c = k := by rw [Nat.add_zero, Nat.mod_eq_of_lt hc] at hk; exact hk
    subst hck
    clear hW hk hd
    go_enter Try.func51, Try.ntmps51
    go_wp2
    go_ret
    exact ⟨rfl, Below.refl _ _⟩
  | succ d ih =>
    intro c used w hW hc hd hk hu
    have hck : (c : Int) ≠ (k : Int) := by
      intro e
      have e' : c = k := by omega
      subst e'
      by_cases h : c + (d + 1) < n
      · rw [Nat.mod_eq_of_lt h] at hk; omega
      · rw [Nat.mod_eq_sub_mod (by omega), Nat.mod_eq_of_lt (by omega)] at hk; omega
    have hckb : ((c : Int) == (k : Int)) = false := beq_eq_false_iff_ne.2 hck
    have hk' : ((c + 1) % n + d) % n = k := by rw [← hk, Nat.mod_add_mod]; congr 1; omega
    have hc' : (c + 1) % n < n := Nat.mod_lt _ (by omega)
    have IH := Off.mk (fun used' W (hW : TrisI W A ts) (hu : used' < 2 ^ 10) => ih ((c + 1) % n) used' W hW hc' (by omega) hk' hu)
    obtain ⟨F, hF⟩ : ∃ F : Nat → Nat, F = fun i => if used.testBit i = false ∧ (triL (ts.getD i (0, 0, 0))).contains (c : Int) = true then choTo ts n d ((c + 1) % n) (used + 2 ^ i) else 0 := ⟨_, rfl⟩
    have HC : Off (choTo ts n (d + 1) c used = sumTo F ts.length) := ⟨by rw [choTo, hF]⟩
    have HFv : Off (∀ i, F i = if used.testBit i = false ∧ (triL (ts.getD i (0, 0, 0))).contains (c : Int) = true then choTo ts n d ((c + 1) % n) (used + 2 ^ i) else 0) := ⟨fun i => by rw [hF]⟩
    obtain ⟨c1, hc1⟩ : ∃ c1, c1 = (c + 1) % n := ⟨_, rfl⟩
    rw [← hc1] at IH HFv
    have t1 : ((c : Int) + 1) % (n : Int) = (c1 : Int) := by
      rw [hc1, show (c : Int) + 1 = ((c + 1 : Nat) : Int) by omega]
      exact (Int.natCast_emod _ _).symm
    have t2 : ((c : Int) + 1).tmod (n : Int) = (c1 : Int) := by rw [Int.tmod_eq_emod_of_nonneg (by omega)]; exact t1
    have t3 : IntKind.i64.wrap ((c : Int) + 1) = (c : Int) + 1 := by rw [IntKind.wrap_i64]; omega
    have hcI : (c : Int) < (n : Int) := by omega
    have hn0 : ¬ n = 0 := by omega
    have HW := Off.mk hW
    have HSB : Off (∀ i, i ≤ ts.length → sumTo F i ≤ 100000000000) := ⟨fun i hi => by
      have h1 := sumTo_mono F hi
      have h2 := choTo_le ts n hts (d + 1) c used
      rw [HC.out] at h2
      have h3 : (10 : Nat) ^ (d + 1) ≤ 10 ^ 11 := Nat.pow_le_pow_right (by omega) (by omega)
      omega⟩
    have HU := Off.mk hu
    clear hW hk hk' hc' ih hF hc1 hck
    go_enter Try.func51, Try.ntmps51
    go_wp2
    go_loopw [11, 12] (fun ov iv wr => ∃ i : Nat, i ≤ ts.length ∧ iv = .int .i64 i ∧ ov = .int .i64 (sumTo F i : Int) ∧ Off (Below w.heap.size w wr)) (fun _ iv _ => ts.length - (intOf iv).toNat)
    case atStart => exact ⟨0, by omega, rfl, rfl, ⟨Below.refl _ _⟩⟩
    case round =>
      obtain ⟨i, hi, rfl, rfl, HB⟩ := hrel
      by_cases hit : i < ts.length
      · have hiI : (i : Int) < (ts.length : Int) := by omega
        have HTw := Off.mk (HW.out.below HB.out)
        obtain ⟨ad, rfl, q0, q1, q2⟩ := HTw.out.cell i hit
        obtain ⟨t, ht⟩ : ∃ t, t = ts.getD i (0, 0, 0) := ⟨_, rfl⟩
        have HFi := Off.mk (HFv.out i)
        rw [← ht] at q0 q1 q2 HFi
        clear ht
        have hi10 : i < 10 := by omega
        have hdiv : (0 : Int) ≤ (used : Int) / 2 ^ i := Int.ediv_nonneg (by omega) (Int.le_of_lt (Int.pow_pos (by omega)))
        have hm2 : ((used : Int) / 2 ^ i) % 2 = if used.testBit i then 1 else 0 := by
          have h1 : (used : Int) / 2 ^ i % 2 = ((used >>> i % 2 : Nat) : Int) := by rw [Nat.shiftRight_eq_div_pow]; simp
          rw [h1, bit_and]
          split <;> rfl
        have hbit : ((used : Int) / 2 ^ i).tmod 2 = if used.testBit i then 1 else 0 := by rw [Int.tmod_eq_emod_of_nonneg hdiv, hm2]
        have HS : Off (sumTo F (i + 1) = sumTo F i + F i) := ⟨rfl⟩
        obtain ⟨s, hs⟩ : ∃ s, s = sumTo F i := ⟨_, rfl⟩
        rw [← hs] at HS ⊢
        rw [triL_contains] at HFi
        clear hs
        cases hbt : used.testBit i
        · rw [hbt, if_neg (by decide)] at hbit hm2
          by_cases h0 : t.1 = c
          · have e0 : ((t.1 : Int) == (c : Int)) = true := by rw [beq_iff_eq]; omega
            have HSn : Off (sumTo F (i + 1) = s + choTo ts n d c1 (used + 2 ^ i)) := ⟨by rw [HS.out, HFi.out, hbt]; simp [h0]⟩
            clear h0
            obtain ⟨ho, hu2⟩ := or_new used i HU.out hi10 hbt
            have hsb := HSB.out (i + 1) (by omega)
            rw [HSn.out] at hsb
            have CR := Off.mk (IH.out (used + 2 ^ i) wr.drew ⟨HTw.out.len, HTw.out.cell⟩ hu2)
            obtain ⟨x, hx⟩ : ∃ x, x = choTo ts n d c1 (used + 2 ^ i) := ⟨_, rfl⟩
            rw [← hx] at CR HSn hsb
            obtain ⟨u2, hu2'⟩ : ∃ u2, u2 = used + 2 ^ i := ⟨_, rfl⟩
            rw [← hu2'] at CR ho
            have hp2 : (2 : Int) ^ i ≤ 512 := by
              have : 2 ^ i ≤ 2 ^ 9 := Nat.pow_le_pow_right (n := 2) (by omega) (by omega)
              exact_mod_cast this
            have hp0 : (0 : Int) < 2 ^ i := Int.pow_pos (by omega)
            have hpw : IntKind.i64.wrap ((2 : Int) ^ i) = 2 ^ i := by rw [IntKind.wrap_i64]; omega
            have ho' : bits .or .i64 (used : Int) ((2 : Int) ^ i) = (u2 : Int) := by rw [← ho]; simp
            have hws : IntKind.i64.wrap ((s : Int) + (x : Int)) = (s : Int) + (x : Int) := by rw [IntKind.wrap_i64]; omega
            clear hbt HFi HS hx hu2' hu2 ho hsb hdiv
            go_wp2
            refine wp_region_held_drew (S := (fun _ => True)) (by kernel_rfl) trivial (fun hHeld => ?_)
            refine wpAnyH_take (i := 0) (oi := ⟨some 54, _, _, _, _, _⟩) (v := ?_) rfl (by kernel_rfl) (by kernel_rfl) (by kernel_rfl) (fun _ _ _ h => h) (Or.inl ⟨by rfl, by intro w hSw; (try dsimp only at hSw); go_simp; try with_reducible rfl⟩) hHeld ?_
            try simp only [Act.put, List.setIfInBounds_toArray, List.set_cons_zero, List.set_cons_succ]
            refine wpAnyH_take (i := 1) (oi := ⟨some 55, _, _, _, _, _⟩) (v := ?_) rfl (by kernel_rfl) (by kernel_rfl) (by kernel_rfl) (fun _ _ _ h => h) (Or.inl ⟨by rfl, by intro w hSw; (try dsimp only at hSw); go_simp; try with_reducible rfl⟩) hHeld ?_
            try simp only [Act.put, List.setIfInBounds_toArray, List.set_cons_zero, List.set_cons_succ]
            refine wpAnyH_take (i := 2) (oi := ⟨some 56, _, _, _, _, _⟩) (v := ?_) rfl (by kernel_rfl) (by kernel_rfl) (by kernel_rfl) (fun _ _ _ h => h) (Or.inl ⟨by rfl, by intro w hSw; (try dsimp only at hSw); go_simp; try with_reducible rfl⟩) hHeld ?_
            try simp only [Act.put, List.setIfInBounds_toArray, List.set_cons_zero, List.set_cons_succ]
            refine wpAnyH_take (i := 3) (oi := ⟨some 57, _, _, _, _, _⟩) (v := ?_) rfl (by kernel_rfl) (by kernel_rfl) (by kernel_rfl) (fun _ _ _ h => h) (Or.inl ⟨by rfl, by intro w hSw; (try dsimp only at hSw); go_simp; try with_reducible rfl⟩) hHeld ?_
            try simp only [Act.put, List.setIfInBounds_toArray, List.set_cons_zero, List.set_cons_succ]
            refine wpAnyH_take (i := 4) (oi := ⟨some 58, _, _, _, _, _⟩) (v := ?_) rfl (by kernel_rfl) (by kernel_rfl) (by kernel_rfl) (fun _ _ _ h => h) (Or.inl ⟨by rfl, by intro w hSw; (try dsimp only at hSw); go_simp; try with_reducible rfl⟩) hHeld ?_
            try simp only [Act.put, List.setIfInBounds_toArray, List.set_cons_zero, List.set_cons_succ]
            refine wpAnyH_take (i := 5) (oi := ⟨some 59, _, _, _, _, _⟩) (v := ?_) rfl (by kernel_rfl) (by kernel_rfl) (by kernel_rfl) (fun _ _ _ h => h) (Or.inl ⟨by rfl, by intro w hSw; (try dsimp only at hSw); go_simp; try with_reducible rfl⟩) hHeld ?_
            try simp only [Act.put, List.setIfInBounds_toArray, List.set_cons_zero, List.set_cons_succ]
            refine wpAnyH_take (i := 6) (oi := ⟨some 60, _, _, _, _, _⟩) (v := ?_) rfl (by kernel_rfl) (by kernel_rfl) (by kernel_rfl) (fun _ _ _ h => h) (Or.inl ⟨by rfl, by intro w hSw; (try dsimp only at hSw); go_simp; try with_reducible rfl⟩) hHeld ?_
            try simp only [Act.put, List.setIfInBounds_toArray, List.set_cons_zero, List.set_cons_succ]
            refine wpAnyH_take (i := 7) (oi := ⟨some 61, _, _, _, _, _⟩) (v := ?_) rfl (by kernel_rfl) (by kernel_rfl) (by kernel_rfl) (fun _ _ _ h => h) (Or.inl ⟨by rfl, by intro w hSw; (try dsimp only at hSw); go_simp; try with_reducible rfl⟩) hHeld ?_
            try simp only [Act.put, List.setIfInBounds_toArray, List.set_cons_zero, List.set_cons_succ]
            refine wpAnyH_take (i := 8) (oi := ⟨some 62, _, _, _, _, _⟩) (v := ?_) rfl (by kernel_rfl) (by kernel_rfl) (by kernel_rfl) (fun _ _ _ h => h) (Or.inl ⟨by rfl, by intro w hSw; (try dsimp only at hSw); go_simp; try with_reducible rfl⟩) hHeld ?_
            try simp only [Act.put, List.setIfInBounds_toArray, List.set_cons_zero, List.set_cons_succ]
            refine wpAnyH_take (i := 9) (oi := ⟨some 63, _, _, _, _, _⟩) (v := ?_) rfl (by kernel_rfl) (by kernel_rfl) (by kernel_rfl) (fun _ _ _ h => h) (Or.inl ⟨by rfl, by intro w hSw; (try dsimp only at hSw); go_simp; try with_reducible rfl⟩) hHeld ?_
            try simp only [Act.put, List.setIfInBounds_toArray, List.set_cons_zero, List.set_cons_succ]
            refine wpAnyH_take (i := 10) (oi := ⟨some 64, _, _, _, _, _⟩) (v := ?_) rfl (by kernel_rfl) (by kernel_rfl) (by kernel_rfl) (fun _ _ _ h => h) (Or.inl ⟨by rfl, by intro w hSw; (try dsimp only at hSw); go_simp; try with_reducible rfl⟩) hHeld ?_
            try simp only [Act.put, List.setIfInBounds_toArray, List.set_cons_zero, List.set_cons_succ]
            refine wpAnyH_take (i := 11) (oi := ⟨some 65, _, _, _, _, _⟩) (v := ?_) rfl (by kernel_rfl) (by kernel_rfl) (by kernel_rfl) (fun _ _ _ h => h) (Or.inl ⟨by rfl, by intro w hSw; (try dsimp only at hSw); go_simp; try with_reducible rfl⟩) hHeld ?_
            try simp only [Act.put, List.setIfInBounds_toArray, List.set_cons_zero, List.set_cons_succ]
            refine wpAnyH_ready (rs := [12]) (by kernel_rfl) (by simp) ?_
            refine AllReadyH.cons (o := ⟨some 66, _, _, _, _, _⟩) rfl (fun K hK => ?_) AllReadyH.nil
            go_simp
            go_at_call 51
            refine CR.out.mono ?_
            rintro e w3 ⟨rfl, hb3⟩
            have HB3 := Off.mk (belowC (below_drew HB.out) hb3)
            go_wp2_with fail
            refine hK.out _ _ trivial (fun hHeld => ?_)
            clear hK K
            try simp only [Act.put, List.setIfInBounds_toArray, List.set_cons_zero, List.set_cons_succ]
            refine wpAnyH_take (i := 13) (oi := ⟨some 67, _, _, _, _, _⟩) (v := ?_) rfl (by kernel_rfl) (by kernel_rfl) (by kernel_rfl) (fun _ _ _ h => h) (Or.inl ⟨by rfl, by intro w hSw; (try dsimp only at hSw); go_simp; try with_reducible rfl⟩) hHeld ?_
            try simp only [Act.put, List.setIfInBounds_toArray, List.set_cons_zero, List.set_cons_succ]
            refine wpAnyH_take (i := 14) (oi := ⟨some 11, _, _, _, _, _⟩) (v := ?_) rfl (by kernel_rfl) (by kernel_rfl) (by kernel_rfl) (fun _ _ _ h => h) (Or.inl ⟨by rfl, by intro w hSw; (try dsimp only at hSw); go_simp; try with_reducible rfl⟩) hHeld ?_
            try simp only [Act.put, List.setIfInBounds_toArray, List.set_cons_zero, List.set_cons_succ]
            refine wpAnyH_done (by kernel_rfl) ?_ _
            go_wp2
            go_roundw
            case rel => exact ⟨i + 1, by omega, by go_num, by rw [HSn.out]; simp, HB3⟩
            case measure => simp only [intOf]; omega
          · have e0 : ((t.1 : Int) == (c : Int)) = false := by rw [beq_eq_false_iff_ne]; omega
            by_cases h1 : t.2.1 = c
            · have e1 : ((t.2.1 : Int) == (c : Int)) = true := by rw [beq_iff_eq]; omega
              have HSn : Off (sumTo F (i + 1) = s + choTo ts n d c1 (used + 2 ^ i)) := ⟨by rw [HS.out, HFi.out, hbt]; simp [h1]⟩
              clear h0 h1
              obtain ⟨ho, hu2⟩ := or_new used i HU.out hi10 hbt
              have hsb := HSB.out (i + 1) (by omega)
              rw [HSn.out] at hsb
              have CR := Off.mk (IH.out (used + 2 ^ i) wr.drew ⟨HTw.out.len, HTw.out.cell⟩ hu2)
              obtain ⟨x, hx⟩ : ∃ x, x = choTo ts n d c1 (used + 2 ^ i) := ⟨_, rfl⟩
              rw [← hx] at CR HSn hsb
              obtain ⟨u2, hu2'⟩ : ∃ u2, u2 = used + 2 ^ i := ⟨_, rfl⟩
              rw [← hu2'] at CR ho
              have hp2 : (2 : Int) ^ i ≤ 512 := by
                have : 2 ^ i ≤ 2 ^ 9 := Nat.pow_le_pow_right (n := 2) (by omega) (by omega)
                exact_mod_cast this
              have hp0 : (0 : Int) < 2 ^ i := Int.pow_pos (by omega)
              have hpw : IntKind.i64.wrap ((2 : Int) ^ i) = 2 ^ i := by rw [IntKind.wrap_i64]; omega
              have ho' : bits .or .i64 (used : Int) ((2 : Int) ^ i) = (u2 : Int) := by rw [← ho]; simp
              have hws : IntKind.i64.wrap ((s : Int) + (x : Int)) = (s : Int) + (x : Int) := by rw [IntKind.wrap_i64]; omega
              clear hbt HFi HS hx hu2' hu2 ho hsb hdiv
              go_wp2
              refine wp_region_held_drew (S := (fun _ => True)) (by kernel_rfl) trivial (fun hHeld => ?_)
              refine wpAnyH_take (i := 0) (oi := ⟨some 54, _, _, _, _, _⟩) (v := ?_) rfl (by kernel_rfl) (by kernel_rfl) (by kernel_rfl) (fun _ _ _ h => h) (Or.inl ⟨by rfl, by intro w hSw; (try dsimp only at hSw); go_simp; try with_reducible rfl⟩) hHeld ?_
              try simp only [Act.put, List.setIfInBounds_toArray, List.set_cons_zero, List.set_cons_succ]
              refine wpAnyH_take (i := 1) (oi := ⟨some 55, _, _, _, _, _⟩) (v := ?_) rfl (by kernel_rfl) (by kernel_rfl) (by kernel_rfl) (fun _ _ _ h => h) (Or.inl ⟨by rfl, by intro w hSw; (try dsimp only at hSw); go_simp; try with_reducible rfl⟩) hHeld ?_
              try simp only [Act.put, List.setIfInBounds_toArray, List.set_cons_zero, List.set_cons_succ]
              refine wpAnyH_take (i := 2) (oi := ⟨some 56, _, _, _, _, _⟩) (v := ?_) rfl (by kernel_rfl) (by kernel_rfl) (by kernel_rfl) (fun _ _ _ h => h) (Or.inl ⟨by rfl, by intro w hSw; (try dsimp only at hSw); go_simp; try with_reducible rfl⟩) hHeld ?_
              try simp only [Act.put, List.setIfInBounds_toArray, List.set_cons_zero, List.set_cons_succ]
              refine wpAnyH_take (i := 3) (oi := ⟨some 57, _, _, _, _, _⟩) (v := ?_) rfl (by kernel_rfl) (by kernel_rfl) (by kernel_rfl) (fun _ _ _ h => h) (Or.inl ⟨by rfl, by intro w hSw; (try dsimp only at hSw); go_simp; try with_reducible rfl⟩) hHeld ?_
              try simp only [Act.put, List.setIfInBounds_toArray, List.set_cons_zero, List.set_cons_succ]
              refine wpAnyH_take (i := 4) (oi := ⟨some 58, _, _, _, _, _⟩) (v := ?_) rfl (by kernel_rfl) (by kernel_rfl) (by kernel_rfl) (fun _ _ _ h => h) (Or.inl ⟨by rfl, by intro w hSw; (try dsimp only at hSw); go_simp; try with_reducible rfl⟩) hHeld ?_
              try simp only [Act.put, List.setIfInBounds_toArray, List.set_cons_zero, List.set_cons_succ]
              refine wpAnyH_take (i := 5) (oi := ⟨some 59, _, _, _, _, _⟩) (v := ?_) rfl (by kernel_rfl) (by kernel_rfl) (by kernel_rfl) (fun _ _ _ h => h) (Or.inl ⟨by rfl, by intro w hSw; (try dsimp only at hSw); go_simp; try with_reducible rfl⟩) hHeld ?_
              try simp only [Act.put, List.setIfInBounds_toArray, List.set_cons_zero, List.set_cons_succ]
              refine wpAnyH_take (i := 6) (oi := ⟨some 60, _, _, _, _, _⟩) (v := ?_) rfl (by kernel_rfl) (by kernel_rfl) (by kernel_rfl) (fun _ _ _ h => h) (Or.inl ⟨by rfl, by intro w hSw; (try dsimp only at hSw); go_simp; try with_reducible rfl⟩) hHeld ?_
              try simp only [Act.put, List.setIfInBounds_toArray, List.set_cons_zero, List.set_cons_succ]
              refine wpAnyH_take (i := 7) (oi := ⟨some 61, _, _, _, _, _⟩) (v := ?_) rfl (by kernel_rfl) (by kernel_rfl) (by kernel_rfl) (fun _ _ _ h => h) (Or.inl ⟨by rfl, by intro w hSw; (try dsimp only at hSw); go_simp; try with_reducible rfl⟩) hHeld ?_
              try simp only [Act.put, List.setIfInBounds_toArray, List.set_cons_zero, List.set_cons_succ]
              refine wpAnyH_take (i := 8) (oi := ⟨some 62, _, _, _, _, _⟩) (v := ?_) rfl (by kernel_rfl) (by kernel_rfl) (by kernel_rfl) (fun _ _ _ h => h) (Or.inl ⟨by rfl, by intro w hSw; (try dsimp only at hSw); go_simp; try with_reducible rfl⟩) hHeld ?_
              try simp only [Act.put, List.setIfInBounds_toArray, List.set_cons_zero, List.set_cons_succ]
              refine wpAnyH_take (i := 9) (oi := ⟨some 63, _, _, _, _, _⟩) (v := ?_) rfl (by kernel_rfl) (by kernel_rfl) (by kernel_rfl) (fun _ _ _ h => h) (Or.inl ⟨by rfl, by intro w hSw; (try dsimp only at hSw); go_simp; try with_reducible rfl⟩) hHeld ?_
              try simp only [Act.put, List.setIfInBounds_toArray, List.set_cons_zero, List.set_cons_succ]
              refine wpAnyH_take (i := 10) (oi := ⟨some 64, _, _, _, _, _⟩) (v := ?_) rfl (by kernel_rfl) (by kernel_rfl) (by kernel_rfl) (fun _ _ _ h => h) (Or.inl ⟨by rfl, by intro w hSw; (try dsimp only at hSw); go_simp; try with_reducible rfl⟩) hHeld ?_
              try simp only [Act.put, List.setIfInBounds_toArray, List.set_cons_zero, List.set_cons_succ]
              refine wpAnyH_take (i := 11) (oi := ⟨some 65, _, _, _, _, _⟩) (v := ?_) rfl (by kernel_rfl) (by kernel_rfl) (by kernel_rfl) (fun _ _ _ h => h) (Or.inl ⟨by rfl, by intro w hSw; (try dsimp only at hSw); go_simp; try with_reducible rfl⟩) hHeld ?_
              try simp only [Act.put, List.setIfInBounds_toArray, List.set_cons_zero, List.set_cons_succ]
              refine wpAnyH_ready (rs := [12]) (by kernel_rfl) (by simp) ?_
              refine AllReadyH.cons (o := ⟨some 66, _, _, _, _, _⟩) rfl (fun K hK => ?_) AllReadyH.nil
              go_simp
              go_at_call 51
              refine CR.out.mono ?_
              rintro e w3 ⟨rfl, hb3⟩
              have HB3 := Off.mk (belowC (below_drew HB.out) hb3)
              go_wp2_with fail
              refine hK.out _ _ trivial (fun hHeld => ?_)
              clear hK K
              try simp only [Act.put, List.setIfInBounds_toArray, List.set_cons_zero, List.set_cons_succ]
              refine wpAnyH_take (i := 13) (oi := ⟨some 67, _, _, _, _, _⟩) (v := ?_) rfl (by kernel_rfl) (by kernel_rfl) (by kernel_rfl) (fun _ _ _ h => h) (Or.inl ⟨by rfl, by intro w hSw; (try dsimp only at hSw); go_simp; try with_reducible rfl⟩) hHeld ?_
              try simp only [Act.put, List.setIfInBounds_toArray, List.set_cons_zero, List.set_cons_succ]
              refine wpAnyH_take (i := 14) (oi := ⟨some 11, _, _, _, _, _⟩) (v := ?_) rfl (by kernel_rfl) (by kernel_rfl) (by kernel_rfl) (fun _ _ _ h => h) (Or.inl ⟨by rfl, by intro w hSw; (try dsimp only at hSw); go_simp; try with_reducible rfl⟩) hHeld ?_
              try simp only [Act.put, List.setIfInBounds_toArray, List.set_cons_zero, List.set_cons_succ]
              refine wpAnyH_done (by kernel_rfl) ?_ _
              go_wp2
              go_roundw
              case rel => exact ⟨i + 1, by omega, by go_num, by rw [HSn.out]; simp, HB3⟩
              case measure => simp only [intOf]; omega
            · have e1 : ((t.2.1 : Int) == (c : Int)) = false := by rw [beq_eq_false_iff_ne]; omega
              by_cases h2 : t.2.2 = c
              · have e2 : ((t.2.2 : Int) == (c : Int)) = true := by rw [beq_iff_eq]; omega
                have HSn : Off (sumTo F (i + 1) = s + choTo ts n d c1 (used + 2 ^ i)) := ⟨by rw [HS.out, HFi.out, hbt]; simp [h2]⟩
                clear h0 h1 h2
                obtain ⟨ho, hu2⟩ := or_new used i HU.out hi10 hbt
                have hsb := HSB.out (i + 1) (by omega)
                rw [HSn.out] at hsb
                have CR := Off.mk (IH.out (used + 2 ^ i) wr.drew ⟨HTw.out.len, HTw.out.cell⟩ hu2)
                obtain ⟨x, hx⟩ : ∃ x, x = choTo ts n d c1 (used + 2 ^ i) := ⟨_, rfl⟩
                rw [← hx] at CR HSn hsb
                obtain ⟨u2, hu2'⟩ : ∃ u2, u2 = used + 2 ^ i := ⟨_, rfl⟩
                rw [← hu2'] at CR ho
                have hp2 : (2 : Int) ^ i ≤ 512 := by
                  have : 2 ^ i ≤ 2 ^ 9 := Nat.pow_le_pow_right (n := 2) (by omega) (by omega)
                  exact_mod_cast this
                have hp0 : (0 : Int) < 2 ^ i := Int.pow_pos (by omega)
                have hpw : IntKind.i64.wrap ((2 : Int) ^ i) = 2 ^ i := by rw [IntKind.wrap_i64]; omega
                have ho' : bits .or .i64 (used : Int) ((2 : Int) ^ i) = (u2 : Int) := by rw [← ho]; simp
                have hws : IntKind.i64.wrap ((s : Int) + (x : Int)) = (s : Int) + (x : Int) := by rw [IntKind.wrap_i64]; omega
                clear hbt HFi HS hx hu2' hu2 ho hsb hdiv
                go_wp2
                refine wp_region_held_drew (S := (fun _ => True)) (by kernel_rfl) trivial (fun hHeld => ?_)
                refine wpAnyH_take (i := 0) (oi := ⟨some 54, _, _, _, _, _⟩) (v := ?_) rfl (by kernel_rfl) (by kernel_rfl) (by kernel_rfl) (fun _ _ _ h => h) (Or.inl ⟨by rfl, by intro w hSw; (try dsimp only at hSw); go_simp; try with_reducible rfl⟩) hHeld ?_
                try simp only [Act.put, List.setIfInBounds_toArray, List.set_cons_zero, List.set_cons_succ]
                refine wpAnyH_take (i := 1) (oi := ⟨some 55, _, _, _, _, _⟩) (v := ?_) rfl (by kernel_rfl) (by kernel_rfl) (by kernel_rfl) (fun _ _ _ h => h) (Or.inl ⟨by rfl, by intro w hSw; (try dsimp only at hSw); go_simp; try with_reducible rfl⟩) hHeld ?_
                try simp only [Act.put, List.setIfInBounds_toArray, List.set_cons_zero, List.set_cons_succ]
                refine wpAnyH_take (i := 2) (oi := ⟨some 56, _, _, _, _, _⟩) (v := ?_) rfl (by kernel_rfl) (by kernel_rfl) (by kernel_rfl) (fun _ _ _ h => h) (Or.inl ⟨by rfl, by intro w hSw; (try dsimp only at hSw); go_simp; try with_reducible rfl⟩) hHeld ?_
                try simp only [Act.put, List.setIfInBounds_toArray, List.set_cons_zero, List.set_cons_succ]
                refine wpAnyH_take (i := 3) (oi := ⟨some 57, _, _, _, _, _⟩) (v := ?_) rfl (by kernel_rfl) (by kernel_rfl) (by kernel_rfl) (fun _ _ _ h => h) (Or.inl ⟨by rfl, by intro w hSw; (try dsimp only at hSw); go_simp; try with_reducible rfl⟩) hHeld ?_
                try simp only [Act.put, List.setIfInBounds_toArray, List.set_cons_zero, List.set_cons_succ]
                refine wpAnyH_take (i := 4) (oi := ⟨some 58, _, _, _, _, _⟩) (v := ?_) rfl (by kernel_rfl) (by kernel_rfl) (by kernel_rfl) (fun _ _ _ h => h) (Or.inl ⟨by rfl, by intro w hSw; (try dsimp only at hSw); go_simp; try with_reducible rfl⟩) hHeld ?_
                try simp only [Act.put, List.setIfInBounds_toArray, List.set_cons_zero, List.set_cons_succ]
                refine wpAnyH_take (i := 5) (oi := ⟨some 59, _, _, _, _, _⟩) (v := ?_) rfl (by kernel_rfl) (by kernel_rfl) (by kernel_rfl) (fun _ _ _ h => h) (Or.inl ⟨by rfl, by intro w hSw; (try dsimp only at hSw); go_simp; try with_reducible rfl⟩) hHeld ?_
                try simp only [Act.put, List.setIfInBounds_toArray, List.set_cons_zero, List.set_cons_succ]
                refine wpAnyH_take (i := 6) (oi := ⟨some 60, _, _, _, _, _⟩) (v := ?_) rfl (by kernel_rfl) (by kernel_rfl) (by kernel_rfl) (fun _ _ _ h => h) (Or.inl ⟨by rfl, by intro w hSw; (try dsimp only at hSw); go_simp; try with_reducible rfl⟩) hHeld ?_
                try simp only [Act.put, List.setIfInBounds_toArray, List.set_cons_zero, List.set_cons_succ]
                refine wpAnyH_take (i := 7) (oi := ⟨some 61, _, _, _, _, _⟩) (v := ?_) rfl (by kernel_rfl) (by kernel_rfl) (by kernel_rfl) (fun _ _ _ h => h) (Or.inl ⟨by rfl, by intro w hSw; (try dsimp only at hSw); go_simp; try with_reducible rfl⟩) hHeld ?_
                try simp only [Act.put, List.setIfInBounds_toArray, List.set_cons_zero, List.set_cons_succ]
                refine wpAnyH_take (i := 8) (oi := ⟨some 62, _, _, _, _, _⟩) (v := ?_) rfl (by kernel_rfl) (by kernel_rfl) (by kernel_rfl) (fun _ _ _ h => h) (Or.inl ⟨by rfl, by intro w hSw; (try dsimp only at hSw); go_simp; try with_reducible rfl⟩) hHeld ?_
                try simp only [Act.put, List.setIfInBounds_toArray, List.set_cons_zero, List.set_cons_succ]
                refine wpAnyH_take (i := 9) (oi := ⟨some 63, _, _, _, _, _⟩) (v := ?_) rfl (by kernel_rfl) (by kernel_rfl) (by kernel_rfl) (fun _ _ _ h => h) (Or.inl ⟨by rfl, by intro w hSw; (try dsimp only at hSw); go_simp; try with_reducible rfl⟩) hHeld ?_
                try simp only [Act.put, List.setIfInBounds_toArray, List.set_cons_zero, List.set_cons_succ]
                refine wpAnyH_take (i := 10) (oi := ⟨some 64, _, _, _, _, _⟩) (v := ?_) rfl (by kernel_rfl) (by kernel_rfl) (by kernel_rfl) (fun _ _ _ h => h) (Or.inl ⟨by rfl, by intro w hSw; (try dsimp only at hSw); go_simp; try with_reducible rfl⟩) hHeld ?_
                try simp only [Act.put, List.setIfInBounds_toArray, List.set_cons_zero, List.set_cons_succ]
                refine wpAnyH_take (i := 11) (oi := ⟨some 65, _, _, _, _, _⟩) (v := ?_) rfl (by kernel_rfl) (by kernel_rfl) (by kernel_rfl) (fun _ _ _ h => h) (Or.inl ⟨by rfl, by intro w hSw; (try dsimp only at hSw); go_simp; try with_reducible rfl⟩) hHeld ?_
                try simp only [Act.put, List.setIfInBounds_toArray, List.set_cons_zero, List.set_cons_succ]
                refine wpAnyH_ready (rs := [12]) (by kernel_rfl) (by simp) ?_
                refine AllReadyH.cons (o := ⟨some 66, _, _, _, _, _⟩) rfl (fun K hK => ?_) AllReadyH.nil
                go_simp
                go_at_call 51
                refine CR.out.mono ?_
                rintro e w3 ⟨rfl, hb3⟩
                have HB3 := Off.mk (belowC (below_drew HB.out) hb3)
                go_wp2_with fail
                refine hK.out _ _ trivial (fun hHeld => ?_)
                clear hK K
                try simp only [Act.put, List.setIfInBounds_toArray, List.set_cons_zero, List.set_cons_succ]
                refine wpAnyH_take (i := 13) (oi := ⟨some 67, _, _, _, _, _⟩) (v := ?_) rfl (by kernel_rfl) (by kernel_rfl) (by kernel_rfl) (fun _ _ _ h => h) (Or.inl ⟨by rfl, by intro w hSw; (try dsimp only at hSw); go_simp; try with_reducible rfl⟩) hHeld ?_
                try simp only [Act.put, List.setIfInBounds_toArray, List.set_cons_zero, List.set_cons_succ]
                refine wpAnyH_take (i := 14) (oi := ⟨some 11, _, _, _, _, _⟩) (v := ?_) rfl (by kernel_rfl) (by kernel_rfl) (by kernel_rfl) (fun _ _ _ h => h) (Or.inl ⟨by rfl, by intro w hSw; (try dsimp only at hSw); go_simp; try with_reducible rfl⟩) hHeld ?_
                try simp only [Act.put, List.setIfInBounds_toArray, List.set_cons_zero, List.set_cons_succ]
                refine wpAnyH_done (by kernel_rfl) ?_ _
                go_wp2
                go_roundw
                case rel => exact ⟨i + 1, by omega, by go_num, by rw [HSn.out]; simp, HB3⟩
                case measure => simp only [intOf]; omega
              · have e2 : ((t.2.2 : Int) == (c : Int)) = false := by rw [beq_eq_false_iff_ne]; omega
                have HSn : Off (sumTo F (i + 1) = s) := ⟨by rw [HS.out, HFi.out, hbt]; simp [h0, h1, h2]⟩
                clear h0 h1 h2 HS HFi hbt hdiv
                go_wp2
                go_roundw
                case rel => exact ⟨i + 1, by omega, by go_num, by rw [HSn.out], HB⟩
                case measure => simp only [intOf]; omega
        · rw [hbt, if_pos rfl] at hbit hm2
          have HSn : Off (sumTo F (i + 1) = s) := ⟨by rw [HS.out, HFi.out, hbt]; simp⟩
          clear HS HFi hbt hdiv
          go_wp2
          go_roundw
          case rel => exact ⟨i + 1, by omega, by go_num, by rw [HSn.out], HB⟩
          case measure => simp only [intOf]; omega
      · obtain rfl : i = ts.length := by omega
        go_wp2
        go_ret
        exact ⟨by rw [HC.out]; rfl, HB.out⟩
end Go.Proofs.Ytddcdopimpfhcaa
