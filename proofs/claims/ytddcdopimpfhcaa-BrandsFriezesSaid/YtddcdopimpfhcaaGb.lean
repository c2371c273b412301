/- The law BrandsFriezes: its walk. -/
import Derived.Test.YtddcdopimpfhcaaGa
import Derived.Test.YtddcdopimpfhcaaFi
namespace Go.Proofs.Ytddcdopimpfhcaa
open Go.RowKit Go.Shelf

/-- The facts of a frieze. -/
structure Frz (q : List Int) (n : Nat) : Prop where
  n3 : 3 ≤ n
  len : q.length = n
  z : ∀ i, i < n → eN q i 0 = 0 ∧ eN q i n = 0 ∧ eN q i 1 = 1 ∧ eN q i (n - 1) = 1
  lo : ∀ i r, i < n → 1 ≤ r → r < n → 1 ≤ eN q i r
  hi : ∀ i r, i < n → r ≤ n → 0 ≤ eN q i r ∧ eN q i r ≤ 4096
  sym : ∀ i r, i < n → 1 ≤ r → r < n → eN q i r = eN q ((i + r) % n) (n - r)
  uni : ∀ i r, i < n → 1 ≤ r → r < n → eN q i r * eN q ((i + 1) % n) r - eN q ((i + 1) % n) (r - 1) * eN q i (r + 1) = 1
theorem frz_of {q : List Int} {res : List (Int × Int)} (hq : roundB q = true) (hs : ofL q = some res) : Frz q q.length := by
  obtain ⟨hB, hR⟩ := brand_of hq hs
  obtain ⟨v, h⟩ := vecs_of hB
  rw [hR] at h
  exact ⟨h.n3, rfl, fun i hi => ⟨rfl, (h.one hi).2, rfl, (h.one hi).1⟩, fun i r => h.lo, fun i r => h.hi, fun i r => h.sym, fun i r => h.uni⟩
theorem frRow_get (q : List Int) {n i : Nat} (r : Nat) (hi : i < n) : (frRow q n r).getD i 0 = eN q i r := by
  unfold frRow
  rw [List.getD_eq_getElem?_getD, List.getElem?_map, List.getElem?_range hi]
  rfl
theorem Tab.at {w : World} {base tb c n : Nat} {vs : Nat → Value} {q : List Int} (h : Tab w base tb c (n + 1) vs (frRow q n)) (hn : 0 < n) {r : Nat} (hr : r ≤ n) :
    ∃ g cg, vs r = .slice (some ⟨g, 0, none⟩) n cg ∧ w.cell? ⟨tb, r, none⟩ = some (.slice (some ⟨g, 0, none⟩) n cg) ∧ ∀ i, i < n → w.cell? ⟨g, i, none⟩ = some (.int .i64 (eN q i r)) := by
  have hO := h.row r (by omega)
  obtain ⟨g, cg, hv, _, hI, _⟩ := own_row hO (by rw [frRow_len]; exact hn)
  have hc := (h.cell (r := r) (by omega)).1
  rw [hv] at hc
  rw [frRow_len] at hv hc hI
  exact ⟨g, cg, hv, hc, fun i hi => by rw [hI.cell hi, frRow_get q r hi]⟩
set_option maxRecDepth 100000 in
theorem friezes_many (q : List Int) (B : Option Addr) (d : Nat) (w : World) (h60 : 60 < q.length) :
    Calls Try.prog 11 #[.slice B q.length d] w fun e w' => e = .returned (.bool true) ∧ Below w.heap.size w w' := by
  go_enter Try.func11, Try.ntmps11
  go_wp2_with (go_at_call 17; refine (alive_any _).mono ?_; rintro e w2 ⟨rfl, hb2⟩)
  go_ret
  exact ⟨rfl, hb2⟩
set_option maxRecDepth 100000 in
theorem friezes_no (q : List Int) (B : Option Addr) (d : Nat) (w : World) (hq : roundB q = false) (hl : IntsAt w B q) (h60 : q.length ≤ 60) :
    Calls Try.prog 11 #[.slice B q.length d] w fun e w' => e = .returned (.bool true) ∧ Below w.heap.size w w' := by
  have hf : decide ((60 : Int) < (q.length : Int)) = false := by rw [decide_eq_false_iff_not]; omega
  have C5 := Off.mk (risRound_any q B d false hq w hl)
  clear hq hl h60
  go_enter Try.func11, Try.ntmps11
  go_wp2_with fail
  refine C5.out.mono ?_
  rintro e w7 ⟨rfl, hw7⟩
  subst w7
  go_wp2_with (go_at_call 17; refine (alive_any _).mono ?_; rintro e w8 ⟨rfl, hb8⟩)
  go_ret
  exact ⟨rfl, hb8⟩
theorem mul_4096 {x y : Int} (hx : 0 ≤ x ∧ x ≤ 4096) (hy : 0 ≤ y ∧ y ≤ 4096) : 0 ≤ x * y ∧ x * y ≤ 16777216 := by
  have h1 := Int.mul_nonneg hx.1 hy.1
  have h2 := Int.mul_le_mul hx.2 hy.2 hy.1 (by omega : (0 : Int) ≤ 4096)
  omega
set_option linter.unusedSimpArgs false in
set_option maxHeartbeats 8000000 in
set_option maxRecDepth 100000 in
theorem friezes_none (q : List Int) (B : Option Addr) (d n : Nat) (w : World) (hq : roundB q = true) (hs : ofL q = none) (hn : q.length = n) (hl : IntsAt w B q) (hdc : n ≤ d) (hB : B = none → d = 0) :
    Calls Try.prog 11 #[.slice B n d] w fun e w' => e = .returned (.bool true) ∧ Below w.heap.size w w' := by
  have h12 := (roundB_iff.1 hq).1
  rw [hn] at h12
  have hf : decide ((60 : Int) < (n : Int)) = false := by rw [decide_eq_false_iff_not]; omega
  have C5 := risRound_any q B d true hq w hl
  have C3 := of_post q hq B d w hl (by rw [hn]; exact hdc) hB
  have C6 := fun W (hW : Below w.heap.size w W) => frieze_yes q B d hq W (hl.below hW)
  rw [hn] at C5 C3
  rw [hs] at C3
  simp only [hn] at C6
  have C5 := Off.mk C5
  have C3 := Off.mk C3
  have C6 := Off.mk C6
  have hw1 : IntKind.i64.wrap ((n : Int) + 1) = (n : Int) + 1 := by rw [IntKind.wrap_i64]; omega
  have hw2 : ((n : Int) + 1 != (n : Int) + 1) = false := by simp
  have hw3 : ((n : Int) != (n : Int)) = false := by simp
  clear hq hl hs hn hdc hB
  go_enter Try.func11, Try.ntmps11
  go_wp2_with fail
  refine C5.out.mono ?_
  rintro e w7 ⟨rfl, hw7⟩
  subst w7
  clear C5
  go_wp2_with fail
  refine C3.out.mono ?_
  rintro e w1 ⟨A1, c1, rfl, _, _, _, hb1⟩
  have HB1 := Off.mk hb1
  clear hb1 C3
  go_wp2_with fail
  refine (C6.out _ HB1.out).mono ?_
  rintro e w2 ⟨tb, ct, vs, rfl, hT, hb2⟩
  have HB2 := Off.mk (belowC HB1.out hb2)
  have HT := Off.mk hT
  clear hT hb2 C6
  go_wp2
  go_loop [8] (fun iv => ∃ r : Nat, r ≤ n + 1 ∧ iv = .int .i64 r) (fun iv => n + 1 - (intOf iv).toNat)
  case atStart => exact ⟨0, by omega, rfl⟩
  case round =>
    obtain ⟨r, hr, rfl⟩ := hrel
    by_cases hrn : r ≤ n
    · have hrI : (r : Int) ≤ (n : Int) := by omega
      obtain ⟨g, cg, _, hc, _⟩ := HT.out.at (by omega) hrn
      have hr0 : (r : Int) < (n : Int) + 1 := by omega
      have hr13 : r < 13 := by omega
      go_wp2
      go_round
      case rel => exact ⟨r + 1, by omega, by go_num⟩
      case measure => simp only [intOf]; omega
    · obtain rfl : r = n + 1 := by omega
      have hnl : ¬ ((n + 1 : Nat) : Int) ≤ (n : Int) := by omega
      go_wp2_with (go_at_call 17; refine (alive_any _).mono ?_; rintro e w8 ⟨rfl, hb8⟩)
      go_ret
      exact ⟨rfl, belowC HB2.out hb8⟩
set_option linter.unusedSimpArgs false in
set_option maxHeartbeats 8000000 in
set_option maxRecDepth 100000 in
theorem friezes_some (q : List Int) (B : Option Addr) (d n : Nat) (w : World) (hq : roundB q = true) (res : List (Int × Int)) (hs : ofL q = some res) (hn : q.length = n) (hl : IntsAt w B q) (hdc : n ≤ d) (hB : B = none → d = 0) :
    Calls Try.prog 11 #[.slice B n d] w fun e w' => e = .returned (.bool true) ∧ Below w.heap.size w w' := by
  have h12 := (roundB_iff.1 hq).1
  rw [hn] at h12
  have hf : decide ((60 : Int) < (n : Int)) = false := by rw [decide_eq_false_iff_not]; omega
  have HF := Off.mk (frz_of hq hs)
  rw [hn] at HF
  have C5 := risRound_any q B d true hq w hl
  have C3 := of_post q hq B d w hl (by rw [hn]; exact hdc) hB
  have C6 := fun W (hW : Below w.heap.size w W) => frieze_yes q B d hq W (hl.below hW)
  rw [hn] at C5 C3
  rw [hs] at C3
  simp only [hn] at C6
  have C5 := Off.mk C5
  have C3 := Off.mk C3
  have C6 := Off.mk C6
  have hw1 : IntKind.i64.wrap ((n : Int) + 1) = (n : Int) + 1 := by rw [IntKind.wrap_i64]; omega
  have hw2 : ((n : Int) + 1 != (n : Int) + 1) = false := by simp
  have hw3 : ((n : Int) != (n : Int)) = false := by simp
  clear hq hl hs hn hdc hB
  go_enter Try.func11, Try.ntmps11
  go_wp2_with fail
  refine C5.out.mono ?_
  rintro e w7 ⟨rfl, hw7⟩
  subst w7
  clear C5
  go_wp2_with fail
  refine C3.out.mono ?_
  rintro e w1 ⟨A1, c1, rfl, _, _, _, hb1⟩
  have HB1 := Off.mk hb1
  clear hb1 C3
  go_wp2_with fail
  refine (C6.out _ HB1.out).mono ?_
  rintro e w2 ⟨tb, ct, vs, rfl, hT, hb2⟩
  have HB2 := Off.mk (belowC HB1.out hb2)
  have HT := Off.mk hT
  clear hT hb2 C6
  go_wp2
  go_loop [8] (fun iv => ∃ r : Nat, r ≤ n + 1 ∧ iv = .int .i64 r) (fun iv => n + 1 - (intOf iv).toNat)
  case atStart => exact ⟨0, by omega, rfl⟩
  case round =>
    obtain ⟨r, hr, rfl⟩ := hrel
    by_cases hrn : r ≤ n
    · have hrI : (r : Int) ≤ (n : Int) := by omega
      obtain ⟨g, cg, _, hc, _⟩ := HT.out.at (by omega) hrn
      have hr0 : (r : Int) < (n : Int) + 1 := by omega
      have hr13 : r < 13 := by omega
      go_wp2
      go_round
      case rel => exact ⟨r + 1, by omega, by go_num⟩
      case measure => simp only [intOf]; omega
    · obtain rfl : r = n + 1 := by omega
      have hnl : ¬ ((n + 1 : Nat) : Int) ≤ (n : Int) := by omega
      go_wp2
      go_loopw [9] (fun iv wr => ∃ i : Nat, i ≤ n ∧ iv = .int .i64 i ∧ Off (Below w2.heap.size w2 wr)) (fun iv _ => n - (intOf iv).toNat)
      case atStart => exact ⟨0, by omega, rfl, ⟨Below.refl _ _⟩⟩
      case round =>
        obtain ⟨i, hi, rfl, HB⟩ := hrel
        by_cases hin : i < n
        · have hiI : (i : Int) < (n : Int) := by omega
          have HTr := Off.mk (HT.out.below HB.out)
          obtain ⟨m, hm⟩ : ∃ m, n = m + 1 := ⟨n - 1, by omega⟩
          obtain ⟨g0, cg0, _, t0, x0⟩ := HTr.out.at (by omega) (r := 0) (by omega)
          obtain ⟨gn, cgn, _, tn, xn⟩ := HTr.out.at (by omega) (r := n) (by omega)
          obtain ⟨g1, cg1, _, t1, x1⟩ := HTr.out.at (by omega) (r := 1) (by omega)
          obtain ⟨gm, cgm, _, tm, xm⟩ := HTr.out.at (by omega) (r := m) (by omega)
          have y0 := x0 i hin
          have yn := xn i hin
          have y1 := x1 i hin
          have ym := xm i hin
          have hz := HF.out.z i hin
          rw [hz.1] at y0
          rw [hz.2.1] at yn
          rw [hz.2.2.1] at y1
          rw [show m = n - 1 by omega, hz.2.2.2] at ym
          have hm1 : IntKind.i64.wrap ((n : Int) - 1) = (m : Int) := by rw [IntKind.wrap_i64]; omega
          have q0 : (0 : Int) < (n : Int) + 1 := by omega
          have q1 : (1 : Int) < (n : Int) + 1 := by omega
          have qn : (n : Int) < (n : Int) + 1 := by omega
          have qm : (m : Int) < (n : Int) + 1 := by omega
          have qm0 : (0 : Int) ≤ (m : Int) := by omega
          have Hm := Off.mk hm
          clear x0 xn x1 xm hz hm
          go_wp2
          obtain ⟨wo, hwo⟩ : ∃ wo : World, wo = wr := ⟨_, rfl⟩
          have HBo : Off (Below w2.heap.size w2 wo) := ⟨by rw [hwo]; exact HB.out⟩
          rw [← hwo]
          clear t0 tn t1 tm y0 yn y1 ym HTr HB hm1 q0 q1 qn qm qm0 hwo Hm
          go_loopw [10] (fun rv wr => ∃ r : Nat, (1 ≤ r ∧ r ≤ n) ∧ rv = .int .i64 r ∧ Off (Below w2.heap.size w2 wr)) (fun rv _ => n - (intOf rv).toNat)
          case atStart => exact ⟨1, by omega, rfl, HBo⟩
          case round =>
            obtain ⟨r, hr, rfl, HB⟩ := hrel
            by_cases hrn : r < n
            · have hrI : (r : Int) < (n : Int) := by omega
              have HTr := Off.mk (HT.out.below HB.out)
              obtain ⟨p, hp⟩ : ∃ p, p = n - r := ⟨_, rfl⟩
              obtain ⟨s, hs⟩ : ∃ s, s = r - 1 := ⟨_, rfl⟩
              obtain ⟨t, ht⟩ : ∃ t, t = r + 1 := ⟨_, rfl⟩
              obtain ⟨j, hj⟩ : ∃ j, j = (i + r) % n := ⟨_, rfl⟩
              obtain ⟨m, hm⟩ : ∃ m, m = (i + 1) % n := ⟨_, rfl⟩
              have hjn : j < n := by rw [hj]; exact Nat.mod_lt _ (by omega)
              have hmn : m < n := by rw [hm]; exact Nat.mod_lt _ (by omega)
              obtain ⟨gr, cgr, _, tr, xr⟩ := HTr.out.at (by omega) (r := r) (by omega)
              obtain ⟨gp, cgp, _, tp, xp⟩ := HTr.out.at (by omega) (r := p) (by omega)
              obtain ⟨gs, cgs, _, ts, xs⟩ := HTr.out.at (by omega) (r := s) (by omega)
              obtain ⟨gt, cgt, _, tt, xt⟩ := HTr.out.at (by omega) (r := t) (by omega)
              have yri := xr i hin
              have ypj := xp j hjn
              have yrm := xr m hmn
              have ysm := xs m hmn
              have yti := xt i hin
              have f1 := HF.out.lo i r hin (by omega) hrn
              have f2 := HF.out.sym i r hin (by omega) hrn
              have f3 := HF.out.uni i r hin (by omega) hrn
              rw [← hj, ← hp] at f2
              rw [← hm, ← hs, ← ht] at f3
              have b1 := HF.out.hi i r hin (by omega)
              have b2 := HF.out.hi m r hmn (by omega)
              have b3 := HF.out.hi m s hmn (by omega)
              have b4 := HF.out.hi i t hin (by omega)
              rw [← f2] at ypj
              obtain ⟨x, hx⟩ : ∃ x, x = eN q i r := ⟨_, rfl⟩
              obtain ⟨y, hy⟩ : ∃ y, y = eN q m r := ⟨_, rfl⟩
              obtain ⟨z, hz⟩ : ∃ z, z = eN q m s := ⟨_, rfl⟩
              obtain ⟨u, hu⟩ : ∃ u, u = eN q i t := ⟨_, rfl⟩
              rw [← hx] at yri ypj f1 f3 b1
              rw [← hy] at yrm f3 b2
              rw [← hz] at ysm f3 b3
              rw [← hu] at yti f3 b4
              have c1 := mul_4096 b1 b2
              have c2 := mul_4096 b3 b4
              have m1 : IntKind.i64.wrap (x * y) = x * y := by rw [IntKind.wrap_i64]; omega
              have m2 : IntKind.i64.wrap (z * u) = z * u := by rw [IntKind.wrap_i64]; omega
              have m3 : IntKind.i64.wrap (x * y - z * u) = 1 := by rw [f3]; rfl
              have k1 : decide (x < 1) = false := by rw [decide_eq_false_iff_not]; omega
              have k2 : (x != x) = false := by simp
              have w1 : IntKind.i64.wrap ((n : Int) - (r : Int)) = (p : Int) := by rw [IntKind.wrap_i64]; omega
              have w3 : IntKind.i64.wrap ((r : Int) - 1) = (s : Int) := by rw [IntKind.wrap_i64]; omega
              have w4 : IntKind.i64.wrap ((r : Int) + 1) = (t : Int) := by rw [IntKind.wrap_i64]; omega
              have w5 : IntKind.i64.wrap ((i : Int) + (r : Int)) = (i : Int) + (r : Int) := by rw [IntKind.wrap_i64]; omega
              have w6 : IntKind.i64.wrap ((i : Int) + 1) = (i : Int) + 1 := by rw [IntKind.wrap_i64]; omega
              have e5 : ((i : Int) + (r : Int)) % (n : Int) = (j : Int) := by
                rw [hj, show (i : Int) + (r : Int) = ((i + r : Nat) : Int) by omega]
                exact (Int.natCast_emod _ _).symm
              have e6 : ((i : Int) + 1) % (n : Int) = (m : Int) := by
                rw [hm, show (i : Int) + 1 = ((i + 1 : Nat) : Int) by omega]
                exact (Int.natCast_emod _ _).symm
              have e7 : ((i : Int) + (r : Int)).tmod (n : Int) = (j : Int) := by rw [Int.tmod_eq_emod_of_nonneg (by omega)]; exact e5
              have e8 : ((i : Int) + 1).tmod (n : Int) = (m : Int) := by rw [Int.tmod_eq_emod_of_nonneg (by omega)]; exact e6
              have hn0 : ¬ n = 0 := by omega
              have q1 : (r : Int) < (n : Int) + 1 := by omega
              have q2 : (p : Int) < (n : Int) + 1 := by omega
              have q3 : (s : Int) < (n : Int) + 1 := by omega
              have q4 : (t : Int) < (n : Int) + 1 := by omega
              have q5 : (j : Int) < (n : Int) := by omega
              have q6 : (m : Int) < (n : Int) := by omega
              have p1 : (0 : Int) ≤ (p : Int) := by omega
              have p2 : (0 : Int) ≤ (s : Int) := by omega
              have p3 : (0 : Int) ≤ (t : Int) := by omega
              have p4 : (0 : Int) ≤ (j : Int) := by omega
              have p5 : (0 : Int) ≤ (m : Int) := by omega
              have Ht := Off.mk ht
              clear xr xp xs xt f1 f2 f3 b1 b2 b3 b4 c1 c2 hx hy hz hu hp hs ht hj hm hjn hmn HTr
              go_wp2
              refine wp_region_held_drew (S := (fun w' => (w'.cell? ⟨tb, r, none⟩ = some (.slice (some ⟨gr, 0, none⟩) n cgr) ∧ w'.cell? ⟨tb, p, none⟩ = some (.slice (some ⟨gp, 0, none⟩) n cgp) ∧ w'.cell? ⟨tb, s, none⟩ = some (.slice (some ⟨gs, 0, none⟩) n cgs) ∧ w'.cell? ⟨tb, t, none⟩ = some (.slice (some ⟨gt, 0, none⟩) n cgt)) ∧ w'.cell? ⟨gr, i, none⟩ = some (.int .i64 x) ∧ w'.cell? ⟨gp, j, none⟩ = some (.int .i64 x) ∧ w'.cell? ⟨gr, m, none⟩ = some (.int .i64 y) ∧ w'.cell? ⟨gs, m, none⟩ = some (.int .i64 z) ∧ w'.cell? ⟨gt, i, none⟩ = some (.int .i64 u))) (by kernel_rfl) ⟨⟨tr, tp, ts, tt⟩, yri, ypj, yrm, ysm, yti⟩ (fun hHeld => ?_)
              refine wpAnyH_take (i := 0) (oi := ⟨some 107, _, _, _, _, _⟩) (v := ?_) rfl (by kernel_rfl) (by kernel_rfl) (by kernel_rfl) (fun _ _ _ h => h) (Or.inl ⟨by rfl, by intro w hSw; (try dsimp only at hSw); go_simp; try with_reducible rfl⟩) hHeld ?_
              try simp only [Act.put, List.setIfInBounds_toArray, List.set_cons_zero, List.set_cons_succ]
              refine wpAnyH_take (i := 1) (oi := ⟨some 108, _, _, _, _, _⟩) (v := ?_) rfl (by kernel_rfl) (by kernel_rfl) (by kernel_rfl) (fun _ _ _ h => h) (Or.inl ⟨by rfl, by intro w hSw; (try dsimp only at hSw); go_simp; try with_reducible rfl⟩) hHeld ?_
              try simp only [Act.put, List.setIfInBounds_toArray, List.set_cons_zero, List.set_cons_succ]
              refine wpAnyH_take (i := 2) (oi := ⟨some 109, _, _, _, _, _⟩) (v := ?_) rfl (by kernel_rfl) (by kernel_rfl) (by kernel_rfl) (fun _ _ _ h => h) (Or.inl ⟨by rfl, by intro w hSw; (try dsimp only at hSw); go_simp; try with_reducible rfl⟩) hHeld ?_
              try simp only [Act.put, List.setIfInBounds_toArray, List.set_cons_zero, List.set_cons_succ]
              refine wpAnyH_take (i := 3) (oi := ⟨some 110, _, _, _, _, _⟩) (v := ?_) rfl (by kernel_rfl) (by kernel_rfl) (by kernel_rfl) (fun _ _ _ h => h) (Or.inl ⟨by rfl, by intro w hSw; (try dsimp only at hSw); go_simp; try with_reducible rfl⟩) hHeld ?_
              try simp only [Act.put, List.setIfInBounds_toArray, List.set_cons_zero, List.set_cons_succ]
              refine wpAnyH_take (i := 4) (oi := ⟨some 111, _, _, _, _, _⟩) (v := ?_) rfl (by kernel_rfl) (by kernel_rfl) (by kernel_rfl) (fun _ _ _ h => h) (Or.inl ⟨by rfl, by intro w hSw; (try dsimp only at hSw); go_simp; try with_reducible rfl⟩) hHeld ?_
              try simp only [Act.put, List.setIfInBounds_toArray, List.set_cons_zero, List.set_cons_succ]
              refine wpAnyH_take (i := 5) (oi := ⟨some 112, _, _, _, _, _⟩) (v := ?_) rfl (by kernel_rfl) (by kernel_rfl) (by kernel_rfl) (fun _ _ _ h => h) (Or.inl ⟨by rfl, by intro w hSw; (try dsimp only at hSw); go_simp; try with_reducible rfl⟩) hHeld ?_
              try simp only [Act.put, List.setIfInBounds_toArray, List.set_cons_zero, List.set_cons_succ]
              refine wpAnyH_take (i := 6) (oi := ⟨some 113, _, _, _, _, _⟩) (v := ?_) rfl (by kernel_rfl) (by kernel_rfl) (by kernel_rfl) (fun _ _ _ h => h) (Or.inl ⟨by rfl, by intro w hSw; (try dsimp only at hSw); go_simp; try with_reducible rfl⟩) hHeld ?_
              try simp only [Act.put, List.setIfInBounds_toArray, List.set_cons_zero, List.set_cons_succ]
              refine wpAnyH_take (i := 7) (oi := ⟨some 114, _, _, _, _, _⟩) (v := ?_) rfl (by kernel_rfl) (by kernel_rfl) (by kernel_rfl) (fun _ _ _ h => h) (Or.inl ⟨by rfl, by intro w hSw; (try dsimp only at hSw); go_simp; try with_reducible rfl⟩) hHeld ?_
              try simp only [Act.put, List.setIfInBounds_toArray, List.set_cons_zero, List.set_cons_succ]
              refine wpAnyH_take (i := 8) (oi := ⟨some 115, _, _, _, _, _⟩) (v := ?_) rfl (by kernel_rfl) (by kernel_rfl) (by kernel_rfl) (fun _ _ _ h => h) (Or.inl ⟨by rfl, by intro w hSw; (try dsimp only at hSw); go_simp; try with_reducible rfl⟩) hHeld ?_
              try simp only [Act.put, List.setIfInBounds_toArray, List.set_cons_zero, List.set_cons_succ]
              refine wpAnyH_take (i := 9) (oi := ⟨some 116, _, _, _, _, _⟩) (v := ?_) rfl (by kernel_rfl) (by kernel_rfl) (by kernel_rfl) (fun _ _ _ h => h) (Or.inl ⟨by rfl, by intro w hSw; (try dsimp only at hSw); go_simp; try with_reducible rfl⟩) hHeld ?_
              try simp only [Act.put, List.setIfInBounds_toArray, List.set_cons_zero, List.set_cons_succ]
              refine wpAnyH_take (i := 10) (oi := ⟨some 117, _, _, _, _, _⟩) (v := ?_) rfl (by kernel_rfl) (by kernel_rfl) (by kernel_rfl) (fun _ _ _ h => h) (Or.inl ⟨by rfl, by intro w hSw; (try dsimp only at hSw); go_simp; try with_reducible rfl⟩) hHeld ?_
              try simp only [Act.put, List.setIfInBounds_toArray, List.set_cons_zero, List.set_cons_succ]
              refine wpAnyH_take (i := 11) (oi := ⟨some 118, _, _, _, _, _⟩) (v := ?_) rfl (by kernel_rfl) (by kernel_rfl) (by kernel_rfl) (fun _ _ _ h => h) (Or.inl ⟨by rfl, by intro w hSw; (try dsimp only at hSw); go_simp; try with_reducible rfl⟩) hHeld ?_
              try simp only [Act.put, List.setIfInBounds_toArray, List.set_cons_zero, List.set_cons_succ]
              refine wpAnyH_take (i := 12) (oi := ⟨some 119, _, _, _, _, _⟩) (v := ?_) rfl (by kernel_rfl) (by kernel_rfl) (by kernel_rfl) (fun _ _ _ h => h) (Or.inl ⟨by rfl, by intro w hSw; (try dsimp only at hSw); go_simp; try with_reducible rfl⟩) hHeld ?_
              try simp only [Act.put, List.setIfInBounds_toArray, List.set_cons_zero, List.set_cons_succ]
              refine wpAnyH_take (i := 13) (oi := ⟨some 120, _, _, _, _, _⟩) (v := ?_) rfl (by kernel_rfl) (by kernel_rfl) (by kernel_rfl) (fun _ _ _ h => h) (Or.inl ⟨by rfl, by intro w hSw; (try dsimp only at hSw); go_simp; try with_reducible rfl⟩) hHeld ?_
              try simp only [Act.put, List.setIfInBounds_toArray, List.set_cons_zero, List.set_cons_succ]
              refine wpAnyH_take (i := 14) (oi := ⟨some 121, _, _, _, _, _⟩) (v := ?_) rfl (by kernel_rfl) (by kernel_rfl) (by kernel_rfl) (fun _ _ _ h => h) (Or.inl ⟨by rfl, by intro w hSw; (try dsimp only at hSw); go_simp; try with_reducible rfl⟩) hHeld ?_
              try simp only [Act.put, List.setIfInBounds_toArray, List.set_cons_zero, List.set_cons_succ]
              refine wpAnyH_take (i := 15) (oi := ⟨some 122, _, _, _, _, _⟩) (v := ?_) rfl (by kernel_rfl) (by kernel_rfl) (by kernel_rfl) (fun _ _ _ h => h) (Or.inl ⟨by rfl, by intro w hSw; (try dsimp only at hSw); go_simp; try with_reducible rfl⟩) hHeld ?_
              try simp only [Act.put, List.setIfInBounds_toArray, List.set_cons_zero, List.set_cons_succ]
              refine wpAnyH_take (i := 16) (oi := ⟨some 123, _, _, _, _, _⟩) (v := ?_) rfl (by kernel_rfl) (by kernel_rfl) (by kernel_rfl) (fun _ _ _ h => h) (Or.inl ⟨by rfl, by intro w hSw; (try dsimp only at hSw); go_simp; try with_reducible rfl⟩) hHeld ?_
              try simp only [Act.put, List.setIfInBounds_toArray, List.set_cons_zero, List.set_cons_succ]
              refine wpAnyH_take (i := 17) (oi := ⟨some 124, _, _, _, _, _⟩) (v := ?_) rfl (by kernel_rfl) (by kernel_rfl) (by kernel_rfl) (fun _ _ _ h => h) (Or.inl ⟨by rfl, by intro w hSw; (try dsimp only at hSw); go_simp; try with_reducible rfl⟩) hHeld ?_
              try simp only [Act.put, List.setIfInBounds_toArray, List.set_cons_zero, List.set_cons_succ]
              refine wpAnyH_take (i := 18) (oi := ⟨some 125, _, _, _, _, _⟩) (v := ?_) rfl (by kernel_rfl) (by kernel_rfl) (by kernel_rfl) (fun _ _ _ h => h) (Or.inl ⟨by rfl, by intro w hSw; (try dsimp only at hSw); go_simp; try with_reducible rfl⟩) hHeld ?_
              try simp only [Act.put, List.setIfInBounds_toArray, List.set_cons_zero, List.set_cons_succ]
              refine wpAnyH_take (i := 19) (oi := ⟨some 126, _, _, _, _, _⟩) (v := ?_) rfl (by kernel_rfl) (by kernel_rfl) (by kernel_rfl) (fun _ _ _ h => h) (Or.inl ⟨by rfl, by intro w hSw; (try dsimp only at hSw); go_simp; try with_reducible rfl⟩) hHeld ?_
              try simp only [Act.put, List.setIfInBounds_toArray, List.set_cons_zero, List.set_cons_succ]
              refine wpAnyH_take (i := 20) (oi := ⟨some 127, _, _, _, _, _⟩) (v := ?_) rfl (by kernel_rfl) (by kernel_rfl) (by kernel_rfl) (fun _ _ _ h => h) (Or.inl ⟨by rfl, by intro w hSw; (try dsimp only at hSw); go_simp; try with_reducible rfl⟩) hHeld ?_
              try simp only [Act.put, List.setIfInBounds_toArray, List.set_cons_zero, List.set_cons_succ]
              refine wpAnyH_take (i := 21) (oi := ⟨some 128, _, _, _, _, _⟩) (v := ?_) rfl (by kernel_rfl) (by kernel_rfl) (by kernel_rfl) (fun _ _ _ h => h) (Or.inl ⟨by rfl, by intro w hSw; (try dsimp only at hSw); go_simp; try with_reducible rfl⟩) hHeld ?_
              try simp only [Act.put, List.setIfInBounds_toArray, List.set_cons_zero, List.set_cons_succ]
              refine wpAnyH_take (i := 22) (oi := ⟨some 129, _, _, _, _, _⟩) (v := ?_) rfl (by kernel_rfl) (by kernel_rfl) (by kernel_rfl) (fun _ _ _ h => h) (Or.inl ⟨by rfl, by intro w hSw; (try dsimp only at hSw); go_simp; try with_reducible rfl⟩) hHeld ?_
              try simp only [Act.put, List.setIfInBounds_toArray, List.set_cons_zero, List.set_cons_succ]
              refine wpAnyH_take (i := 23) (oi := ⟨some 130, _, _, _, _, _⟩) (v := ?_) rfl (by kernel_rfl) (by kernel_rfl) (by kernel_rfl) (fun _ _ _ h => h) (Or.inl ⟨by rfl, by intro w hSw; (try dsimp only at hSw); go_simp; try with_reducible rfl⟩) hHeld ?_
              try simp only [Act.put, List.setIfInBounds_toArray, List.set_cons_zero, List.set_cons_succ]
              refine wpAnyH_take (i := 24) (oi := ⟨some 131, _, _, _, _, _⟩) (v := ?_) rfl (by kernel_rfl) (by kernel_rfl) (by kernel_rfl) (fun _ _ _ h => h) (Or.inl ⟨by rfl, by intro w hSw; (try dsimp only at hSw); go_simp; try with_reducible rfl⟩) hHeld ?_
              try simp only [Act.put, List.setIfInBounds_toArray, List.set_cons_zero, List.set_cons_succ]
              refine wpAnyH_take (i := 25) (oi := ⟨some 132, _, _, _, _, _⟩) (v := ?_) rfl (by kernel_rfl) (by kernel_rfl) (by kernel_rfl) (fun _ _ _ h => h) (Or.inl ⟨by rfl, by intro w hSw; (try dsimp only at hSw); go_simp; try with_reducible rfl⟩) hHeld ?_
              try simp only [Act.put, List.setIfInBounds_toArray, List.set_cons_zero, List.set_cons_succ]
              refine wpAnyH_take (i := 26) (oi := ⟨some 133, _, _, _, _, _⟩) (v := ?_) rfl (by kernel_rfl) (by kernel_rfl) (by kernel_rfl) (fun _ _ _ h => h) (Or.inl ⟨by rfl, by intro w hSw; (try dsimp only at hSw); go_simp; try with_reducible rfl⟩) hHeld ?_
              try simp only [Act.put, List.setIfInBounds_toArray, List.set_cons_zero, List.set_cons_succ]
              refine wpAnyH_take (i := 27) (oi := ⟨some 134, _, _, _, _, _⟩) (v := ?_) rfl (by kernel_rfl) (by kernel_rfl) (by kernel_rfl) (fun _ _ _ h => h) (Or.inl ⟨by rfl, by intro w hSw; (try dsimp only at hSw); go_simp; try with_reducible rfl⟩) hHeld ?_
              try simp only [Act.put, List.setIfInBounds_toArray, List.set_cons_zero, List.set_cons_succ]
              refine wpAnyH_take (i := 28) (oi := ⟨some 135, _, _, _, _, _⟩) (v := ?_) rfl (by kernel_rfl) (by kernel_rfl) (by kernel_rfl) (fun _ _ _ h => h) (Or.inl ⟨by rfl, by intro w hSw; (try dsimp only at hSw); go_simp; try with_reducible rfl⟩) hHeld ?_
              try simp only [Act.put, List.setIfInBounds_toArray, List.set_cons_zero, List.set_cons_succ]
              refine wpAnyH_take (i := 29) (oi := ⟨some 136, _, _, _, _, _⟩) (v := ?_) rfl (by kernel_rfl) (by kernel_rfl) (by kernel_rfl) (fun _ _ _ h => h) (Or.inl ⟨by rfl, by intro w hSw; (try dsimp only at hSw); go_simp; try with_reducible rfl⟩) hHeld ?_
              try simp only [Act.put, List.setIfInBounds_toArray, List.set_cons_zero, List.set_cons_succ]
              refine wpAnyH_take (i := 30) (oi := ⟨some 137, _, _, _, _, _⟩) (v := ?_) rfl (by kernel_rfl) (by kernel_rfl) (by kernel_rfl) (fun _ _ _ h => h) (Or.inl ⟨by rfl, by intro w hSw; (try dsimp only at hSw); go_simp; try with_reducible rfl⟩) hHeld ?_
              try simp only [Act.put, List.setIfInBounds_toArray, List.set_cons_zero, List.set_cons_succ]
              refine wpAnyH_take (i := 31) (oi := ⟨some 138, _, _, _, _, _⟩) (v := ?_) rfl (by kernel_rfl) (by kernel_rfl) (by kernel_rfl) (fun _ _ _ h => h) (Or.inl ⟨by rfl, by intro w hSw; (try dsimp only at hSw); go_simp; try with_reducible rfl⟩) hHeld ?_
              try simp only [Act.put, List.setIfInBounds_toArray, List.set_cons_zero, List.set_cons_succ]
              refine wpAnyH_take (i := 32) (oi := ⟨some 139, _, _, _, _, _⟩) (v := ?_) rfl (by kernel_rfl) (by kernel_rfl) (by kernel_rfl) (fun _ _ _ h => h) (Or.inl ⟨by rfl, by intro w hSw; (try dsimp only at hSw); go_simp; try with_reducible rfl⟩) hHeld ?_
              try simp only [Act.put, List.setIfInBounds_toArray, List.set_cons_zero, List.set_cons_succ]
              refine wpAnyH_take (i := 33) (oi := ⟨some 140, _, _, _, _, _⟩) (v := ?_) rfl (by kernel_rfl) (by kernel_rfl) (by kernel_rfl) (fun _ _ _ h => h) (Or.inl ⟨by rfl, by intro w hSw; (try dsimp only at hSw); go_simp; try with_reducible rfl⟩) hHeld ?_
              try simp only [Act.put, List.setIfInBounds_toArray, List.set_cons_zero, List.set_cons_succ]
              refine wpAnyH_take (i := 34) (oi := ⟨some 141, _, _, _, _, _⟩) (v := ?_) rfl (by kernel_rfl) (by kernel_rfl) (by kernel_rfl) (fun _ _ _ h => h) (Or.inl ⟨by rfl, by intro w hSw; (try dsimp only at hSw); go_simp; try with_reducible rfl⟩) hHeld ?_
              try simp only [Act.put, List.setIfInBounds_toArray, List.set_cons_zero, List.set_cons_succ]
              refine wpAnyH_take (i := 35) (oi := ⟨some 142, _, _, _, _, _⟩) (v := ?_) rfl (by kernel_rfl) (by kernel_rfl) (by kernel_rfl) (fun _ _ _ h => h) (Or.inl ⟨by rfl, by intro w hSw; (try dsimp only at hSw); go_simp; try with_reducible rfl⟩) hHeld ?_
              try simp only [Act.put, List.setIfInBounds_toArray, List.set_cons_zero, List.set_cons_succ]
              refine wpAnyH_take (i := 36) (oi := ⟨some 143, _, _, _, _, _⟩) (v := ?_) rfl (by kernel_rfl) (by kernel_rfl) (by kernel_rfl) (fun _ _ _ h => h) (Or.inl ⟨by rfl, by intro w hSw; (try dsimp only at hSw); go_simp; try with_reducible rfl⟩) hHeld ?_
              try simp only [Act.put, List.setIfInBounds_toArray, List.set_cons_zero, List.set_cons_succ]
              refine wpAnyH_take (i := 37) (oi := ⟨some 144, _, _, _, _, _⟩) (v := ?_) rfl (by kernel_rfl) (by kernel_rfl) (by kernel_rfl) (fun _ _ _ h => h) (Or.inl ⟨by rfl, by intro w hSw; (try dsimp only at hSw); go_simp; try with_reducible rfl⟩) hHeld ?_
              try simp only [Act.put, List.setIfInBounds_toArray, List.set_cons_zero, List.set_cons_succ]
              refine wpAnyH_take (i := 38) (oi := ⟨some 145, _, _, _, _, _⟩) (v := ?_) rfl (by kernel_rfl) (by kernel_rfl) (by kernel_rfl) (fun _ _ _ h => h) (Or.inl ⟨by rfl, by intro w hSw; (try dsimp only at hSw); go_simp; try with_reducible rfl⟩) hHeld ?_
              try simp only [Act.put, List.setIfInBounds_toArray, List.set_cons_zero, List.set_cons_succ]
              refine wpAnyH_take (i := 39) (oi := ⟨some 146, _, _, _, _, _⟩) (v := ?_) rfl (by kernel_rfl) (by kernel_rfl) (by kernel_rfl) (fun _ _ _ h => h) (Or.inl ⟨by rfl, by intro w hSw; (try dsimp only at hSw); go_simp; try with_reducible rfl⟩) hHeld ?_
              try simp only [Act.put, List.setIfInBounds_toArray, List.set_cons_zero, List.set_cons_succ]
              refine wpAnyH_take (i := 40) (oi := ⟨some 147, _, _, _, _, _⟩) (v := ?_) rfl (by kernel_rfl) (by kernel_rfl) (by kernel_rfl) (fun _ _ _ h => h) (Or.inl ⟨by rfl, by intro w hSw; (try dsimp only at hSw); go_simp; try with_reducible rfl⟩) hHeld ?_
              try simp only [Act.put, List.setIfInBounds_toArray, List.set_cons_zero, List.set_cons_succ]
              refine wpAnyH_take (i := 41) (oi := ⟨some 148, _, _, _, _, _⟩) (v := ?_) rfl (by kernel_rfl) (by kernel_rfl) (by kernel_rfl) (fun _ _ _ h => h) (Or.inl ⟨by rfl, by intro w hSw; (try dsimp only at hSw); go_simp; try with_reducible rfl⟩) hHeld ?_
              try simp only [Act.put, List.setIfInBounds_toArray, List.set_cons_zero, List.set_cons_succ]
              refine wpAnyH_take (i := 42) (oi := ⟨some 149, _, _, _, _, _⟩) (v := ?_) rfl (by kernel_rfl) (by kernel_rfl) (by kernel_rfl) (fun _ _ _ h => h) (Or.inl ⟨by rfl, by intro w hSw; (try dsimp only at hSw); go_simp; try with_reducible rfl⟩) hHeld ?_
              try simp only [Act.put, List.setIfInBounds_toArray, List.set_cons_zero, List.set_cons_succ]
              refine wpAnyH_take (i := 43) (oi := ⟨some 150, _, _, _, _, _⟩) (v := ?_) rfl (by kernel_rfl) (by kernel_rfl) (by kernel_rfl) (fun _ _ _ h => h) (Or.inl ⟨by rfl, by intro w hSw; (try dsimp only at hSw); go_simp; try with_reducible rfl⟩) hHeld ?_
              try simp only [Act.put, List.setIfInBounds_toArray, List.set_cons_zero, List.set_cons_succ]
              refine wpAnyH_take (i := 44) (oi := ⟨some 151, _, _, _, _, _⟩) (v := ?_) rfl (by kernel_rfl) (by kernel_rfl) (by kernel_rfl) (fun _ _ _ h => h) (Or.inl ⟨by rfl, by intro w hSw; (try dsimp only at hSw); go_simp; try with_reducible rfl⟩) hHeld ?_
              try simp only [Act.put, List.setIfInBounds_toArray, List.set_cons_zero, List.set_cons_succ]
              refine wpAnyH_take (i := 45) (oi := ⟨some 152, _, _, _, _, _⟩) (v := ?_) rfl (by kernel_rfl) (by kernel_rfl) (by kernel_rfl) (fun _ _ _ h => h) (Or.inl ⟨by rfl, by intro w hSw; (try dsimp only at hSw); go_simp; try with_reducible rfl⟩) hHeld ?_
              try simp only [Act.put, List.setIfInBounds_toArray, List.set_cons_zero, List.set_cons_succ]
              refine wpAnyH_take (i := 46) (oi := ⟨some 153, _, _, _, _, _⟩) (v := ?_) rfl (by kernel_rfl) (by kernel_rfl) (by kernel_rfl) (fun _ _ _ h => h) (Or.inl ⟨by rfl, by intro w hSw; (try dsimp only at hSw); go_simp; try with_reducible rfl⟩) hHeld ?_
              try simp only [Act.put, List.setIfInBounds_toArray, List.set_cons_zero, List.set_cons_succ]
              refine wpAnyH_take (i := 47) (oi := ⟨some 154, _, _, _, _, _⟩) (v := ?_) rfl (by kernel_rfl) (by kernel_rfl) (by kernel_rfl) (fun _ _ _ h => h) (Or.inl ⟨by rfl, by intro w hSw; (try dsimp only at hSw); go_simp; try with_reducible rfl⟩) hHeld ?_
              try simp only [Act.put, List.setIfInBounds_toArray, List.set_cons_zero, List.set_cons_succ]
              refine wpAnyH_take (i := 48) (oi := ⟨some 155, _, _, _, _, _⟩) (v := ?_) rfl (by kernel_rfl) (by kernel_rfl) (by kernel_rfl) (fun _ _ _ h => h) (Or.inl ⟨by rfl, by intro w hSw; (try dsimp only at hSw); go_simp; try with_reducible rfl⟩) hHeld ?_
              try simp only [Act.put, List.setIfInBounds_toArray, List.set_cons_zero, List.set_cons_succ]
              refine wpAnyH_take (i := 49) (oi := ⟨some 156, _, _, _, _, _⟩) (v := ?_) rfl (by kernel_rfl) (by kernel_rfl) (by kernel_rfl) (fun _ _ _ h => h) (Or.inl ⟨by rfl, by intro w hSw; (try dsimp only at hSw); go_simp; try with_reducible rfl⟩) hHeld ?_
              try simp only [Act.put, List.setIfInBounds_toArray, List.set_cons_zero, List.set_cons_succ]
              refine wpAnyH_take (i := 50) (oi := ⟨some 157, _, _, _, _, _⟩) (v := ?_) rfl (by kernel_rfl) (by kernel_rfl) (by kernel_rfl) (fun _ _ _ h => h) (Or.inl ⟨by rfl, by intro w hSw; (try dsimp only at hSw); go_simp; try with_reducible rfl⟩) hHeld ?_
              try simp only [Act.put, List.setIfInBounds_toArray, List.set_cons_zero, List.set_cons_succ]
              refine wpAnyH_take (i := 51) (oi := ⟨some 158, _, _, _, _, _⟩) (v := ?_) rfl (by kernel_rfl) (by kernel_rfl) (by kernel_rfl) (fun _ _ _ h => h) (Or.inl ⟨by rfl, by intro w hSw; (try dsimp only at hSw); go_simp; try with_reducible rfl⟩) hHeld ?_
              try simp only [Act.put, List.setIfInBounds_toArray, List.set_cons_zero, List.set_cons_succ]
              refine wpAnyH_take (i := 52) (oi := ⟨some 159, _, _, _, _, _⟩) (v := ?_) rfl (by kernel_rfl) (by kernel_rfl) (by kernel_rfl) (fun _ _ _ h => h) (Or.inl ⟨by rfl, by intro w hSw; (try dsimp only at hSw); go_simp; try with_reducible rfl⟩) hHeld ?_
              try simp only [Act.put, List.setIfInBounds_toArray, List.set_cons_zero, List.set_cons_succ]
              refine wpAnyH_take (i := 53) (oi := ⟨some 160, _, _, _, _, _⟩) (v := ?_) rfl (by kernel_rfl) (by kernel_rfl) (by kernel_rfl) (fun _ _ _ h => h) (Or.inl ⟨by rfl, by intro w hSw; (try dsimp only at hSw); go_simp; try with_reducible rfl⟩) hHeld ?_
              try simp only [Act.put, List.setIfInBounds_toArray, List.set_cons_zero, List.set_cons_succ]
              refine wpAnyH_take (i := 54) (oi := ⟨some 161, _, _, _, _, _⟩) (v := ?_) rfl (by kernel_rfl) (by kernel_rfl) (by kernel_rfl) (fun _ _ _ h => h) (Or.inl ⟨by rfl, by intro w hSw; (try dsimp only at hSw); go_simp; try with_reducible rfl⟩) hHeld ?_
              try simp only [Act.put, List.setIfInBounds_toArray, List.set_cons_zero, List.set_cons_succ]
              refine wpAnyH_take (i := 55) (oi := ⟨some 162, _, _, _, _, _⟩) (v := ?_) rfl (by kernel_rfl) (by kernel_rfl) (by kernel_rfl) (fun _ _ _ h => h) (Or.inl ⟨by rfl, by intro w hSw; (try dsimp only at hSw); go_simp; try with_reducible rfl⟩) hHeld ?_
              try simp only [Act.put, List.setIfInBounds_toArray, List.set_cons_zero, List.set_cons_succ]
              refine wpAnyH_take (i := 56) (oi := ⟨some 163, _, _, _, _, _⟩) (v := ?_) rfl (by kernel_rfl) (by kernel_rfl) (by kernel_rfl) (fun _ _ _ h => h) (Or.inl ⟨by rfl, by intro w hSw; (try dsimp only at hSw); go_simp; try with_reducible rfl⟩) hHeld ?_
              try simp only [Act.put, List.setIfInBounds_toArray, List.set_cons_zero, List.set_cons_succ]
              refine wpAnyH_take (i := 57) (oi := ⟨some 164, _, _, _, _, _⟩) (v := ?_) rfl (by kernel_rfl) (by kernel_rfl) (by kernel_rfl) (fun _ _ _ h => h) (Or.inl ⟨by rfl, by intro w hSw; (try dsimp only at hSw); go_simp; try with_reducible rfl⟩) hHeld ?_
              try simp only [Act.put, List.setIfInBounds_toArray, List.set_cons_zero, List.set_cons_succ]
              refine wpAnyH_take (i := 58) (oi := ⟨some 165, _, _, _, _, _⟩) (v := ?_) rfl (by kernel_rfl) (by kernel_rfl) (by kernel_rfl) (fun _ _ _ h => h) (Or.inl ⟨by rfl, by intro w hSw; (try dsimp only at hSw); go_simp; try with_reducible rfl⟩) hHeld ?_
              try simp only [Act.put, List.setIfInBounds_toArray, List.set_cons_zero, List.set_cons_succ]
              refine wpAnyH_take (i := 59) (oi := ⟨some 166, _, _, _, _, _⟩) (v := ?_) rfl (by kernel_rfl) (by kernel_rfl) (by kernel_rfl) (fun _ _ _ h => h) (Or.inl ⟨by rfl, by intro w hSw; (try dsimp only at hSw); go_simp; try with_reducible rfl⟩) hHeld ?_
              try simp only [Act.put, List.setIfInBounds_toArray, List.set_cons_zero, List.set_cons_succ]
              refine wpAnyH_take (i := 60) (oi := ⟨some 167, _, _, _, _, _⟩) (v := ?_) rfl (by kernel_rfl) (by kernel_rfl) (by kernel_rfl) (fun _ _ _ h => h) (Or.inl ⟨by rfl, by intro w hSw; (try dsimp only at hSw); go_simp; try with_reducible rfl⟩) hHeld ?_
              try simp only [Act.put, List.setIfInBounds_toArray, List.set_cons_zero, List.set_cons_succ]
              refine wpAnyH_take (i := 61) (oi := ⟨some 168, _, _, _, _, _⟩) (v := ?_) rfl (by kernel_rfl) (by kernel_rfl) (by kernel_rfl) (fun _ _ _ h => h) (Or.inl ⟨by rfl, by intro w hSw; (try dsimp only at hSw); go_simp; try with_reducible rfl⟩) hHeld ?_
              try simp only [Act.put, List.setIfInBounds_toArray, List.set_cons_zero, List.set_cons_succ]
              refine wpAnyH_take (i := 62) (oi := ⟨some 169, _, _, _, _, _⟩) (v := ?_) rfl (by kernel_rfl) (by kernel_rfl) (by kernel_rfl) (fun _ _ _ h => h) (Or.inl ⟨by rfl, by intro w hSw; (try dsimp only at hSw); go_simp; try with_reducible rfl⟩) hHeld ?_
              try simp only [Act.put, List.setIfInBounds_toArray, List.set_cons_zero, List.set_cons_succ]
              refine wpAnyH_take (i := 63) (oi := ⟨some 170, _, _, _, _, _⟩) (v := ?_) rfl (by kernel_rfl) (by kernel_rfl) (by kernel_rfl) (fun _ _ _ h => h) (Or.inl ⟨by rfl, by intro w hSw; (try dsimp only at hSw); go_simp; try with_reducible rfl⟩) hHeld ?_
              try simp only [Act.put, List.setIfInBounds_toArray, List.set_cons_zero, List.set_cons_succ]
              refine wpAnyH_take (i := 64) (oi := ⟨some 171, _, _, _, _, _⟩) (v := ?_) rfl (by kernel_rfl) (by kernel_rfl) (by kernel_rfl) (fun _ _ _ h => h) (Or.inl ⟨by rfl, by intro w hSw; (try dsimp only at hSw); go_simp; try with_reducible rfl⟩) hHeld ?_
              try simp only [Act.put, List.setIfInBounds_toArray, List.set_cons_zero, List.set_cons_succ]
              refine wpAnyH_take (i := 65) (oi := ⟨some 172, _, _, _, _, _⟩) (v := ?_) rfl (by kernel_rfl) (by kernel_rfl) (by kernel_rfl) (fun _ _ _ h => h) (Or.inl ⟨by rfl, by intro w hSw; (try dsimp only at hSw); go_simp; try with_reducible rfl⟩) hHeld ?_
              try simp only [Act.put, List.setIfInBounds_toArray, List.set_cons_zero, List.set_cons_succ]
              refine wpAnyH_take (i := 66) (oi := ⟨some 173, _, _, _, _, _⟩) (v := ?_) rfl (by kernel_rfl) (by kernel_rfl) (by kernel_rfl) (fun _ _ _ h => h) (Or.inl ⟨by rfl, by intro w hSw; (try dsimp only at hSw); go_simp; try with_reducible rfl⟩) hHeld ?_
              try simp only [Act.put, List.setIfInBounds_toArray, List.set_cons_zero, List.set_cons_succ]
              refine wpAnyH_take (i := 67) (oi := ⟨some 174, _, _, _, _, _⟩) (v := ?_) rfl (by kernel_rfl) (by kernel_rfl) (by kernel_rfl) (fun _ _ _ h => h) (Or.inl ⟨by rfl, by intro w hSw; (try dsimp only at hSw); go_simp; try with_reducible rfl⟩) hHeld ?_
              try simp only [Act.put, List.setIfInBounds_toArray, List.set_cons_zero, List.set_cons_succ]
              refine wpAnyH_take (i := 68) (oi := ⟨some 175, _, _, _, _, _⟩) (v := ?_) rfl (by kernel_rfl) (by kernel_rfl) (by kernel_rfl) (fun _ _ _ h => h) (Or.inl ⟨by rfl, by intro w hSw; (try dsimp only at hSw); go_simp; try with_reducible rfl⟩) hHeld ?_
              try simp only [Act.put, List.setIfInBounds_toArray, List.set_cons_zero, List.set_cons_succ]
              refine wpAnyH_take (i := 69) (oi := ⟨some 176, _, _, _, _, _⟩) (v := ?_) rfl (by kernel_rfl) (by kernel_rfl) (by kernel_rfl) (fun _ _ _ h => h) (Or.inl ⟨by rfl, by intro w hSw; (try dsimp only at hSw); go_simp; try with_reducible rfl⟩) hHeld ?_
              try simp only [Act.put, List.setIfInBounds_toArray, List.set_cons_zero, List.set_cons_succ]
              refine wpAnyH_take (i := 70) (oi := ⟨some 177, _, _, _, _, _⟩) (v := ?_) rfl (by kernel_rfl) (by kernel_rfl) (by kernel_rfl) (fun _ _ _ h => h) (Or.inl ⟨by rfl, by intro w hSw; (try dsimp only at hSw); go_simp; try with_reducible rfl⟩) hHeld ?_
              try simp only [Act.put, List.setIfInBounds_toArray, List.set_cons_zero, List.set_cons_succ]
              refine wpAnyH_take (i := 71) (oi := ⟨some 178, _, _, _, _, _⟩) (v := ?_) rfl (by kernel_rfl) (by kernel_rfl) (by kernel_rfl) (fun _ _ _ h => h) (Or.inl ⟨by rfl, by intro w hSw; (try dsimp only at hSw); go_simp; try with_reducible rfl⟩) hHeld ?_
              try simp only [Act.put, List.setIfInBounds_toArray, List.set_cons_zero, List.set_cons_succ]
              refine wpAnyH_take (i := 72) (oi := ⟨some 179, _, _, _, _, _⟩) (v := ?_) rfl (by kernel_rfl) (by kernel_rfl) (by kernel_rfl) (fun _ _ _ h => h) (Or.inl ⟨by rfl, by intro w hSw; (try dsimp only at hSw); go_simp; try with_reducible rfl⟩) hHeld ?_
              try simp only [Act.put, List.setIfInBounds_toArray, List.set_cons_zero, List.set_cons_succ]
              refine wpAnyH_done (by kernel_rfl) ?_ _
              go_wp2
              go_roundw
              case rel => exact ⟨t, by have := Ht.out; omega, by go_num, ⟨below_drew HB.out⟩⟩
              case measure => have := Ht.out; simp only [intOf]; omega
            · obtain rfl : r = n := by omega
              go_wp2
              go_roundw
              case rel => exact ⟨i + 1, by omega, by go_num, HB⟩
              case measure => simp only [intOf]; omega
        · obtain rfl : i = n := by omega
          go_wp2_with (go_at_call 17; refine (alive_any _).mono ?_; rintro e w8 ⟨rfl, hb8⟩)
          go_ret
          exact ⟨rfl, belowC HB2.out (belowC HB.out hb8)⟩
theorem friezes_walk (q : List Int) (B : Option Addr) (d : Nat) (w : World) (hl : q.length ≤ 140737488351232 → IntsAt w B q) (hdc : q.length ≤ d) (hB : B = none → d = 0) :
    Calls Try.prog 11 #[.slice B q.length d] w fun e w' => e = .returned (.bool true) ∧ Below w.heap.size w w' := by
  by_cases h60 : q.length ≤ 60
  · have hl' := hl (by omega)
    cases hq : roundB q with
    | false => exact friezes_no q B d w hq hl' h60
    | true =>
      cases hs : ofL q with
      | some res => exact friezes_some q B d _ w hq res hs rfl hl' hdc hB
      | none => exact friezes_none q B d _ w hq hs rfl hl' hdc hB
  · exact friezes_many q B d w (by omega)
end Go.Proofs.Ytddcdopimpfhcaa
