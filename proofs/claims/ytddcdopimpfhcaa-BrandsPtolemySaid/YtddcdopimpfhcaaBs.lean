/- Contracts: Choices. -/
import Derived.Test.YtddcdopimpfhcaaBq
import Derived.Laws.EntriesVeiled
import Derived.Deep.RegionHeld3
namespace Go.Proofs.Ytddcdopimpfhcaa
open Go.RowKit Go.Shelf

theorem indexI_pos (x : Int) (l : List Int) : decide (0 ≤ indexI x l) = l.contains x := by
  unfold indexI
  rw [Bool.eq_iff_iff, decide_eq_true_iff, List.contains_iff_mem]
  constructor
  · intro h
    by_cases e : idxI x l < l.length
    · clear h
      induction l with
      | nil => simp at e
      | cons y l ih =>
        rw [idxI] at e
        split at e
        · rename_i hy; subst hy; simp
        · exact List.mem_cons_of_mem _ (ih (by simpa using e))
    · rw [if_neg e] at h; omega
  · intro h
    have : idxI x l < l.length := by
      induction l with
      | nil => simp at h
      | cons y l ih =>
        rw [idxI]
        split
        · simp
        · rename_i hy
          rcases List.mem_cons.1 h with e | e
          · exact (hy e.symm).elim
          · have := ih e
            simp; omega
    rw [if_pos this]
    omega
theorem contains_int (x : Int) (l : List Int) (A : Option Addr) (c : Nat) (v : Bool) (hv : l.contains x = v) (w : World) (hl : IntsAt w A l) :
    Calls Try.prog 50 #[.slice A l.length c, .int .i64 x] w fun e w' => e = .returned (.bool v) ∧ w' = w := by
  have CI := Off.mk (index_int x l A c w hl)
  have HV : Off (decide (0 ≤ indexI x l) = v) := ⟨by rw [indexI_pos, hv]⟩
  obtain ⟨i, hi⟩ : ∃ i, i = indexI x l := ⟨_, rfl⟩
  rw [← hi] at CI HV
  clear hv hl hi
  go_enter Try.func50, Try.ntmps50
  go_wp2_with (go_at_call 66; refine CI.out.mono ?_; rintro e w1 ⟨rfl, hw⟩; subst w1)
  go_ret
  exact ⟨ret_bool HV.out, rfl⟩
def triL (t : Tri) : List Int := [(t.1 : Int), (t.2.1 : Int), (t.2.2 : Int)]
def sumTo (f : Nat → Nat) : Nat → Nat
  | 0 => 0
  | i + 1 => sumTo f i + f i
/-- In how many ways different triangles can be chosen for d corners from c on. -/
def choTo (ts : List Tri) (n : Nat) : Nat → Nat → Nat → Nat
  | 0, _, _ => 1
  | d + 1, c, used => sumTo (fun i => if used.testBit i = false ∧ (triL (ts.getD i (0, 0, 0))).contains (c : Int) = true then choTo ts n d ((c + 1) % n) (used + 2 ^ i) else 0) ts.length
theorem sumTo_le (f : Nat → Nat) (b : Nat) (h : ∀ i, f i ≤ b) : ∀ k, sumTo f k ≤ k * b
  | 0 => by simp [sumTo]
  | k + 1 => by
    have := sumTo_le f b h k
    have := h k
    rw [sumTo, Nat.succ_mul]
    omega
theorem choTo_le (ts : List Tri) (n : Nat) (hts : ts.length ≤ 10) : ∀ d c used, choTo ts n d c used ≤ 10 ^ d
  | 0, _, _ => Nat.le_refl _
  | d + 1, c, used => by
    rw [choTo]
    refine Nat.le_trans (sumTo_le _ (10 ^ d) (fun i => ?_) _) ?_
    · split
      · exact choTo_le ts n hts d _ _
      · exact Nat.zero_le _
    · rw [Nat.pow_succ, Nat.mul_comm]
      exact Nat.mul_le_mul_left _ hts
theorem sumTo_mono (f : Nat → Nat) {i k : Nat} (h : i ≤ k) : sumTo f i ≤ sumTo f k := by
  induction k with
  | zero => obtain rfl : i = 0 := by omega
            exact Nat.le_refl _
  | succ k ih =>
    by_cases e : i = k + 1
    · subst e; exact Nat.le_refl _
    · have := ih (by omega)
      rw [sumTo]; omega
structure ChoW (w : World) (Pk Pl Po Pn : Nat) (A : Option Addr) (cap : Nat) (ts : List Tri) (n k : Nat) : Prop where
  kc : w.cell? ⟨Pk, 0, none⟩ = some (.int .i64 (k : Int))
  lc : w.cell? ⟨Pl, 0, none⟩ = some (.slice A ts.length cap)
  oc : w.cell? ⟨Po, 0, none⟩ = some (.func (.func 49) #[] #[.pointer (some ⟨Pk, 0, none⟩), .pointer (some ⟨Pl, 0, none⟩), .pointer (some ⟨Po, 0, none⟩), .pointer (some ⟨Pn, 0, none⟩)])
  nc : w.cell? ⟨Pn, 0, none⟩ = some (.int .i64 (n : Int))
  tris : TrisI w A ts
theorem ChoW.below {w w1 : World} {Pk Pl Po Pn : Nat} {A : Option Addr} {cap : Nat} {ts : List Tri} {n k : Nat} (h : ChoW w Pk Pl Po Pn A cap ts n k) (hb : Below w.heap.size w w1) : ChoW w1 Pk Pl Po Pn A cap ts n k :=
  ⟨cellB hb h.kc, cellB hb h.lc, cellB hb h.oc, cellB hb h.nc, h.tris.below hb⟩
theorem and_one (s : Int) (h0 : 0 ≤ s) (h1 : s < 9223372036854775808) : bits .and .i64 s 1 = s % 2 :=
  bits_mask .i64 63 (by decide) (fun n h₀ h₁ => by rw [IntKind.wrap_i64]; omega) 1 (by decide) s h0 h1
theorem tri_facts {w : World} {b : Nat} {v0 v1 v2 : Value} {t : TypeId} (h : w.heap[b]? = some (.cells #[v0, v1, v2] t (0, 0))) :
    w.cell? ⟨b, 0, none⟩ = some v0 ∧ w.cell? ⟨b, 1, none⟩ = some v1 ∧ w.cell? ⟨b, 2, none⟩ = some v2 := by
  simp [World.cell?, h]
theorem or_bit : ∀ u : Fin 1024, ∀ i : Fin 10, u.val.testBit i.val = false → u.val ||| 2 ^ i.val = u.val + 2 ^ i.val ∧ u.val + 2 ^ i.val < 1024 := by decide +kernel
theorem or_new (u i : Nat) (hu : u < 2 ^ 10) (hi : i < 10) (h : u.testBit i = false) : bits .or .i64 (u : Int) ((2 ^ i : Nat) : Int) = ((u + 2 ^ i : Nat) : Int) ∧ u + 2 ^ i < 2 ^ 10 := by
  obtain ⟨h1, h2⟩ := or_bit ⟨u, hu⟩ ⟨i, hi⟩ h
  have h3 : 2 ^ i < 2 ^ 10 := Nat.pow_lt_pow_right (by omega) hi
  refine ⟨?_, h2⟩
  have := bits_nat .i64 10 (by decide) (fun n h₀ h₁ => by rw [IntKind.wrap_i64]; omega) u (2 ^ i) hu h3
  rw [this.2]
  exact congrArg _ h1
theorem bit_and (u t : Nat) : (u >>> t) % 2 = if u.testBit t then 1 else 0 := by
  rw [Nat.testBit_eq_decide_div_mod_eq, Nat.shiftRight_eq_div_pow]
  have : u / 2 ^ t % 2 < 2 := Nat.mod_lt _ (by omega)
  by_cases h : u / 2 ^ t % 2 = 1
  · simp [h]
  · simp [h]; omega
set_option linter.unusedSimpArgs false in
set_option maxHeartbeats 4000000 in
set_option maxRecDepth 100000 in
theorem cho_any (Pk Pl Po Pn : Nat) (A : Option Addr) (cap : Nat) (ts : List Tri) (n k : Nat) (hn : 3 ≤ n ∧ n ≤ 12) (hts : ts.length ≤ 10) : ∀ (d c used : Nat) (w : World), ChoW w Pk Pl Po Pn A cap ts n k → c < n → d < n → (c + d) % n = k → used < 2 ^ 10 →
    Calls Try.prog 49 #[.int .i64 (c : Int), .int .i64 (used : Int), .pointer (some ⟨Pk, 0, none⟩), .pointer (some ⟨Pl, 0, none⟩), .pointer (some ⟨Po, 0, none⟩), .pointer (some ⟨Pn, 0, none⟩)] w fun e w' => e = .returned (.int .i64 (choTo ts n d c used : Int)) ∧ Below w.heap.size w w' := by
  have hc49 : ∀ (args : Array Value) (w : World), (callFunc 49 args).run Try.prog w = .ok (.enter 49 args) w := enters_of Try.func49 (by kernel_rfl) rfl
  intro d
  induction d with
  | zero =>
    intro c used w hW hc hd hk hu
    have hck : c = k := by rw [Nat.add_zero, Nat.mod_eq_of_lt hc] at hk; exact hk
    subst hck
    have kc := hW.kc
    clear hW hk hd
    go_enter Try.func49, Try.ntmps49
    go_wp2
    go_ret
    exact ⟨rfl, Below.refl _ _⟩
  | succ d ih =>
    intro c used w hW hc hd hk hu
    have hck : (c : Int) ≠ (k : Int) := by
      intro e
      have e' : c = k := by omega
      subst e'
      by_cases h : c + (d + 1) < n
      · rw [Nat.mod_eq_of_lt h] at hk; omega
      · rw [Nat.mod_eq_sub_mod (by omega), Nat.mod_eq_of_lt (by omega)] at hk; omega
    have hckb : ((c : Int) == (k : Int)) = false := beq_eq_false_iff_ne.2 hck
    have hk' : ((c + 1) % n + d) % n = k := by rw [← hk, Nat.mod_add_mod]; congr 1; omega
    have hc' : (c + 1) % n < n := Nat.mod_lt _ (by omega)
    have IH := Off.mk (fun used' W (hW : ChoW W Pk Pl Po Pn A cap ts n k) (hu : used' < 2 ^ 10) => ih ((c + 1) % n) used' W hW hc' (by omega) hk' hu)
    have HIL := Off.mk (fun used' => choTo_le ts n hts d ((c + 1) % n) used')
    obtain ⟨F, hF⟩ : ∃ F : Nat → Nat, F = fun i => if used.testBit i = false ∧ (triL (ts.getD i (0, 0, 0))).contains (c : Int) = true then choTo ts n d ((c + 1) % n) (used + 2 ^ i) else 0 := ⟨_, rfl⟩
    have HC : Off (choTo ts n (d + 1) c used = sumTo F ts.length) := ⟨by rw [choTo, hF]⟩
    have HFv : Off (∀ i, F i = if used.testBit i = false ∧ (triL (ts.getD i (0, 0, 0))).contains (c : Int) = true then choTo ts n d ((c + 1) % n) (used + 2 ^ i) else 0) := ⟨fun i => by rw [hF]⟩
    obtain ⟨c1, hc1⟩ : ∃ c1, c1 = (c + 1) % n := ⟨_, rfl⟩
    rw [← hc1] at IH HIL HFv
    have t1 : ((c : Int) + 1) % (n : Int) = (c1 : Int) := by
      rw [hc1, show (c : Int) + 1 = ((c + 1 : Nat) : Int) by omega]
      exact (Int.natCast_emod _ _).symm
    have t2 : ((c : Int) + 1).tmod (n : Int) = (c1 : Int) := by rw [Int.tmod_eq_emod_of_nonneg (by omega)]; exact t1
    have t3 : IntKind.i64.wrap ((c : Int) + 1) = (c : Int) + 1 := by rw [IntKind.wrap_i64]; omega
    have hcI : (c : Int) < (n : Int) := by omega
    have hn0 : ¬ n = 0 := by omega
    have HW := Off.mk hW
    have HSB : Off (∀ i, i ≤ ts.length → sumTo F i ≤ 100000000000) := ⟨fun i hi => by
      have h1 := sumTo_mono F hi
      have h2 := choTo_le ts n hts (d + 1) c used
      rw [HC.out] at h2
      have h3 : (10 : Nat) ^ (d + 1) ≤ 10 ^ 11 := Nat.pow_le_pow_right (by omega) (by omega)
      omega⟩
    have HU := Off.mk hu
    have kc := hW.kc
    have lc := hW.lc
    clear hW hk hk' hc' ih hF hc1 hck
    go_enter Try.func49, Try.ntmps49
    go_wp2
    go_loopw [9, 17] (fun ov iv wr => ∃ i : Nat, i ≤ ts.length ∧ iv = .int .i64 i ∧ ov = .int .i64 (sumTo F i : Int) ∧ Off (Below w.heap.size w wr)) (fun _ iv _ => ts.length - (intOf iv).toNat)
    case atStart => exact ⟨0, by omega, rfl, rfl, ⟨Below.refl _ _⟩⟩
    case round =>
      obtain ⟨i, hi, rfl, rfl, HB⟩ := hrel
      have HWr := Off.mk (HW.out.below HB.out)
      by_cases hit : i < ts.length
      · have hiI : (i : Int) < (ts.length : Int) := by omega
        obtain ⟨ad, rfl, q0, q1, q2⟩ := HWr.out.tris.cell i hit
        obtain ⟨t, ht⟩ : ∃ t, t = ts.getD i (0, 0, 0) := ⟨_, rfl⟩
        have HFi := Off.mk (HFv.out i)
        rw [← ht] at q0 q1 q2 HFi
        clear ht
        have hi10 : i < 10 := by omega
        have hdiv : (0 : Int) ≤ (used : Int) / 2 ^ i ∧ (used : Int) / 2 ^ i < 9223372036854775808 := by
          have h1 : (used : Int) / 2 ^ i = ((used / 2 ^ i : Nat) : Int) := by simp
          have h2 : used / 2 ^ i ≤ used := Nat.div_le_self _ _
          obtain ⟨q, hq⟩ : ∃ q, q = used / 2 ^ i := ⟨_, rfl⟩
          rw [← hq] at h1 h2
          rw [h1]; omega
        have hbit : bits .and .i64 ((used : Int) / 2 ^ i) 1 = if used.testBit i then 1 else 0 := by
          rw [and_one _ hdiv.1 hdiv.2]
          have h1 : (used : Int) / 2 ^ i % 2 = ((used >>> i % 2 : Nat) : Int) := by rw [Nat.shiftRight_eq_div_pow]; simp
          rw [h1, bit_and]
          split <;> rfl
        have hB1 : Below wr.heap.size wr (wr.alloc (.cells #[.int .i64 (t.1 : Int), .int .i64 (t.2.1 : Int), .int .i64 (t.2.2 : Int)] 44)) := (Below.refl _ _).alloc (Nat.le_refl _) _
        have hb0 := block_new wr (.cells #[.int .i64 (t.1 : Int), .int .i64 (t.2.1 : Int), .int .i64 (t.2.2 : Int)] 44)
        have HW1 := Off.mk (HWr.out.below hB1)
        have HBB1 := Off.mk (belowC HB.out hB1)
        have HS : Off (sumTo F (i + 1) = sumTo F i + F i) := ⟨rfl⟩
        have HIT : Off (IntsAt (wr.alloc (.cells #[.int .i64 (t.1 : Int), .int .i64 (t.2.1 : Int), .int .i64 (t.2.2 : Int)] 44)) (some ⟨wr.heap.size, 0, none⟩) (triL t)) := ⟨⟨by simp [triL], fun j hj => ⟨_, rfl, by
          rw [Addr.add_lit, Nat.zero_add]
          obtain rfl | rfl | rfl : j = 0 ∨ j = 1 ∨ j = 2 := by simp [triL] at hj; omega
          · exact (tri_facts hb0).1
          · exact (tri_facts hb0).2.1
          · exact (tri_facts hb0).2.2⟩⟩⟩
        have CT := Off.mk (fun v hv => contains_int (c : Int) (triL t) _ 3 v hv _ HIT.out)
        obtain ⟨s, hs⟩ : ∃ s, s = sumTo F i := ⟨_, rfl⟩
        rw [← hs] at HS ⊢
        clear hdiv hb0 HIT hB1 hs
        cases hbt : used.testBit i
        · rw [hbt, if_neg (by decide)] at hbit
          cases hct : (triL t).contains (c : Int)
          · have CT' := Off.mk (CT.out _ hct)
            have HSn : Off (sumTo F (i + 1) = s) := ⟨by rw [HS.out, HFi.out, hct]; simp⟩
            clear hbt hct CT HFi HS
            go_wp2_with (go_at_call 50; refine CT'.out.mono ?_; rintro e w1 ⟨rfl, hw⟩; subst w1)
            go_roundw
            case rel => exact ⟨i + 1, by omega, by go_num, by rw [HSn.out], HBB1⟩
            case measure => simp only [intOf]; omega
          · have CT' := Off.mk (CT.out _ hct)
            obtain ⟨ho, hu2⟩ := or_new used i HU.out hi10 hbt
            have HSn : Off (sumTo F (i + 1) = s + choTo ts n d c1 (used + 2 ^ i)) := ⟨by rw [HS.out, HFi.out, hct, hbt]; simp⟩
            have hsb := HSB.out (i + 1) (by omega)
            rw [HSn.out] at hsb
            have CR := Off.mk (fun W (hW : ChoW W Pk Pl Po Pn (some ad) cap ts n k) => IH.out (used + 2 ^ i) W hW hu2)
            obtain ⟨x, hx⟩ : ∃ x, x = choTo ts n d c1 (used + 2 ^ i) := ⟨_, rfl⟩
            rw [← hx] at CR HSn hsb
            obtain ⟨u2, hu2'⟩ : ∃ u2, u2 = used + 2 ^ i := ⟨_, rfl⟩
            rw [← hu2'] at CR ho
            have hp2 : (2 : Int) ^ i ≤ 512 := by
              have : 2 ^ i ≤ 2 ^ 9 := Nat.pow_le_pow_right (n := 2) (by omega) (by omega)
              exact_mod_cast this
            have hp0 : (0 : Int) < 2 ^ i := Int.pow_pos (by omega)
            have hpw : IntKind.i64.wrap ((2 : Int) ^ i) = 2 ^ i := by rw [IntKind.wrap_i64]; omega
            have ho' : bits .or .i64 (used : Int) ((2 : Int) ^ i) = (u2 : Int) := by rw [← ho]; simp
            have hws : IntKind.i64.wrap ((s : Int) + (x : Int)) = (s : Int) + (x : Int) := by rw [IntKind.wrap_i64]; omega
            have oc := HW1.out.oc
            have nc := HW1.out.nc
            clear hbt hct CT HFi HS hx hu2' hu2 ho hsb
            go_wp2_with (go_at_call 50; refine CT'.out.mono ?_; rintro e w1 ⟨rfl, hw⟩; subst w1)
            obtain ⟨w2, hw2⟩ : ∃ w2, w2 = wr.alloc (.cells #[.int .i64 (t.1 : Int), .int .i64 (t.2.1 : Int), .int .i64 (t.2.2 : Int)] 44) := ⟨_, rfl⟩
            rw [← hw2] at HW1 HBB1 oc nc CT' ⊢
            clear hw2 CT' q0 q1 q2
            refine wp_region_held_drew (S := (fun w' => w'.cell? ⟨Po, 0, none⟩ = some (.func (.func 49) #[] #[.pointer (some ⟨Pk, 0, none⟩), .pointer (some ⟨Pl, 0, none⟩), .pointer (some ⟨Po, 0, none⟩), .pointer (some ⟨Pn, 0, none⟩)]) ∧ w'.cell? ⟨Pn, 0, none⟩ = some (.int .i64 (n : Int)))) (by kernel_rfl) ⟨oc, nc⟩ (fun hHeld => ?_)
            refine wpAnyH_take (i := 0) (oi := ⟨some 32, _, _, _, _, _⟩) (v := ?_) rfl (by kernel_rfl) (by kernel_rfl) (by kernel_rfl) (fun _ _ _ h => h) (Or.inl ⟨by rfl, by intro w hSw; (try dsimp only at hSw); go_simp; try with_reducible rfl⟩) hHeld ?_
            try simp only [Act.put, List.setIfInBounds_toArray, List.set_cons_zero, List.set_cons_succ]
            refine wpAnyH_take (i := 1) (oi := ⟨some 33, _, _, _, _, _⟩) (v := ?_) rfl (by kernel_rfl) (by kernel_rfl) (by kernel_rfl) (fun _ _ _ h => h) (Or.inl ⟨by rfl, by intro w hSw; (try dsimp only at hSw); go_simp; try with_reducible rfl⟩) hHeld ?_
            try simp only [Act.put, List.setIfInBounds_toArray, List.set_cons_zero, List.set_cons_succ]
            refine wpAnyH_take (i := 2) (oi := ⟨some 34, _, _, _, _, _⟩) (v := ?_) rfl (by kernel_rfl) (by kernel_rfl) (by kernel_rfl) (fun _ _ _ h => h) (Or.inl ⟨by rfl, by intro w hSw; (try dsimp only at hSw); go_simp; try with_reducible rfl⟩) hHeld ?_
            try simp only [Act.put, List.setIfInBounds_toArray, List.set_cons_zero, List.set_cons_succ]
            refine wpAnyH_take (i := 3) (oi := ⟨some 35, _, _, _, _, _⟩) (v := ?_) rfl (by kernel_rfl) (by kernel_rfl) (by kernel_rfl) (fun _ _ _ h => h) (Or.inl ⟨by rfl, by intro w hSw; (try dsimp only at hSw); go_simp; try with_reducible rfl⟩) hHeld ?_
            try simp only [Act.put, List.setIfInBounds_toArray, List.set_cons_zero, List.set_cons_succ]
            refine wpAnyH_take (i := 4) (oi := ⟨some 36, _, _, _, _, _⟩) (v := ?_) rfl (by kernel_rfl) (by kernel_rfl) (by kernel_rfl) (fun _ _ _ h => h) (Or.inl ⟨by rfl, by intro w hSw; (try dsimp only at hSw); go_simp; try with_reducible rfl⟩) hHeld ?_
            try simp only [Act.put, List.setIfInBounds_toArray, List.set_cons_zero, List.set_cons_succ]
            refine wpAnyH_take (i := 5) (oi := ⟨some 37, _, _, _, _, _⟩) (v := ?_) rfl (by kernel_rfl) (by kernel_rfl) (by kernel_rfl) (fun _ _ _ h => h) (Or.inl ⟨by rfl, by intro w hSw; (try dsimp only at hSw); go_simp; try with_reducible rfl⟩) hHeld ?_
            try simp only [Act.put, List.setIfInBounds_toArray, List.set_cons_zero, List.set_cons_succ]
            refine wpAnyH_take (i := 6) (oi := ⟨some 38, _, _, _, _, _⟩) (v := ?_) rfl (by kernel_rfl) (by kernel_rfl) (by kernel_rfl) (fun _ _ _ h => h) (Or.inl ⟨by rfl, by intro w hSw; (try dsimp only at hSw); go_simp; try with_reducible rfl⟩) hHeld ?_
            try simp only [Act.put, List.setIfInBounds_toArray, List.set_cons_zero, List.set_cons_succ]
            refine wpAnyH_take (i := 7) (oi := ⟨some 39, _, _, _, _, _⟩) (v := ?_) rfl (by kernel_rfl) (by kernel_rfl) (by kernel_rfl) (fun _ _ _ h => h) (Or.inl ⟨by rfl, by intro w hSw; (try dsimp only at hSw); go_simp; try with_reducible rfl⟩) hHeld ?_
            try simp only [Act.put, List.setIfInBounds_toArray, List.set_cons_zero, List.set_cons_succ]
            refine wpAnyH_take (i := 8) (oi := ⟨some 40, _, _, _, _, _⟩) (v := ?_) rfl (by kernel_rfl) (by kernel_rfl) (by kernel_rfl) (fun _ _ _ h => h) (Or.inl ⟨by rfl, by intro w hSw; (try dsimp only at hSw); go_simp; try with_reducible rfl⟩) hHeld ?_
            try simp only [Act.put, List.setIfInBounds_toArray, List.set_cons_zero, List.set_cons_succ]
            refine wpAnyH_take (i := 9) (oi := ⟨some 41, _, _, _, _, _⟩) (v := ?_) rfl (by kernel_rfl) (by kernel_rfl) (by kernel_rfl) (fun _ _ _ h => h) (Or.inl ⟨by rfl, by intro w hSw; (try dsimp only at hSw); go_simp; try with_reducible rfl⟩) hHeld ?_
            try simp only [Act.put, List.setIfInBounds_toArray, List.set_cons_zero, List.set_cons_succ]
            refine wpAnyH_ready (rs := [10]) (by kernel_rfl) (by simp) ?_
            refine AllReadyH.cons (o := ⟨some 42, _, _, _, _, _⟩) rfl (fun K hK => ?_) AllReadyH.nil
            go_simp
            go_at_fn 49
            refine (CR.out w2.drew ⟨HW1.out.kc, HW1.out.lc, HW1.out.oc, HW1.out.nc, ⟨HW1.out.tris.len, HW1.out.tris.cell⟩⟩).mono ?_
            rintro e w3 ⟨rfl, hb3⟩
            have HB3 := Off.mk (belowC (below_drew HBB1.out) hb3)
            go_wp2_with fail
            refine hK.out _ _ ⟨cellB hb3 hHeld.1, cellB hb3 hHeld.2⟩ (fun hHeld => ?_)
            clear hK K
            try simp only [Act.put, List.setIfInBounds_toArray, List.set_cons_zero, List.set_cons_succ]
            refine wpAnyH_take (i := 11) (oi := ⟨some 43, _, _, _, _, _⟩) (v := ?_) rfl (by kernel_rfl) (by kernel_rfl) (by kernel_rfl) (fun _ _ _ h => h) (Or.inl ⟨by rfl, by intro w hSw; (try dsimp only at hSw); go_simp; try with_reducible rfl⟩) hHeld ?_
            try simp only [Act.put, List.setIfInBounds_toArray, List.set_cons_zero, List.set_cons_succ]
            refine wpAnyH_take (i := 12) (oi := ⟨some 9, _, _, _, _, _⟩) (v := ?_) rfl (by kernel_rfl) (by kernel_rfl) (by kernel_rfl) (fun _ _ _ h => h) (Or.inl ⟨by rfl, by intro w hSw; (try dsimp only at hSw); go_simp; try with_reducible rfl⟩) hHeld ?_
            try simp only [Act.put, List.setIfInBounds_toArray, List.set_cons_zero, List.set_cons_succ]
            refine wpAnyH_done (by kernel_rfl) ?_ _
            go_wp2
            go_roundw
            case rel => exact ⟨i + 1, by omega, by go_num, by rw [HSn.out]; simp, HB3⟩
            case measure => simp only [intOf]; omega
        · rw [hbt, if_pos rfl] at hbit
          have HSn : Off (sumTo F (i + 1) = s) := ⟨by rw [HS.out, HFi.out, hbt]; simp⟩
          clear hbt CT HFi HS
          go_wp2
          go_roundw
          case rel => exact ⟨i + 1, by omega, by go_num, by rw [HSn.out], HBB1⟩
          case measure => simp only [intOf]; omega
      · obtain rfl : i = ts.length := by omega
        go_wp2
        go_ret
        exact ⟨by rw [HC.out]; rfl, HB.out⟩
end Go.Proofs.Ytddcdopimpfhcaa
