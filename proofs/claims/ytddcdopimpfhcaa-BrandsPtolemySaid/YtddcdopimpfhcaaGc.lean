/- The law BrandsPtolemy: its walk. -/
import Derived.Test.YtddcdopimpfhcaaFi
import Derived.Test.YtddcdopimpfhcaaCj
import Derived.Laws.BitsAllLaws
namespace Go.Proofs.Ytddcdopimpfhcaa
open Go.RowKit Go.Shelf

theorem brandLp {n : Int} {l : List (Int × Int)} (h : brandB n l = true) : BrandL n l := (brandL_iff n l).1 ((brand_iff n l).1 h)
theorem round_rP {n : Nat} {l : List (Int × Int)} (h : BrandL n l) : roundB (roundOf n l) = true := by
  have hs := h.size
  have hR := rd_round h
  have hl : (roundOf n l).length = n := by rw [roundOf, roundTo_len]
  rw [roundB_iff, hl]
  refine ⟨by omega, fun j hj => ?_⟩
  have := hR.get j (by rw [natsI_len]; exact hj)
  have hc : cnt l ((natsI n).getD j 0) ≤ l.length := List.countP_le_length
  omega
theorem round_ap (n : Nat) (l : List (Int × Int)) (hv : brandB n l = true) (A : Option Addr) (c : Nat) (w : World) (hx : PairsI w A l) (hlc : l.length ≤ c) :
    Calls Try.prog 30 #[.int .i64 (n : Int), .slice A l.length c] w fun e w' => ∃ A' c', e = .returned (.tuple #[.slice A' n c', .int .i64 0]) ∧ IntsAt w' A' (roundOf n l) ∧ Below w.heap.size w w' := by
  have hr := brand_range hv
  have hl : (roundOf n l).length = n := by rw [roundOf, roundTo_len]
  refine (Round_yes n l A c hv w hx hlc).mono ?_
  rintro e w' ⟨v, rfl, hO, hb⟩
  obtain ⟨A', c', rfl, h1, h2, h3⟩ := own_ints' hO (by rw [hl]; omega)
  exact ⟨A', c', by rw [hl], h1, hb⟩
theorem between_ik (q : List Int) (n : Nat) (hn : q.length = n) (A : Option Addr) (c i k : Nat) (hb : roundB q = true) (hik : i ≤ k) (hk : k < n) (z : Int) (hz : z = eN q i (k - i)) (w : World) (hl : IntsAt w A q) :
    Calls Try.prog 33 #[.slice A n c, .int .i64 (i : Int), .int .i64 (k : Int)] w fun e w' => e = .returned (.tuple #[.int .i64 z, .int .i64 0]) ∧ Below w.heap.size w w' := by
  subst hn
  have h := between_yes q A c i (k - i) hb (by omega) (by omega) w hl
  rw [show (i : Int) + ((k - i : Nat) : Int) = (k : Int) by omega] at h
  rw [hz]
  exact h
theorem rnear_comm (n : Nat) (l : List (Int × Int)) (i k : Nat) : rnearB n l i k = rnearB n l k i := by
  unfold rnearB
  rw [show min (i : Int) (k : Int) = min (k : Int) (i : Int) by omega, show max (i : Int) (k : Int) = max (k : Int) (i : Int) by omega]
  cases decide ((i + 1) % n = k) <;> cases decide ((k + 1) % n = i) <;> rfl
theorem Vecs.rnear {n : Nat} {l : List (Int × Int)} {q : List Int} {v : Int → Int × Int} (h : Vecs n l q v) {i k : Nat} (hik : i < k) (hk : k < n) : (Go.Proofs.Ytddcdopimpfhcaa.eN q i (k - i) == 1) = rnearB n l i k := by
  rw [Bool.eq_iff_iff, beq_iff_eq, h.near hik hk, jn_eq n l i k hik hk]
  exact Iff.rfl
/-- Two numbers that follow in a list are put in order. -/
def exch (l : List Int) (b : Nat) : List Int := if l.getD (b + 1) 0 < l.getD b 0 then (l.set b (l.getD (b + 1) 0)).set (b + 1) (l.getD b 0) else l
def inn (l : List Int) : Nat → List Int
  | 0 => l
  | b + 1 => exch (inn l b) b
def outp (l : List Int) : Nat → List Int
  | 0 => l
  | a + 1 => inn (outp l a) 3
theorem exch0 (x y z t : Int) : exch [x, y, z, t] 0 = [min x y, max x y, z, t] := by
  unfold exch
  by_cases h : y < x
  · have e1 : min x y = y := by omega
    have e2 : max x y = x := by omega
    simp [h, e1, e2]
  · have e1 : min x y = x := by omega
    have e2 : max x y = y := by omega
    simp [h, e1, e2]
theorem exch1 (x y z t : Int) : exch [x, y, z, t] 1 = [x, min y z, max y z, t] := by
  unfold exch
  by_cases h : z < y
  · have e1 : min y z = z := by omega
    have e2 : max y z = y := by omega
    simp [h, e1, e2]
  · have e1 : min y z = y := by omega
    have e2 : max y z = z := by omega
    simp [h, e1, e2]
theorem exch2 (x y z t : Int) : exch [x, y, z, t] 2 = [x, y, min z t, max z t] := by
  unfold exch
  by_cases h : t < z
  · have e1 : min z t = t := by omega
    have e2 : max z t = z := by omega
    simp [h, e1, e2]
  · have e1 : min z t = z := by omega
    have e2 : max z t = t := by omega
    simp [h, e1, e2]
theorem inn3 (x y z t : Int) : ∃ p q r s, inn [x, y, z, t] 3 = [p, q, r, s] ∧ (p ≤ s ∧ q ≤ s ∧ r ≤ s) ∧ ((x ≤ t ∧ y ≤ t ∧ z ≤ t) → s = t ∧ p ≤ r ∧ q ≤ r) ∧ ((x ≤ t ∧ y ≤ t ∧ z ≤ t) → (x ≤ z ∧ y ≤ z) → s = t ∧ r = z ∧ p ≤ q) ∧ ∀ m, x < m → y < m → z < m → t < m → 0 ≤ x → 0 ≤ y → 0 ≤ z → 0 ≤ t → (0 ≤ p ∧ p < m) ∧ (0 ≤ q ∧ q < m) ∧ (0 ≤ r ∧ r < m) ∧ (0 ≤ s ∧ s < m) := by
  refine ⟨min x y, min (max x y) z, min (max (max x y) z) t, max (max (max x y) z) t, ?_, by omega, by omega, by omega, by omega⟩
  show exch (exch (exch [x, y, z, t] 0) 1) 2 = _
  rw [exch0, exch1, exch2]
/-- Four numbers in order. -/
theorem outp4 (x y z t : Nat) (hx : x < 16) (hy : y < 16) (hz : z < 16) (ht : t < 16) : ∃ p q r s : Nat, outp [(x : Int), (y : Int), (z : Int), (t : Int)] 4 = [(p : Int), (q : Int), (r : Int), (s : Int)] ∧ p ≤ q ∧ q ≤ r ∧ r ≤ s ∧ s < 16 := by
  obtain ⟨a1, b1, c1, d1, e1, h1, _, _, r1⟩ := inn3 x y z t
  have r1' := r1 16 (by omega) (by omega) (by omega) (by omega) (by omega) (by omega) (by omega) (by omega)
  obtain ⟨a2, b2, c2, d2, e2, _, h2, _, r2⟩ := inn3 a1 b1 c1 d1
  have h2' := h2 h1
  have r2' := r2 16 (by omega) (by omega) (by omega) (by omega) (by omega) (by omega) (by omega) (by omega)
  obtain ⟨a3, b3, c3, d3, e3, _, _, h3, r3⟩ := inn3 a2 b2 c2 d2
  have h3' := h3 (by omega) (by omega)
  have r3' := r3 16 (by omega) (by omega) (by omega) (by omega) (by omega) (by omega) (by omega) (by omega)
  obtain ⟨a4, b4, c4, d4, e4, _, _, h4, r4⟩ := inn3 a3 b3 c3 d3
  have h4' := h4 (by omega) (by omega)
  have r4' := r4 16 (by omega) (by omega) (by omega) (by omega) (by omega) (by omega) (by omega) (by omega)
  refine ⟨a4.toNat, b4.toNat, c4.toNat, d4.toNat, ?_, by omega, by omega, by omega, by omega⟩
  show inn (inn (inn (inn [(x : Int), (y : Int), (z : Int), (t : Int)] 3) 3) 3) 3 = _
  rw [e1, e2, e3, e4]
  congr 1
  · omega
  · congr 1
    · omega
    · congr 1
      · omega
      · congr 1
        omega
theorem exch_len (l : List Int) (b : Nat) : (exch l b).length = l.length := by
  unfold exch
  split <;> simp
theorem inn_len (l : List Int) : ∀ b, (inn l b).length = l.length
  | 0 => rfl
  | b + 1 => by rw [inn, exch_len, inn_len l b]
theorem outp_len (l : List Int) : ∀ a, (outp l a).length = l.length
  | 0 => rfl
  | a + 1 => by rw [outp, inn_len, outp_len l a]
set_option maxRecDepth 100000 in
theorem ptolemy_many (n : Int) (l : List (Int × Int)) (A : Option Addr) (c : Nat) (x : Int) (w : World) (h60 : 60 < l.length) :
    Calls Try.prog 10 #[.int .i64 n, .slice A l.length c, .int .u16 x] w fun e w' => e = .returned (.bool true) ∧ Below w.heap.size w w' := by
  go_enter Try.func10, Try.ntmps10
  go_wp2_with (go_at_call 17; refine (alive_any _).mono ?_; rintro e w2 ⟨rfl, hb2⟩)
  go_ret
  exact ⟨rfl, hb2⟩
set_option maxRecDepth 100000 in
theorem ptolemy_no (n : Int) (l : List (Int × Int)) (A : Option Addr) (c : Nat) (x : Int) (w : World) (h60 : l.length ≤ 60) (hv : rbrandB n l = false) (hx : PairsI w A l) :
    Calls Try.prog 10 #[.int .i64 n, .slice A l.length c, .int .u16 x] w fun e w' => e = .returned (.bool true) ∧ Below w.heap.size w w' := by
  have hf : decide ((60 : Int) < (l.length : Int)) = false := by rw [decide_eq_false_iff_not]; omega
  have CR := Off.mk (rbrand_any n l A c false hv w hx)
  clear hv hx
  go_enter Try.func10, Try.ntmps10
  go_wp2_with fail
  refine CR.out.mono ?_
  rintro e w1 ⟨rfl, hb1⟩
  have HB1 := Off.mk hb1
  clear hb1
  go_wp2_with (go_at_call 17; refine (alive_any _).mono ?_; rintro e w2 ⟨rfl, hb2⟩)
  go_ret
  exact ⟨rfl, belowC HB1.out hb2⟩
theorem mul_4k {x y : Int} (hx : 0 ≤ x ∧ x ≤ 4096) (hy : 0 ≤ y ∧ y ≤ 4096) : 0 ≤ x * y ∧ x * y ≤ 16777216 := by
  have h1 := Int.mul_nonneg hx.1 hy.1
  have h2 := Int.mul_le_mul hx.2 hy.2 hy.1 (by omega : (0 : Int) ≤ 4096)
  omega
end Go.Proofs.Ytddcdopimpfhcaa
