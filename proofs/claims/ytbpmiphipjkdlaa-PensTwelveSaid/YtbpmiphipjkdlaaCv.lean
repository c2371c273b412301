/- Plain: pens that turn left, straight posts among them: seen in any direction they go up once and down once. Plain: signs around whose variation is four come in phases: none, up, none, down. Plain: a pen that turns left, straight posts among them, lies left of each side, or on its line. Plain: a pen that turns left is no smaller than four of its posts. Plain: the border of a pen that turns left, by its flat sides and its height. Plain: the heights of a pen that turns left; how much area it must have. Plain: the area of a pen that turns left, by its width. Plain: each post of a pen that turns left lies between the farthest ones of both chains. Plain: each post of a pen that turns left lies right of the farthest one of the chain that goes down. Plain: a pen that turns left has phases. Plain: the area of a pen that turns left and is nowhere narrower than it is high. Plain: sheared so that bottom and top are near to each other. Plain: Scott's inequality for a pen that turns left, is at least two high, and nowhere narrower than high. Plain: the turns of a convex pen. Plain: the area of a pen that is one high. Plain: the border of a pen that turns left, from below. Plain: Scott's inequality for a pen that turns left, with as much area as border, nowhere narrower than high. The walk of PensScott, but for the plain law. Plain: Scott's inequality for all pens that turn to one side alone. -/
import Derived.Test.YtbpmiphipjkdlaaCc
import Derived.Test.YtbpmiphipjkdlaaBj
import Derived.Test.YtbpmiphipjkdlaaBi
import Derived.Test.YtbpmiphipjkdlaaBa
namespace Go.Proofs.Ytbpmiphipjkdlaa
section
open Go.RowKit Go.Shelf

/-- Two sides in a row on one line lead in the same direction. -/
theorem straight_on {n : Nat} {v : Nat → Int × Int} (hp : Pk.Pen n v) (j : Nat) (h : Pk.crs (Pk.dv v j) (Pk.dv v (j + 1)) = 0) : 0 < Pk.dt (Pk.dv v j) (Pk.dv v (j + 1)) := by
  have h1 := hp.fold j
  have ha := Pk.sq_pos (Pk.vsub_ne (hp.ne j))
  have hb := Pk.sq_pos (Pk.vsub_ne (hp.ne (j + 1)))
  unfold Pk.dv at h ⊢
  rw [show j + 1 + 1 = j + 2 by omega] at *
  obtain ⟨a, ea⟩ : ∃ a, a = Pk.vsub (v (j + 1)) (v j) := ⟨_, rfl⟩
  obtain ⟨b, eb⟩ : ∃ b, b = Pk.vsub (v (j + 2)) (v (j + 1)) := ⟨_, rfl⟩
  rw [← ea] at ha
  rw [← eb] at hb
  rw [← ea, ← eb] at h h1 ⊢
  have lag : Pk.dt a b * Pk.dt a b = Pk.dt a a * Pk.dt b b - Pk.crs a b * Pk.crs a b := by unfold Pk.dt Pk.crs; grind
  rw [h, Int.mul_zero] at lag
  have hm := Int.mul_pos ha hb
  rcases Int.lt_trichotomy (Pk.dt a b) 0 with h2 | h2 | h2
  · exact absurd ⟨h, h2⟩ h1
  · rw [h2] at lag; omega
  · exact h2
/-- Seen along e, the sides' signs turn four times in all. -/
theorem var_four {n : Nat} {v : Nat → Int × Int} (hp : Pk.Pen n v) (hl : ∀ j, 0 ≤ Pk.crs (Pk.dv v j) (Pk.dv v (j + 1))) {e : Int × Int} (hne : e ≠ (0, 0)) (i : Nat) :
    Pk.nsum (fun k => (((Pk.crs e (Pk.dv v (i + k + 1))).sign - (Pk.crs e (Pk.dv v (i + k))).sign).natAbs : Int)) n = 4 := by
  have hD : 0 < e.1 * e.1 - e.2 * (-e.2) := by have := Pk.sq_pos hne; unfold Pk.dt at this; rw [Int.mul_neg]; omega
  have hpu : Pk.Pen n (fun j => shr e.1 e.2 (-e.2) e.1 (v j)) := pen_lin (b0 := e.1) (b1 := e.2) (b2 := -e.2) (b3 := e.1) (by omega) hp (fun _ => rfl)
  have hdu : ∀ j, Pk.dv (fun j => shr e.1 e.2 (-e.2) e.1 (v j)) j = shr e.1 e.2 (-e.2) e.1 (Pk.dv v j) := fun j => by unfold Pk.dv; rw [shr_sub]
  obtain ⟨s, hs⟩ : ∃ s : Nat → Int, s = fun j => (Pk.crs e (Pk.dv v j)).sign := ⟨_, rfl⟩
  have htau : ∀ j, Pk.tau (fun j => shr e.1 e.2 (-e.2) e.1 (v j)) j = ((s (j + 1) - s j).natAbs : Int) := fun j => by
    unfold Pk.tau Pk.W
    have e1 : ∀ x : Int × Int, (shr e.1 e.2 (-e.2) e.1 x).2 = Pk.crs e x := fun x => by unfold shr Pk.crs; simp only; grind
    rw [hdu, hdu, shr_crs, e1, e1]
    have hsj : ∀ k, (Pk.crs e (Pk.dv v k)).sign = s k := fun k => by rw [hs]
    rw [hsj, hsj]
    by_cases h0 : Pk.crs (Pk.dv v j) (Pk.dv v (j + 1)) = 0
    · have hd := straight_on hp j h0
      have hss : s (j + 1) = s j := by
        rw [← hsj, ← hsj]
        have e2 : Pk.dt (Pk.dv v j) (Pk.dv v j) * Pk.crs e (Pk.dv v (j + 1)) = Pk.dt (Pk.dv v j) (Pk.dv v (j + 1)) * Pk.crs e (Pk.dv v j) + Pk.crs (Pk.dv v j) (Pk.dv v (j + 1)) * Pk.dt e (Pk.dv v j) := by unfold Pk.dt Pk.crs; grind
        rw [h0, Int.zero_mul, Int.add_zero] at e2
        have hq := Pk.sq_pos (Pk.vsub_ne (hp.ne j))
        have k1 := Pk.pos_iff (x := Pk.crs e (Pk.dv v (j + 1))) hq
        have k2 := Pk.pos_iff (x := Pk.crs e (Pk.dv v j)) hd
        have e3 : Pk.dt (Pk.vsub (v (j + 1)) (v j)) (Pk.vsub (v (j + 1)) (v j)) = Pk.dt (Pk.dv v j) (Pk.dv v j) := rfl
        rw [e3, e2] at k1
        rcases Pk.sign_cases (Pk.crs e (Pk.dv v j)) with ⟨f, g⟩ | ⟨f, g⟩ | ⟨f, g⟩
        · rw [f]; exact Int.sign_eq_one_of_pos (k1.1.1 (k2.1.2 g))
        · rw [f, k1.2.1.1 (k2.2.1.2 g)]; rfl
        · rw [f]; exact Int.sign_eq_neg_one_of_neg (k1.2.2.1 (k2.2.2.2 g))
      rw [hss]
      simp
    · have hpos := hl j
      rw [Int.sign_eq_one_of_pos (Int.mul_pos hD (show 0 < Pk.crs (Pk.dv v j) (Pk.dv v (j + 1)) by omega)), Int.mul_one]
  have hsp : ∀ j, s (j + n) = s j := fun j => by rw [hs]; simp only; rw [dv_per hp]
  have goal : Pk.nsum (fun k => ((s (i + k + 1) - s (i + k)).natAbs : Int)) n = 4 := by
    have h1 := Pk.taus_all hpu
    rw [Pk.taus_nsum, Pk.nsum_congr n (fun j _ => htau j)] at h1
    have h2 := nsum_rot (F := fun k => ((s (k + 1) - s k).natAbs : Int)) (n := n) (fun j => by rw [show j + n + 1 = j + 1 + n by omega, hsp, hsp]) i
    have h3 : 0 ≤ Pk.nsum (fun k => ((s (i + k + 1) - s (i + k)).natAbs : Int)) n := by
      have := var_ge (fun k => s (i + k)) 0 n
      simp only [Nat.zero_add, Pk.nsum] at this
      have e : Pk.nsum (fun k => ((s (i + (k + 1)) - s (i + k)).natAbs : Int)) n = Pk.nsum (fun k => ((s (i + k + 1) - s (i + k)).natAbs : Int)) n := rfl
      omega
    rcases Pk.rho_two hpu with e | e <;> rw [e] at h1 <;> omega
  rw [hs] at goal
  exact goal
end
section
open Go.RowKit Go.Shelf

structure Phases (s : Nat → Int) (n i a b c : Nat) : Prop where
  ab : a < b
  bc : b ≤ c
  cn : c < n
  low : ∀ k, k < a → s (i + k) = 0
  up : ∀ k, a ≤ k → k < b → s (i + k) = 1
  top : ∀ k, b ≤ k → k < c → s (i + k) = 0
  down : ∀ k, c ≤ k → k < n → s (i + k) = -1
theorem phases {s : Nat → Int} {n : Nat} (hn : 0 < n) (hv : ∀ j, s j = 1 ∨ s j = 0 ∨ s j = -1) (hp : ∀ j, s (j + n) = s j)
    (h4 : ∀ i, Pk.nsum (fun k => ((s (i + (k + 1)) - s (i + k)).natAbs : Int)) n = 4) (hpos : ∃ j, s j = 1) (hneg : ∃ j, s j = -1) : ∃ i a b c, Phases s n i a b c := by
  obtain ⟨i0, h0⟩ := hneg
  obtain ⟨m, hm0, hmn, hm⟩ : ∃ m, 0 < m ∧ m < n ∧ s (i0 + m) = 1 := by
    obtain ⟨j, hj⟩ := hpos
    have hq : ∀ q j, s (j + q * n) = s j := by
      intro q
      induction q with
      | zero => intro j; rw [Nat.zero_mul, Nat.add_zero]
      | succ q ih => intro j; rw [Nat.add_mul, Nat.one_mul, ← Nat.add_assoc, hp, ih]
    refine ⟨(j + i0 * (n - 1)) % n, ?_, Nat.mod_lt _ hn, ?_⟩
    · apply Nat.pos_of_ne_zero
      intro e
      have hd := Nat.div_add_mod (j + i0 * (n - 1)) n
      rw [e, Nat.add_zero, Nat.mul_comm] at hd
      have e1 : j + i0 * n = i0 + (j + i0 * (n - 1)) := by
        obtain ⟨k, rfl⟩ : ∃ k, n = k + 1 := ⟨n - 1, by omega⟩
        rw [Nat.add_sub_cancel, Nat.mul_add]
        omega
      have e2 := hq i0 j
      rw [e1, ← hd, hq] at e2
      omega
    · have hd := Nat.div_add_mod (j + i0 * (n - 1)) n
      have e1 : j + i0 * n = i0 + (j + i0 * (n - 1)) := by
        obtain ⟨k, rfl⟩ : ∃ k, n = k + 1 := ⟨n - 1, by omega⟩
        rw [Nat.add_sub_cancel, Nat.mul_add]
        omega
      have e2 := hq i0 j
      have e3 := hq ((j + i0 * (n - 1)) / n) (i0 + (j + i0 * (n - 1)) % n)
      rw [e1] at e2
      rw [Nat.mul_comm n] at hd
      rw [← e3, show i0 + (j + i0 * (n - 1)) % n + (j + i0 * (n - 1)) / n * n = i0 + (j + i0 * (n - 1)) by omega, e2]
      exact hj
  obtain ⟨d, hd, hdm, hdl⟩ := Pk.least_nat (P := fun d => 0 < d ∧ s (i0 + d) ≠ -1) m ⟨hm0, by omega⟩
  obtain ⟨r, hr⟩ : ∃ r, r = i0 + d - 1 := ⟨_, rfl⟩
  have sr : s r = -1 := by
    by_cases e : d = 1
    · rw [hr, e]; exact h0
    · have := hdl (d - 1) (by omega)
      rw [hr, show i0 + d - 1 = i0 + (d - 1) by omega]
      exact Classical.byContradiction fun h => this ⟨by omega, h⟩
  have si : s (r + 1) ≠ -1 := by rw [hr, show i0 + d - 1 + 1 = i0 + d by omega]; exact hd.2
  have sn : s (r + n) = -1 := by rw [hp, sr]
  have V := h4 r
  have V0 : Pk.nsum (fun k => ((s (r + (k + 1)) - s (r + k)).natAbs : Int)) 0 = 0 := rfl
  have seg : ∀ x y, x ≤ y → ((s (r + y) - s (r + x)).natAbs : Int) ≤ Pk.nsum (fun k => ((s (r + (k + 1)) - s (r + k)).natAbs : Int)) y - Pk.nsum (fun k => ((s (r + (k + 1)) - s (r + k)).natAbs : Int)) x := fun x y h => by
    have := var_ge (fun k => s (r + k)) x (y - x)
    rwa [show x + (y - x) = y by omega] at this
  obtain ⟨N, hN⟩ : ∃ N : Nat → Int, N = fun t => Pk.nsum (fun k => ((s (r + (k + 1)) - s (r + k)).natAbs : Int)) t := ⟨_, rfl⟩
  have V' : N n = 4 := by rw [hN]; exact V
  have V0' : N 0 = 0 := by rw [hN]; exact V0
  have seg' : ∀ x y, x ≤ y → ((s (r + y) - s (r + x)).natAbs : Int) ≤ N y - N x := fun x y h => by rw [hN]; exact seg x y h
  clear V V0 seg hN
  obtain ⟨a, ha, ham, hal⟩ := Pk.least_nat (P := fun a => s (r + 1 + a) = 1) (m - d) (by rw [show r + 1 + (m - d) = i0 + m by omega]; exact hm)
  have han : a + 1 < n := by
    apply Classical.byContradiction
    intro h
    have : a + 1 = n ∨ n < a + 1 := by omega
    rcases this with e | e
    · rw [show r + 1 + a = r + n by omega, sn] at ha; omega
    · omega
  have sa : s (r + (a + 1)) = 1 := by rw [show r + (a + 1) = r + 1 + a by omega]; exact ha
  have w1 := seg' 0 (a + 1) (by omega)
  rw [show s (r + 0) = -1 from sr, sa] at w1
  obtain ⟨b, hb, hbn, hbl⟩ := Pk.least_nat (P := fun b => a < b ∧ s (r + (b + 1)) ≠ 1) (n - 1) ⟨by omega, by rw [show n - 1 + 1 = n by omega, sn]; omega⟩
  obtain ⟨c, hc, hcn, hcl⟩ := Pk.least_nat (P := fun c => b ≤ c ∧ s (r + (c + 1)) = -1) (n - 1) ⟨by omega, by rw [show n - 1 + 1 = n by omega]; exact sn⟩
  have w2 := seg' (a + 1) (c + 1) (by omega)
  rw [sa, hc.2] at w2
  refine ⟨r + 1, a, b, c, hb.1, hc.1, by omega, fun k hk => ?_, fun k h1 h2 => ?_, fun k h1 h2 => ?_, fun k h1 h2 => ?_⟩
  · rcases hv (r + 1 + k) with e | e | e
    · exact absurd e (hal k hk)
    · exact e
    · exfalso
      have s0 : s (r + 1) = 0 := by
        rcases hv (r + 1) with f | f | f
        · exact absurd (show s (r + 1 + 0) = 1 from f) (hal 0 (by omega))
        · exact f
        · exact absurd f si
      have x1 := seg' 0 1 (by omega)
      have x2 := seg' 1 (k + 1) (by omega)
      have x3 := seg' (k + 1) (a + 1) (by omega)
      have x4 := seg' (c + 1) n (by omega)
      rw [show r + 1 + k = r + (k + 1) by omega] at e
      rw [show s (r + 0) = -1 from sr, s0] at x1
      rw [s0, e] at x2
      rw [e, sa] at x3
      omega
  · by_cases e : k = a
    · rw [e]; exact ha
    · have := hbl k h2
      rw [show r + 1 + k = r + (k + 1) by omega]
      exact Classical.byContradiction fun h => this ⟨by omega, h⟩
  · rw [show r + 1 + k = r + (k + 1) by omega]
    have h3 := hcl k h2
    rcases hv (r + (k + 1)) with e | e | e
    · exfalso
      have x1 := seg' (a + 1) (b + 1) (by omega)
      have x2 := seg' (b + 1) (k + 1) (by omega)
      have x3 := seg' (k + 1) (c + 1) (by omega)
      have x4 := seg' (c + 1) n (by omega)
      rw [sa] at x1
      rw [e] at x2
      rw [e, hc.2] at x3
      rcases hv (r + (b + 1)) with f | f | f
      · exact absurd f hb.2
      · rw [f] at x1 x2; omega
      · rw [f] at x1 x2; omega
    · exact e
    · exact absurd ⟨h1, e⟩ h3
  · rw [show r + 1 + k = r + (k + 1) by omega]
    have x1 := seg' (c + 1) (k + 1) (by omega)
    have x2 := seg' (k + 1) n (by omega)
    rw [hc.2] at x1
    rw [sn] at x2
    rcases hv (r + (k + 1)) with f | f | f
    · rw [f] at x1 x2; omega
    · rw [f] at x1 x2; omega
    · exact f
end
section
open Go.RowKit Go.Shelf

theorem weak_left {n : Nat} {v : Nat → Int × Int} (hp : Pk.Pen n v) (hl : ∀ j, 0 ≤ Pk.crs (Pk.dv v j) (Pk.dv v (j + 1))) (i t : Nat) (htn : t ≤ n) :
    0 ≤ Pk.crs (Pk.dv v i) (Pk.vsub (v (i + t)) (v i)) := by
  obtain ⟨e, he⟩ : ∃ e, e = Pk.dv v i := ⟨_, rfl⟩
  have hne : e ≠ (0, 0) := by rw [he]; exact Pk.vsub_ne (hp.ne i)
  have h4 := var_four hp hl hne i
  obtain ⟨s, hs⟩ : ∃ s : Nat → Int, s = fun j => (Pk.crs e (Pk.dv v j)).sign := ⟨_, rfl⟩
  have hsum : Pk.nsum (fun k => ((s (i + (k + 1)) - s (i + k)).natAbs : Int)) n = 4 := by rw [hs]; exact h4
  have hsp : ∀ j, s (j + n) = s j := fun j => by rw [hs]; simp only; rw [dv_per hp]
  have s0 : s i = 0 := by rw [hs]; simp only; rw [← he]; have : Pk.crs e e = 0 := by { unfold Pk.crs; grind }; rw [this]; rfl
  have par : ∀ k, (∀ j, j ≤ k → s (i + j) = 0) → 0 < Pk.dt e (Pk.dv v (i + k)) ∧ Pk.crs e (Pk.dv v (i + k)) = 0 := by
    intro k
    induction k with
    | zero =>
      intro _
      rw [Nat.add_zero, ← he]
      exact ⟨Pk.sq_pos hne, by unfold Pk.crs; grind⟩
    | succ k ih =>
      intro h
      have h1 := ih (fun j hj => h j (by omega))
      have h2 : Pk.crs e (Pk.dv v (i + (k + 1))) = 0 := by
        have := h (k + 1) (Nat.le_refl _)
        rw [hs] at this
        exact Int.sign_eq_zero_iff_zero.1 this
      have ha := Pk.sq_pos hne
      have hb := Pk.sq_pos (Pk.vsub_ne (hp.ne (i + k)))
      have hb' : 0 < Pk.dt (Pk.dv v (i + k)) (Pk.dv v (i + k)) := hb
      have i1 : Pk.dt e e * Pk.crs (Pk.dv v (i + k)) (Pk.dv v (i + (k + 1))) = Pk.dt e (Pk.dv v (i + k)) * Pk.crs e (Pk.dv v (i + (k + 1))) - Pk.crs e (Pk.dv v (i + k)) * Pk.dt e (Pk.dv v (i + (k + 1))) := by unfold Pk.dt Pk.crs; grind
      rw [h1.2, h2, Int.mul_zero, Int.zero_mul] at i1
      have hc : Pk.crs (Pk.dv v (i + k)) (Pk.dv v (i + k + 1)) = 0 := (Int.mul_eq_zero.1 (i1.trans (Int.sub_self 0))).resolve_left (by omega)
      have hd := straight_on hp (i + k) hc
      have i2 : Pk.dt (Pk.dv v (i + k)) (Pk.dv v (i + k)) * Pk.dt e (Pk.dv v (i + k + 1)) = Pk.dt e (Pk.dv v (i + k)) * Pk.dt (Pk.dv v (i + k)) (Pk.dv v (i + k + 1)) - Pk.crs e (Pk.dv v (i + k)) * Pk.crs (Pk.dv v (i + k)) (Pk.dv v (i + k + 1)) := by unfold Pk.dt Pk.crs; grind
      rw [h1.2, Int.zero_mul, Int.sub_zero] at i2
      refine ⟨?_, h2⟩
      have hm := Int.mul_pos h1.1 hd
      apply Int.not_le.1
      intro h5
      have := Int.mul_nonneg (Int.le_of_lt hb') (show 0 ≤ - Pk.dt e (Pk.dv v (i + k + 1)) by rw [show i + k + 1 = i + (k + 1) by omega]; omega)
      rw [Int.mul_neg] at this
      omega
  have first : ∀ a, s (i + a) ≠ 0 → ∃ k, k ≤ a ∧ s (i + k) = 1 := by
    intro a ha
    obtain ⟨k, hk, hka, hkl⟩ := Pk.least_nat (P := fun k => s (i + k) ≠ 0) a ha
    have hk0 : 0 < k := by
      apply Nat.pos_of_ne_zero
      intro e0
      rw [e0] at hk
      exact hk s0
    have h1 := par (k - 1) (fun j hj => Classical.byContradiction fun h => hkl j (by omega) h)
    have h2 := hl (i + (k - 1))
    rw [show i + (k - 1) + 1 = i + k by omega] at h2
    have i1 : Pk.dt e e * Pk.crs (Pk.dv v (i + (k - 1))) (Pk.dv v (i + k)) = Pk.dt e (Pk.dv v (i + (k - 1))) * Pk.crs e (Pk.dv v (i + k)) - Pk.crs e (Pk.dv v (i + (k - 1))) * Pk.dt e (Pk.dv v (i + k)) := by unfold Pk.dt Pk.crs; grind
    rw [h1.2, Int.zero_mul, Int.sub_zero] at i1
    refine ⟨k, hka, ?_⟩
    rw [hs] at hk ⊢
    rcases Pk.sign_cases (Pk.crs e (Pk.dv v (i + k))) with ⟨f, g⟩ | ⟨f, g⟩ | ⟨f, g⟩
    · exact f
    · exact absurd f hk
    · exfalso
      have h3 := Int.mul_neg_of_pos_of_neg h1.1 g
      have h4 := Int.mul_nonneg (Int.le_of_lt (Pk.sq_pos hne)) h2
      omega
  have uni : ∀ a b, 1 ≤ a → a < b → b ≤ n → Pk.crs e (Pk.dv v (i + a)) < 0 → Pk.crs e (Pk.dv v (i + b)) ≤ 0 := by
    intro a b ha hab hb hna
    apply Int.not_lt.1
    intro hpb
    have sa : s (i + a) = -1 := by rw [hs]; exact Int.sign_eq_neg_one_of_neg hna
    have sb : s (i + b) = 1 := by rw [hs]; exact Int.sign_eq_one_of_pos hpb
    obtain ⟨k, hk, sk⟩ := first a (by omega)
    have v1 := var_ge (fun k => s (i + k)) 0 k
    have v2 := var_ge (fun k => s (i + k)) k (a - k)
    have v3 := var_ge (fun k => s (i + k)) a (b - a)
    have v4 := var_ge (fun k => s (i + k)) b (n - b)
    rw [show k + (a - k) = a by omega] at v2
    rw [show a + (b - a) = b by omega] at v3
    rw [show b + (n - b) = n by omega] at v4
    rw [Nat.zero_add, show s (i + 0) = 0 from s0, sk] at v1
    rw [sk, sa] at v2
    rw [sa, sb] at v3
    rw [sb, hsp, s0] at v4
    have e0 : Pk.nsum (fun k => ((s (i + (k + 1)) - s (i + k)).natAbs : Int)) 0 = 0 := rfl
    omega
  have Yn : ∀ k, Pk.crs e (Pk.vsub (v (i + (k + 1))) (v i)) = Pk.crs e (Pk.vsub (v (i + k)) (v i)) + Pk.crs e (Pk.dv v (i + k)) := fun k => by
    unfold Pk.dv Pk.crs Pk.vsub
    rw [show i + (k + 1) = i + k + 1 by omega]
    simp only
    grind
  have Yend : Pk.crs e (Pk.vsub (v (i + n)) (v i)) = 0 := by rw [hp.per, Pk.vsub_self]; unfold Pk.crs; simp
  have Y0 : Pk.crs e (Pk.vsub (v (i + 0)) (v i)) = 0 := by rw [Nat.add_zero, Pk.vsub_self]; unfold Pk.crs; simp
  have up : ∀ k, (∀ a, a < k → 0 ≤ Pk.crs e (Pk.dv v (i + a))) → 0 ≤ Pk.crs e (Pk.vsub (v (i + k)) (v i)) := by
    intro k
    induction k with
    | zero => intro _; rw [Y0]; exact Int.le_refl _
    | succ k ih =>
      intro h
      rw [Yn]
      have h1 := ih (fun a h1 => h a (by omega))
      have h2 := h k (by omega)
      omega
  have down : ∀ r, r ≤ n → (∀ b, n - r ≤ b → b < n → Pk.crs e (Pk.dv v (i + b)) ≤ 0) → 0 ≤ Pk.crs e (Pk.vsub (v (i + (n - r))) (v i)) := by
    intro r
    induction r with
    | zero => intro _ _; rw [Nat.sub_zero, Yend]; exact Int.le_refl _
    | succ r ih =>
      intro hr h
      have h1 := Yn (n - (r + 1))
      rw [show n - (r + 1) + 1 = n - r by omega] at h1
      have h2 := ih (by omega) (fun b h1 h2 => h b (by omega) h2)
      have h3 := h (n - (r + 1)) (Nat.le_refl _) (by omega)
      omega
  rw [← he]
  by_cases hex : ∃ a, 1 ≤ a ∧ a < t ∧ Pk.crs e (Pk.dv v (i + a)) < 0
  · obtain ⟨a, ha1, ha2, ha3⟩ := hex
    have := down (n - t) (by omega) (fun b h1 h2 => uni a b ha1 (by omega) (by omega) ha3)
    rwa [show n - (n - t) = t by omega] at this
  · refine up t (fun a h1 => Int.not_lt.1 fun h => ?_)
    by_cases a0 : a = 0
    · rw [a0, Nat.add_zero, ← he] at h
      have : Pk.crs e e = 0 := by unfold Pk.crs; grind
      omega
    · exact hex ⟨a, by omega, h1, h⟩
end
section
open Go.RowKit Go.Shelf

/-- The fan seen from post i, its first k sides. -/
def fan (v : Nat → Int × Int) (i k : Nat) : Int := Pk.nsum (fun j => Pk.crs (Pk.vsub (v (i + j)) (v i)) (Pk.vsub (v (i + j + 1)) (v i))) k
theorem fan_area (v : Nat → Int × Int) (i : Nat) : ∀ k, fan v i k = Pk.nsum (fun j => Pk.crs (v (i + j)) (v (i + j + 1))) k - Pk.crs (v i) (Pk.vsub (v (i + k)) (v i))
  | 0 => by
    unfold fan
    rw [Nat.add_zero, Pk.vsub_self, Pk.nsum, Pk.nsum]
    unfold Pk.crs
    simp
  | k + 1 => by
    have h := fan_area v i k
    unfold fan at h ⊢
    rw [Pk.nsum, h, Pk.nsum]
    unfold Pk.crs Pk.vsub
    rw [show i + (k + 1) = i + k + 1 by omega]
    simp only
    grind
theorem fan_all {n : Nat} {v : Nat → Int × Int} (hp : Pk.Pen n v) (i : Nat) : fan v i n = Pk.areaTo v n := by
  rw [fan_area, hp.per, Pk.vsub_self, area_nsum, show Pk.crs (v i) (0, 0) = 0 by unfold Pk.crs; simp, Int.sub_zero]
  exact nsum_rot (F := fun j => Pk.crs (v j) (v (j + 1))) (fun j => by rw [hp.per, show j + n + 1 = j + 1 + n by omega, hp.per]) i
theorem fan_part {n : Nat} {v : Nat → Int × Int} (hp : Pk.Pen n v) (hl : ∀ j, 0 ≤ Pk.crs (Pk.dv v j) (Pk.dv v (j + 1))) (i x : Nat) : ∀ m, x + m ≤ n →
    Pk.crs (Pk.vsub (v (i + x)) (v i)) (Pk.vsub (v (i + (x + m))) (v i)) ≤ fan v i (x + m) - fan v i x
  | 0, _ => by rw [Nat.add_zero, Int.sub_self]; unfold Pk.crs; grind
  | m + 1, h => by
    have h1 := fan_part hp hl i x m (by omega)
    have h2 := weak_left hp hl (i + (x + m)) (n - m) (by omega)
    rw [show i + (x + m) + (n - m) = i + x + n by omega, hp.per] at h2
    have h3 : fan v i (x + (m + 1)) = fan v i (x + m) + Pk.crs (Pk.vsub (v (i + (x + m))) (v i)) (Pk.vsub (v (i + (x + m) + 1)) (v i)) := rfl
    rw [h3, show i + (x + (m + 1)) = i + (x + m) + 1 by omega]
    have h4 : Pk.crs (Pk.vsub (v (i + x)) (v i)) (Pk.vsub (v (i + (x + m))) (v i)) + Pk.crs (Pk.vsub (v (i + (x + m))) (v i)) (Pk.vsub (v (i + (x + m) + 1)) (v i)) - Pk.crs (Pk.vsub (v (i + x)) (v i)) (Pk.vsub (v (i + (x + m) + 1)) (v i)) = Pk.crs (Pk.dv v (i + (x + m))) (Pk.vsub (v (i + x)) (v (i + (x + m)))) := by unfold Pk.dv Pk.crs Pk.vsub; simp only; grind
    omega
theorem quad {n : Nat} {v : Nat → Int × Int} (hp : Pk.Pen n v) (hl : ∀ j, 0 ≤ Pk.crs (Pk.dv v j) (Pk.dv v (j + 1))) (i x y z : Nat) (h1 : x ≤ y) (h2 : y ≤ z) (h3 : z ≤ n) :
    Pk.crs (Pk.vsub (v (i + y)) (v i)) (Pk.vsub (v (i + z)) (v (i + x))) ≤ Pk.areaTo v n := by
  have a0 := fan_part hp hl i 0 x (by omega)
  have a1 := fan_part hp hl i x (y - x) (by omega)
  have a2 := fan_part hp hl i y (z - y) (by omega)
  have a3 := fan_part hp hl i z (n - z) (by omega)
  rw [show x + (y - x) = y by omega] at a1
  rw [show y + (z - y) = z by omega] at a2
  rw [show z + (n - z) = n by omega, hp.per, Pk.vsub_self] at a3
  rw [Nat.zero_add, show v (i + 0) = v i from rfl, Pk.vsub_self] at a0
  have e0 : Pk.crs (0, 0) (Pk.vsub (v (i + x)) (v i)) = 0 := by unfold Pk.crs; simp
  have e3 : Pk.crs (Pk.vsub (v (i + z)) (v i)) (0, 0) = 0 := by unfold Pk.crs; simp
  have ez : fan v i 0 = 0 := rfl
  have e : Pk.crs (Pk.vsub (v (i + y)) (v i)) (Pk.vsub (v (i + z)) (v (i + x))) = Pk.crs (Pk.vsub (v (i + x)) (v i)) (Pk.vsub (v (i + y)) (v i)) + Pk.crs (Pk.vsub (v (i + y)) (v i)) (Pk.vsub (v (i + z)) (v i)) := by unfold Pk.crs Pk.vsub; simp only; grind
  rw [← fan_all hp i]
  omega
end
section
open Go.RowKit Go.Shelf

/-- Which way the sides go: up, flat, down. -/
def sY (v : Nat → Int × Int) (j : Nat) : Int := ((Pk.dv v j).2).sign
theorem nsum_seg {G F : Nat → Int} {x : Nat} : ∀ m, (∀ k, x ≤ k → k < x + m → G k ≤ F (k + 1) - F k) → Pk.nsum G (x + m) - Pk.nsum G x ≤ F (x + m) - F x
  | 0, _ => by rw [Nat.add_zero]; omega
  | m + 1, h => by
    have h1 := nsum_seg (G := G) (F := F) (x := x) m (fun k h1 h2 => h k h1 (by omega))
    have h2 := h (x + m) (by omega) (by omega)
    rw [show x + (m + 1) = x + m + 1 by omega, Pk.nsum]
    omega
theorem gcd_le_right (a b : Int) (h : b ≠ 0) : (Int.gcd a b : Int) ≤ b.natAbs := by
  have := Nat.le_of_dvd (by omega) (Int.natAbs_dvd_natAbs.2 (Int.gcd_dvd_right a b))
  rw [Int.natAbs_natCast] at this
  omega
section
variable {n : Nat} {v : Nat → Int × Int} {i a b c : Nat}
theorem low_dx (hp : Pk.Pen n v) (hl : ∀ j, 0 ≤ Pk.crs (Pk.dv v j) (Pk.dv v (j + 1))) (ph : Phases (sY v) n i a b c) : ∀ m, ∀ k, k + 1 + m = a → 0 < (Pk.dv v (i + k)).1 ∧ (Pk.dv v (i + k)).2 = 0
  | m, k, h => by
    have y0 : (Pk.dv v (i + k)).2 = 0 := Int.sign_eq_zero_iff_zero.1 (ph.low k (by omega))
    refine ⟨?_, y0⟩
    have hne : (Pk.dv v (i + k)).1 ≠ 0 := fun e => Pk.vsub_ne (hp.ne (i + k)) (Prod.ext e y0)
    cases m with
    | zero =>
      have y1 : 0 < (Pk.dv v (i + k + 1)).2 := by
        have := ph.up (k + 1) (by omega) (by have := ph.ab; omega)
        exact Int.sign_eq_one_iff_pos.1 this
      have h1 := hl (i + k)
      unfold Pk.crs at h1
      rw [y0, Int.zero_mul, Int.sub_zero] at h1
      apply Int.not_le.1
      intro h2
      have := Int.mul_neg_of_neg_of_pos (show (Pk.dv v (i + k)).1 < 0 by omega) y1
      omega
    | succ m =>
      obtain ⟨h1, h2⟩ := low_dx hp hl ph m (k + 1) (by omega)
      have h3 := straight_on hp (i + k) (by unfold Pk.crs; rw [y0, show i + k + 1 = i + (k + 1) by omega, h2]; simp)
      unfold Pk.dt at h3
      rw [y0, Int.zero_mul, Int.add_zero, show i + k + 1 = i + (k + 1) by omega] at h3
      apply Int.not_le.1
      intro h4
      have := Int.mul_neg_of_neg_of_pos (show (Pk.dv v (i + k)).1 < 0 by omega) h1
      omega
theorem top_dx (hp : Pk.Pen n v) (hl : ∀ j, 0 ≤ Pk.crs (Pk.dv v j) (Pk.dv v (j + 1))) (ph : Phases (sY v) n i a b c) : ∀ m, b + m < c → (Pk.dv v (i + (b + m))).1 < 0 ∧ (Pk.dv v (i + (b + m))).2 = 0
  | m, h => by
    have y0 : (Pk.dv v (i + (b + m))).2 = 0 := Int.sign_eq_zero_iff_zero.1 (ph.top (b + m) (by omega) (by omega))
    refine ⟨?_, y0⟩
    have hne : (Pk.dv v (i + (b + m))).1 ≠ 0 := fun e => Pk.vsub_ne (hp.ne (i + (b + m))) (Prod.ext e y0)
    cases m with
    | zero =>
      have hab := ph.ab
      have y1 : 0 < (Pk.dv v (i + (b - 1))).2 := Int.sign_eq_one_iff_pos.1 (ph.up (b - 1) (by omega) (by omega))
      have h1 := hl (i + (b - 1))
      rw [show i + (b - 1) + 1 = i + (b + 0) by omega] at h1
      unfold Pk.crs at h1
      rw [y0, Int.mul_zero] at h1
      apply Int.not_le.1
      intro h2
      have := Int.mul_pos y1 (show 0 < (Pk.dv v (i + (b + 0))).1 by omega)
      omega
    | succ m =>
      obtain ⟨h1, h2⟩ := top_dx hp hl ph m (by omega)
      have h3 := straight_on hp (i + (b + m)) (by unfold Pk.crs; rw [show i + (b + m) + 1 = i + (b + (m + 1)) by omega, y0, h2]; simp)
      unfold Pk.dt at h3
      rw [show i + (b + m) + 1 = i + (b + (m + 1)) by omega, y0, Int.mul_zero, Int.add_zero] at h3
      apply Int.not_le.1
      intro h4
      have := Int.mul_neg_of_neg_of_pos h1 (show 0 < (Pk.dv v (i + (b + (m + 1)))).1 by omega)
      omega
theorem dv_fst (v : Nat → Int × Int) (j : Nat) : (Pk.dv v j).1 = (v (j + 1)).1 - (v j).1 := rfl
theorem dv_snd (v : Nat → Int × Int) (j : Nat) : (Pk.dv v j).2 = (v (j + 1)).2 - (v j).2 := rfl
theorem border_le (hp : Pk.Pen n v) (hl : ∀ j, 0 ≤ Pk.crs (Pk.dv v j) (Pk.dv v (j + 1))) (ph : Phases (sY v) n i a b c) :
    Pk.borderN v n ≤ ((v (i + a)).1 - (v i).1) + ((v (i + b)).1 - (v (i + c)).1) + ((v (i + b)).2 - (v (i + a)).2) + ((v (i + c)).2 - (v i).2) := by
  have e1 : Pk.borderN v n = Pk.nsum (fun k => (Int.gcd (Pk.dv v (i + k)).1 (Pk.dv v (i + k)).2 : Int)) n :=
    (nsum_rot (F := fun j => (Int.gcd (Pk.dv v j).1 (Pk.dv v j).2 : Int)) (fun j => by rw [dv_per hp]) i).symm
  have hab := ph.ab
  have hbc := ph.bc
  have hcn := ph.cn
  obtain ⟨G, hG⟩ : ∃ G : Nat → Int, G = fun k => (Int.gcd (Pk.dv v (i + k)).1 (Pk.dv v (i + k)).2 : Int) := ⟨_, rfl⟩
  rw [e1, ← hG]
  have s1 := nsum_seg (G := G) (F := fun k => (v (i + k)).1) (x := 0) a (fun k _ h2 => by
    have h := low_dx hp hl ph (a - k - 1) k (by omega)
    rw [hG]
    simp only
    rw [h.2, Int.gcd_zero_right, show i + (k + 1) = i + k + 1 by omega, ← dv_fst]
    omega)
  have s2 := nsum_seg (G := G) (F := fun k => (v (i + k)).2) (x := a) (b - a) (fun k h1 h2 => by
    have h : 0 < (Pk.dv v (i + k)).2 := Int.sign_eq_one_iff_pos.1 (ph.up k (by omega) (by omega))
    have := gcd_le_right (Pk.dv v (i + k)).1 (Pk.dv v (i + k)).2 (by omega)
    rw [hG]
    simp only
    rw [show i + (k + 1) = i + k + 1 by omega, ← dv_snd]
    omega)
  have s3 := nsum_seg (G := G) (F := fun k => - (v (i + k)).1) (x := b) (c - b) (fun k h1 h2 => by
    have h := top_dx hp hl ph (k - b) (by omega)
    rw [show b + (k - b) = k by omega] at h
    have e := dv_fst v (i + k)
    rw [hG]
    simp only
    rw [h.2, Int.gcd_zero_right, show i + (k + 1) = i + k + 1 by omega]
    omega)
  have s4 := nsum_seg (G := G) (F := fun k => - (v (i + k)).2) (x := c) (n - c) (fun k h1 h2 => by
    have h : (Pk.dv v (i + k)).2 < 0 := Int.sign_eq_neg_one_iff_neg.1 (ph.down k (by omega) (by omega))
    have := gcd_le_right (Pk.dv v (i + k)).1 (Pk.dv v (i + k)).2 (by omega)
    have e := dv_snd v (i + k)
    rw [hG]
    simp only
    rw [show i + (k + 1) = i + k + 1 by omega]
    omega)
  rw [Nat.zero_add] at s1
  rw [show a + (b - a) = b by omega] at s2
  rw [show b + (c - b) = c by omega] at s3
  rw [show c + (n - c) = n by omega, hp.per] at s4
  have s0 : Pk.nsum G 0 = 0 := rfl
  have z0 : v (i + 0) = v i := rfl
  rw [z0, s0] at s1
  omega
end
end
section
open Go.RowKit Go.Shelf

theorem mono_seg {F : Nat → Int} {x : Nat} : ∀ m, (∀ k, x ≤ k → k < x + m → F k ≤ F (k + 1)) → F x ≤ F (x + m)
  | 0, _ => Int.le_refl _
  | m + 1, h => by
    have h1 := mono_seg (F := F) (x := x) m (fun k h1 h2 => h k h1 (by omega))
    have h2 := h (x + m) (by omega) (by omega)
    rw [show x + (m + 1) = x + m + 1 by omega]
    omega
section
variable {n : Nat} {v : Nat → Int × Int} {i a b c : Nat}
structure Heights (n : Nat) (v : Nat → Int × Int) (i a b c : Nat) : Prop where
  low : ∀ k, k ≤ a → (v (i + k)).2 = (v i).2
  up : ∀ k, a ≤ k → k ≤ b → (v i).2 ≤ (v (i + k)).2 ∧ (v (i + k)).2 ≤ (v (i + b)).2
  top : ∀ k, b ≤ k → k ≤ c → (v (i + k)).2 = (v (i + b)).2
  down : ∀ k, c ≤ k → k ≤ n → (v i).2 ≤ (v (i + k)).2 ∧ (v (i + k)).2 ≤ (v (i + b)).2
  lt : (v i).2 < (v (i + b)).2
theorem heights (hp : Pk.Pen n v) (ph : Phases (sY v) n i a b c) : Heights n v i a b c := by
  have hab := ph.ab
  have hbc := ph.bc
  have hcn := ph.cn
  have d0 : ∀ k, k < a → (v (i + (k + 1))).2 = (v (i + k)).2 := fun k h => by
    have := Int.sign_eq_zero_iff_zero.1 (ph.low k h)
    rw [dv_snd] at this
    rw [show i + (k + 1) = i + k + 1 by omega]
    omega
  have d1 : ∀ k, a ≤ k → k < b → (v (i + k)).2 < (v (i + (k + 1))).2 := fun k h h' => by
    have := Int.sign_eq_one_iff_pos.1 (ph.up k h h')
    rw [dv_snd] at this
    rw [show i + (k + 1) = i + k + 1 by omega]
    omega
  have d2 : ∀ k, b ≤ k → k < c → (v (i + (k + 1))).2 = (v (i + k)).2 := fun k h h' => by
    have := Int.sign_eq_zero_iff_zero.1 (ph.top k h h')
    rw [dv_snd] at this
    rw [show i + (k + 1) = i + k + 1 by omega]
    omega
  have d3 : ∀ k, c ≤ k → k < n → (v (i + (k + 1))).2 < (v (i + k)).2 := fun k h h' => by
    have := Int.sign_eq_neg_one_iff_neg.1 (ph.down k h h')
    rw [dv_snd] at this
    rw [show i + (k + 1) = i + k + 1 by omega]
    omega
  have low : ∀ k, k ≤ a → (v (i + k)).2 = (v i).2 := by
    intro k
    induction k with
    | zero => intro _; rfl
    | succ k ih => intro h; rw [d0 k (by omega), ih (by omega)]
  have top : ∀ m, b + m ≤ c → (v (i + (b + m))).2 = (v (i + b)).2 := by
    intro m
    induction m with
    | zero => intro _; rfl
    | succ m ih => intro h; rw [← ih (by omega)]; exact d2 (b + m) (by omega) (by omega)
  have up1 : ∀ x y, a ≤ x → x ≤ y → y ≤ b → (v (i + x)).2 ≤ (v (i + y)).2 := fun x y h1 h2 h3 => by
    have := mono_seg (F := fun k => (v (i + k)).2) (x := x) (y - x) (fun k h4 h5 => Int.le_of_lt (d1 k (by omega) (by omega)))
    rwa [show x + (y - x) = y by omega] at this
  have dn1 : ∀ x y, c ≤ x → x ≤ y → y ≤ n → (v (i + y)).2 ≤ (v (i + x)).2 := fun x y h1 h2 h3 => by
    have := mono_seg (F := fun k => - (v (i + k)).2) (x := x) (y - x) (fun k h4 h5 => by have := d3 k (by omega) (by omega); omega)
    rw [show x + (y - x) = y by omega] at this
    omega
  have la := low a (Nat.le_refl _)
  have tc := top (c - b) (by omega)
  rw [show b + (c - b) = c by omega] at tc
  have en : (v (i + n)).2 = (v i).2 := by rw [hp.per]
  refine ⟨low, fun k h1 h2 => ⟨?_, up1 k b h1 h2 (Nat.le_refl _)⟩, fun k h1 h2 => ?_, fun k h1 h2 => ⟨?_, ?_⟩, ?_⟩
  · have := up1 a k (Nat.le_refl _) h1 h2; omega
  · have := top (k - b) (by omega); rwa [show b + (k - b) = k by omega] at this
  · have := dn1 k n h1 h2 (Nat.le_refl _); omega
  · have := dn1 c k (Nat.le_refl _) h1 h2; omega
  · have h1 := d1 a (Nat.le_refl _) hab
    have h2 := up1 (a + 1) b (by omega) (by omega) (Nat.le_refl _)
    omega
/-- The area, by both flat sides. -/
theorem area_flat (hp : Pk.Pen n v) (hl : ∀ j, 0 ≤ Pk.crs (Pk.dv v j) (Pk.dv v (j + 1))) (ph : Phases (sY v) n i a b c) :
    ((v (i + b)).2 - (v i).2) * (((v (i + a)).1 - (v i).1) + ((v (i + b)).1 - (v (i + c)).1)) ≤ Pk.areaTo v n := by
  have hab := ph.ab
  have hbc := ph.bc
  have hcn := ph.cn
  have hh := heights hp ph
  have h := quad hp hl i a b c (by omega) hbc (by omega)
  have ya := hh.low a (Nat.le_refl _)
  have yc := hh.top c hbc (Nat.le_refl _)
  have e : Pk.crs (Pk.vsub (v (i + b)) (v i)) (Pk.vsub (v (i + c)) (v (i + a))) = ((v (i + b)).2 - (v i).2) * (((v (i + a)).1 - (v i).1) + ((v (i + b)).1 - (v (i + c)).1)) + (((v (i + c)).2 - (v (i + b)).2) - ((v (i + a)).2 - (v i).2)) * ((v (i + b)).1 - (v i).1) := by unfold Pk.crs Pk.vsub; simp only; grind
  rw [ya, yc] at e
  have e2 : ((v (i + b)).2 - (v (i + b)).2 - ((v i).2 - (v i).2)) * ((v (i + b)).1 - (v i).1) = 0 := by rw [Int.sub_self, Int.sub_self]; simp
  omega
end
end
section
open Go.RowKit Go.Shelf

section
variable {n : Nat} {v : Nat → Int × Int} {i a b c : Nat}
theorem area_one (hp : Pk.Pen n v) (hl : ∀ j, 0 ≤ Pk.crs (Pk.dv v j) (Pk.dv v (j + 1))) {x R y L : Nat} (h1 : x ≤ R) (h2 : R ≤ y) (h3 : y ≤ L) (h4 : L ≤ n) :
    ((v (i + y)).1 - (v (i + x)).1) * ((v (i + L)).2 - (v (i + R)).2) + ((v (i + y)).2 - (v (i + x)).2) * ((v (i + R)).1 - (v (i + L)).1) ≤ Pk.areaTo v n := by
  have h := quad hp hl (i + x) (R - x) (y - x) (L - x) (by omega) (by omega) (by omega)
  rw [show i + x + (R - x) = i + R by omega, show i + x + (y - x) = i + y by omega, show i + x + (L - x) = i + L by omega] at h
  have e : Pk.crs (Pk.vsub (v (i + y)) (v (i + x))) (Pk.vsub (v (i + L)) (v (i + R))) = ((v (i + y)).1 - (v (i + x)).1) * ((v (i + L)).2 - (v (i + R)).2) + ((v (i + y)).2 - (v (i + x)).2) * ((v (i + R)).1 - (v (i + L)).1) := by unfold Pk.crs Pk.vsub; simp only; grind
  omega
theorem area_wide (hp : Pk.Pen n v) (hl : ∀ j, 0 ≤ Pk.crs (Pk.dv v j) (Pk.dv v (j + 1))) (ph : Phases (sY v) n i a b c) {R L : Nat} (h1 : a ≤ R) (h2 : R ≤ b) (h3 : c ≤ L) (h4 : L ≤ n)
    {dl : Int} (hd0 : 0 ≤ dl) (hd1 : (v (i + c)).1 - (v (i + a)).1 ≤ dl) (hd2 : -dl ≤ (v (i + b)).1 - (v i).1) :
    ((v (i + b)).2 - (v i).2) * ((v (i + R)).1 - (v (i + L)).1 - dl) ≤ Pk.areaTo v n := by
  have hab := ph.ab
  have hbc := ph.bc
  have hcn := ph.cn
  have hh := heights hp ph
  have ya := hh.low a (Nat.le_refl _)
  have yc := hh.top c hbc (Nat.le_refl _)
  have yR := hh.up R h1 h2
  have yL := hh.down L h3 h4
  have A1 := area_one (i := i) hp hl (x := a) (R := R) (y := c) (L := L) h1 (by omega) h3 h4
  have A2 := area_one (i := i) hp hl (x := 0) (R := R) (y := b) (L := L) (by omega) h2 (by omega) h4
  rw [show v (i + 0) = v i from rfl] at A2
  rw [ya, yc] at A1
  obtain ⟨t, ht⟩ : ∃ t, t = (v (i + L)).2 - (v (i + R)).2 := ⟨_, rfl⟩
  obtain ⟨p, hpp⟩ : ∃ t, t = (v (i + b)).2 - (v i).2 := ⟨_, rfl⟩
  obtain ⟨W, hW⟩ : ∃ t, t = (v (i + R)).1 - (v (i + L)).1 := ⟨_, rfl⟩
  obtain ⟨D1, hD1⟩ : ∃ t, t = (v (i + c)).1 - (v (i + a)).1 := ⟨_, rfl⟩
  obtain ⟨D2, hD2⟩ : ∃ t, t = (v (i + b)).1 - (v i).1 := ⟨_, rfl⟩
  have ht1 : t ≤ p := by omega
  have ht2 : -p ≤ t := by omega
  rw [← ht, ← hpp, ← hW, ← hD1] at A1
  rw [← ht, ← hpp, ← hW, ← hD2] at A2
  rw [← hpp, ← hW]
  rw [← hD1] at hd1
  rw [← hD2] at hd2
  clear ht hpp hW hD1 hD2 ya yc yR yL hh
  rw [Int.mul_sub]
  rcases Int.le_total 0 t with h | h
  · have m1 := Int.mul_nonneg (show 0 ≤ D2 + dl by omega) h
    have m2 := Int.mul_nonneg hd0 (show 0 ≤ p - t by omega)
    rw [Int.add_mul] at m1
    rw [Int.mul_sub, Int.mul_comm dl p] at m2
    omega
  · have m1 := Int.mul_nonneg (show 0 ≤ dl - D1 by omega) (show 0 ≤ -t by omega)
    have m2 := Int.mul_nonneg hd0 (show 0 ≤ p + t by omega)
    rw [Int.sub_mul, Int.mul_neg, Int.mul_neg] at m1
    rw [Int.mul_add, Int.mul_comm dl p] at m2
    omega
end
end
section
open Go.RowKit Go.Shelf

section
variable {n : Nat} {v : Nat → Int × Int} {i a b c : Nat}
theorem right_all (hp : Pk.Pen n v) (hl : ∀ j, 0 ≤ Pk.crs (Pk.dv v j) (Pk.dv v (j + 1))) (ph : Phases (sY v) n i a b c) {M : Int} (hM : ∀ k, a ≤ k → k ≤ b → (v (i + k)).1 ≤ M) : ∀ k, k ≤ n → (v (i + k)).1 ≤ M := by
  have hab := ph.ab
  have hbc := ph.bc
  have hcn := ph.cn
  have hh := heights hp ph
  intro k hk
  have hy : (v i).2 ≤ (v (i + k)).2 ∧ (v (i + k)).2 ≤ (v (i + b)).2 := by
    have hlt := hh.lt
    by_cases h1 : k ≤ a
    · have := hh.low k h1; omega
    by_cases h2 : k ≤ b
    · exact hh.up k (by omega) h2
    by_cases h3 : k ≤ c
    · have := hh.top k (by omega) h3; omega
    · exact hh.down k (by omega) hk
  have ya := hh.low a (Nat.le_refl _)
  obtain ⟨j, hj1, hj2, hj3, hj4⟩ : ∃ j, a ≤ j ∧ j < b ∧ (v (i + j)).2 ≤ (v (i + k)).2 ∧ (v (i + k)).2 ≤ (v (i + (j + 1))).2 := by
    obtain ⟨t, ht, htb, htl⟩ := Pk.least_nat (P := fun t => (v (i + k)).2 ≤ (v (i + (a + t))).2) (b - a) (by rw [show a + (b - a) = b by omega]; exact hy.2)
    by_cases t0 : t = 0
    · subst t0
      rw [Nat.add_zero] at ht
      have h1 : 0 < (Pk.dv v (i + a)).2 := Int.sign_eq_one_iff_pos.1 (ph.up a (Nat.le_refl _) hab)
      rw [dv_snd] at h1
      refine ⟨a, Nat.le_refl _, hab, by omega, ?_⟩
      rw [show i + (a + 1) = i + a + 1 by omega]
      omega
    · refine ⟨a + t - 1, by omega, by omega, ?_, ?_⟩
      · have := htl (t - 1) (by omega)
        rw [show a + (t - 1) = a + t - 1 by omega] at this
        omega
      · rw [show a + t - 1 + 1 = a + t by omega]
        exact ht
  have hw : 0 ≤ Pk.crs (Pk.dv v (i + j)) (Pk.vsub (v (i + k)) (v (i + j))) := by
    by_cases hkj : j ≤ k
    · have := weak_left hp hl (i + j) (k - j) (by omega)
      rwa [show i + j + (k - j) = i + k by omega] at this
    · have := weak_left hp hl (i + j) (k + n - j) (by omega)
      rwa [show i + j + (k + n - j) = i + k + n by omega, hp.per] at this
  have hdy : 0 < (Pk.dv v (i + j)).2 := Int.sign_eq_one_iff_pos.1 (ph.up j hj1 hj2)
  have e1 := dv_fst v (i + j)
  have e2 := dv_snd v (i + j)
  have m0 := hM j hj1 (by omega)
  have m1 := hM (j + 1) (by omega) (by omega)
  rw [show i + (j + 1) = i + j + 1 by omega] at m1 hj4
  obtain ⟨dx, hdx⟩ : ∃ x, x = (Pk.dv v (i + j)).1 := ⟨_, rfl⟩
  obtain ⟨dy, hdy'⟩ : ∃ x, x = (Pk.dv v (i + j)).2 := ⟨_, rfl⟩
  have hc : Pk.crs (Pk.dv v (i + j)) (Pk.vsub (v (i + k)) (v (i + j))) = dx * ((v (i + k)).2 - (v (i + j)).2) - dy * ((v (i + k)).1 - (v (i + j)).1) := by rw [hdx, hdy']; rfl
  rw [hc] at hw
  rw [← hdx] at e1
  rw [← hdy'] at e2 hdy
  rcases Int.le_total dx 0 with h | h
  · have h1 := Int.mul_nonneg (show 0 ≤ -dx by omega) (show 0 ≤ (v (i + k)).2 - (v (i + j)).2 by omega)
    rw [Int.neg_mul] at h1
    apply Int.not_lt.1
    intro h2
    have := Int.mul_pos hdy (show 0 < (v (i + k)).1 - (v (i + j)).1 by omega)
    omega
  · have h1 := Int.mul_nonneg h (show 0 ≤ dy - ((v (i + k)).2 - (v (i + j)).2) by omega)
    rw [Int.mul_sub] at h1
    apply Int.not_lt.1
    intro h2
    have h3 := Int.mul_pos hdy (show 0 < (v (i + k)).1 - (v (i + j)).1 - dx by omega)
    rw [Int.mul_sub, Int.mul_comm dy dx] at h3
    omega
end
end
section
open Go.RowKit Go.Shelf

section
variable {n : Nat} {v : Nat → Int × Int} {i a b c : Nat}
theorem left_all (hp : Pk.Pen n v) (hl : ∀ j, 0 ≤ Pk.crs (Pk.dv v j) (Pk.dv v (j + 1))) (ph : Phases (sY v) n i a b c) {M : Int} (hM : ∀ k, c ≤ k → k ≤ n → M ≤ (v (i + k)).1) : ∀ k, k ≤ n → M ≤ (v (i + k)).1 := by
  have hab := ph.ab
  have hbc := ph.bc
  have hcn := ph.cn
  have hh := heights hp ph
  intro k hk
  have hlt := hh.lt
  have hy : (v i).2 ≤ (v (i + k)).2 ∧ (v (i + k)).2 ≤ (v (i + b)).2 := by
    by_cases h1 : k ≤ a
    · have := hh.low k h1; omega
    by_cases h2 : k ≤ b
    · exact hh.up k (by omega) h2
    by_cases h3 : k ≤ c
    · have := hh.top k (by omega) h3; omega
    · exact hh.down k (by omega) hk
  have yc := hh.top c hbc (Nat.le_refl _)
  have yn : (v (i + n)).2 = (v i).2 := by rw [hp.per]
  obtain ⟨j, hj1, hj2, hj3, hj4⟩ : ∃ j, c ≤ j ∧ j < n ∧ (v (i + (j + 1))).2 ≤ (v (i + k)).2 ∧ (v (i + k)).2 ≤ (v (i + j)).2 := by
    obtain ⟨t, ht, htb, htl⟩ := Pk.least_nat (P := fun t => (v (i + (c + t))).2 ≤ (v (i + k)).2) (n - c) (by rw [show c + (n - c) = n by omega, yn]; exact hy.1)
    by_cases t0 : t = 0
    · subst t0
      rw [Nat.add_zero] at ht
      have h1 : (Pk.dv v (i + c)).2 < 0 := Int.sign_eq_neg_one_iff_neg.1 (ph.down c (Nat.le_refl _) hcn)
      rw [dv_snd] at h1
      refine ⟨c, Nat.le_refl _, hcn, ?_, by omega⟩
      rw [show i + (c + 1) = i + c + 1 by omega]
      omega
    · refine ⟨c + t - 1, by omega, by omega, ?_, ?_⟩
      · rw [show c + t - 1 + 1 = c + t by omega]
        exact ht
      · have := htl (t - 1) (by omega)
        rw [show c + (t - 1) = c + t - 1 by omega] at this
        omega
  have hw : 0 ≤ Pk.crs (Pk.dv v (i + j)) (Pk.vsub (v (i + k)) (v (i + j))) := by
    by_cases hkj : j ≤ k
    · have := weak_left hp hl (i + j) (k - j) (by omega)
      rwa [show i + j + (k - j) = i + k by omega] at this
    · have := weak_left hp hl (i + j) (k + n - j) (by omega)
      rwa [show i + j + (k + n - j) = i + k + n by omega, hp.per] at this
  have hdy : (Pk.dv v (i + j)).2 < 0 := Int.sign_eq_neg_one_iff_neg.1 (ph.down j hj1 hj2)
  have e1 := dv_fst v (i + j)
  have e2 := dv_snd v (i + j)
  have m0 := hM j hj1 (by omega)
  have m1 := hM (j + 1) (by omega) (by omega)
  rw [show i + (j + 1) = i + j + 1 by omega] at m1 hj3
  obtain ⟨dx, hdx⟩ : ∃ x, x = (Pk.dv v (i + j)).1 := ⟨_, rfl⟩
  obtain ⟨dy, hdy'⟩ : ∃ x, x = (Pk.dv v (i + j)).2 := ⟨_, rfl⟩
  have hc : Pk.crs (Pk.dv v (i + j)) (Pk.vsub (v (i + k)) (v (i + j))) = dx * ((v (i + k)).2 - (v (i + j)).2) - dy * ((v (i + k)).1 - (v (i + j)).1) := by rw [hdx, hdy']; rfl
  rw [hc] at hw
  rw [← hdx] at e1
  rw [← hdy'] at e2 hdy
  rcases Int.le_total 0 dx with h | h
  · have h1 := Int.mul_nonneg h (show 0 ≤ (v (i + j)).2 - (v (i + k)).2 by omega)
    have e3 : dx * ((v (i + k)).2 - (v (i + j)).2) = - (dx * ((v (i + j)).2 - (v (i + k)).2)) := by rw [← Int.mul_neg, Int.neg_sub]
    apply Int.not_lt.1
    intro h2
    have h3 := Int.mul_pos_of_neg_of_neg hdy (show (v (i + k)).1 - (v (i + j)).1 < 0 by omega)
    omega
  · have h1 := Int.mul_nonneg (show 0 ≤ -dx by omega) (show 0 ≤ ((v (i + k)).2 - (v (i + j)).2) - dy by omega)
    rw [Int.neg_mul, Int.mul_sub] at h1
    apply Int.not_lt.1
    intro h2
    have h3 := Int.mul_pos_of_neg_of_neg hdy (show (v (i + k)).1 - (v (i + j)).1 - dx < 0 by omega)
    rw [Int.mul_sub, Int.mul_comm dy dx] at h3
    omega
/-- The farthest post of a chain. -/
theorem most (F : Nat → Int) (x : Nat) : ∀ m, ∃ k, x ≤ k ∧ k ≤ x + m ∧ ∀ j, x ≤ j → j ≤ x + m → F j ≤ F k
  | 0 => ⟨x, Nat.le_refl _, Nat.le_refl _, fun j h1 h2 => by rw [show j = x by omega]; exact Int.le_refl _⟩
  | m + 1 => by
    obtain ⟨k, h1, h2, h3⟩ := most F x m
    by_cases h : F (x + (m + 1)) ≤ F k
    · refine ⟨k, h1, by omega, fun j g1 g2 => ?_⟩
      by_cases e : j = x + (m + 1)
      · rw [e]; exact h
      · exact h3 j g1 (by omega)
    · refine ⟨x + (m + 1), by omega, Nat.le_refl _, fun j g1 g2 => ?_⟩
      by_cases e : j = x + (m + 1)
      · rw [e]; exact Int.le_refl _
      · have := h3 j g1 (by omega); omega
end
end
section
open Go.RowKit Go.Shelf

theorem phases_of {n : Nat} {v : Nat → Int × Int} (hp : Pk.Pen n v) (hl : ∀ j, 0 ≤ Pk.crs (Pk.dv v j) (Pk.dv v (j + 1))) : ∃ i a b c, Phases (sY v) n i a b c := by
  have hn := hp.n3
  have hc : ∀ d : Int × Int, Pk.crs (1, 0) d = d.2 := fun d => by unfold Pk.crs; simp only; omega
  have h4 : ∀ i, Pk.nsum (fun k => ((sY v (i + (k + 1)) - sY v (i + k)).natAbs : Int)) n = 4 := fun i => by
    have := var_four hp hl (e := (1, 0)) (by decide) i
    simp only [hc] at this
    exact this
  have hsp : ∀ j, sY v (j + n) = sY v j := fun j => by unfold sY; rw [dv_per hp]
  have hv : ∀ j, sY v j = 1 ∨ sY v j = 0 ∨ sY v j = -1 := fun j => by
    unfold sY
    rcases Pk.sign_cases (Pk.dv v j).2 with ⟨e, _⟩ | ⟨e, _⟩ | ⟨e, _⟩ <;> omega
  have flat : (∀ j, j ≤ n → (v j).2 = (v 0).2) → False := fun h => by
    have h0 : ∀ j, j < n → sY v (0 + j) = 0 := fun j hj => by
      unfold sY
      rw [dv_snd, Nat.zero_add, h j (by omega), h (j + 1) (by omega), Int.sub_self]
      rfl
    have hz : Pk.nsum (fun k => ((sY v (0 + (k + 1)) - sY v (0 + k)).natAbs : Int)) n = 0 := Pk.nsum_none n fun j hj => by
      have e1 := h0 j hj
      by_cases hj2 : j + 1 < n
      · rw [e1, h0 (j + 1) hj2]; rfl
      · have e2 := h0 0 (by omega)
        have e3 := hsp 0
        rw [e1, show 0 + (j + 1) = 0 + n by omega, e3, show sY v 0 = 0 from e2]
        rfl
    have := h4 0
    omega
  have en : (v n).2 = (v 0).2 := by have := hp.per 0; rw [Nat.zero_add] at this; rw [this]
  refine phases (by omega) hv hsp h4 ?_ ?_
  · apply Classical.byContradiction
    intro hno
    apply flat
    have hd : ∀ j, (v (j + 1)).2 ≤ (v j).2 := fun j => by
      apply Int.not_lt.1
      intro h
      exact hno ⟨j, Int.sign_eq_one_of_pos (by rw [dv_snd]; omega)⟩
    intro j hj
    have h1 := mono_seg (F := fun k => - (v k).2) (x := 0) j (fun k _ _ => by have := hd k; omega)
    have h2 := mono_seg (F := fun k => - (v k).2) (x := j) (n - j) (fun k _ _ => by have := hd k; omega)
    rw [Nat.zero_add] at h1
    rw [show j + (n - j) = n by omega] at h2
    omega
  · apply Classical.byContradiction
    intro hno
    apply flat
    have hd : ∀ j, (v j).2 ≤ (v (j + 1)).2 := fun j => by
      apply Int.not_lt.1
      intro h
      exact hno ⟨j, Int.sign_eq_neg_one_of_neg (by rw [dv_snd]; omega)⟩
    intro j hj
    have h1 := mono_seg (F := fun k => (v k).2) (x := 0) j (fun k _ _ => hd k)
    have h2 := mono_seg (F := fun k => (v k).2) (x := j) (n - j) (fun k _ _ => hd k)
    rw [Nat.zero_add] at h1
    rw [show j + (n - j) = n by omega] at h2
    omega
end
section
open Go.RowKit Go.Shelf

section
variable {n : Nat} {v : Nat → Int × Int} {i a b c : Nat}
theorem area_base (hp : Pk.Pen n v) (hl : ∀ j, 0 ≤ Pk.crs (Pk.dv v j) (Pk.dv v (j + 1))) (ph : Phases (sY v) n i a b c)
    (hw : ∀ m M : Int, (∀ k, k ≤ n → m ≤ (v (i + k)).1 ∧ (v (i + k)).1 ≤ M) → (v (i + b)).2 - (v i).2 ≤ M - m)
    {dl : Int} (hd0 : 0 ≤ dl) (hd1 : (v (i + c)).1 - (v (i + a)).1 ≤ dl) (hd2 : -dl ≤ (v (i + b)).1 - (v i).1) :
    ((v (i + b)).2 - (v i).2) * ((v (i + b)).2 - (v i).2 - dl) ≤ Pk.areaTo v n := by
  have hab := ph.ab
  have hcn := ph.cn
  have hlt := (heights hp ph).lt
  obtain ⟨R, R1, R2, R3⟩ := most (fun k => (v (i + k)).1) a (b - a)
  obtain ⟨L, L1, L2, L3⟩ := most (fun k => - (v (i + k)).1) c (n - c)
  have hM := right_all hp hl ph (M := (v (i + R)).1) (fun k h1 h2 => R3 k h1 (by omega))
  have hm := left_all hp hl ph (M := (v (i + L)).1) (fun k h1 h2 => by have := L3 k h1 (by omega); omega)
  have hW := hw _ _ (fun k hk => ⟨hm k hk, hM k hk⟩)
  have h := area_wide hp hl ph (R := R) (L := L) R1 (by omega) L1 (by omega) hd0 hd1 hd2
  have h2 := Int.mul_le_mul_of_nonneg_left (show (v (i + b)).2 - (v i).2 - dl ≤ (v (i + R)).1 - (v (i + L)).1 - dl by omega) (show 0 ≤ (v (i + b)).2 - (v i).2 by omega)
  omega
end
end
section
open Go.RowKit Go.Shelf

section
variable {n : Nat} {v : Nat → Int × Int} {i a b c : Nat}
theorem area_shear (hp : Pk.Pen n v) (hl : ∀ j, 0 ≤ Pk.crs (Pk.dv v j) (Pk.dv v (j + 1))) (ph : Phases (sY v) n i a b c)
    (hw : ∀ k m M : Int, (∀ j, j ≤ n → m ≤ (v (i + j)).1 + k * (v (i + j)).2 ∧ (v (i + j)).1 + k * (v (i + j)).2 ≤ M) → (v (i + b)).2 - (v i).2 ≤ M - m)
    {p S : Int} (hp0 : p = (v (i + b)).2 - (v i).2) (hS : S = ((v (i + a)).1 - (v i).1) + ((v (i + b)).1 - (v (i + c)).1)) (hSp : S < p) : p * (p + S) ≤ 2 * Pk.areaTo v n := by
  have hh := heights hp ph
  have hlt := hh.lt
  have ya := hh.low a (Nat.le_refl _)
  have yc := hh.top c ph.bc (Nat.le_refl _)
  obtain ⟨D, hD⟩ : ∃ D, D = (v (i + c)).1 - (v (i + a)).1 := ⟨_, rfl⟩
  -- the shear
  obtain ⟨k, hk1, hk2⟩ : ∃ k : Int, 2 * (D + k * p) ≤ p - S ∧ -(p + S) < 2 * (D + k * p) := by
    refine ⟨-((2 * D + p + S - 1) / (2 * p)), ?_, ?_⟩
    all_goals
      have h1 := Int.emod_add_mul_ediv (2 * D + p + S - 1) (2 * p)
      have h2 := Int.emod_nonneg (2 * D + p + S - 1) (show 2 * p ≠ 0 by omega)
      have h3 := Int.emod_lt_of_pos (2 * D + p + S - 1) (show 0 < 2 * p by omega)
      obtain ⟨q, hq⟩ : ∃ q, q = (2 * D + p + S - 1) / (2 * p) := ⟨_, rfl⟩
      rw [← hq] at h1 ⊢
      have e : 2 * p * q = 2 * (q * p) := by grind
      rw [e] at h1
      rw [Int.neg_mul]
      omega
  have hpu : Pk.Pen n (fun j => shr 1 k 0 1 (v j)) := pen_lin (by omega) hp (fun _ => rfl)
  have hdu : ∀ j, Pk.dv (fun j => shr 1 k 0 1 (v j)) j = shr 1 k 0 1 (Pk.dv v j) := fun j => by unfold Pk.dv; rw [shr_sub]
  have hY : ∀ x : Int × Int, (shr 1 k 0 1 x).2 = x.2 := fun x => by unfold shr; simp only; omega
  have hX : ∀ x : Int × Int, (shr 1 k 0 1 x).1 = x.1 + k * x.2 := fun x => by unfold shr; simp only; omega
  have hlu : ∀ j, 0 ≤ Pk.crs (Pk.dv (fun j => shr 1 k 0 1 (v j)) j) (Pk.dv (fun j => shr 1 k 0 1 (v j)) (j + 1)) := fun j => by
    rw [hdu, hdu, shr_crs]
    have := hl j
    omega
  have hsu : sY (fun j => shr 1 k 0 1 (v j)) = sY v := by funext j; unfold sY; rw [hdu, hY]
  have hau : Pk.areaTo (fun j => shr 1 k 0 1 (v j)) n = Pk.areaTo v n := by
    rw [area_shr (b0 := 1) (b1 := k) (b2 := 0) (b3 := 1) (v := v) (fun _ => rfl) n]
    omega
  obtain ⟨dl, hdl⟩ : ∃ dl : Int, dl = max 0 (max (D + k * p) (-(D + k * p + S))) := ⟨_, rfl⟩
  have hb := area_base hpu hlu (by rw [hsu]; exact ph) (fun m M h => by
    simp only [hY]
    exact hw k m M (fun j hj => by have := h j hj; simp only [hX] at this; exact this)) (dl := dl) (by omega) (by
      simp only [hX]
      rw [ya, yc]
      have e : k * (v (i + b)).2 - k * (v i).2 = k * p := by rw [hp0, Int.mul_sub]
      omega) (by
      simp only [hX]
      have e : k * (v (i + b)).2 - k * (v i).2 = k * p := by rw [hp0, Int.mul_sub]
      omega)
  simp only [hY] at hb
  rw [hau, ← hp0] at hb
  have h1 : 2 * dl ≤ p - S := by omega
  have h2 := Int.mul_le_mul_of_nonneg_left (show p + S ≤ 2 * (p - dl) by omega) (show 0 ≤ p by omega)
  have e : p * (2 * (p - dl)) = 2 * (p * (p - dl)) := by grind
  omega
end
end
section
open Go.RowKit Go.Shelf

section
variable {n : Nat} {v : Nat → Int × Int} {i a b c : Nat}
theorem scott_pos (hp : Pk.Pen n v) (hl : ∀ j, 0 ≤ Pk.crs (Pk.dv v j) (Pk.dv v (j + 1))) (ph : Phases (sY v) n i a b c)
    (hw : ∀ k m M : Int, (∀ j, j ≤ n → m ≤ (v (i + j)).1 + k * (v (i + j)).2 ∧ (v (i + j)).1 + k * (v (i + j)).2 ≤ M) → (v (i + b)).2 - (v i).2 ≤ M - m)
    (hp2 : 2 ≤ (v (i + b)).2 - (v i).2) : 2 * Pk.borderN v n ≤ Pk.areaTo v n + 9 := by
  have hbc := ph.bc
  have hh := heights hp ph
  have ya := hh.low a (Nat.le_refl _)
  have yc := hh.top c hbc (Nat.le_refl _)
  have h1 := border_le hp hl ph
  have h2 := area_flat hp hl ph
  have h3 := area_shear hp hl ph hw rfl rfl
  have q1 := mono_seg (F := fun k => (v (i + k)).1) (x := 0) a (fun j _ h3 => by
    have := (low_dx hp hl ph (a - j - 1) j (by omega)).1
    rw [dv_fst] at this
    rw [show i + (j + 1) = i + j + 1 by omega]
    omega)
  have q2 := mono_seg (F := fun k => - (v (i + k)).1) (x := b) (c - b) (fun j h2 h3 => by
    have := (top_dx hp hl ph (j - b) (by omega)).1
    rw [show b + (j - b) = j by omega, dv_fst] at this
    rw [show i + (j + 1) = i + j + 1 by omega]
    omega)
  rw [show i + (0 + a) = i + a by omega, show v (i + 0) = v i from rfl] at q1
  rw [show b + (c - b) = c by omega] at q2
  obtain ⟨p, hpp⟩ : ∃ t, t = (v (i + b)).2 - (v i).2 := ⟨_, rfl⟩
  obtain ⟨S, hS⟩ : ∃ t, t = (v (i + a)).1 - (v i).1 + ((v (i + b)).1 - (v (i + c)).1) := ⟨_, rfl⟩
  rw [← hpp] at h2 h3 hp2
  rw [← hS] at h2 h3
  have hS0 : 0 ≤ S := by omega
  have hb : Pk.borderN v n ≤ S + 2 * p := by omega
  clear h1 q1 q2 hpp hS ya yc hh hw
  by_cases c1 : p = 2
  · subst c1; omega
  by_cases c2 : 4 ≤ S
  · have := Int.mul_nonneg (show 0 ≤ p - 2 by omega) (show 0 ≤ S - 4 by omega)
    have e : (p - 2) * (S - 4) = p * S - 4 * p - 2 * S + 8 := by grind
    omega
  by_cases c3 : p = 3
  · subst c3
    by_cases c4 : S < 3
    · have := h3 c4; omega
    · omega
  · have h4 := h3 (by omega)
    have m1 := sq_ge (p - 4)
    have m2 := Int.mul_nonneg (show 0 ≤ p - 4 by omega) hS0
    have e1 : (p - 4) * (p - 4) = p * p - 8 * p + 16 := by grind
    have e2 : (p - 4) * S = p * S - 4 * S := by grind
    have e3 : p * (p + S) = p * p + p * S := by grind
    omega
end
end
section
open Go.RowKit Go.Shelf

theorem convex_turns {xs : PtL} (hv : readP xs = true) (hc : convexP xs false = true) : ∃ s : Int, (s = 1 ∨ s = -1) ∧ ∀ j, 0 ≤ s * Pk.crs (Pk.dv (postAt xs) j) (Pk.dv (postAt xs) (j + 1)) := by
  rw [convex_eq hv] at hc
  have hone : ¬ (Hit (postAt xs) 1 ∧ Hit (postAt xs) (-1)) := by
    rintro ⟨h1, h2⟩
    unfold convexR at hc
    rw [(hit_iff hv 1).2 h1, (hit_iff hv (-1)).2 h2] at hc
    simp at hc
  by_cases h1 : Hit (postAt xs) 1
  · refine ⟨1, .inl rfl, fun j => ?_⟩
    rcases Pk.sign_cases (Pk.crs (Pk.dv (postAt xs) j) (Pk.dv (postAt xs) (j + 1))) with ⟨_, h⟩ | ⟨_, h⟩ | ⟨h, _⟩
    · omega
    · omega
    · exact absurd ⟨h1, j, h⟩ hone
  · refine ⟨-1, .inr rfl, fun j => ?_⟩
    rcases Pk.sign_cases (Pk.crs (Pk.dv (postAt xs) j) (Pk.dv (postAt xs) (j + 1))) with ⟨h, _⟩ | ⟨_, h⟩ | ⟨_, h⟩
    · exact absurd ⟨j, h⟩ h1
    · omega
    · omega
end
section
open Go.RowKit Go.Shelf

section
variable {n : Nat} {v : Nat → Int × Int} {i a b c : Nat}
theorem area_thin (hp : Pk.Pen n v) (ph : Phases (sY v) n i a b c) (h1 : (v (i + b)).2 - (v i).2 = 1) :
    Pk.areaTo v n ≤ ((v (i + a)).1 - (v i).1) + ((v (i + b)).1 - (v (i + c)).1) := by
  have hab := ph.ab
  have hbc := ph.bc
  have hcn := ph.cn
  have hh := heights hp ph
  have ya := hh.low a (Nat.le_refl _)
  have yc := hh.top c hbc (Nat.le_refl _)
  have hba : b = a + 1 := by
    apply Classical.byContradiction
    intro h
    have u0 : 0 < (Pk.dv v (i + a)).2 := Int.sign_eq_one_iff_pos.1 (ph.up a (Nat.le_refl _) hab)
    have u1 : 0 < (Pk.dv v (i + (a + 1))).2 := Int.sign_eq_one_iff_pos.1 (ph.up (a + 1) (by omega) (by omega))
    rw [dv_snd] at u0 u1
    have := (hh.up (a + 2) (by omega) (by omega)).2
    rw [show i + (a + 1) + 1 = i + (a + 2) by omega, show i + (a + 1) = i + a + 1 by omega] at u1
    omega
  have hnc : n = c + 1 := by
    apply Classical.byContradiction
    intro h
    have u0 : (Pk.dv v (i + c)).2 < 0 := Int.sign_eq_neg_one_iff_neg.1 (ph.down c (Nat.le_refl _) hcn)
    have u1 : (Pk.dv v (i + (c + 1))).2 < 0 := Int.sign_eq_neg_one_iff_neg.1 (ph.down (c + 1) (by omega) (by omega))
    rw [dv_snd] at u0 u1
    have := (hh.down (c + 2) (by omega) (by omega)).1
    rw [show i + (c + 1) + 1 = i + (c + 2) by omega, show i + (c + 1) = i + c + 1 by omega] at u1
    omega
  have e1 : Pk.areaTo v n = Pk.nsum (fun k => Pk.crs (v (i + k)) (v (i + k + 1))) n := by
    rw [area_nsum]
    exact (nsum_rot (F := fun j => Pk.crs (v j) (v (j + 1))) (fun j => by rw [hp.per, show j + n + 1 = j + 1 + n by omega, hp.per]) i).symm
  obtain ⟨G, hG⟩ : ∃ G : Nat → Int, G = fun k => Pk.crs (v (i + k)) (v (i + k + 1)) := ⟨_, rfl⟩
  obtain ⟨y, hy⟩ : ∃ y, y = (v i).2 := ⟨_, rfl⟩
  have s1 := nsum_seg (G := G) (F := fun k => -(y * (v (i + k)).1)) (x := 0) a (fun k _ h2 => by
    rw [hG]
    simp only
    unfold Pk.crs
    rw [show i + (k + 1) = i + k + 1 by omega, hh.low k (by omega), show i + k + 1 = i + (k + 1) by omega, hh.low (k + 1) (by omega), ← hy]
    grind)
  have s3 := nsum_seg (G := G) (F := fun k => -((y + 1) * (v (i + k)).1)) (x := b) (c - b) (fun k h2 h3 => by
    rw [hG]
    simp only
    unfold Pk.crs
    rw [hh.top k (by omega) (by omega), show i + k + 1 = i + (k + 1) by omega, hh.top (k + 1) (by omega) (by omega), show (v (i + b)).2 = y + 1 by omega]
    grind)
  rw [Nat.zero_add, show v (i + 0) = v i from rfl] at s1
  rw [show b + (c - b) = c by omega] at s3
  have g0 : Pk.nsum G 0 = 0 := rfl
  have s2 : Pk.nsum G b = Pk.nsum G a + Pk.crs (v (i + a)) (v (i + b)) := by rw [hba, Pk.nsum, hG]; rfl
  have s4 : Pk.nsum G n = Pk.nsum G c + Pk.crs (v (i + c)) (v i) := by
    have := hp.per i
    rw [hnc] at this ⊢
    rw [Pk.nsum, hG]
    simp only
    rw [show i + c + 1 = i + (c + 1) by omega, this]
  have c2 : Pk.crs (v (i + a)) (v (i + b)) = (v (i + a)).1 * (y + 1) - y * (v (i + b)).1 := by unfold Pk.crs; rw [ya, show (v (i + b)).2 = y + 1 by omega, hy]
  have c4 : Pk.crs (v (i + c)) (v i) = (v (i + c)).1 * y - (y + 1) * (v i).1 := by unfold Pk.crs; rw [yc, show (v (i + b)).2 = y + 1 by omega, hy]
  rw [e1, ← hG]
  have f1 : (v (i + a)).1 * (y + 1) = y * (v (i + a)).1 + (v (i + a)).1 := by grind
  have f2 : (y + 1) * (v i).1 = y * (v i).1 + (v i).1 := by grind
  have f3 : (v (i + c)).1 * y = y * (v (i + c)).1 := by grind
  have f4 : (y + 1) * (v (i + c)).1 = y * (v (i + c)).1 + (v (i + c)).1 := by grind
  have f5 : (y + 1) * (v (i + b)).1 = y * (v (i + b)).1 + (v (i + b)).1 := by grind
  omega
end
end
section
open Go.RowKit Go.Shelf

section
variable {n : Nat} {v : Nat → Int × Int} {i a b c : Nat}
theorem border_ge' (hp : Pk.Pen n v) (hl : ∀ j, 0 ≤ Pk.crs (Pk.dv v j) (Pk.dv v (j + 1))) (ph : Phases (sY v) n i a b c) :
    ((v (i + a)).1 - (v i).1) + ((v (i + b)).1 - (v (i + c)).1) + ((b : Int) - a) + ((n : Int) - c) ≤ Pk.borderN v n := by
  have e1 : Pk.borderN v n = Pk.nsum (fun k => (Int.gcd (Pk.dv v (i + k)).1 (Pk.dv v (i + k)).2 : Int)) n :=
    (nsum_rot (F := fun j => (Int.gcd (Pk.dv v j).1 (Pk.dv v j).2 : Int)) (fun j => by rw [dv_per hp]) i).symm
  have hab := ph.ab
  have hbc := ph.bc
  have hcn := ph.cn
  obtain ⟨G, hG⟩ : ∃ G : Nat → Int, G = fun k => -(Int.gcd (Pk.dv v (i + k)).1 (Pk.dv v (i + k)).2 : Int) := ⟨_, rfl⟩
  have eG : Pk.nsum G n = - Pk.borderN v n := by rw [hG, nsum_neg, e1]
  have gp : ∀ k, (Pk.dv v (i + k)).2 ≠ 0 → 1 ≤ (Int.gcd (Pk.dv v (i + k)).1 (Pk.dv v (i + k)).2 : Int) := fun k h => by
    have : Int.gcd (Pk.dv v (i + k)).1 (Pk.dv v (i + k)).2 ≠ 0 := fun e => h (Int.gcd_eq_zero_iff.1 e).2
    omega
  have s1 := nsum_seg (G := G) (F := fun k => -(v (i + k)).1) (x := 0) a (fun k _ h2 => by
    have h := low_dx hp hl ph (a - k - 1) k (by omega)
    rw [hG]
    simp only
    rw [h.2, Int.gcd_zero_right, show i + (k + 1) = i + k + 1 by omega]
    have e := dv_fst v (i + k)
    omega)
  have s2 := nsum_seg (G := G) (F := fun k => -(k : Int)) (x := a) (b - a) (fun k h1 h2 => by
    have h : 0 < (Pk.dv v (i + k)).2 := Int.sign_eq_one_iff_pos.1 (ph.up k (by omega) (by omega))
    have := gp k (by omega)
    rw [hG]
    simp only
    omega)
  have s3 := nsum_seg (G := G) (F := fun k => (v (i + k)).1) (x := b) (c - b) (fun k h1 h2 => by
    have h := top_dx hp hl ph (k - b) (by omega)
    rw [show b + (k - b) = k by omega] at h
    have e := dv_fst v (i + k)
    rw [hG]
    simp only
    rw [h.2, Int.gcd_zero_right, show i + (k + 1) = i + k + 1 by omega]
    omega)
  have s4 := nsum_seg (G := G) (F := fun k => -(k : Int)) (x := c) (n - c) (fun k h1 h2 => by
    have h : (Pk.dv v (i + k)).2 < 0 := Int.sign_eq_neg_one_iff_neg.1 (ph.down k (by omega) (by omega))
    have := gp k (by omega)
    rw [hG]
    simp only
    omega)
  rw [Nat.zero_add] at s1
  rw [show a + (b - a) = b by omega] at s2
  rw [show b + (c - b) = c by omega] at s3
  rw [show c + (n - c) = n by omega] at s4
  have s0 : Pk.nsum G 0 = 0 := rfl
  have z0 : v (i + 0) = v i := rfl
  rw [z0, s0] at s1
  omega
end
end
section
open Go.RowKit Go.Shelf

theorem scott_left {n : Nat} {v : Nat → Int × Int} {i a b c : Nat} (hp : Pk.Pen n v) (hl : ∀ j, 0 ≤ Pk.crs (Pk.dv v j) (Pk.dv v (j + 1))) (ph : Phases (sY v) n i a b c)
    (hw : ∀ k m M : Int, (∀ j, j ≤ n → m ≤ (v (i + j)).1 + k * (v (i + j)).2 ∧ (v (i + j)).1 + k * (v (i + j)).2 ≤ M) → (v (i + b)).2 - (v i).2 ≤ M - m)
    (hA : Pk.borderN v n ≤ Pk.areaTo v n) : 2 * Pk.borderN v n ≤ Pk.areaTo v n + 9 := by
  have hlt := (heights hp ph).lt
  have hab := ph.ab
  have hcn := ph.cn
  by_cases h1 : (v (i + b)).2 - (v i).2 = 1
  · have h2 := area_thin hp ph h1
    have h3 := border_ge' hp hl ph
    omega
  · exact scott_pos hp hl ph hw (by omega)
end
section
open Go.RowKit Go.Shelf

set_option maxHeartbeats 2000000 in
theorem scott_walk' (law : ∀ xs : PtL, readP xs = true → convexP xs false = true → insG xs 1 ≠ 0 → borderP xs ≤ 2 * insG xs 1 + 7) (xs : PtL) (A : Option Addr) (c : Nat) (w : World) (hx : xs.length ≤ 140737488351232 → PairsI w A xs) :
    Calls Try.prog 7 #[.slice A xs.length c] w fun e w' => e = .returned (.bool true) ∧ Below w.heap.size w w' := by
  by_cases hf : xs.length ≤ 60
  · have hx := hx (by omega)
    have CF := Off.mk (few_any xs A c true (decide_eq_true hf) w)
    cases hv : readP xs with
    | false =>
      have CR := Off.mk (isPenR_read xs A c w false hv hx)
      clear hx hf hv
      go_enter Try.func7, Try.ntmps7
      go_wp2_with fail
      refine CF.out.mono ?_
      rintro e w0 ⟨rfl, rfl⟩
      go_wp2_with fail
      refine CR.out.mono ?_
      rintro e w1 ⟨rfl, hb1⟩
      go_wp2_with fail
      refine (alive_any _).mono ?_
      rintro e w2 ⟨rfl, hb2⟩
      go_wp2
      go_ret
      exact ⟨rfl, belowC hb1 hb2⟩
    | true =>
      have CR := Off.mk (isPenR_read xs A c w true hv hx)
      have CV := Off.mk (fun W (hb : Below w.heap.size w W) => Convex_any xs A c W (hx.below hb))
      have CC := Off.mk (fun W (hb : Below w.heap.size w W) => Count_any xs A c W (hx.below hb))
      rw [hv] at CV CC
      simp only [if_true] at CV CC
      have hl := law xs hv
      have hp := pick_read hv
      have hb3 := border_ge hv
      have hi := inside_nonneg xs
      have hii := ins_inside hv
      obtain ⟨hn, h3, h10⟩ := near_all hv
      have hb1 := twiceP_in hn (by omega)
      rw [← hii] at hp hi
      obtain ⟨b, hb⟩ : ∃ b, b = borderP xs := ⟨_, rfl⟩
      obtain ⟨i, hi'⟩ : ∃ i, i = insG xs 1 := ⟨_, rfl⟩
      obtain ⟨v, hv'⟩ : ∃ i, i = convexP xs false := ⟨_, rfl⟩
      rw [← hb, ← hi'] at CC
      rw [← hb, ← hi', ← hv'] at hl
      rw [← hb, ← hi'] at hp
      rw [← hb] at hb3
      rw [← hi'] at hi
      rw [← hv'] at CV
      have hib : i ≤ 300000 := by omega
      have W1 : IntKind.i64.wrap (2 * i) = 2 * i := by rw [IntKind.wrap_i64]; omega
      have W2 : IntKind.i64.wrap (2 * i + 7) = 2 * i + 7 := by rw [IntKind.wrap_i64]; omega
      clear hx hf hv hp hii hn h3 h10 hb1 hb hi' hv' hb3
      by_cases hcase : v = true ∧ i ≠ 0
      · obtain ⟨rfl, h0⟩ := hcase
        have hle := hl rfl h0
        have h0' : (i == 0) = false := by simpa using h0
        have hd := decide_eq_true hle
        clear hl hib hi h0 hle
        go_enter Try.func7, Try.ntmps7
        go_wp2_with fail
        refine CF.out.mono ?_
        rintro e w0 ⟨rfl, rfl⟩
        go_wp2_with fail
        refine CR.out.mono ?_
        rintro e w1 ⟨rfl, hb1⟩
        have HB1 := Off.mk hb1
        clear hb1
        go_wp2_with fail
        refine (CV.out _ HB1.out).mono ?_
        rintro e w2 ⟨rfl, hb2⟩
        have HB2 := Off.mk (belowC HB1.out hb2)
        clear hb2
        go_wp2_with fail
        refine (CC.out _ HB2.out).mono ?_
        rintro e w3 ⟨rfl, hb3⟩
        have HB3 := Off.mk (belowC HB2.out hb3)
        clear hb3
        go_wp2_with fail
        refine (alive_any _).mono ?_
        rintro e w5 ⟨rfl, hb5⟩
        go_wp2
        go_ret
        exact ⟨rfl, belowC HB3.out hb5⟩
      · have hc : v = false ∨ (v = true ∧ i = 0) := by
          cases v with
          | false => exact .inl rfl
          | true => exact .inr ⟨rfl, Classical.byContradiction fun h => hcase ⟨rfl, h⟩⟩
        clear hl hib hi hcase
        rcases hc with rfl | ⟨rfl, rfl⟩
        all_goals
          go_enter Try.func7, Try.ntmps7
          go_wp2_with fail
          refine CF.out.mono ?_
          rintro e w0 ⟨rfl, rfl⟩
          go_wp2_with fail
          refine CR.out.mono ?_
          rintro e w1 ⟨rfl, hb1⟩
          have HB1 := Off.mk hb1
          clear hb1
          go_wp2_with fail
          refine (CV.out _ HB1.out).mono ?_
          rintro e w2 ⟨rfl, hb2⟩
          have HB2 := Off.mk (belowC HB1.out hb2)
          clear hb2
          go_wp2_with fail
          refine (CC.out _ HB2.out).mono ?_
          rintro e w3 ⟨rfl, hb3⟩
          have HB3 := Off.mk (belowC HB2.out hb3)
          clear hb3
          go_wp2_with fail
          refine (alive_any _).mono ?_
          rintro e w5 ⟨rfl, hb5⟩
          go_wp2
          go_ret
          exact ⟨rfl, belowC HB3.out hb5⟩
  · have CF := Off.mk (few_any xs A c false (decide_eq_false hf) w)
    clear hx hf
    go_enter Try.func7, Try.ntmps7
    go_wp2_with fail
    refine CF.out.mono ?_
    rintro e w0 ⟨rfl, rfl⟩
    go_wp2_with fail
    refine (alive_any _).mono ?_
    rintro e w3 ⟨rfl, hb3⟩
    go_wp2
    go_ret
    exact ⟨rfl, hb3⟩
end
section
open Go.RowKit Go.Shelf

/-- A pen can be sheared so that it is at most so high. -/
def Thin (v : Nat → Int × Int) (p : Nat) : Prop := ∃ b0 b1 b2 b3 : Int, b0 * b3 - b1 * b2 = 1 ∧ ∃ m : Int, ∀ j, m ≤ (shr b0 b1 b2 b3 (v j)).2 ∧ (shr b0 b1 b2 b3 (v j)).2 ≤ m + p
theorem per_more {n : Nat} {v : Nat → Int × Int} (hp : Pk.Pen n v) (j : Nat) : ∀ k, v (j + n * k) = v j
  | 0 => rfl
  | k + 1 => by rw [Nat.mul_succ, ← Nat.add_assoc, hp.per, per_more hp j k]
theorem per_all {n : Nat} {v : Nat → Int × Int} (hp : Pk.Pen n v) (i : Nat) {P : Int × Int → Prop} (h : ∀ j, j ≤ n → P (v (i + j))) (j : Nat) : P (v j) := by
  have hn := hp.n3
  have hi : i ≤ n * i := Nat.le_mul_of_pos_left i (by omega)
  have e := Nat.mod_add_div (j + n * i - i) n
  have hlt := Nat.mod_lt (j + n * i - i) (show n > 0 by omega)
  have := h ((j + n * i - i) % n) (by omega)
  rw [← per_more hp _ ((j + n * i - i) / n), show i + (j + n * i - i) % n + n * ((j + n * i - i) / n) = j + n * i by omega, per_more hp] at this
  exact this
theorem least_of {P : Nat → Prop} (h : ∃ p, P p) : ∃ p, P p ∧ ∀ q, P q → p ≤ q := by
  obtain ⟨p, hp⟩ := h
  induction p using Nat.strongRecOn with
  | ind p ih =>
    by_cases g : ∃ q, q < p ∧ P q
    · obtain ⟨q, h1, h2⟩ := g
      exact ih q h1 h2
    · exact ⟨p, hp, fun q hq => Nat.not_lt.1 fun hlt => g ⟨q, hlt, hq⟩⟩
theorem left_shr {b0 b1 b2 b3 : Int} {v u : Nat → Int × Int} (h : ∀ i, u i = shr b0 b1 b2 b3 (v i)) (j : Nat) : Pk.crs (Pk.dv u j) (Pk.dv u (j + 1)) = (b0 * b3 - b1 * b2) * Pk.crs (Pk.dv v j) (Pk.dv v (j + 1)) := by
  have e : ∀ i, Pk.dv u i = shr b0 b1 b2 b3 (Pk.dv v i) := fun i => by unfold Pk.dv; rw [h, h, shr_sub]
  rw [e, e, shr_crs]
theorem heights_all {n : Nat} {v : Nat → Int × Int} {i a b c : Nat} (hp : Pk.Pen n v) (ph : Phases (sY v) n i a b c) (j : Nat) : (v i).2 ≤ (v j).2 ∧ (v j).2 ≤ (v (i + b)).2 := by
  have hh := heights hp ph
  have hab := ph.ab
  have hbc := ph.bc
  have hcn := ph.cn
  have hlt := hh.lt
  refine per_all hp i (P := fun p => (v i).2 ≤ p.2 ∧ p.2 ≤ (v (i + b)).2) (fun k hk => ?_) j
  by_cases h1 : k ≤ a
  · rw [hh.low k h1]; omega
  · by_cases h2 : k ≤ b
    · exact hh.up k (by omega) h2
    · by_cases h3 : k ≤ c
      · rw [hh.top k (by omega) h3]; omega
      · exact hh.down k (by omega) hk
theorem thin_some {n : Nat} {v : Nat → Int × Int} (hp : Pk.Pen n v) (hl : ∀ j, 0 ≤ Pk.crs (Pk.dv v j) (Pk.dv v (j + 1))) : ∃ p, Thin v p := by
  obtain ⟨i, a, b, c, ph⟩ := phases_of hp hl
  have hlt := (heights hp ph).lt
  refine ⟨((v (i + b)).2 - (v i).2).toNat, 1, 0, 0, 1, by decide, (v i).2, fun j => ?_⟩
  have := heights_all hp ph j
  have e : (shr 1 0 0 1 (v j)).2 = (v j).2 := by unfold shr; simp only; omega
  rw [e]
  omega
theorem scott_one {n : Nat} {v : Nat → Int × Int} (hp : Pk.Pen n v) (hl : ∀ j, 0 ≤ Pk.crs (Pk.dv v j) (Pk.dv v (j + 1))) (hA : Pk.borderN v n ≤ Pk.areaTo v n) : 2 * Pk.borderN v n ≤ Pk.areaTo v n + 9 := by
  obtain ⟨p, ⟨b0, b1, b2, b3, hd, m0, hm⟩, hmin⟩ := least_of (thin_some hp hl)
  obtain ⟨u, hu⟩ : ∃ u : Nat → Int × Int, ∀ i, u i = shr b0 b1 b2 b3 (v i) := ⟨_, fun _ => rfl⟩
  have hpu := pen_shr (.inl hd) hp hu
  have hlu : ∀ j, 0 ≤ Pk.crs (Pk.dv u j) (Pk.dv u (j + 1)) := fun j => by rw [left_shr hu, hd, Int.one_mul]; exact hl j
  have ea := area_shr hu n
  have eb := border_shr (.inl hd) hu n
  rw [hd, Int.one_mul] at ea
  rw [← ea, ← eb]
  rw [← ea, ← eb] at hA
  obtain ⟨i, a, b, c, ph⟩ := phases_of hpu hlu
  refine scott_left hpu hlu ph (fun k m M h => ?_) hA
  have hlt := (heights hpu ph).lt
  have h1 := hm i
  have h2 := hm (i + b)
  rw [← hu] at h1 h2
  have hall := per_all hpu i (P := fun q => m ≤ q.1 + k * q.2 ∧ q.1 + k * q.2 ≤ M) h
  have hmM := hall 0
  have := hmin (M - m).toNat ⟨-b2, -b3, b0 + k * b2, b1 + k * b3, by rw [← hd]; grind, m, fun j => by
    have g := hall j
    rw [hu] at g
    have e : (shr (-b2) (-b3) (b0 + k * b2) (b1 + k * b3) (v j)).2 = (shr b0 b1 b2 b3 (v j)).1 + k * (shr b0 b1 b2 b3 (v j)).2 := by unfold shr; simp only; grind
    rw [e]
    omega⟩
  omega
theorem scott_law (xs : PtL) (hv : readP xs = true) (hc : convexP xs false = true) (hi : insG xs 1 ≠ 0) : borderP xs ≤ 2 * insG xs 1 + 7 := by
  have hp := pen_of hv
  have h1 := pick_read hv
  have h2 := inside_nonneg xs
  rw [ins_inside hv] at hi ⊢
  rw [twice_area, border_N] at h1
  rw [border_N]
  obtain ⟨s, hs, hl⟩ := convex_turns hv hc
  have pos : ∀ {n : Nat} {u : Nat → Int × Int}, Pk.Pen n u → (∀ j, 0 ≤ Pk.crs (Pk.dv u j) (Pk.dv u (j + 1))) → 0 ≤ Pk.areaTo u n := fun {n u} hp hl => by
    have h3 := quad hp hl 0 0 0 0 (Nat.le_refl _) (Nat.le_refl _) (by have := hp.n3; omega)
    simp only [Nat.add_zero, Pk.vsub_self] at h3
    have : Pk.crs (0, 0) (0, 0) = 0 := by decide
    omega
  rcases hs with rfl | rfl
  · have h3 := pos hp (fun j => by have := hl j; omega)
    have h4 := scott_one hp (fun j => by have := hl j; omega) (by omega)
    omega
  · obtain ⟨u, hu⟩ : ∃ u : Nat → Int × Int, ∀ i, u i = shr 1 0 0 (-1) (postAt xs i) := ⟨_, fun _ => rfl⟩
    have hd : (1 : Int) * (-1) - 0 * 0 = 1 ∨ (1 : Int) * (-1) - 0 * 0 = -1 := .inr (by decide)
    have hpu := pen_shr hd hp hu
    have ea := area_shr hu xs.length
    have eb := border_shr hd hu xs.length
    have hlu : ∀ j, 0 ≤ Pk.crs (Pk.dv u j) (Pk.dv u (j + 1)) := fun j => by rw [left_shr hu]; have := hl j; omega
    have h3 := pos hpu hlu
    have h4 := scott_one hpu hlu (by omega)
    omega
theorem scott_walk (xs : PtL) (A : Option Addr) (c : Nat) (w : World) (hx : xs.length ≤ 140737488351232 → PairsI w A xs) :
    Calls Try.prog 7 #[.slice A xs.length c] w fun e w' => e = .returned (.bool true) ∧ Below w.heap.size w w' := scott_walk' scott_law xs A c w hx
end
end Go.Proofs.Ytbpmiphipjkdlaa
