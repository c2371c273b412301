/- Plain: the opposite of a pen with one point inside. Plain: the opposite of a pen with one point inside is such a pen; both borders have 12 points. Plain: what PensTwelve says of a pen for which there is an opposite one. The walk of PensTwelve. -/
import Derived.Test.YtbpmiphipjkdlaaCv
import Derived.Test.YtbpmiphipjkdlaaCc
import Derived.Test.YtbpmiphipjkdlaaBe
import Derived.Test.YtbpmiphipjkdlaaBa
import Derived.BigQuiet
namespace Go.Proofs.Ytbpmiphipjkdlaa
section
section
open Go.RowKit Go.Shelf

/-- A pen without straight posts that turns to one side. -/
theorem strict_turns {xs : PtL} (hv : readP xs = true) (h : convexP xs true = true) : ∃ s : Int, (s = 1 ∨ s = -1) ∧ ∀ j, 0 < s * Pk.crs (Pk.dv (postAt xs) j) (Pk.dv (postAt xs) (j + 1)) := by
  rw [convexP_true hv, Bool.and_eq_true, Bool.not_eq_true'] at h
  obtain ⟨hc, hst⟩ := h
  rw [← Bool.not_eq_true, hit_iff hv] at hst
  have hnz : ∀ j, (Pk.crs (Pk.dv (postAt xs) j) (Pk.dv (postAt xs) (j + 1))).sign ≠ 0 := fun j e => hst ⟨j, e⟩
  have hone : ¬ (Hit (postAt xs) 1 ∧ Hit (postAt xs) (-1)) := by
    rintro ⟨h1, h2⟩
    unfold convexR at hc
    rw [(hit_iff hv 1).2 h1, (hit_iff hv (-1)).2 h2] at hc
    simp at hc
  by_cases h1 : Hit (postAt xs) 1
  · refine ⟨1, .inl rfl, fun j => ?_⟩
    rcases Pk.sign_cases (Pk.crs (Pk.dv (postAt xs) j) (Pk.dv (postAt xs) (j + 1))) with ⟨_, h⟩ | ⟨h, _⟩ | ⟨h, _⟩
    · omega
    · exact absurd h (hnz j)
    · exact absurd ⟨h1, j, h⟩ hone
  · refine ⟨-1, .inr rfl, fun j => ?_⟩
    rcases Pk.sign_cases (Pk.crs (Pk.dv (postAt xs) j) (Pk.dv (postAt xs) (j + 1))) with ⟨h, _⟩ | ⟨h, _⟩ | ⟨_, h⟩
    · exact absurd ⟨j, h⟩ h1
    · exact absurd h (hnz j)
    · omega
theorem strict_of {xs : PtL} (hv : readP xs = true) {s : Int} (hs : s = 1 ∨ s = -1) (hl : ∀ j, 0 < s * Pk.crs (Pk.dv (postAt xs) j) (Pk.dv (postAt xs) (j + 1))) : convexP xs true = true := by
  rw [convexP_true hv, Bool.and_eq_true, Bool.not_eq_true']
  have hz : ¬ Hit (postAt xs) 0 := by
    rintro ⟨j, e⟩
    have := hl j
    rw [Int.sign_eq_zero_iff_zero.1 e, Int.mul_zero] at this
    omega
  refine ⟨?_, by rw [← Bool.not_eq_true, hit_iff hv]; exact hz⟩
  unfold convexR
  rcases hs with rfl | rfl
  · have : ¬ Hit (postAt xs) (-1) := by
      rintro ⟨j, e⟩
      have h1 := hl j
      have h2 := Int.sign_eq_neg_one_iff_neg.1 e
      omega
    rw [← hit_iff hv, Bool.not_eq_true] at this
    rw [this]
    simp
  · have : ¬ Hit (postAt xs) 1 := by
      rintro ⟨j, e⟩
      have h1 := hl j
      have h2 := Int.sign_eq_one_iff_pos.1 e
      omega
    rw [← hit_iff hv, Bool.not_eq_true] at this
    rw [this]
    simp
section
variable {n : Nat} {v : Nat → Int × Int} {s : Int}
/-- A point inside lies on the inner side of each side. -/
theorem inside_side (hp : Pk.Pen n v) (hs : s = 1 ∨ s = -1) (hl : ∀ j, 0 < s * Pk.crs (Pk.dv v j) (Pk.dv v (j + 1))) {p : Int × Int} (hoff : ¬ Pk.OnB n v p) (ht : Pk.tot n v p ≠ 0) (i : Nat) :
    0 < s * Pk.crs (Pk.dv v i) (Pk.vsub p (v i)) := by
  apply Int.not_le.1
  intro hle
  by_cases h0 : s * Pk.crs (Pk.dv v i) (Pk.vsub p (v i)) = 0
  · have hz : Pk.crs (Pk.dv v i) (Pk.vsub p (v i)) = 0 := by rcases hs with rfl | rfl <;> omega
    exact ht (line_out hp hs hl i hz (fun ho => hoff (Pk.OnB.of hp ho)))
  · apply ht
    obtain ⟨e, he⟩ : ∃ e, e = Pk.dv v i := ⟨_, rfl⟩
    have hn3 := hp.n3
    have hall : ∀ t, t < n → 0 < Pk.dt (s * (-e.2), s * e.1) (Pk.vsub (v (i + t)) p) := fun t htn => by
      have e1 : Pk.dt (s * (-e.2), s * e.1) (Pk.vsub (v (i + t)) p) = s * Pk.crs e (Pk.vsub (v (i + t)) (v i)) - s * Pk.crs e (Pk.vsub p (v i)) := by unfold Pk.dt Pk.crs Pk.vsub; simp only; grind
      rw [e1]
      have h2 : 0 ≤ s * Pk.crs e (Pk.vsub (v (i + t)) (v i)) := by
        by_cases t0 : t = 0
        · subst t0
          rw [Nat.add_zero, Pk.vsub_self]
          unfold Pk.crs
          simp
        by_cases t1 : t = 1
        · subst t1
          rw [show Pk.vsub (v (i + 1)) (v i) = e from he.symm]
          have : Pk.crs e e = 0 := by unfold Pk.crs; grind
          rw [this, Int.mul_zero]
          omega
        have h1 := side_of hp hs hl i t (by omega) htn
        rw [← he] at h1
        omega
      rw [← he] at hle h0
      omega
    have hall' : ∀ t, t ≤ n → 0 < Pk.dt (s * (-e.2), s * e.1) (Pk.vsub (v (i + t)) p) := fun t ht => by
      by_cases h : t < n
      · exact hall t h
      · obtain rfl : t = n := by omega
        rw [hp.per]
        have := hall 0 (by omega)
        rwa [Nat.add_zero] at this
    have h1 := Pk.rowW_half n hall'
    rw [hp.per, Pk.W_self, Pk.rowW_all hp.per] at h1
    exact h1
theorem nsum_ge {F G : Nat → Int} : ∀ n, (∀ j, j < n → G j ≤ F j) → Pk.nsum G n ≤ Pk.nsum F n
  | 0, _ => by simp [Pk.nsum]
  | n + 1, h => by
    have := nsum_ge n (fun j hj => h j (by omega))
    have := h n (by omega)
    rw [Pk.nsum, Pk.nsum]
    omega
theorem nsum_all {F G : Nat → Int} : ∀ n, (∀ j, j < n → G j ≤ F j) → Pk.nsum F n ≤ Pk.nsum G n → ∀ j, j < n → F j = G j
  | 0, _, _, j, hj => by omega
  | n + 1, h, hs, j, hj => by
    have h1 := nsum_ge n (fun j hj => h j (by omega))
    have h2 := h n (by omega)
    rw [Pk.nsum, Pk.nsum] at hs
    by_cases e : j < n
    · exact nsum_all n (fun j hj => h j (by omega)) (by omega) j e
    · obtain rfl : j = n := by omega
      omega
theorem nsum_times (c : Int) (F : Nat → Int) : ∀ n, Pk.nsum (fun j => c * F j) n = c * Pk.nsum F n
  | 0 => by simp [Pk.nsum]
  | n + 1 => by rw [Pk.nsum, Pk.nsum, nsum_times c F n, Int.mul_add]
/-- The opposite points, as a function of all numbers. -/
def oppN (v : Nat → Int × Int) (j : Nat) : Int × Int := (((v (j + 1)).2 - (v j).2).tdiv (Pk.crs (v j) (v (j + 1))), ((v j).1 - (v (j + 1)).1).tdiv (Pk.crs (v j) (v (j + 1))))
/-- The number of points on a side. -/
def gN (v : Nat → Int × Int) (j : Nat) : Int := (Int.gcd ((v (j + 1)).1 - (v j).1) ((v (j + 1)).2 - (v j).2) : Nat)
/-- A quarter turn, times a number. -/
def jq (k : Int) (p : Int × Int) : Int × Int := (k * (-p.2), k * p.1)
/-- A pen and its opposite. -/
structure Dual (n : Nat) (v o : Nat → Int × Int) (s : Int) (g h : Nat → Int) : Prop where
  n3 : 3 ≤ n
  sg : s = 1 ∨ s = -1
  g1 : ∀ j, 1 ≤ g j
  h1 : ∀ j, 1 ≤ h j
  perv : ∀ j, v (j + n) = v j
  pero : ∀ j, o (j + n) = o j
  stepv : ∀ j, v (j + 1) = Pk.vadd (v j) (jq (s * g j) (o j))
  stepo : ∀ j, o (j + 1) = Pk.vadd (o j) (jq (s * h j) (v (j + 1)))
  one : ∀ j, Pk.dt (o j) (v j) = 1
  far : ∀ j t, 2 ≤ t → t < n → Pk.dt (o j) (v (j + t)) ≤ 0
theorem dual_of (hp : Pk.Pen n v) (hs : s = 1 ∨ s = -1) (hl : ∀ j, 0 < s * Pk.crs (Pk.dv v j) (Pk.dv v (j + 1))) (hoff : ¬ Pk.OnB n v (0, 0)) (ht : Pk.tot n v (0, 0) ≠ 0)
    (hA : ((Pk.areaTo v n).natAbs : Int) = Pk.borderN v n) : ∃ h, Dual n v (oppN v) s (gN v) h := by
  have hn3 := hp.n3
  have hpos : ∀ j, 0 < s * Pk.crs (v j) (v (j + 1)) := fun j => by
    have := inside_side hp hs hl hoff ht j
    have e : Pk.crs (Pk.dv v j) (Pk.vsub (0, 0) (v j)) = Pk.crs (v j) (v (j + 1)) := by unfold Pk.crs Pk.dv Pk.vsub; grind
    rwa [e] at this
  have hss : s * s = 1 := by rcases hs with rfl | rfl <;> rfl
  have hst : ∀ j, ∃ e : Int × Int, Pk.vsub (v (j + 1)) (v j) = Pk.sc (gN v j) e ∧ 1 ≤ gN v j := fun j => by
    obtain ⟨e, _, h1, h2, _⟩ := Pk.side_steps (hp.ne j)
    exact ⟨e, h1, by unfold gN; omega⟩
  have hcr : ∀ j e, Pk.vsub (v (j + 1)) (v j) = Pk.sc (gN v j) e → Pk.crs (v j) (v (j + 1)) = gN v j * Pk.crs (v j) e := fun j e he => by
    have e1 : Pk.crs (v j) (v (j + 1)) = Pk.crs (v j) (Pk.vsub (v (j + 1)) (v j)) := by unfold Pk.crs Pk.vsub; grind
    rw [e1, he]
    unfold Pk.crs Pk.sc
    grind
  have hge : ∀ j, gN v j ≤ s * Pk.crs (v j) (v (j + 1)) := fun j => by
    obtain ⟨e, h1, h2⟩ := hst j
    have h3 := hpos j
    rw [hcr j e h1] at h3 ⊢
    have h4 : s * (gN v j * Pk.crs (v j) e) = gN v j * (s * Pk.crs (v j) e) := by grind
    rw [h4] at h3 ⊢
    have h5 : 0 < s * Pk.crs (v j) e := by
      apply Int.not_le.1
      intro hle
      have := Int.mul_nonpos_of_nonneg_of_nonpos (show 0 ≤ gN v j by omega) hle
      omega
    have := Int.mul_le_mul_of_nonneg_left (show 1 ≤ s * Pk.crs (v j) e by omega) (show 0 ≤ gN v j by omega)
    omega
  have hsum : Pk.nsum (fun j => s * Pk.crs (v j) (v (j + 1))) n = s * Pk.areaTo v n := by rw [nsum_times, area_nsum]
  have hnn : 0 ≤ Pk.nsum (fun j => s * Pk.crs (v j) (v (j + 1))) n := by
    have := nsum_ge (F := fun j => s * Pk.crs (v j) (v (j + 1))) (G := fun _ => 0) n (fun j _ => Int.le_of_lt (hpos j))
    rw [Pk.nsum_none n (fun _ _ => rfl)] at this
    exact this
  have hbor : Pk.borderN v n = Pk.nsum (gN v) n := rfl
  have heq0 : ∀ j, j < n → s * Pk.crs (v j) (v (j + 1)) = gN v j := nsum_all n (fun j _ => hge j) (by
    rw [← hbor, hsum, ← hA]
    rw [hsum] at hnn
    rcases hs with rfl | rfl <;> omega)
  have hgper : ∀ j, gN v (j + n) = gN v j := fun j => by unfold gN; rw [hp.per, show j + n + 1 = j + 1 + n by omega, hp.per]
  have heq : ∀ j, s * Pk.crs (v j) (v (j + 1)) = gN v j := fun j => by
    have h1 := heq0 (j % n) (Nat.mod_lt _ (by omega))
    have e := Nat.mod_add_div j n
    have m0 := per_more hp (j % n) (j / n)
    have m1 := per_more hp (j % n + 1) (j / n)
    rw [e] at m0
    rw [show j % n + 1 + n * (j / n) = j + 1 by omega] at m1
    have hg : gN v j = gN v (j % n) := by unfold gN; rw [m0, m1]
    rw [hg, m0, m1]
    exact h1
  have hunit : ∀ j, ∃ e : Int × Int, Pk.vsub (v (j + 1)) (v j) = Pk.sc (gN v j) e ∧ Pk.crs (v j) e = s ∧ oppN v j = (s * e.2, s * (-e.1)) := fun j => by
    obtain ⟨e, h1, h2⟩ := hst j
    have h3 := heq j
    have h4 : s * (gN v j * Pk.crs (v j) e) = gN v j * (s * Pk.crs (v j) e) := by grind
    rw [hcr j e h1, h4] at h3
    have h5 : s * Pk.crs (v j) e = 1 := by
      have : gN v j * (s * Pk.crs (v j) e - 1) = 0 := by grind
      rcases Int.mul_eq_zero.1 this with h | h <;> omega
    have h6 : Pk.crs (v j) e = s := by
      have : s * (s * Pk.crs (v j) e) = s := by rw [h5, Int.mul_one]
      grind
    refine ⟨e, h1, h6, ?_⟩
    have hd : Pk.crs (v j) (v (j + 1)) = s * gN v j := by rw [← heq j]; grind
    have hd0 : s * gN v j ≠ 0 := by rcases hs with rfl | rfl <;> omega
    have a1 := congrArg Prod.fst h1
    have a2 := congrArg Prod.snd h1
    unfold Pk.vsub Pk.sc at a1 a2
    simp only at a1 a2
    unfold oppN
    rw [hd, a2, show (v j).1 - (v (j + 1)).1 = - (gN v j * e.1) by omega]
    have q1 : gN v j * e.2 = s * gN v j * (s * e.2) := by grind
    have q2 : -(gN v j * e.1) = s * gN v j * (s * (-e.1)) := by grind
    rw [q1, q2, Int.mul_tdiv_cancel_left _ hd0, Int.mul_tdiv_cancel_left _ hd0]
  obtain ⟨o, ho⟩ : ∃ o, o = oppN v := ⟨_, rfl⟩
  rw [← ho] at hunit
  have hg1 : ∀ j, 1 ≤ gN v j := fun j => by obtain ⟨_, _, h⟩ := hst j; exact h
  have hpero : ∀ j, o (j + n) = o j := fun j => by rw [ho]; unfold oppN; rw [hp.per, show j + n + 1 = j + 1 + n by omega, hp.per]
  have hstepv : ∀ j, v (j + 1) = Pk.vadd (v j) (jq (s * gN v j) (o j)) := fun j => by
    obtain ⟨e, h1, _, h3⟩ := hunit j
    have a1 := congrArg Prod.fst h1
    have a2 := congrArg Prod.snd h1
    unfold Pk.vsub Pk.sc at a1 a2
    simp only at a1 a2
    rw [h3]
    unfold Pk.vadd jq
    simp only
    have b1 : s * gN v j * (-(s * (-e.1))) = gN v j * e.1 := by grind
    have b2 : s * gN v j * (s * e.2) = gN v j * e.2 := by grind
    rw [b1, b2]
    exact Prod.ext (by simp only; omega) (by simp only; omega)
  have hone : ∀ j, Pk.dt (o j) (v j) = 1 := fun j => by
    obtain ⟨e, _, h2, h3⟩ := hunit j
    rw [h3]
    have : Pk.dt (s * e.2, s * (-e.1)) (v j) = s * Pk.crs (v j) e := by unfold Pk.dt Pk.crs; grind
    rw [this, h2, hss]
  have hdvj : ∀ j, Pk.dv v j = jq (s * gN v j) (o j) := fun j => by
    unfold Pk.dv
    rw [hstepv j]
    unfold Pk.vsub Pk.vadd
    exact Prod.ext (by simp only; omega) (by simp only; omega)
  have hfar : ∀ j t, 2 ≤ t → t < n → Pk.dt (o j) (v (j + t)) ≤ 0 := fun j t h2 htn => by
    have h3 := side_of hp hs hl j t h2 htn
    rw [hdvj j] at h3
    have h4 : s * Pk.crs (jq (s * gN v j) (o j)) (Pk.vsub (v (j + t)) (v j)) = gN v j * (Pk.dt (o j) (v j) - Pk.dt (o j) (v (j + t))) := by unfold jq Pk.crs Pk.dt Pk.vsub; grind
    rw [h4, hone] at h3
    have hg := hg1 j
    apply Int.not_lt.1
    intro hlt
    have := Int.mul_nonpos_of_nonneg_of_nonpos (show 0 ≤ gN v j by omega) (show 1 - Pk.dt (o j) (v (j + t)) ≤ 0 by omega)
    omega
  have hnext : ∀ j, Pk.dt (o j) (v (j + 1)) = 1 := fun j => by
    rw [hstepv j]
    have : Pk.dt (o j) (Pk.vadd (v j) (jq (s * gN v j) (o j))) = Pk.dt (o j) (v j) := by unfold Pk.dt Pk.vadd jq; grind
    rw [this, hone]
  refine ⟨fun j => s * Pk.crs (o j) (o (j + 1)), hn3, hs, hg1, fun j => ?_, hp.per, by rw [← ho]; exact hpero, by rw [← ho]; exact hstepv, fun j => ?_, by rw [← ho]; exact hone, by rw [← ho]; exact hfar⟩
  · have f1 := hfar (j + 1) (n - 1) (by omega) (by omega)
    rw [show j + 1 + (n - 1) = j + n by omega, hp.per] at f1
    have hk : Pk.vsub (o (j + 1)) (o j) = jq (Pk.crs (o j) (o (j + 1))) (v (j + 1)) := by
      have a1 := hnext j
      have a2 := hone (j + 1)
      unfold Pk.dt at a1 a2
      unfold Pk.vsub jq Pk.crs
      exact Prod.ext (by simp only; grind) (by simp only; grind)
    have h5 : Pk.dt (o (j + 1)) (v j) = 1 - Pk.crs (o j) (o (j + 1)) * Pk.crs (v j) (v (j + 1)) := by
      have e1 : Pk.dt (o (j + 1)) (v j) = Pk.dt (o j) (v j) + Pk.dt (Pk.vsub (o (j + 1)) (o j)) (v j) := by unfold Pk.dt Pk.vsub; grind
      rw [e1, hk, hone]
      unfold Pk.dt jq Pk.crs
      grind
    have hd : Pk.crs (v j) (v (j + 1)) = s * gN v j := by rw [← heq j]; grind
    rw [h5, hd] at f1
    have e2 : Pk.crs (o j) (o (j + 1)) * (s * gN v j) = gN v j * (s * Pk.crs (o j) (o (j + 1))) := by grind
    rw [e2] at f1
    have hg := hg1 j
    apply Int.not_lt.1
    intro hlt
    have := Int.mul_nonpos_of_nonneg_of_nonpos (show 0 ≤ gN v j by omega) (show s * Pk.crs (o j) (o (j + 1)) ≤ 0 by omega)
    omega
  · rw [← ho]
    have a1 := hnext j
    have a2 := hone (j + 1)
    unfold Pk.dt at a1 a2
    have e2 : s * (s * Pk.crs (o j) (o (j + 1))) = Pk.crs (o j) (o (j + 1)) := by grind
    rw [e2]
    unfold Pk.vadd jq Pk.crs
    exact Prod.ext (by simp only; grind) (by simp only; grind)
end
end
section
open Go.RowKit Go.Shelf

section
variable {n : Nat} {v o : Nat → Int × Int} {s : Int} {g h : Nat → Int}
theorem Dual.ss (d : Dual n v o s g h) : s * s = 1 := by rcases d.sg with e | e <;> rw [e] <;> rfl
theorem Dual.next (d : Dual n v o s g h) (j : Nat) : Pk.dt (o j) (v (j + 1)) = 1 := by
  rw [d.stepv j]
  have : Pk.dt (o j) (Pk.vadd (v j) (jq (s * g j) (o j))) = Pk.dt (o j) (v j) := by unfold Pk.dt Pk.vadd jq; grind
  rw [this, d.one]
theorem Dual.dvo (d : Dual n v o s g h) (j : Nat) : Pk.dv o j = jq (s * h j) (v (j + 1)) := by
  unfold Pk.dv
  rw [d.stepo j]
  unfold Pk.vsub Pk.vadd
  exact Prod.ext (by simp only; omega) (by simp only; omega)
theorem Dual.crv (d : Dual n v o s g h) (j : Nat) : Pk.crs (v j) (v (j + 1)) = s * g j := by
  rw [d.stepv j]
  have : Pk.crs (v j) (Pk.vadd (v j) (jq (s * g j) (o j))) = s * g j * Pk.dt (o j) (v j) := by unfold Pk.dt Pk.vadd jq Pk.crs; grind
  rw [this, d.one, Int.mul_one]
theorem Dual.cro (d : Dual n v o s g h) (j : Nat) : Pk.crs (o j) (o (j + 1)) = s * h j := by
  rw [d.stepo j]
  have : Pk.crs (o j) (Pk.vadd (o j) (jq (s * h j) (v (j + 1)))) = s * h j * Pk.dt (o j) (v (j + 1)) := by unfold Pk.dt Pk.vadd jq Pk.crs; grind
  rw [this, d.next, Int.mul_one]
theorem jq_crs (a b : Int) (p q : Int × Int) : Pk.crs (jq a p) (jq b q) = a * b * Pk.crs p q := by unfold Pk.crs jq; grind
theorem Dual.turn (d : Dual n v o s g h) (j : Nat) : 0 < s * Pk.crs (Pk.dv o j) (Pk.dv o (j + 1)) := by
  rw [d.dvo, d.dvo, jq_crs, d.crv]
  have hss := d.ss
  have e : s * (s * h j * (s * h (j + 1)) * (s * g (j + 1))) = h j * h (j + 1) * g (j + 1) := by grind
  rw [e]
  exact Int.mul_pos (Int.mul_pos (by have := d.h1 j; omega) (by have := d.h1 (j + 1); omega)) (by have := d.g1 (j + 1); omega)
theorem Dual.pen (d : Dual n v o s g h) : Pk.Pen n o := by
  have hn3 := d.n3
  have hfar : ∀ i t, 2 ≤ t → t < n → Pk.dt (o (i + n - t)) (v i) ≤ 0 := fun i t h1 h2 => by
    have := d.far (i + n - t) t h1 h2
    rwa [show i + n - t + t = i + n by omega, d.perv] at this
  refine ⟨hn3, d.pero, fun i e => ?_, fun i => ?_, fun i j h1 h2 => ?_⟩
  · have a1 := d.cro i
    rw [← e] at a1
    have : Pk.crs (o i) (o i) = 0 := by unfold Pk.crs; grind
    rw [this] at a1
    have := d.h1 i
    rcases d.sg with e | e <;> rw [e] at a1 <;> omega
  · rintro ⟨c0, _⟩
    have := d.turn i
    unfold Pk.dv at this
    rw [show i + 1 + 1 = i + 2 by omega, c0, Int.mul_zero] at this
    omega
  · have a1 := d.next i
    have a2 := d.one (i + 1)
    have a3 := d.far j (i + 1 + n - j) (by omega) (by omega)
    have a4 := d.far (j + 1) (i + n - j) (by omega) (by omega)
    rw [show j + (i + 1 + n - j) = i + 1 + n by omega, d.perv] at a3
    rw [show j + 1 + (i + n - j) = i + 1 + n by omega, d.perv] at a4
    have key : ∀ x y : Int × Int, Pk.dt (Pk.vneg (v (i + 1))) (Pk.vsub x y) = Pk.dt y (v (i + 1)) - Pk.dt x (v (i + 1)) := fun x y => by unfold Pk.dt Pk.vneg Pk.vsub; grind
    exact ⟨Pk.vneg (v (i + 1)), ⟨by rw [key]; omega, by rw [key]; omega⟩, by rw [key]; omega, by rw [key]; omega⟩
theorem Dual.area (d : Dual n v o s g h) : Pk.areaTo o n = s * Pk.nsum h n := by
  rw [area_nsum, ← nsum_times]
  exact Pk.nsum_congr n fun j _ => d.cro j
theorem gcd_one {o v : Int × Int} (h : Pk.dt o v = 1) : Int.gcd v.2 v.1 = 1 := by
  have h1 := Int.gcd_dvd_left (a := v.2) (b := v.1)
  have h2 := Int.gcd_dvd_right (a := v.2) (b := v.1)
  unfold Pk.dt at h
  have h3 := Int.dvd_add (dvd_times o.1 h2) (dvd_times o.2 h1)
  rw [h] at h3
  exact Int.ofNat_inj.1 (by
    have := Int.eq_one_of_dvd_one (by omega) h3
    exact this)
theorem Dual.gcds (d : Dual n v o s g h) (j : Nat) : gN o j = h j := by
  have e := d.dvo j
  unfold Pk.dv at e
  have e1 := congrArg Prod.fst e
  have e2 := congrArg Prod.snd e
  unfold Pk.vsub jq at e1 e2
  simp only at e1 e2
  unfold gN
  rw [e1, e2, Int.gcd_mul_left, Int.neg_gcd, gcd_one (d.next j)]
  have := d.h1 j
  rcases d.sg with e | e <;> rw [e] <;> omega
theorem Dual.border (d : Dual n v o s g h) : Pk.borderN o n = Pk.nsum h n := Pk.nsum_congr n fun j _ => d.gcds j
theorem nsum_tel (F : Nat → Int) : ∀ n, Pk.nsum (fun j => F (j + 1) - F j) n = F n - F 0
  | 0 => by simp [Pk.nsum]
  | n + 1 => by rw [Pk.nsum, nsum_tel F n]; omega
theorem Dual.sum0 (d : Dual n v o s g h) (q : Int × Int) : Pk.nsum (fun j => h j * Pk.dt (v (j + 1)) q) n = 0 := by
  have h1 := nsum_tel (fun j => s * Pk.crs (o j) q) n
  have h2 := d.pero 0
  rw [Nat.zero_add] at h2
  rw [h2, Int.sub_self] at h1
  have h3 : Pk.nsum (fun j => h j * Pk.dt (v (j + 1)) q) n = Pk.nsum (fun j => - (s * Pk.crs (o (j + 1)) q - s * Pk.crs (o j) q)) n := Pk.nsum_congr n fun j _ => by
    rw [d.stepo j]
    have hss := d.ss
    unfold Pk.vadd jq Pk.crs Pk.dt
    simp only
    grind
  rw [h3, nsum_neg, h1]
  rfl
theorem Dual.center (d : Dual n v o s g h) {q : Int × Int} (hq : ∀ j, Pk.dt (v (j + 1)) q ≤ 0) : q = (0, 0) := by
  have hn3 := d.n3
  have h1 := nsum_all (F := fun _ => 0) (G := fun j => h j * Pk.dt (v (j + 1)) q) n (fun j _ => Int.mul_nonpos_of_nonneg_of_nonpos (by have := d.h1 j; omega) (hq j)) (by
    rw [d.sum0, Pk.nsum_none n (fun _ _ => rfl)]
    exact Int.le_refl 0)
  have z : ∀ j, j < n → Pk.dt (v (j + 1)) q = 0 := fun j hj => by
    have a := h1 j hj
    have b := d.h1 j
    rcases Int.mul_eq_zero.1 a.symm with e | e
    · omega
    · exact e
  have z0 := z 0 (by omega)
  have z1 := z 1 (by omega)
  have c := d.crv 1
  have g1 := d.g1 1
  rw [Nat.zero_add] at z0
  have e1 : Pk.crs (v 1) (v (1 + 1)) * q.1 = (v (1 + 1)).2 * Pk.dt (v 1) q - (v 1).2 * Pk.dt (v (1 + 1)) q := by unfold Pk.crs Pk.dt; grind
  have e2 : Pk.crs (v 1) (v (1 + 1)) * q.2 = (v 1).1 * Pk.dt (v (1 + 1)) q - (v (1 + 1)).1 * Pk.dt (v 1) q := by unfold Pk.crs Pk.dt; grind
  rw [z0, z1, Int.mul_zero, Int.mul_zero, Int.sub_self, c] at e1 e2
  have hc : s * g 1 ≠ 0 := by rcases d.sg with e | e <;> rw [e] <;> omega
  refine Prod.ext ?_ ?_
  · rcases Int.mul_eq_zero.1 e1 with e | e
    · exact absurd e hc
    · exact e
  · rcases Int.mul_eq_zero.1 e2 with e | e
    · exact absurd e hc
    · exact e
/-- The opposite of the opposite. -/
theorem Dual.back (d : Dual n v o s g h) (j : Nat) : oppN o j = v (j + 1) := by
  have e := d.dvo j
  unfold Pk.dv at e
  have e1 := congrArg Prod.fst e
  have e2 := congrArg Prod.snd e
  unfold Pk.vsub jq at e1 e2
  simp only at e1 e2
  have hd : s * h j ≠ 0 := by
    have := d.h1 j
    rcases d.sg with e | e <;> rw [e] <;> omega
  unfold oppN
  rw [d.cro, e2, show (o j).1 - (o (j + 1)).1 = s * h j * (v (j + 1)).2 by
    have : s * h j * (-(v (j + 1)).2) = - (s * h j * (v (j + 1)).2) := by grind
    omega, Int.mul_tdiv_cancel_left _ hd, Int.mul_tdiv_cancel_left _ hd]
end
/-- All chains of so many points (G and H left, t taken): where one closes, there are 12. -/
def chk : Nat → Nat → Nat → Nat → Int → Int → Int → Int → Bool
  | 0, _, _, _, _, _, _, _ => false
  | f + 1, G, H, t, a, b, c, d => (!(a == 1 && b == 0 && c == 0 && d == 1) || t == 0 || t == 12) &&
    (List.range G).all fun i => (List.range H).all fun k =>
      chk f (G - (i + 1)) (H - (k + 1)) (t + (i + 1) + (k + 1)) (a + ((i + 1 : Nat) : Int) * c) (b + ((i + 1 : Nat) : Int) * d) (c - ((k + 1 : Nat) : Int) * (a + ((i + 1 : Nat) : Int) * c)) (d - ((k + 1 : Nat) : Int) * (b + ((i + 1 : Nat) : Int) * d))
set_option maxRecDepth 100000 in
theorem chk_all : chk 10 9 9 0 1 0 0 1 = true := by decide +kernel
/-- A sum of k numbers from j on. -/
def gsum (g : Nat → Nat) : Nat → Nat → Nat
  | 0, _ => 0
  | k + 1, j => g j + gsum g k (j + 1)
theorem gsum_nsum (g : Nat → Nat) : ∀ k j, (gsum g k j : Int) = Pk.nsum (fun i => (g (j + i) : Int)) k
  | 0, _ => rfl
  | k + 1, j => by
    rw [gsum, nsum_first, Nat.add_zero, Int.natCast_add, gsum_nsum g k (j + 1)]
    congr 1
    exact Pk.nsum_congr k fun i _ => by rw [show j + 1 + i = j + (i + 1) by omega]
/-- A chain that is back where it began. -/
def Back (g h : Nat → Nat) : Nat → Nat → Int → Int → Int → Int → Prop
  | 0, _, a, b, c, d => a = 1 ∧ b = 0 ∧ c = 0 ∧ d = 1
  | k + 1, j, a, b, c, d => Back g h k (j + 1) (a + (g j : Int) * c) (b + (g j : Int) * d) (c - (h j : Int) * (a + (g j : Int) * c)) (d - (h j : Int) * (b + (g j : Int) * d))
theorem chk_run {g h : Nat → Nat} (hg : ∀ j, 1 ≤ g j) (hh : ∀ j, 1 ≤ h j) : ∀ k f G H t j a b c d, k < f → gsum g k j ≤ G → gsum h k j ≤ H → chk f G H t a b c d = true → Back g h k j a b c d →
    t + gsum g k j + gsum h k j = 0 ∨ t + gsum g k j + gsum h k j = 12
  | 0, f, G, H, t, j, a, b, c, d, hf, _, _, hc, hb => by
    obtain ⟨f, rfl⟩ : ∃ m, f = m + 1 := ⟨f - 1, by omega⟩
    obtain ⟨rfl, rfl, rfl, rfl⟩ := hb
    rw [chk, Bool.and_eq_true] at hc
    have := hc.1
    simp at this
    unfold gsum
    omega
  | k + 1, f, G, H, t, j, a, b, c, d, hf, h1, h2, hc, hb => by
    obtain ⟨f, rfl⟩ : ∃ m, f = m + 1 := ⟨f - 1, by omega⟩
    rw [chk, Bool.and_eq_true] at hc
    have hall := hc.2
    rw [gsum] at h1 h2
    have g1 := hg j
    have g2 := hh j
    rw [List.all_eq_true] at hall
    have h3 := hall (g j - 1) (List.mem_range.2 (by omega))
    rw [List.all_eq_true] at h3
    have h4 := h3 (h j - 1) (List.mem_range.2 (by omega))
    rw [show g j - 1 + 1 = g j by omega, show h j - 1 + 1 = h j by omega] at h4
    have := chk_run hg hh k f _ _ _ (j + 1) _ _ _ _ (by omega) (by omega) (by omega) h4 hb
    rw [gsum, gsum]
    omega
section
variable {n : Nat} {v o : Nat → Int × Int} {s : Int} {g h : Nat → Int}
/-- Post j and the way from it, in the frame of the first post. -/
theorem Dual.run (d : Dual n v o s g h) {gn hn : Nat → Nat} (hg : ∀ j, (gn j : Int) = g j) (hh : ∀ j, (hn j : Int) = h j) (m : Nat) (hm : ∀ a b c d : Int, v m = (a * (v 0).1 + b * (jq s (o 0)).1, a * (v 0).2 + b * (jq s (o 0)).2) → jq s (o m) = (c * (v 0).1 + d * (jq s (o 0)).1, c * (v 0).2 + d * (jq s (o 0)).2) → a = 1 ∧ b = 0 ∧ c = 0 ∧ d = 1) :
    ∀ k j a b c e, j + k = m → v j = (a * (v 0).1 + b * (jq s (o 0)).1, a * (v 0).2 + b * (jq s (o 0)).2) → jq s (o j) = (c * (v 0).1 + e * (jq s (o 0)).1, c * (v 0).2 + e * (jq s (o 0)).2) → Back gn hn k j a b c e
  | 0, j, a, b, c, e, hj, h1, h2 => by
    obtain rfl : j = m := by omega
    exact hm a b c e h1 h2
  | k + 1, j, a, b, c, e, hj, h1, h2 => by
    unfold Back
    rw [hg, hh]
    have e1 : v (j + 1) = ((a + g j * c) * (v 0).1 + (b + g j * e) * (jq s (o 0)).1, (a + g j * c) * (v 0).2 + (b + g j * e) * (jq s (o 0)).2) := by
      rw [d.stepv j]
      have q : jq (s * g j) (o j) = (g j * (jq s (o j)).1, g j * (jq s (o j)).2) := by unfold jq; exact Prod.ext (by simp only; grind) (by simp only; grind)
      rw [q, h2]
      unfold Pk.vadd
      rw [h1]
      exact Prod.ext (by simp only; grind) (by simp only; grind)
    refine Dual.run d hg hh m hm k (j + 1) _ _ _ _ (by omega) e1 ?_
    have hss := d.ss
    have q : jq s (o (j + 1)) = ((jq s (o j)).1 - h j * (v (j + 1)).1, (jq s (o j)).2 - h j * (v (j + 1)).2) := by
      rw [d.stepo j]
      unfold jq Pk.vadd
      exact Prod.ext (by simp only; grind) (by simp only; grind)
    rw [q, h2, e1]
    exact Prod.ext (by simp only; grind) (by simp only; grind)
theorem Dual.twelve (d : Dual n v o s g h) (h9 : n ≤ 9) (hG : Pk.nsum g n ≤ 9) (hH : Pk.nsum h n ≤ 9) : Pk.nsum g n + Pk.nsum h n = 12 := by
  have hn3 := d.n3
  have c1 : ∀ j, ((g j).toNat : Int) = g j := fun j => by have := d.g1 j; omega
  have c2 : ∀ j, ((h j).toNat : Int) = h j := fun j => by have := d.h1 j; omega
  have hcr : Pk.crs (v 0) (jq s (o 0)) = s := by
    have : Pk.crs (v 0) (jq s (o 0)) = s * Pk.dt (o 0) (v 0) := by unfold Pk.crs jq Pk.dt; grind
    rw [this, d.one, Int.mul_one]
  have hs0 : s ≠ 0 := by rcases d.sg with e | e <;> rw [e] <;> decide
  have uniq : ∀ a b a' b' : Int, ((a * (v 0).1 + b * (jq s (o 0)).1, a * (v 0).2 + b * (jq s (o 0)).2) : Int × Int) = (a' * (v 0).1 + b' * (jq s (o 0)).1, a' * (v 0).2 + b' * (jq s (o 0)).2) → a = a' ∧ b = b' := fun a b a' b' e => by
    have e1 := congrArg Prod.fst e
    have e2 := congrArg Prod.snd e
    simp only at e1 e2
    have q1 : (a - a') * Pk.crs (v 0) (jq s (o 0)) = 0 := by unfold Pk.crs; grind
    have q2 : (b - b') * Pk.crs (v 0) (jq s (o 0)) = 0 := by unfold Pk.crs; grind
    rw [hcr] at q1 q2
    constructor
    · rcases Int.mul_eq_zero.1 q1 with e | e
      · omega
      · exact absurd e hs0
    · rcases Int.mul_eq_zero.1 q2 with e | e
      · omega
      · exact absurd e hs0
  have hv0 : v n = v 0 := by have := d.perv 0; rwa [Nat.zero_add] at this
  have ho0 : o n = o 0 := by have := d.pero 0; rwa [Nat.zero_add] at this
  have hb := d.run (gn := fun j => (g j).toNat) (hn := fun j => (h j).toNat) c1 c2 n (fun a b c e h1 h2 => by
    rw [hv0] at h1
    rw [ho0] at h2
    have u1 := uniq a b 1 0 (by rw [← h1]; exact Prod.ext (by simp only; omega) (by simp only; omega))
    have u2 := uniq c e 0 1 (by rw [← h2]; exact Prod.ext (by simp only; omega) (by simp only; omega))
    exact ⟨u1.1, u1.2, u2.1, u2.2⟩) n 0 1 0 0 1 (by omega) (Prod.ext (by simp only; omega) (by simp only; omega)) (Prod.ext (by simp only; omega) (by simp only; omega))
  have s1 : (gsum (fun j => (g j).toNat) n 0 : Int) = Pk.nsum g n := by rw [gsum_nsum]; exact Pk.nsum_congr n fun j _ => by rw [Nat.zero_add]; exact c1 j
  have s2 : (gsum (fun j => (h j).toNat) n 0 : Int) = Pk.nsum h n := by rw [gsum_nsum]; exact Pk.nsum_congr n fun j _ => by rw [Nat.zero_add]; exact c2 j
  have key := chk_run (g := fun j => (g j).toNat) (h := fun j => (h j).toNat) (fun j => by have := d.g1 j; omega) (fun j => by have := d.h1 j; omega) n 10 9 9 0 0 1 0 0 1 (by omega) (by omega) (by omega) chk_all hb
  have p1 := nsum_ge (F := g) (G := fun _ => 1) n (fun j _ => d.g1 j)
  have p2 : ∀ m : Nat, Pk.nsum (fun _ => 1) m = (m : Int) := fun m => by
    induction m with
    | zero => rfl
    | succ m ih => rw [Pk.nsum, ih]; omega
  rw [p2] at p1
  omega
end
end
section
open Go.RowKit Go.Shelf

/-- The first k posts of a pen begun with its second post. -/
def begTo (xs : PtL) : Nat → PtL
  | 0 => []
  | k + 1 => begTo xs k ++ [((xs.getD ((k + 1) % xs.length) (0, 0)).1, (xs.getD ((k + 1) % xs.length) (0, 0)).2)]
theorem begTo_len (xs : PtL) : ∀ k, (begTo xs k).length = k
  | 0 => rfl
  | k + 1 => by rw [begTo, List.length_append, begTo_len xs k]; rfl
theorem oppAt_N (xs : PtL) (i : Nat) (h : i < xs.length) : oppAt xs i = oppN (postAt xs) i := by
  unfold oppAt oppN
  rw [side_post' xs i h]
  rfl
theorem oppL_len (xs : PtL) : (oppL xs).length = xs.length := by unfold oppL; simp
theorem oppL_at (xs : PtL) (i : Nat) (h : i < xs.length) : (oppL xs).getD i (0, 0) = oppAt xs i := by
  unfold oppL
  rw [List.getD_eq_getElem?_getD, List.getElem?_map, List.getElem?_eq_getElem (by rw [List.length_finRange]; exact h)]
  simp
theorem tdiv_near (x d : Int) : -(x.natAbs : Int) ≤ x.tdiv d ∧ x.tdiv d ≤ x.natAbs := by
  have := Int.natAbs_tdiv_le_natAbs x d
  omega
theorem twelve_facts {xs : PtL} (hv : readP xs = true) (hop : hasOpp xs = true) :
    (∀ i, i < xs.length → Pk.dt (oppAt xs i) (xs.getD i (0, 0)) = 1 ∧ Pk.dt (oppAt xs i) (xs.getD ((i + 1) % xs.length) (0, 0)) = 1) ∧ insG xs 1 = 1 ∧
    ((∀ i, i < xs.length → inB 50 (oppAt xs i)) → readP (oppL xs) = true ∧ hasOpp (oppL xs) = true ∧ oppL (oppL xs) = begTo xs xs.length ∧ borderP xs + borderP (oppL xs) = 12 ∧ insG (oppL xs) 1 = 1) := by
  have hp := pen_of hv
  have hn3 := hp.n3
  unfold hasOpp at hop
  rw [Bool.and_eq_true, Bool.and_eq_true, decide_eq_true_eq, decide_eq_true_eq] at hop
  obtain ⟨⟨hins, hcv⟩, hw⟩ := hop
  rw [where_tot hv] at hw
  have hoff : ¬ Pk.OnB xs.length (postAt xs) (0, 0) := fun h => by rw [if_pos h] at hw; omega
  have ht : Pk.tot xs.length (postAt xs) (0, 0) ≠ 0 := fun h => by rw [if_neg hoff, if_pos h] at hw; omega
  obtain ⟨s, hs, hl⟩ := strict_turns hv hcv
  have hpick := pick_read hv
  have hii := ins_inside hv
  have hA : ((Pk.areaTo (postAt xs) xs.length).natAbs : Int) = Pk.borderN (postAt xs) xs.length := by
    rw [← twice_area, ← border_N]
    omega
  obtain ⟨h, d⟩ := dual_of hp hs hl hoff ht hA
  have hat : ∀ i, i < xs.length → postAt xs i = xs.getD i (0, 0) := fun i hi => by unfold postAt; rw [Nat.mod_eq_of_lt hi]
  refine ⟨fun i hi => ?_, hins, fun hin => ?_⟩
  · have a := d.one i
    have b := d.next i
    rw [← oppAt_N xs i hi] at a b
    rw [hat i hi] at a
    exact ⟨a, b⟩
  · have hlen := oppL_len xs
    have hpo : ∀ j, postAt (oppL xs) j = oppN (postAt xs) j := fun j => by
      have hlt : j % xs.length < xs.length := Nat.mod_lt _ (by omega)
      have e0 : postAt (oppL xs) j = oppN (postAt xs) (j % xs.length) := by
        unfold postAt
        rw [hlen, oppL_at xs _ hlt, oppAt_N xs _ hlt]
        rfl
      rw [e0]
      exact Pk.per_mod d.pero j
    have hpof : postAt (oppL xs) = oppN (postAt xs) := funext hpo
    have h10 := (near_all hv).2.2
    have hy : readP (oppL xs) = true := read_of_pen (by omega) (fun i hi => by rw [oppL_at xs i (by omega)]; exact hin i (by omega)) (by rw [hlen, hpof]; exact d.pen)
    have hl2 : ∀ j, 0 < s * Pk.crs (Pk.dv (postAt (oppL xs)) j) (Pk.dv (postAt (oppL xs)) (j + 1)) := fun j => by rw [hpof]; exact d.turn j
    have hcv2 := strict_of hy hs hl2
    have hh0 : 0 ≤ Pk.nsum h xs.length := by
      have := nsum_ge (F := h) (G := fun _ => 0) xs.length (fun j _ => by have := d.h1 j; omega)
      rw [Pk.nsum_none _ (fun _ _ => rfl)] at this
      exact this
    have ha2 : twiceP (oppL xs) = s * Pk.nsum h xs.length := by rw [twice_area, hlen, hpof]; exact d.area
    have hb2 : borderP (oppL xs) = Pk.nsum h xs.length := by rw [border_N, hlen, hpof]; exact d.border
    have hb1 : borderP xs = Pk.nsum (gN (postAt xs)) xs.length := by rw [border_N]; rfl
    have hpick2 := pick_read hy
    have hii2 := ins_inside hy
    have hins2 : insG (oppL xs) 1 = 1 := by
      rw [ha2, hb2] at hpick2
      rcases hs with rfl | rfl <;> omega
    have nostrict : ∀ {zs : PtL}, convexP zs true = true → convexP zs false = true := fun {zs} hz => by
      unfold convexP at hz ⊢
      rw [Bool.and_eq_true] at hz
      rw [hz.1]
      rfl
    have sc1 := scott_law xs hv (nostrict hcv) (by omega)
    have sc2 := scott_law (oppL xs) hy (nostrict hcv2) (by omega)
    have h12 := d.twelve (by
      have := Pk.borderN_ge hp xs.length
      rw [← border_N] at this
      omega) (by omega) (by omega)
    refine ⟨hy, ?_, ?_, by omega, hins2⟩
    · have hq : ∃ q, whereP (oppL xs) q = 1 := by
        apply Classical.byContradiction
        intro hno
        have : insideP (oppL xs) = 0 := by
          unfold insideP
          rw [Pk.box_congr (g := fun _ => 0) (fun p _ => by rw [if_neg (fun e => hno ⟨p, e⟩)]), Pk.box_zero]
        omega
      obtain ⟨q, hq⟩ := hq
      have hq0 : q = (0, 0) := by
        have hw2 := hq
        rw [where_tot hy] at hw2
        have hoff2 : ¬ Pk.OnB (oppL xs).length (postAt (oppL xs)) q := fun h => by rw [if_pos h] at hw2; omega
        have ht2 : Pk.tot (oppL xs).length (postAt (oppL xs)) q ≠ 0 := fun h => by rw [if_neg hoff2, if_pos h] at hw2; omega
        refine d.center fun j => ?_
        have hin2 := inside_side (pen_of hy) hs hl2 hoff2 ht2 j
        rw [hpof, d.dvo] at hin2
        have hss := d.ss
        have e : s * Pk.crs (jq (s * h j) (postAt xs (j + 1))) (Pk.vsub q (oppN (postAt xs) j)) = h j * (Pk.dt (oppN (postAt xs) j) (postAt xs (j + 1)) - Pk.dt (postAt xs (j + 1)) q) := by unfold jq Pk.crs Pk.dt Pk.vsub; grind
        rw [e, d.next] at hin2
        have h1 := d.h1 j
        apply Int.not_lt.1
        intro hlt
        have := Int.mul_nonpos_of_nonneg_of_nonpos (show 0 ≤ h j by omega) (show 1 - Pk.dt (postAt xs (j + 1)) q ≤ 0 by omega)
        omega
      rw [hq0] at hq
      unfold hasOpp
      rw [hins2, hcv2, hq]
      rfl
    · rw [← oppTo_all]
      have hk : ∀ k, k ≤ xs.length → oppTo (oppL xs) k = begTo xs k := fun k => by
        induction k with
        | zero => intro _; rfl
        | succ k ih =>
          intro hk
          have hb := d.back k
          rw [oppTo, begTo, ih (by omega), oppAt_N (oppL xs) k (by omega), hpof, hb]
          rfl
      rw [hlen]
      exact hk _ (Nat.le_refl _)
end
end
section
open Go.RowKit Go.Shelf
attribute [local go_sem] Oper.semAt_some

/-- What two new blocks hold, whichever came first. -/
theorem cut_two {P : Program} {Q : Exit → Act → World → Prop} {c : Code} {a : Act} {w : World} {f : Nat → Nat → Act} {Facts : World → Nat → Nat → Prop}
    (h1 : c.wp P (fun e a' W => e = .normal ∧ ∃ La Lb, Facts W La Lb ∧ a' = f La Lb) a w) (h2 : ∀ La Lb W, Facts W La Lb → Q .normal (f La Lb) W) : c.wp P Q a w :=
  wp_mono h1 fun e a' W h => by
    obtain ⟨rfl, La, Lb, hf, rfl⟩ := h
    exact h2 La Lb W hf
theorem begun_any (xs : PtL) (A : Option Addr) (c : Nat) (w : World) (hx : PairsI w A xs) (h60 : xs.length ≤ 60) :
    Calls Try.prog 26 #[.slice A xs.length c] w fun e w' => (∃ u, e = .returned u ∧ OwnQ 34 w' w.heap.size u (begTo xs xs.length)) ∧ Below w.heap.size w w' := by
  obtain ⟨i0, hi, hz0, hz1, hz2⟩ := info_parts info34
  have HX := Off.mk hx
  clear hx
  go_enter Try.func26, Try.ntmps26
  go_wp2
  go_loopw [3, 4] (fun v kv wr => ∃ k : Nat, k ≤ xs.length ∧ kv = .int .i64 k ∧ Off (OwnQ 34 wr w.heap.size v (begTo xs k)) ∧ Off (Below w.heap.size w wr)) (fun _ kv _ => xs.length - (intOf kv).toNat)
  case atStart => exact ⟨0, by omega, rfl, ⟨ownQ_nil _ _ _⟩, ⟨Below.refl _ _⟩⟩
  case round =>
    obtain ⟨k, hk, rfl, HO, HBr⟩ := hrel
    obtain ⟨wo, hwo⟩ : ∃ wo : World, wo = wr := ⟨_, rfl⟩
    rw [← hwo] at HBr HO ⊢
    clear hwo
    by_cases hlt : k < xs.length
    · have hki : (k : Int) < (xs.length : Int) := by omega
      obtain ⟨m, hm⟩ : ∃ m, m = (k + 1) % xs.length := ⟨_, rfl⟩
      have hml : m < xs.length := by rw [hm]; exact Nat.mod_lt _ (by omega)
      have e5 : ((k : Int) + 1).tmod (xs.length : Int) = (m : Int) := by
        rw [Int.tmod_eq_emod_of_nonneg (by omega), hm, show (k : Int) + 1 = ((k + 1 : Nat) : Int) by omega]
        exact (Int.natCast_emod _ _).symm
      have e7 : ((k : Int) + 1) % (xs.length : Int) = (m : Int) := by rw [← Int.tmod_eq_emod_of_nonneg (by omega)]; exact e5
      have w5 : IntKind.i64.wrap ((k : Int) + 1) = (k : Int) + 1 := by rw [IntKind.wrap_i64]; omega
      have hn0 : ¬ xs.length = 0 := by omega
      have hmI : (m : Int) < (xs.length : Int) := by omega
      obtain ⟨ad, rfl, cA, cB⟩ := (HX.out.below HBr.out).cell m hml
      have HTk : Off (begTo xs (k + 1) = begTo xs k ++ [((xs.getD m (0, 0)).1, (xs.getD m (0, 0)).2)]) := ⟨by rw [begTo, ← hm]⟩
      have HLn : Off ((begTo xs k).length ≤ 1000) := ⟨by rw [begTo_len]; omega⟩
      obtain ⟨z, hz⟩ : ∃ z, z = xs.getD m (0, 0) := ⟨_, rfl⟩
      rw [← hz] at cA cB HTk
      have HOa := Off.mk HO.out
      clear hz hm
      go_wp2_with (at_builtin; refine wpList_pair Try.underlying22 hi hz0 hz1 hz2 rfl rfl _ _ rfl w.heap.size _ _ z.1 z.2 HOa.out HBr.out.size HLn.out rfl rfl ?_)
      intro v3 w3 hO3 hb3 _
      rw [← HTk.out] at hO3
      have HO3 := Off.mk hO3
      have HB3 := Off.mk (HBr.out.trans hb3)
      clear hO3 hb3
      go_wp2
      go_roundw
      case rel => exact ⟨k + 1, by omega, by go_num, HO3, HB3⟩
      case measure => simp only [intOf]; omega
    · obtain rfl : k = xs.length := by omega
      go_wp2
      go_ret
      exact ⟨⟨_, rfl, HO.out⟩, HBr.out⟩
set_option maxRecDepth 100000 in
set_option maxHeartbeats 16000000 in
theorem twelve_walk (xs : PtL) (A : Option Addr) (c : Nat) (w : World) (hx : xs.length ≤ 140737488351232 → PairsI w A xs) :
    Calls Try.prog 5 #[.slice A xs.length c] w fun e w' => e = .returned (.bool true) ∧ Below w.heap.size w w' := by
  by_cases hf : xs.length ≤ 60
  · have hx := hx (by omega)
    have CF := Off.mk (few_any xs A c true (decide_eq_true hf) w)
    have CO := Off.mk (Opposite_any xs A c w hx (fun h1 h2 i hi => opp_side xs h1 h2 i hi))
    have HX := Off.mk hx
    cases hv : readP xs with
    | false =>
      have CR := Off.mk (fun W (hb : Below w.heap.size w W) => isPenR_read xs A c W false hv (HX.out.below hb))
      have hoa : oppA xs = ([], 2) := by unfold oppA; rw [hv]; rfl
      rw [hoa] at CO
      clear hx hf hv hoa
      go_enter Try.func5, Try.ntmps5
      go_wp2_with fail
      refine CF.out.mono ?_
      rintro e w0 ⟨rfl, hw0⟩
      subst w0
      go_wp2_with fail
      refine CO.out.mono ?_
      rintro e w1 ⟨hres, hb1⟩
      obtain ⟨us, rfl, hOs⟩ := hres
      obtain ⟨A1, k1, rfl, _, _⟩ := ownQ_pairs hOs (by simp)
      have HB1 := Off.mk hb1
      clear hb1 hOs
      go_wp2_with fail
      refine (CR.out _ HB1.out).mono ?_
      rintro e w2 ⟨rfl, hb2⟩
      have HB2 := Off.mk (belowC HB1.out hb2)
      clear hb2
      go_wp2_with fail
      refine (alive_any _).mono ?_
      rintro e w3 ⟨rfl, hb3⟩
      go_wp2
      go_ret
      exact ⟨rfl, belowC HB2.out hb3⟩
    | true =>
      have CR := Off.mk (fun W (hb : Below w.heap.size w W) => isPenR_read xs A c W true hv (HX.out.below hb))
      cases hop : hasOpp xs with
      | false =>
        have hoa : oppA xs = ([], 9) := by unfold oppA; rw [hv, hop]; rfl
        rw [hoa] at CO
        clear hx hf hv hoa hop
        go_enter Try.func5, Try.ntmps5
        go_wp2_with fail
        refine CF.out.mono ?_
        rintro e w0 ⟨rfl, hw0⟩
        subst w0
        go_wp2_with fail
        refine CO.out.mono ?_
        rintro e w1 ⟨hres, hb1⟩
        obtain ⟨us, rfl, hOs⟩ := hres
        obtain ⟨A1, k1, rfl, _, _⟩ := ownQ_pairs hOs (by simp)
        have HB1 := Off.mk hb1
        clear hb1 hOs
        go_wp2_with fail
        refine (CR.out _ HB1.out).mono ?_
        rintro e w2 ⟨rfl, hb2⟩
        have HB2 := Off.mk (belowC HB1.out hb2)
        clear hb2
        go_wp2_with fail
        refine (alive_any _).mono ?_
        rintro e w3 ⟨rfl, hb3⟩
        go_wp2
        go_ret
        exact ⟨rfl, belowC HB2.out hb3⟩
      | true =>
        have hoa : oppA xs = (oppL xs, 0) := by unfold oppA; rw [hv, hop]; rfl
        rw [hoa] at CO
        have HTF := Off.mk (twelve_facts hv hop)
        obtain ⟨ys, hys⟩ : ∃ ys, ys = oppL xs := ⟨_, rfl⟩
        rw [← hys] at CO
        have hyl : ys.length = xs.length := by rw [hys]; exact oppL_len xs
        have HYA : Off (∀ i, i < xs.length → ys.getD i (0, 0) = oppAt xs i) := ⟨fun i hi => by rw [hys]; exact oppL_at xs i hi⟩
        have HNR : Off (∀ i, i < xs.length → inB 100 (oppAt xs i)) := ⟨fun i hi => by
          have hn := (near_all hv).1
          have a1 := hn i
          have a2 := hn ((i + 1) % xs.length)
          unfold oppAt
          have t1 := tdiv_near ((sideAt xs i).2.2 - (sideAt xs i).1.2) (crossP (sideAt xs i).1 (sideAt xs i).2)
          have t2 := tdiv_near ((sideAt xs i).1.1 - (sideAt xs i).2.1) (crossP (sideAt xs i).1 (sideAt xs i).2)
          unfold sideAt at t1 t2 ⊢
          unfold inB at a1 a2 ⊢
          simp only at t1 t2 ⊢
          omega⟩
        have CN := Off.mk (fun W (hb : Below w.heap.size w W) => Count_any xs A c W (HX.out.below hb))
        rw [hv, if_pos rfl, HTF.out.2.1] at CN
        have HYS : Off (ys = oppL xs) := ⟨hys⟩
        obtain ⟨b1, hb1⟩ : ∃ b, b = borderP xs := ⟨_, rfl⟩
        rw [← hb1] at CN
        have HB1e : Off (b1 = borderP xs) := ⟨hb1⟩
        have HN50 := Off.mk (near_all hv).1
        have CB := Off.mk (fun W (hb : Below w.heap.size w W) => begun_any xs A c W (HX.out.below hb) hf)
        have hf' : xs.length ≤ 60 := hf
        clear hx hf hv hoa hop hys hb1
        go_enter Try.func5, Try.ntmps5
        go_wp2_with fail
        refine CF.out.mono ?_
        rintro e w0 ⟨rfl, hw0⟩
        subst w0
        go_wp2_with fail
        refine CO.out.mono ?_
        rintro e w1 ⟨hres, hb1⟩
        obtain ⟨us, rfl, hOs⟩ := hres
        obtain ⟨A1, k1, rfl, hI1, _⟩ := ownQ_pairs hOs (show ys.length ≤ _ by omega)
        have HI1 := Off.mk hI1
        have HB1 := Off.mk hb1
        rw [hyl]
        clear hb1 hOs hI1
        go_wp2_with fail
        refine (CR.out _ HB1.out).mono ?_
        rintro e w2 ⟨rfl, hb2⟩
        have HB2 := Off.mk hb2
        clear hb2
        go_wp2
        go_loopw [5] (fun kv wr => ∃ k : Nat, k ≤ xs.length ∧ kv = .int .i64 k ∧ Off (Below w1.heap.size w1 wr)) (fun kv _ => xs.length - (intOf kv).toNat)
        case atStart => exact ⟨0, by omega, rfl, HB2⟩
        case round =>
          obtain ⟨k, hk, rfl, HB⟩ := hrel
          by_cases hlt : k < xs.length
          · have hkI : (k : Int) < (xs.length : Int) := by omega
            obtain ⟨m, hm⟩ : ∃ m, m = (k + 1) % xs.length := ⟨_, rfl⟩
            have hml : m < xs.length := by rw [hm]; exact Nat.mod_lt _ (by omega)
            have e5 : ((k : Int) + 1).tmod (xs.length : Int) = (m : Int) := by
              rw [Int.tmod_eq_emod_of_nonneg (by omega), hm, show (k : Int) + 1 = ((k + 1 : Nat) : Int) by omega]
              exact (Int.natCast_emod _ _).symm
            have e7 : ((k : Int) + 1) % (xs.length : Int) = (m : Int) := by rw [← Int.tmod_eq_emod_of_nonneg (by omega)]; exact e5
            have w5 : IntKind.i64.wrap ((k : Int) + 1) = (k : Int) + 1 := by rw [IntKind.wrap_i64]; omega
            have hn0 : ¬ xs.length = 0 := by omega
            have hmI : (m : Int) < (xs.length : Int) := by omega
            have hxr := HX.out.below (belowC HB1.out HB.out)
            have hyr := HI1.out.below HB.out
            obtain ⟨ad, rfl, x0, x1⟩ := hxr.cell k hlt
            obtain ⟨ad', e, z0, z1⟩ := hxr.cell m hml
            cases e
            obtain ⟨ao, rfl, y0, y1⟩ := hyr.cell k (by omega)
            rw [HYA.out k hlt] at y0 y1
            obtain ⟨p, hp⟩ : ∃ p, p = xs.getD k (0, 0) := ⟨_, rfl⟩
            obtain ⟨q, hq⟩ : ∃ q, q = xs.getD m (0, 0) := ⟨_, rfl⟩
            obtain ⟨r, hr⟩ : ∃ r, r = oppAt xs k := ⟨_, rfl⟩
            have hone := HTF.out.1 k hlt
            have hr100 := HNR.out k hlt
            rw [← hm, ← hp, ← hq, ← hr] at hone
            rw [← hr] at hr100
            rw [← hp] at x0 x1
            rw [← hq] at z0 z1
            rw [← hr] at y0 y1
            obtain ⟨hone1, hone2⟩ := hone
            unfold inB at hr100
            unfold Pk.dt at hone1 hone2
            have hpB : inB 50 p ∧ inB 50 q := by
              have := HN50.out
              rw [hp, hq]
              exact ⟨this _, this _⟩
            unfold inB at hpB
            have g1 : decide (1048576 < r.1) = false := decide_eq_false (by omega)
            have g2 : decide (r.1 < -1048576) = false := decide_eq_false (by omega)
            have g3 : decide (1048576 < r.2) = false := decide_eq_false (by omega)
            have g4 : decide (r.2 < -1048576) = false := decide_eq_false (by omega)
            have m1 := mul_in (x := r.1) (y := p.1) (a := 100) (b := 50) (by omega) (by omega) (by omega) (by omega)
            have m2 := mul_in (x := r.2) (y := p.2) (a := 100) (b := 50) (by omega) (by omega) (by omega) (by omega)
            have m3 := mul_in (x := r.1) (y := q.1) (a := 100) (b := 50) (by omega) (by omega) (by omega) (by omega)
            have m4 := mul_in (x := r.2) (y := q.2) (a := 100) (b := 50) (by omega) (by omega) (by omega) (by omega)
            have W1 : IntKind.i64.wrap (r.1 * p.1) = r.1 * p.1 := by rw [IntKind.wrap_i64]; omega
            have W2 : IntKind.i64.wrap (r.2 * p.2) = r.2 * p.2 := by rw [IntKind.wrap_i64]; omega
            have W3 : IntKind.i64.wrap (r.1 * q.1) = r.1 * q.1 := by rw [IntKind.wrap_i64]; omega
            have W4 : IntKind.i64.wrap (r.2 * q.2) = r.2 * q.2 := by rw [IntKind.wrap_i64]; omega
            have W5 : IntKind.i64.wrap (r.1 * p.1 + r.2 * p.2) = 1 := by rw [hone1]; decide
            have W6 : IntKind.i64.wrap (r.1 * q.1 + r.2 * q.2) = 1 := by rw [hone2]; decide
            clear hp hq hr hm hxr hyr hr100 hpB m1 m2 m3 m4 hone1 hone2
            go_wp2
            apply cut_two (Facts := fun V La Lb => (V.heap[La]? = some (.cells #[.int .i64 p.1, .int .i64 p.2] 34 (0, 0)) ∧ V.heap[Lb]? = some (.cells #[.int .i64 q.1, .int .i64 q.2] 34 (0, 0))) ∧ Below wr.heap.size wr V)
            case h1 =>
              have SS : (fun w' => ((w'.cell? (ad.add (k * 2)) = some (.int .i64 p.1) ∧ w'.cell? ⟨(ad.add (k * 2)).block, (ad.add (k * 2)).off + 1, none⟩ = some (.int .i64 p.2)) ∧ (w'.cell? (ad.add (m * 2)) = some (.int .i64 q.1) ∧ w'.cell? ⟨(ad.add (m * 2)).block, (ad.add (m * 2)).off + 1, none⟩ = some (.int .i64 q.2))) ∧ (w'.cell? (ao.add (k * 2)) = some (.int .i64 r.1) ∧ w'.cell? ⟨(ao.add (k * 2)).block, (ao.add (k * 2)).off + 1, none⟩ = some (.int .i64 r.2))) wr := ⟨⟨⟨x0, x1⟩, z0, z1⟩, y0, y1⟩
              have keepS : ∀ {v : World}, Below wr.heap.size wr v → (fun w' => ((w'.cell? (ad.add (k * 2)) = some (.int .i64 p.1) ∧ w'.cell? ⟨(ad.add (k * 2)).block, (ad.add (k * 2)).off + 1, none⟩ = some (.int .i64 p.2)) ∧ (w'.cell? (ad.add (m * 2)) = some (.int .i64 q.1) ∧ w'.cell? ⟨(ad.add (m * 2)).block, (ad.add (m * 2)).off + 1, none⟩ = some (.int .i64 q.2))) ∧ (w'.cell? (ao.add (k * 2)) = some (.int .i64 r.1) ∧ w'.cell? ⟨(ao.add (k * 2)).block, (ao.add (k * 2)).off + 1, none⟩ = some (.int .i64 r.2))) wr → (fun w' => ((w'.cell? (ad.add (k * 2)) = some (.int .i64 p.1) ∧ w'.cell? ⟨(ad.add (k * 2)).block, (ad.add (k * 2)).off + 1, none⟩ = some (.int .i64 p.2)) ∧ (w'.cell? (ad.add (m * 2)) = some (.int .i64 q.1) ∧ w'.cell? ⟨(ad.add (m * 2)).block, (ad.add (m * 2)).off + 1, none⟩ = some (.int .i64 q.2))) ∧ (w'.cell? (ao.add (k * 2)) = some (.int .i64 r.1) ∧ w'.cell? ⟨(ao.add (k * 2)).block, (ao.add (k * 2)).off + 1, none⟩ = some (.int .i64 r.2))) v := fun hb ⟨⟨⟨x0, x1⟩, z0, z1⟩, y0, y1⟩ => ⟨⟨⟨cellB hb x0, cellB hb x1⟩, cellB hb z0, cellB hb z1⟩, cellB hb y0, cellB hb y1⟩
              refine wp_region_held_drew (S := (fun w' => ((w'.cell? (ad.add (k * 2)) = some (.int .i64 p.1) ∧ w'.cell? ⟨(ad.add (k * 2)).block, (ad.add (k * 2)).off + 1, none⟩ = some (.int .i64 p.2)) ∧ (w'.cell? (ad.add (m * 2)) = some (.int .i64 q.1) ∧ w'.cell? ⟨(ad.add (m * 2)).block, (ad.add (m * 2)).off + 1, none⟩ = some (.int .i64 q.2))) ∧ (w'.cell? (ao.add (k * 2)) = some (.int .i64 r.1) ∧ w'.cell? ⟨(ao.add (k * 2)).block, (ao.add (k * 2)).off + 1, none⟩ = some (.int .i64 r.2)))) (by kernel_rfl) SS (fun hHeld => ?_)
              refine wpAnyH_take (i := 0) (oi := ⟨some 57, _, _, _, _, _⟩) (v := ?_) rfl (by kernel_rfl) (by kernel_rfl) (by kernel_rfl) (fun _ _ _ h => by cases h.1) (Or.inl ⟨by rfl, by intro w hSw; (try dsimp only at hSw); go_simp; try with_reducible rfl⟩) hHeld ?_
              try simp only [Act.put, List.setIfInBounds_toArray, List.set_cons_zero, List.set_cons_succ]
              refine wpAnyH_take (i := 1) (oi := ⟨some 58, _, _, _, _, _⟩) (v := ?_) rfl (by kernel_rfl) (by kernel_rfl) (by kernel_rfl) (fun _ _ _ h => by cases h.1) (Or.inl ⟨by rfl, by intro w hSw; (try dsimp only at hSw); go_simp; try with_reducible rfl⟩) hHeld ?_
              try simp only [Act.put, List.setIfInBounds_toArray, List.set_cons_zero, List.set_cons_succ]
              refine wpAnyH_take (i := 2) (oi := ⟨some 59, _, _, _, _, _⟩) (v := ?_) rfl (by kernel_rfl) (by kernel_rfl) (by kernel_rfl) (fun _ _ _ h => by cases h.1) (Or.inl ⟨by rfl, by intro w hSw; (try dsimp only at hSw); go_simp; try with_reducible rfl⟩) hHeld ?_
              try simp only [Act.put, List.setIfInBounds_toArray, List.set_cons_zero, List.set_cons_succ]
              refine wpAnyH_take (i := 3) (oi := ⟨some 60, _, _, _, _, _⟩) (v := ?_) rfl (by kernel_rfl) (by kernel_rfl) (by kernel_rfl) (fun _ _ _ h => by cases h.1) (Or.inl ⟨by rfl, by intro w hSw; (try dsimp only at hSw); go_simp; try with_reducible rfl⟩) hHeld ?_
              try simp only [Act.put, List.setIfInBounds_toArray, List.set_cons_zero, List.set_cons_succ]
              refine wpAnyH_take (i := 4) (oi := ⟨some 61, _, _, _, _, _⟩) (v := ?_) rfl (by kernel_rfl) (by kernel_rfl) (by kernel_rfl) (fun _ _ _ h => by cases h.1) (Or.inl ⟨by rfl, by intro w hSw; (try dsimp only at hSw); go_simp; try with_reducible rfl⟩) hHeld ?_
              try simp only [Act.put, List.setIfInBounds_toArray, List.set_cons_zero, List.set_cons_succ]
              refine wpAnyH_take (i := 5) (oi := ⟨some 62, _, _, _, _, _⟩) (v := ?_) rfl (by kernel_rfl) (by kernel_rfl) (by kernel_rfl) (fun _ _ _ h => by cases h.1) (Or.inl ⟨by rfl, by intro w hSw; (try dsimp only at hSw); go_simp; try with_reducible rfl⟩) hHeld ?_
              try simp only [Act.put, List.setIfInBounds_toArray, List.set_cons_zero, List.set_cons_succ]
              refine wpAnyH_take (i := 6) (oi := ⟨some 63, _, _, _, _, _⟩) (v := ?_) rfl (by kernel_rfl) (by kernel_rfl) (by kernel_rfl) (fun _ _ _ h => by cases h.1) (Or.inl ⟨by rfl, by intro w hSw; (try dsimp only at hSw); go_simp; try with_reducible rfl⟩) hHeld ?_
              try simp only [Act.put, List.setIfInBounds_toArray, List.set_cons_zero, List.set_cons_succ]
              refine wpAnyH_take (i := 7) (oi := ⟨some 64, _, _, _, _, _⟩) (v := ?_) rfl (by kernel_rfl) (by kernel_rfl) (by kernel_rfl) (fun _ _ _ h => by cases h.1) (Or.inl ⟨by rfl, by intro w hSw; (try dsimp only at hSw); go_simp; try with_reducible rfl⟩) hHeld ?_
              try simp only [Act.put, List.setIfInBounds_toArray, List.set_cons_zero, List.set_cons_succ]
              refine wpAnyH_take (i := 8) (oi := ⟨some 65, _, _, _, _, _⟩) (v := ?_) rfl (by kernel_rfl) (by kernel_rfl) (by kernel_rfl) (fun _ _ _ h => by cases h.1) (Or.inl ⟨by rfl, by intro w hSw; (try dsimp only at hSw); go_simp; try with_reducible rfl⟩) hHeld ?_
              try simp only [Act.put, List.setIfInBounds_toArray, List.set_cons_zero, List.set_cons_succ]
              refine wpAnyH_take (i := 9) (oi := ⟨some 66, _, _, _, _, _⟩) (v := ?_) rfl (by kernel_rfl) (by kernel_rfl) (by kernel_rfl) (fun _ _ _ h => by cases h.1) (Or.inl ⟨by rfl, by intro w hSw; (try dsimp only at hSw); go_simp; try with_reducible rfl⟩) hHeld ?_
              try simp only [Act.put, List.setIfInBounds_toArray, List.set_cons_zero, List.set_cons_succ]
              refine wpAnyH_take (i := 10) (oi := ⟨some 67, _, _, _, _, _⟩) (v := ?_) rfl (by kernel_rfl) (by kernel_rfl) (by kernel_rfl) (fun _ _ _ h => by cases h.1) (Or.inl ⟨by rfl, by intro w hSw; (try dsimp only at hSw); go_simp; try with_reducible rfl⟩) hHeld ?_
              try simp only [Act.put, List.setIfInBounds_toArray, List.set_cons_zero, List.set_cons_succ]
              refine wpAnyH_take (i := 11) (oi := ⟨some 68, _, _, _, _, _⟩) (v := ?_) rfl (by kernel_rfl) (by kernel_rfl) (by kernel_rfl) (fun _ _ _ h => by cases h.1) (Or.inl ⟨by rfl, by intro w hSw; (try dsimp only at hSw); go_simp; try with_reducible rfl⟩) hHeld ?_
              try simp only [Act.put, List.setIfInBounds_toArray, List.set_cons_zero, List.set_cons_succ]
              obtain ⟨V0, hV0⟩ : ∃ V, wr.drew = V := ⟨_, rfl⟩
              have hb0 : Below wr.heap.size wr V0 := by rw [← hV0]; exact (Below.refl _ wr).drew
              rw [hV0] at hHeld ⊢
              clear hV0
              refine wpAnyH_ready (rs := [12, 13]) (by kernel_rfl) (by simp) ?_
              refine AllReadyH.cons (o := ⟨some 6, _, _, _, _, _⟩) rfl (fun K hK => ?_) (AllReadyH.cons (o := ⟨some 7, _, _, _, _, _⟩) rfl (fun K hK => ?_) AllReadyH.nil)
              · go_simp
                have hb1 := belowA hb0 (.cells #[.int .i64 0, .int .i64 0] 34)
                refine hK.out _ _ (keepS hb1 SS) (fun hHeld => ?_)
                clear hK K
                try simp only [Act.put, List.setIfInBounds_toArray, List.set_cons_zero, List.set_cons_succ]
                have bA := block_new V0 (.cells #[.int .i64 0, .int .i64 0] 34)
                have szA := hb0.size
                obtain ⟨U1, hU⟩ : ∃ U, (V0.alloc (.cells #[.int .i64 0, .int .i64 0] 34)) = U := ⟨_, rfl⟩
                rw [hU] at hb1 bA ⊢
                rw [hU] at hHeld
                clear hU
                refine wpAnyH_ready (rs := [13]) (by kernel_rfl) (by simp) ?_
                refine AllReadyH.cons (o := ⟨some 7, _, _, _, _, _⟩) rfl (fun K hK => ?_) AllReadyH.nil
                go_simp
                have hb2 := belowA hb1 (.cells #[.int .i64 0, .int .i64 0] 34)
                refine hK.out _ _ (keepS hb2 SS) (fun hHeld => ?_)
                clear hK K
                try simp only [Act.put, List.setIfInBounds_toArray, List.set_cons_zero, List.set_cons_succ]
                have hlt2 := (Array.getElem?_eq_some_iff.1 bA).1
                have bA := alloc_old (o' := (.cells #[.int .i64 0, .int .i64 0] 34)) bA
                have bB := block_new U1 (.cells #[.int .i64 0, .int .i64 0] 34)
                have szB := hb1.size
                obtain ⟨U2, hU⟩ : ∃ U, (U1.alloc (.cells #[.int .i64 0, .int .i64 0] 34)) = U := ⟨_, rfl⟩
                rw [hU] at hb2 bB bA ⊢
                rw [hU] at hHeld
                clear hU
                have hne : V0.heap.size ≠ U1.heap.size := by omega
                obtain ⟨⟨x0, x1⟩, y0, y1⟩ := two_facts bA
                obtain ⟨⟨z0, z1⟩, u0, u1⟩ := two_facts bB
                have hne' := Ne.symm hne
                refine wpAnyH_ready (rs := [14]) (by kernel_rfl) (by simp) ?_
                refine AllReadyH.cons (o := ⟨none, _, _, _, _, _⟩) rfl (fun K hK => ?_) AllReadyH.nil
                go_simp
                refine hK.out _ _ (keepS ((hb2.setCell (p := ⟨V0.heap.size, 0, none⟩) szA _).setCell (p := ⟨V0.heap.size, 1, none⟩) szA _) SS) (fun hHeld => ?_)
                clear hK K
                try simp only [Act.put, List.setIfInBounds_toArray, List.set_cons_zero, List.set_cons_succ]
                refine wpAnyH_ready (rs := [15]) (by kernel_rfl) (by simp) ?_
                refine AllReadyH.cons (o := ⟨none, _, _, _, _, _⟩) rfl (fun K hK => ?_) AllReadyH.nil
                go_simp
                have ST := two_blocksT 34 p q hb2 szA szB hne bA bB
                refine hK.out _ _ (keepS ST.2 SS) (fun hHeld => ?_)
                clear hK K
                try simp only [Act.put, List.setIfInBounds_toArray, List.set_cons_zero, List.set_cons_succ]
                clear hHeld x0 x1 y0 y1 z0 z1 u0 u1 bA bB SS keepS
                refine wpAnyH_done (by kernel_rfl) ?_ _
                generalize (((U2.setCell ⟨V0.heap.size, 0, none⟩ (.int .i64 p.1)).setCell ⟨V0.heap.size, 1, none⟩ (.int .i64 p.2)).setCell ⟨U1.heap.size, 0, none⟩ (.int .i64 q.1)).setCell ⟨U1.heap.size, 1, none⟩ (.int .i64 q.2) = V at ST ⊢
                obtain ⟨La, hLa⟩ : ∃ L, V0.heap.size = L := ⟨_, rfl⟩
                rw [hLa] at ST hne hne' szA ⊢
                clear hLa
                obtain ⟨Lb, hLb⟩ : ∃ L, U1.heap.size = L := ⟨_, rfl⟩
                rw [hLb] at ST hne hne' szB ⊢
                clear hLb
                exact ⟨rfl, _, _, ST, rfl⟩
              · go_simp
                have hb1 := belowA hb0 (.cells #[.int .i64 0, .int .i64 0] 34)
                refine hK.out _ _ (keepS hb1 SS) (fun hHeld => ?_)
                clear hK K
                try simp only [Act.put, List.setIfInBounds_toArray, List.set_cons_zero, List.set_cons_succ]
                have bB := block_new V0 (.cells #[.int .i64 0, .int .i64 0] 34)
                have szB := hb0.size
                obtain ⟨U1, hU⟩ : ∃ U, (V0.alloc (.cells #[.int .i64 0, .int .i64 0] 34)) = U := ⟨_, rfl⟩
                rw [hU] at hb1 bB ⊢
                rw [hU] at hHeld
                clear hU
                refine wpAnyH_ready (rs := [12]) (by kernel_rfl) (by simp) ?_
                refine AllReadyH.cons (o := ⟨some 6, _, _, _, _, _⟩) rfl (fun K hK => ?_) AllReadyH.nil
                go_simp
                have hb2 := belowA hb1 (.cells #[.int .i64 0, .int .i64 0] 34)
                refine hK.out _ _ (keepS hb2 SS) (fun hHeld => ?_)
                clear hK K
                try simp only [Act.put, List.setIfInBounds_toArray, List.set_cons_zero, List.set_cons_succ]
                have hlt2 := (Array.getElem?_eq_some_iff.1 bB).1
                have bB := alloc_old (o' := (.cells #[.int .i64 0, .int .i64 0] 34)) bB
                have bA := block_new U1 (.cells #[.int .i64 0, .int .i64 0] 34)
                have szA := hb1.size
                obtain ⟨U2, hU⟩ : ∃ U, (U1.alloc (.cells #[.int .i64 0, .int .i64 0] 34)) = U := ⟨_, rfl⟩
                rw [hU] at hb2 bA bB ⊢
                rw [hU] at hHeld
                clear hU
                have hne : U1.heap.size ≠ V0.heap.size := by omega
                obtain ⟨⟨x0, x1⟩, y0, y1⟩ := two_facts bA
                obtain ⟨⟨z0, z1⟩, u0, u1⟩ := two_facts bB
                have hne' := Ne.symm hne
                refine wpAnyH_ready (rs := [14]) (by kernel_rfl) (by simp) ?_
                refine AllReadyH.cons (o := ⟨none, _, _, _, _, _⟩) rfl (fun K hK => ?_) AllReadyH.nil
                go_simp
                refine hK.out _ _ (keepS ((hb2.setCell (p := ⟨U1.heap.size, 0, none⟩) szA _).setCell (p := ⟨U1.heap.size, 1, none⟩) szA _) SS) (fun hHeld => ?_)
                clear hK K
                try simp only [Act.put, List.setIfInBounds_toArray, List.set_cons_zero, List.set_cons_succ]
                refine wpAnyH_ready (rs := [15]) (by kernel_rfl) (by simp) ?_
                refine AllReadyH.cons (o := ⟨none, _, _, _, _, _⟩) rfl (fun K hK => ?_) AllReadyH.nil
                go_simp
                have ST := two_blocksT 34 p q hb2 szA szB hne bA bB
                refine hK.out _ _ (keepS ST.2 SS) (fun hHeld => ?_)
                clear hK K
                try simp only [Act.put, List.setIfInBounds_toArray, List.set_cons_zero, List.set_cons_succ]
                clear hHeld x0 x1 y0 y1 z0 z1 u0 u1 bA bB SS keepS
                refine wpAnyH_done (by kernel_rfl) ?_ _
                generalize (((U2.setCell ⟨U1.heap.size, 0, none⟩ (.int .i64 p.1)).setCell ⟨U1.heap.size, 1, none⟩ (.int .i64 p.2)).setCell ⟨V0.heap.size, 0, none⟩ (.int .i64 q.1)).setCell ⟨V0.heap.size, 1, none⟩ (.int .i64 q.2) = V at ST ⊢
                obtain ⟨La, hLa⟩ : ∃ L, U1.heap.size = L := ⟨_, rfl⟩
                rw [hLa] at ST hne hne' szA ⊢
                clear hLa
                obtain ⟨Lb, hLb⟩ : ∃ L, V0.heap.size = L := ⟨_, rfl⟩
                rw [hLb] at ST hne hne' szB ⊢
                clear hLb
                exact ⟨rfl, _, _, ST, rfl⟩
            case h2 =>
              intro La Lb V ST
              obtain ⟨⟨l0, l1⟩, _⟩ := two_facts ST.1.1
              obtain ⟨⟨h0, h1⟩, _⟩ := two_facts ST.1.2
              have HBV := Off.mk (HB.out.trans (ST.2.mono HB.out.size))
              have y0 := cellB ST.2 y0
              have y1 := cellB ST.2 y1
              clear ST x0 x1 z0 z1
              go_wp2
              go_quiet (fail)
              go_wp2
              go_roundw
              case rel => exact ⟨k + 1, by omega, by go_num, ⟨below_drewN' HBV.out _⟩⟩
              case measure => simp only [intOf]; omega
          · obtain rfl : k = xs.length := by omega
            go_wp2
            go_loopw [8] (fun kv wr => ∃ k : Nat, k ≤ xs.length ∧ kv = .int .i64 k ∧ Off (∀ i, i < k → inB 50 (oppAt xs i)) ∧ Off (Below w1.heap.size w1 wr)) (fun kv _ => xs.length - (intOf kv).toNat)
            case atStart => exact ⟨0, by omega, rfl, ⟨fun i hi => by omega⟩, HB⟩
            case round =>
              clear HB
              obtain ⟨k, hk, rfl, HIN, HB⟩ := hrel
              by_cases hlt : k < xs.length
              · have hkI : (k : Int) < (xs.length : Int) := by omega
                have hyr := HI1.out.below HB.out
                obtain ⟨ao, rfl, y0, y1⟩ := hyr.cell k (by omega)
                rw [HYA.out k hlt] at y0 y1
                obtain ⟨r, hr⟩ : ∃ r, r = oppAt xs k := ⟨_, rfl⟩
                rw [← hr] at y0 y1
                obtain ⟨v, hv⟩ : ∃ v, decide (inB 50 r) = v := ⟨_, rfl⟩
                have C1 : Off (∀ W, Calls Try.prog 24 #[ptV r] W fun e w' => e = .returned (.bool v) ∧ Below W.heap.size W w') := ⟨fun W => inRange_any r v hv W⟩
                have HNX : Off (v = true → ∀ i, i < k + 1 → inB 50 (oppAt xs i)) := ⟨fun e i hi => by
                  by_cases ei : i = k
                  · rw [ei, ← hr]
                    rw [e] at hv
                    exact of_decide_eq_true hv
                  · exact HIN.out i (by omega)⟩
                have w5 : IntKind.i64.wrap ((k : Int) + 1) = (k : Int) + 1 := by rw [IntKind.wrap_i64]; omega
                clear hyr hv hr HIN
                go_wp2_with fail
                refine (C1.out _).mono ?_
                rintro e w3 ⟨rfl, hb3⟩
                have HB3 := Off.mk (belowC HB.out hb3)
                clear hb3
                cases v with
                | false =>
                  go_wp2_with fail
                  refine (alive_any _).mono ?_
                  rintro e w4 ⟨rfl, hb4⟩
                  have HB4 := Off.mk (belowC (belowC HB1.out HB3.out) hb4)
                  clear hb4
                  go_wp2
                  go_ret
                  exact ⟨rfl, HB4.out⟩
                | true =>
                  have HIN2 := Off.mk (HNX.out rfl)
                  go_wp2
                  go_roundw
                  case rel => exact ⟨k + 1, by omega, by go_num, HIN2, HB3⟩
                  case measure => simp only [intOf]; omega
              · obtain rfl : k = xs.length := by omega
                have hall := HTF.out.2.2 HIN.out
                rw [← HYS.out] at hall
                obtain ⟨hy, hyo, hbk, h12, hy1⟩ := hall
                have CO2 := Off.mk (fun W (hb : Below w1.heap.size w1 W) => Opposite_any ys A1 k1 W (HI1.out.below hb) (fun h1 h2 i hi => opp_side ys h1 h2 i hi))
                have hoa : oppA ys = (begTo xs xs.length, 0) := by unfold oppA; rw [hy, hyo, ← hbk]; rfl
                rw [hoa] at CO2
                have CN2 := Off.mk (fun W (hb : Below w1.heap.size w1 W) => Count_any ys A1 k1 W (HI1.out.below hb))
                rw [hy, if_pos rfl, hy1] at CN2
                rw [← HB1e.out] at h12
                obtain ⟨b2, hb2⟩ : ∃ b, b = borderP ys := ⟨_, rfl⟩
                rw [← hb2] at CN2 h12
                rw [hyl] at CO2 CN2
                have W12 : IntKind.i64.wrap (b1 + b2) = 12 := by rw [h12]; decide
                have hbl := begTo_len xs xs.length
                obtain ⟨bs, hbs⟩ : ∃ bs, bs = begTo xs xs.length := ⟨_, rfl⟩
                rw [← hbs] at CO2 CB hbl
                have CS := Off.mk (fun (A2 B2 : Option Addr) (c2 d2 : Nat) W h1 h2 => same_any bs bs A2 B2 c2 d2 true (decide_eq_true rfl) W h1 h2)
                rw [hbl] at CS
                have HBL := Off.mk hbl
                clear hy hyo hbk h12 hy1 hoa hb2 hbs hbl HIN HTF HYA HNR
                go_wp2_with fail
                refine (CO2.out _ HB.out).mono ?_
                rintro e w3 ⟨hres, hb3⟩
                obtain ⟨us, rfl, hOs⟩ := hres
                obtain ⟨A2, k2, rfl, hI2, _⟩ := ownQ_pairs hOs (show bs.length ≤ _ by have := HBL.out; omega)
                have HI2 := Off.mk hI2
                have HB3 := Off.mk (belowC HB.out hb3)
                rw [HBL.out]
                clear hb3 hOs hI2
                go_wp2_with fail
                refine (CN.out _ (belowC HB1.out HB3.out)).mono ?_
                rintro e w4 ⟨rfl, hb4⟩
                have HB4 := Off.mk (belowC HB3.out hb4)
                have HR4 := Off.mk hb4
                clear hb4
                go_wp2_with fail
                refine (CN2.out _ HB4.out).mono ?_
                rintro e w5 ⟨rfl, hb5⟩
                have HB5 := Off.mk (belowC HB4.out hb5)
                have HR5 := Off.mk (belowC HR4.out hb5)
                clear hb5
                go_wp2_with fail
                refine (CB.out _ (belowC HB1.out HB5.out)).mono ?_
                rintro e w6 ⟨hres, hb6⟩
                obtain ⟨us, rfl, hOs⟩ := hres
                obtain ⟨A3, k3, rfl, hI3, _⟩ := ownQ_pairs hOs (show bs.length ≤ _ by have := HBL.out; omega)
                have HI3 := Off.mk hI3
                have HB6 := Off.mk (belowC HB5.out hb6)
                have HR6 := Off.mk (belowC HR5.out hb6)
                rw [HBL.out]
                clear hb6 hOs hI3
                go_wp2_with fail
                refine (CS.out A2 A3 k2 k3 _ (HI2.out.below HR6.out) HI3.out).mono ?_
                rintro e w7 ⟨rfl, hb7⟩
                have HB7 := Off.mk (belowC HB6.out hb7)
                clear hb7
                go_wp2_with fail
                refine (alive_any _).mono ?_
                rintro e w8 ⟨rfl, hb8⟩
                have HB8 := Off.mk (belowC (belowC HB1.out HB7.out) hb8)
                clear hb8
                go_wp2
                go_ret
                exact ⟨rfl, HB8.out⟩
  · have CF := Off.mk (few_any xs A c false (decide_eq_false hf) w)
    clear hx hf
    go_enter Try.func5, Try.ntmps5
    go_wp2_with fail
    refine CF.out.mono ?_
    rintro e w0 ⟨rfl, hw0⟩
    subst w0
    go_wp2_with fail
    refine (alive_any _).mono ?_
    rintro e w3 ⟨rfl, hb3⟩
    go_wp2
    go_ret
    exact ⟨rfl, hb3⟩
end
end Go.Proofs.Ytbpmiphipjkdlaa
