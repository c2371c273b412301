/- Plain: a strictly convex pen lies on one side of each of its sides' lines. Plain: what PensHull says of the smallest convex pen. Contracts: around, of lists that are the same up to their beginning and direction. The walk of PensHull. -/
import Derived.Test.YtbpmiphipjkdlaaBu
import Derived.Test.YtbpmiphipjkdlaaFh
import Derived.Test.YtbpmiphipjkdlaaBz
import Derived.Test.YtbpmiphipjkdlaaBa
namespace Go.Proofs.Ytbpmiphipjkdlaa
section
open Go.RowKit Go.Shelf
section
variable {b0 b1 b2 b3 : Int}
theorem lin_inj_h (hd : b0 * b3 - b1 * b2 ≠ 0) {p q : Int × Int} (h : shr b0 b1 b2 b3 p = shr b0 b1 b2 b3 q) : p = q := by
  unfold shr at h
  simp only [Prod.mk.injEq] at h
  obtain ⟨h1, h2⟩ := h
  have e1 : (b0 * b3 - b1 * b2) * (p.1 - q.1) = b3 * ((b0 * p.1 + b1 * p.2) - (b0 * q.1 + b1 * q.2)) - b1 * ((b2 * p.1 + b3 * p.2) - (b2 * q.1 + b3 * q.2)) := by grind
  have e2 : (b0 * b3 - b1 * b2) * (p.2 - q.2) = b0 * ((b2 * p.1 + b3 * p.2) - (b2 * q.1 + b3 * q.2)) - b2 * ((b0 * p.1 + b1 * p.2) - (b0 * q.1 + b1 * q.2)) := by grind
  rw [h1, h2, Int.sub_self, Int.sub_self, Int.mul_zero, Int.mul_zero] at e1 e2
  have f1 := (Int.mul_eq_zero.1 (e1.trans (Int.sub_self 0))).resolve_left hd
  have f2 := (Int.mul_eq_zero.1 (e2.trans (Int.sub_self 0))).resolve_left hd
  exact Prod.ext (by omega) (by omega)
theorem lin_sep_h (hd : b0 * b3 - b1 * b2 ≠ 0) {p q r s : Int × Int} (h : Pk.Sep p q r s) : Pk.Sep (shr b0 b1 b2 b3 p) (shr b0 b1 b2 b3 q) (shr b0 b1 b2 b3 r) (shr b0 b1 b2 b3 s) := by
  obtain ⟨n, ⟨h1, h2⟩, h3, h4⟩ := h
  obtain ⟨d, ed⟩ : ∃ d, d = b0 * b3 - b1 * b2 := ⟨_, rfl⟩
  have hdd : 0 < d * d := by
    rw [← ed] at hd
    rcases Int.lt_or_gt_of_ne hd with h | h
    · exact Int.mul_pos_of_neg_of_neg h h
    · exact Int.mul_pos h h
  have key : ∀ x y : Int × Int, 0 < Pk.dt n (Pk.vsub x y) → 0 < Pk.dt (d * (b3 * n.1 - b2 * n.2), d * (b0 * n.2 - b1 * n.1)) (Pk.vsub (shr b0 b1 b2 b3 x) (shr b0 b1 b2 b3 y)) := fun x y hp => by
    have e : Pk.dt (d * (b3 * n.1 - b2 * n.2), d * (b0 * n.2 - b1 * n.1)) (Pk.vsub (shr b0 b1 b2 b3 x) (shr b0 b1 b2 b3 y)) = d * d * Pk.dt n (Pk.vsub x y) := by
      rw [ed]; unfold Pk.dt Pk.vsub shr; simp only; grind
    rw [e]
    exact Int.mul_pos hdd hp
  exact ⟨(d * (b3 * n.1 - b2 * n.2), d * (b0 * n.2 - b1 * n.1)), ⟨key _ _ h1, key _ _ h2⟩, key _ _ h3, key _ _ h4⟩
theorem pen_lin_h {n : Nat} {v u : Nat → Int × Int} (hd : b0 * b3 - b1 * b2 ≠ 0) (hp : Pk.Pen n v) (h : ∀ i, u i = shr b0 b1 b2 b3 (v i)) : Pk.Pen n u := by
  refine ⟨hp.n3, fun i => by rw [h, h, hp.per], fun i => ?_, fun i => ?_, fun i k h1 h2 => ?_⟩
  · rw [h, h]
    exact fun e => hp.ne i (lin_inj_h hd e)
  · rw [h, h, h, shr_sub, shr_sub, shr_crs]
    rintro ⟨q1, q2⟩
    have hc : Pk.crs (Pk.vsub (v (i + 1)) (v i)) (Pk.vsub (v (i + 2)) (v (i + 1))) = 0 := (Int.mul_eq_zero.1 q1).resolve_left hd
    exact hp.fold i ⟨hc, shr_dt hc q2⟩
  · rw [h, h, h, h]
    exact lin_sep_h hd (hp.sep i k h1 h2)
theorem dv_per_h {n : Nat} {v : Nat → Int × Int} (hp : Pk.Pen n v) (i : Nat) : Pk.dv v (i + n) = Pk.dv v i := by
  unfold Pk.dv
  rw [hp.per, show i + n + 1 = i + 1 + n by omega, hp.per]
/-- The total variation of a walk is no less than what lies between two of its places. -/
theorem var_ge_h (s : Nat → Int) (a : Nat) : ∀ m, ((s (a + m) - s a).natAbs : Int) ≤ Pk.nsum (fun k => ((s (k + 1) - s k).natAbs : Int)) (a + m) - Pk.nsum (fun k => ((s (k + 1) - s k).natAbs : Int)) a
  | 0 => by simp
  | m + 1 => by
    have h := var_ge_h s a m
    rw [show a + (m + 1) = a + m + 1 by omega, Pk.nsum]
    omega
/-- A pen that turns to the left at all posts lies to the left of each side. -/
theorem left_of_h {n : Nat} {v : Nat → Int × Int} (hp : Pk.Pen n v) (hl : ∀ j, 0 < Pk.crs (Pk.dv v j) (Pk.dv v (j + 1))) (i t : Nat) (h2 : 2 ≤ t) (htn : t < n) :
    0 < Pk.crs (Pk.dv v i) (Pk.vsub (v (i + t)) (v i)) := by
  obtain ⟨e, he⟩ : ∃ e, e = Pk.dv v i := ⟨_, rfl⟩
  have hne : e ≠ (0, 0) := by rw [he]; exact Pk.vsub_ne (hp.ne i)
  have hD : 0 < e.1 * e.1 - e.2 * (-e.2) := by have := Pk.sq_pos hne; unfold Pk.dt at this; rw [Int.mul_neg]; omega
  have hpu : Pk.Pen n (fun j => shr e.1 e.2 (-e.2) e.1 (v j)) := pen_lin_h (b0 := e.1) (b1 := e.2) (b2 := -e.2) (b3 := e.1) (by omega) hp (fun _ => rfl)
  have hdu : ∀ j, Pk.dv (fun j => shr e.1 e.2 (-e.2) e.1 (v j)) j = shr e.1 e.2 (-e.2) e.1 (Pk.dv v j) := fun j => by unfold Pk.dv; rw [shr_sub]
  obtain ⟨s, hs⟩ : ∃ s : Nat → Int, s = fun j => (Pk.crs e (Pk.dv v j)).sign := ⟨_, rfl⟩
  have htau : ∀ j, Pk.tau (fun j => shr e.1 e.2 (-e.2) e.1 (v j)) j = ((s (j + 1) - s j).natAbs : Int) := fun j => by
    unfold Pk.tau Pk.W
    rw [hdu, hdu, shr_crs, Int.sign_eq_one_of_pos (Int.mul_pos hD (hl j)), Int.mul_one, hs]
    have e1 : ∀ x : Int × Int, (shr e.1 e.2 (-e.2) e.1 x).2 = Pk.crs e x := fun x => by unfold shr Pk.crs; simp only; grind
    rw [e1, e1]
  have hsp : ∀ j, s (j + n) = s j := fun j => by rw [hs]; simp only; rw [dv_per_h hp]
  have hsum : Pk.nsum (fun k => ((s (i + k + 1) - s (i + k)).natAbs : Int)) n = 4 := by
    have h1 := Pk.taus_all hpu
    rw [Pk.taus_nsum, Pk.nsum_congr n (fun j _ => htau j)] at h1
    have h2 := nsum_rot (F := fun k => ((s (k + 1) - s k).natAbs : Int)) (n := n) (fun j => by rw [show j + n + 1 = j + 1 + n by omega, hsp, hsp]) i
    have h3 : 0 ≤ Pk.nsum (fun k => ((s (i + k + 1) - s (i + k)).natAbs : Int)) n := by
      have := var_ge_h (fun k => s (i + k)) 0 n
      simp only [Nat.zero_add, Pk.nsum] at this
      have e : Pk.nsum (fun k => ((s (i + (k + 1)) - s (i + k)).natAbs : Int)) n = Pk.nsum (fun k => ((s (i + k + 1) - s (i + k)).natAbs : Int)) n := rfl
      omega
    rcases Pk.rho_two hpu with e | e <;> rw [e] at h1 <;> omega
  have hn3 := hp.n3
  have s0 : s i = 0 := by rw [hs]; simp only; rw [← he]; have : Pk.crs e e = 0 := by { unfold Pk.crs; grind }; rw [this]; rfl
  have y1 : 0 < Pk.crs e (Pk.dv v (i + 1)) := by rw [he]; exact hl i
  have yl : Pk.crs e (Pk.dv v (i + (n - 1))) < 0 := by
    have h1 := hl (i + (n - 1))
    rw [show i + (n - 1) + 1 = i + n by omega, dv_per_h hp, ← he] at h1
    have : Pk.crs e (Pk.dv v (i + (n - 1))) = - Pk.crs (Pk.dv v (i + (n - 1))) e := by unfold Pk.crs; grind
    omega
  have s1 : s (i + 1) = 1 := by rw [hs]; exact Int.sign_eq_one_of_pos y1
  have sl : s (i + (n - 1)) = -1 := by rw [hs]; exact Int.sign_eq_neg_one_of_neg yl
  have uni : ∀ a b, 1 ≤ a → a < b → b ≤ n - 1 → Pk.crs e (Pk.dv v (i + a)) < 0 → Pk.crs e (Pk.dv v (i + b)) ≤ 0 := by
    intro a b ha hab hb hna
    apply Int.not_lt.1
    intro hpb
    have sa : s (i + a) = -1 := by rw [hs]; exact Int.sign_eq_neg_one_of_neg hna
    have sb : s (i + b) = 1 := by rw [hs]; exact Int.sign_eq_one_of_pos hpb
    have v1 := var_ge_h (fun k => s (i + k)) 0 1
    have v2 := var_ge_h (fun k => s (i + k)) 1 (a - 1)
    have v3 := var_ge_h (fun k => s (i + k)) a (b - a)
    have v4 := var_ge_h (fun k => s (i + k)) b (n - 1 - b)
    have v5 := var_ge_h (fun k => s (i + k)) (n - 1) 1
    rw [show 1 + (a - 1) = a by omega] at v2
    rw [show a + (b - a) = b by omega] at v3
    rw [show b + (n - 1 - b) = n - 1 by omega] at v4
    rw [show n - 1 + 1 = n by omega] at v5
    rw [Nat.zero_add, show s (i + 0) = 0 from s0, s1] at v1
    rw [s1, sa] at v2
    rw [sa, sb] at v3
    rw [sb, sl] at v4
    rw [sl, hsp, s0] at v5
    have e5 : Pk.nsum (fun k => ((s (i + (k + 1)) - s (i + k)).natAbs : Int)) n = 4 := hsum
    have e0 : Pk.nsum (fun k => ((s (i + (k + 1)) - s (i + k)).natAbs : Int)) 0 = 0 := rfl
    omega
  have Yn : ∀ k, Pk.crs e (Pk.vsub (v (i + (k + 1))) (v i)) = Pk.crs e (Pk.vsub (v (i + k)) (v i)) + Pk.crs e (Pk.dv v (i + k)) := fun k => by
    unfold Pk.dv Pk.crs Pk.vsub
    rw [show i + (k + 1) = i + k + 1 by omega]
    simp only
    grind
  have Yend : Pk.crs e (Pk.vsub (v (i + n)) (v i)) = 0 := by rw [hp.per, Pk.vsub_self]; unfold Pk.crs; simp
  have up : ∀ k, (∀ a, 1 ≤ a → a < k + 2 → 0 ≤ Pk.crs e (Pk.dv v (i + a))) → 0 < Pk.crs e (Pk.vsub (v (i + (k + 2))) (v i)) := by
    intro k
    induction k with
    | zero =>
      intro _
      rw [show 0 + 2 = 1 + 1 from rfl, Yn 1, show (1 : Nat) = 0 + 1 from rfl, Yn 0, Nat.add_zero, Pk.vsub_self, ← he]
      have e1 : Pk.crs e (0, 0) = 0 := by unfold Pk.crs; simp
      have e2 : Pk.crs e e = 0 := by unfold Pk.crs; grind
      have := y1
      rw [Nat.zero_add]
      omega
    | succ k ih =>
      intro h
      rw [show k + 1 + 2 = (k + 2) + 1 by omega, Yn]
      have h1 := ih (fun a h1 h2 => h a h1 (by omega))
      have h2 := h (k + 2) (by omega) (by omega)
      omega
  have down : ∀ r, r + 1 ≤ n - 1 → (∀ b, n - (r + 1) ≤ b → b < n → Pk.crs e (Pk.dv v (i + b)) ≤ 0) → 0 < Pk.crs e (Pk.vsub (v (i + (n - (r + 1)))) (v i)) := by
    intro r
    induction r with
    | zero =>
      intro _ _
      have h1 := Yn (n - 1)
      rw [show n - 1 + 1 = n by omega, Yend] at h1
      rw [show n - (0 + 1) = n - 1 by omega]
      omega
    | succ r ih =>
      intro hr h
      have h1 := Yn (n - (r + 1 + 1))
      rw [show n - (r + 1 + 1) + 1 = n - (r + 1) by omega] at h1
      have h2 := ih (by omega) (fun b h1 h2 => h b (by omega) h2)
      have h3 := h (n - (r + 1 + 1)) (Nat.le_refl _) (by omega)
      omega
  rw [← he]
  by_cases hex : ∃ a, 1 ≤ a ∧ a < t ∧ Pk.crs e (Pk.dv v (i + a)) < 0
  · obtain ⟨a, ha1, ha2, ha3⟩ := hex
    have := down (n - t - 1) (by omega) (fun b h1 h2 => uni a b ha1 (by omega) (by omega) ha3)
    rwa [show n - (n - t - 1 + 1) = t by omega] at this
  · have := up (t - 2) (fun a h1 h2 => Int.not_lt.1 fun h => hex ⟨a, h1, by omega, h⟩)
    rwa [show t - 2 + 2 = t by omega] at this

theorem shr_mirror_h (p : Int × Int) : shr 1 0 0 (-1) p = (p.1, -p.2) := by
  unfold shr
  exact Prod.ext (by simp only; omega) (by simp only; omega)
/-- The same for pens that turn to one side, whichever it is. -/
theorem side_of_h {n : Nat} {v : Nat → Int × Int} (hp : Pk.Pen n v) {s : Int} (hs : s = 1 ∨ s = -1) (hl : ∀ j, 0 < s * Pk.crs (Pk.dv v j) (Pk.dv v (j + 1))) (i t : Nat) (h2 : 2 ≤ t) (htn : t < n) :
    0 < s * Pk.crs (Pk.dv v i) (Pk.vsub (v (i + t)) (v i)) := by
  rcases hs with rfl | rfl
  · rw [Int.one_mul]
    exact left_of_h hp (fun j => by have := hl j; rwa [Int.one_mul] at this) i t h2 htn
  · have hpu : Pk.Pen n (fun j => shr 1 0 0 (-1) (v j)) := pen_lin_h (by decide) hp (fun _ => rfl)
    have hdu : ∀ j, Pk.dv (fun j => shr 1 0 0 (-1) (v j)) j = shr 1 0 0 (-1) (Pk.dv v j) := fun j => by unfold Pk.dv; rw [shr_sub]
    have h := left_of_h hpu (fun j => by
      rw [hdu, hdu, shr_crs]
      have := hl j
      omega) i t h2 htn
    rw [hdu, shr_sub, shr_crs] at h
    omega
end
end
section
open Go.RowKit Go.Shelf

theorem hull_facts {xs ps : PtL} {er : Int} (h : HullIs xs (ps, er)) : (er ≠ 0 ∧ ps = []) ∨ (er = 0 ∧ Hu.Cyc xs ps ∧ (3 ≤ ps.length ∧ ps.length ≤ 10) ∧ ∀ q ∈ xs, inB 50 q) := by
  rcases h with ⟨_, e⟩ | ⟨_, _, e⟩ | ⟨_, _, e⟩ | ⟨⟨_, hf⟩, _, S, h1, h2, h3, e⟩
  · cases e; exact .inl ⟨by decide, rfl⟩
  · cases e; exact .inl ⟨by decide, rfl⟩
  · cases e; exact .inl ⟨by decide, rfl⟩
  · unfold hullR at e
    split at e
    · cases e; exact .inl ⟨by decide, rfl⟩
    next h3l =>
      split at e
      · cases e; exact .inl ⟨by decide, rfl⟩
      next h10 =>
        cases e
        right
        refine ⟨rfl, ?_, by omega, fun q hq => ?_⟩
        · refine Hu.hull_cyc h1 h2 ?_
          match S, h3l with
          | [], h => exact absurd (show (Hu.hull []).length < 3 from (by decide : (0 : Nat) < 3)) h
          | [p], h => exact absurd (show (Hu.hull [p]).length < 3 from (by decide : (0 : Nat) < 3)) h
          | _ :: _ :: _, _ => simp
        · rw [List.any_eq_false] at hf
          exact (far_in q).1 (by simpa using hf q hq)
section
variable {xs H : PtL}
theorem cyc_in (c : Hu.Cyc xs H) (i : Nat) (h : i < H.length) : H.getD i (0, 0) ∈ xs := by
  have := (c.at i).ma
  unfold postAt at this
  rwa [Nat.mod_eq_of_lt h] at this
theorem cyc_read (c : Hu.Cyc xs H) (h3 : 3 ≤ H.length) (h10 : H.length ≤ 10) (hin : ∀ q ∈ xs, inB 50 q) : readP H = true :=
  read_of_pen h10 (fun i hi => hin _ (cyc_in c i hi)) (c.pen h3)
theorem cyc_turn (c : Hu.Cyc xs H) (h3 : 3 ≤ H.length) (j : Nat) : 0 < Pk.crs (Pk.dv (postAt H) j) (Pk.dv (postAt H) (j + 1)) := c.turn h3 j
theorem cyc_hit (c : Hu.Cyc xs H) (h3 : 3 ≤ H.length) (hv : readP H = true) : hitTo H 0 H.length = false ∧ convexP H false = true := by
  have hz : ∀ s : Int, s ≠ 1 → ¬ Hit (postAt H) s := fun s hs => by
    rintro ⟨j, e⟩
    have h1 := cyc_turn c h3 j
    rw [Int.sign_eq_one_of_pos h1] at e
    exact hs e.symm
  constructor
  · rw [← Bool.not_eq_true, hit_iff hv]
    exact hz 0 (by decide)
  · rw [convex_eq hv]
    unfold convexR
    have : hitTo H (-1) H.length = false := by
      rw [← Bool.not_eq_true, hit_iff hv]
      exact hz (-1) (by decide)
    rw [this]
    simp
theorem cyc_cross (c : Hu.Cyc xs H) (h3 : 3 ≤ H.length) : 0 < crossR (H.getD 0 (0, 0)) (H.getD 1 (0, 0)) (H.getD 2 (0, 0)) := by
  have h := c.turn h3 0
  unfold postAt at h
  rw [Nat.zero_add, Nat.zero_add, Nat.zero_mod, Nat.mod_eq_of_lt (show 1 < H.length by omega), Nat.mod_eq_of_lt (show 2 < H.length by omega)] at h
  have e := Hu.tri (H.getD 0 (0, 0)) (H.getD 1 (0, 0)) (H.getD 2 (0, 0))
  rw [← e] at h
  exact h
theorem cyc_where (c : Hu.Cyc xs H) (h3 : 3 ≤ H.length) (hv : readP H = true) (p : Int × Int) (hp : p ∈ xs) : whereP H p = 0 ∨ whereP H p = 1 := by
  rw [where_tot hv]
  rcases c.inside h3 p hp with h | h
  · rw [if_pos h]; exact .inl rfl
  · by_cases hb : Pk.OnB H.length (postAt H) p
    · rw [if_pos hb]; exact .inl rfl
    · rw [if_neg hb, if_neg h]; exact .inr rfl
end
/-- The one list is the other one, begun elsewhere, in this direction or in the other one. -/
def AroundAt (a b : PtL) (s : Nat) : Prop := (∀ i, i < b.length → a.getD i (0, 0) = b.getD ((s + i) % b.length) (0, 0)) ∨ (∀ i, i < b.length → a.getD i (0, 0) = b.getD ((s + b.length - i) % b.length) (0, 0))
/-- Of a strictly convex pen the smallest convex pen is the pen itself. -/
theorem cyc_around {xs H : PtL} (c : Hu.Cyc xs H) (h3 : 3 ≤ H.length) (hv : readP xs = true) (hst : hitTo xs 0 xs.length = false) (hcv : convexP xs false = true) : H.length = xs.length ∧ ∃ s, s < xs.length ∧ AroundAt H xs s := by
  have hp := pen_of hv
  have hn3 := hp.n3
  have hst' : ¬ Hit (postAt xs) 0 := by rw [← hit_iff hv, hst]; simp
  have hnz : ∀ j, (Pk.crs (Pk.dv (postAt xs) j) (Pk.dv (postAt xs) (j + 1))).sign ≠ 0 := fun j e => hst' ⟨j, e⟩
  have hone : ¬ (Hit (postAt xs) 1 ∧ Hit (postAt xs) (-1)) := by
    rintro ⟨h1, h2⟩
    rw [convex_eq hv] at hcv
    unfold convexR at hcv
    rw [(hit_iff hv 1).2 h1, (hit_iff hv (-1)).2 h2] at hcv
    simp at hcv
  have hall : ∀ q ∈ xs, ∃ k, q = postAt xs k := fun q hq => by
    obtain ⟨j, hj, rfl⟩ := List.getElem_of_mem hq
    refine ⟨j, ?_⟩
    unfold postAt
    rw [Nat.mod_eq_of_lt hj, List.getD_eq_getElem?_getD, List.getElem?_eq_getElem hj]
    rfl
  have hmem : ∀ k, postAt xs k ∈ xs := fun k => by
    unfold postAt
    have := Nat.mod_lt k (show xs.length > 0 by omega)
    rw [List.getD_eq_getElem?_getD, List.getElem?_eq_getElem this]
    exact List.getElem_mem this
  -- seen from post i, a post is number t from it
  have hfrom : ∀ q ∈ xs, ∀ i, ∃ t, t < xs.length ∧ q = postAt xs (i + t) := fun q hq i => by
    obtain ⟨k, rfl⟩ := hall q hq
    have hge : i ≤ xs.length * i := Nat.le_mul_of_pos_left _ (by omega)
    refine ⟨(k + xs.length * i - i) % xs.length, Nat.mod_lt _ (by omega), ?_⟩
    have e : postAt xs (i + (k + xs.length * i - i) % xs.length) = postAt xs (i + (k + xs.length * i - i)) := by unfold postAt; rw [Nat.add_mod_mod]
    rw [e, show i + (k + xs.length * i - i) = k + xs.length * i by omega]
    unfold postAt
    rw [Nat.add_mul_mod_self_left]
  have hself : ∀ a b : Int × Int, Pk.On a b a ∧ Pk.On a b b := fun a b => by
    unfold Pk.On Pk.crs Pk.dt Pk.vsub
    refine ⟨⟨by grind, ?_⟩, by grind, ?_⟩
    · have : (a.1 - a.1) * (a.1 - b.1) + (a.2 - a.2) * (a.2 - b.2) = 0 := by grind
      simp only
      omega
    · have : (b.1 - a.1) * (b.1 - b.1) + (b.2 - a.2) * (b.2 - b.2) = 0 := by grind
      simp only
      omega
  have hnx : ∀ s : Int, (s = 1 ∨ s = -1) → (∀ j, 0 < s * Pk.crs (Pk.dv (postAt xs) j) (Pk.dv (postAt xs) (j + 1))) → ∀ i q, q ∈ xs → 0 < s * Pk.crs (Pk.dv (postAt xs) i) (Pk.vsub q (postAt xs i)) ∨ q = postAt xs i ∨ q = postAt xs (i + 1) := fun s hs hl i q hq => by
    obtain ⟨t, ht, rfl⟩ := hfrom q hq i
    by_cases t0 : t = 0
    · subst t0; exact .inr (.inl rfl)
    · by_cases t1 : t = 1
      · subst t1; exact .inr (.inr rfl)
      · exact .inl (side_of_h hp hs hl i t (by omega) ht)
  by_cases h1 : Hit (postAt xs) 1
  · have hl : ∀ j, 0 < (1 : Int) * Pk.crs (Pk.dv (postAt xs) j) (Pk.dv (postAt xs) (j + 1)) := fun j => by
      rcases Pk.sign_cases (Pk.crs (Pk.dv (postAt xs) j) (Pk.dv (postAt xs) (j + 1))) with ⟨_, h⟩ | ⟨h, _⟩ | ⟨h, _⟩
      · omega
      · exact absurd h (hnz j)
      · exact absurd ⟨h1, j, h⟩ hone
    obtain ⟨e, k, hk⟩ := c.around (u := postAt xs) (n := xs.length) (by omega) (fun i => Hu.postAt_per i) (fun i t a b => hp.distinct i t a b) (fun i => ⟨hp.ne i, hmem _, hmem _, fun q hq => by
      rcases hnx 1 (.inl rfl) hl i q hq with g | g | g
      · rw [Int.one_mul] at g; exact .inl g
      · rw [g]
        refine .inr ⟨by unfold Hu.cr Hu.sb; grind, (hself _ _).1⟩
      · rw [g]
        refine .inr ⟨by unfold Hu.cr; grind, (hself _ _).2⟩⟩) hall
    refine ⟨e, k % xs.length, Nat.mod_lt _ (by omega), .inl fun i hi => ?_⟩
    have := hk i
    unfold postAt at this
    rw [Nat.mod_eq_of_lt (show i < H.length by omega)] at this
    rw [this, Nat.mod_add_mod]
  · have hl : ∀ j, 0 < (-1 : Int) * Pk.crs (Pk.dv (postAt xs) j) (Pk.dv (postAt xs) (j + 1)) := fun j => by
      rcases Pk.sign_cases (Pk.crs (Pk.dv (postAt xs) j) (Pk.dv (postAt xs) (j + 1))) with ⟨h, _⟩ | ⟨h, _⟩ | ⟨_, h⟩
      · exact absurd ⟨j, h⟩ h1
      · exact absurd h (hnz j)
      · omega
    -- the pen read backwards
    obtain ⟨u, hu⟩ : ∃ u : Nat → Int × Int, ∀ i, u i = postAt xs (xs.length - i % xs.length) := ⟨_, fun _ => rfl⟩
    have hrev : Rev xs.length 0 (postAt xs) u := ⟨fun i j hij => by
      rw [hu]
      have := rev_idx (f := 0) (show 0 < xs.length by omega) hij
      rw [Nat.zero_add] at this
      unfold postAt
      rw [this]⟩
    have hpu := pen_rev hp hrev
    have hstep : ∀ i, ∃ j, u i = postAt xs (j + 1) ∧ u (i + 1) = postAt xs j := fun i => by
      obtain ⟨j, hj⟩ := Rev.ex (f := 0) (show 0 < xs.length by omega) (i + 1)
      exact ⟨j, hrev.eq i (j + 1) (by rw [← hj]; congr 1; omega), hrev.eq (i + 1) j hj⟩
    obtain ⟨e, k, hk⟩ := c.around (u := u) (n := xs.length) (by omega) (fun i => hpu.per i) (fun i t a b => hpu.distinct i t a b) (fun i => by
      obtain ⟨j, e1, e2⟩ := hstep i
      rw [e1, e2]
      refine ⟨(hp.ne j).symm, hmem _, hmem _, fun q hq => ?_⟩
      rcases hnx (-1) (.inr rfl) hl j q hq with g | g | g
      · left
        have : Hu.cr (Hu.sb (postAt xs j) (postAt xs (j + 1))) (Hu.sb q (postAt xs (j + 1))) = -1 * Pk.crs (Pk.dv (postAt xs) j) (Pk.vsub q (postAt xs j)) := by unfold Hu.cr Hu.sb Pk.crs Pk.dv Pk.vsub; grind
        omega
      · rw [g]
        exact .inr ⟨by unfold Hu.cr; grind, (hself _ _).2⟩
      · rw [g]
        exact .inr ⟨by unfold Hu.cr Hu.sb; grind, (hself _ _).1⟩) (fun q hq => by
      obtain ⟨k, rfl⟩ := hall q hq
      obtain ⟨i, hi⟩ := Rev.ex (f := 0) (show 0 < xs.length by omega) k
      exact ⟨i, (hrev.eq i k (by rw [Nat.add_comm]; exact hi)).symm⟩)
    obtain ⟨k', hk'⟩ := Rev.ex (f := 0) (show 0 < xs.length by omega) k
    refine ⟨e, k' % xs.length, Nat.mod_lt _ (by omega), .inr fun i hi => ?_⟩
    have h2 := hk i
    unfold postAt at h2
    rw [Nat.mod_eq_of_lt (show i < H.length by omega)] at h2
    rw [h2]
    have hs : (k + i + (k' % xs.length + xs.length - i)) % xs.length = 0 % xs.length := by
      rw [show k + i + (k' % xs.length + xs.length - i) = k + k' % xs.length + xs.length by omega, Nat.add_mod_right, Nat.add_mod_mod, hk']
    rw [hrev.eq (k + i) _ hs]
    rfl
end
section
open Go.RowKit Go.Shelf

theorem eqP_same (p q : Int × Int) : eqP p q = true ↔ p = q := by
  unfold eqP
  rw [Bool.and_eq_true, decide_eq_true_eq, decide_eq_true_eq]
  exact ⟨fun h => Prod.ext h.1 h.2, fun h => by rw [h]; exact ⟨rfl, rfl⟩⟩
theorem eqP_run (p q : Int × Int) (v : Bool) (h : eqP p q = v) (W : World) : Sem.run Try.prog (Op.equalIn 10000 34 (.agg #[.int .i64 p.1, .int .i64 p.2]) (.agg #[.int .i64 q.1, .int .i64 q.2])) W = .ok v W := by
  rw [eq_pair, ← h]
  rfl
theorem mod_int {x : Int} {n m : Nat} (k : Nat) (hx : x = (k : Int)) (hm : m = k % n) : x.tmod (n : Int) = (m : Int) ∧ x % (n : Int) = (m : Int) := by
  have h1 : x % (n : Int) = (m : Int) := by rw [hx, hm]; exact (Int.natCast_emod _ _).symm
  exact ⟨by rw [Int.tmod_eq_emod_of_nonneg (by omega)]; exact h1, h1⟩
set_option maxHeartbeats 4000000 in
set_option maxRecDepth 100000 in
theorem around_yes (a b : PtL) (A B : Option Addr) (n c d : Nat) (w : World) (ha : PairsI w A a) (hb : PairsI w B b) (hla : a.length = n) (hlb : b.length = n) (h60 : n ≤ 60) (s0 : Nat) (hs0 : s0 < n) (hat : AroundAt a b s0) :
    Calls Try.prog 44 #[.slice A n c, .slice B n d] w fun e w' => e = .returned (.bool true) ∧ Below w.heap.size w w' := by
  have HA := Off.mk ha
  have HB := Off.mk hb
  have HL := Off.mk (And.intro hla hlb)
  have HAT := Off.mk hat
  clear ha hb hla hlb hat
  go_enter Try.func44, Try.ntmps44
  go_wp2
  go_loopw [6] (fun sv wr => ∃ s : Nat, s ≤ s0 ∧ sv = .int .i64 s ∧ Off (Below w.heap.size w wr)) (fun sv _ => s0 + 1 - (intOf sv).toNat)
  case atStart => exact ⟨0, by omega, rfl, ⟨Below.refl _ _⟩⟩
  case round =>
    obtain ⟨s, hs, rfl, HW⟩ := hrel
    have hsn : (s : Int) < (n : Int) := by omega
    have hsw : IntKind.i64.wrap ((s : Int) + 1) = (s : Int) + 1 := by rw [IntKind.wrap_i64]; omega
    go_wp2
    go_loopw [7, 8, 9] (fun ov bv iv wi => ∃ (o k : Bool) (i : Nat), i ≤ n ∧ ov = .bool o ∧ bv = .bool k ∧ iv = .int .i64 i ∧ Off (o = true ↔ ∀ j, j < i → a.getD j (0, 0) = b.getD ((s + j) % n) (0, 0)) ∧ Off (k = true ↔ ∀ j, j < i → a.getD j (0, 0) = b.getD ((s + n - j) % n) (0, 0)) ∧ Off (Below w.heap.size w wi)) (fun _ _ iv _ => n - (intOf iv).toNat)
    case atStart => exact ⟨true, true, 0, by omega, rfl, rfl, rfl, ⟨⟨fun _ j h => by omega, fun _ => rfl⟩⟩, ⟨⟨fun _ j h => by omega, fun _ => rfl⟩⟩, HW⟩
    case round =>
      clear HW
      obtain ⟨o, k, i, hin, rfl, rfl, rfl, HO, HK, HW⟩ := hrel
      by_cases hlt : i < n
      · have hii : (i : Int) < (n : Int) := by omega
        have hiw : IntKind.i64.wrap ((i : Int) + 1) = (i : Int) + 1 := by rw [IntKind.wrap_i64]; omega
        obtain ⟨m1, hm1⟩ : ∃ m, m = (s + i) % n := ⟨_, rfl⟩
        obtain ⟨m2, hm2⟩ : ∃ m, m = (s + n - i) % n := ⟨_, rfl⟩
        have hml1 : m1 < n := by rw [hm1]; exact Nat.mod_lt _ (by omega)
        have hml2 : m2 < n := by rw [hm2]; exact Nat.mod_lt _ (by omega)
        obtain ⟨t1, t2⟩ := mod_int (x := (s : Int) + (i : Int)) (s + i) (by omega) hm1
        obtain ⟨t3, t4⟩ := mod_int (x := (s : Int) + (n : Int) - (i : Int)) (s + n - i) (by omega) hm2
        have w1 : IntKind.i64.wrap ((s : Int) + (i : Int)) = (s : Int) + (i : Int) := by rw [IntKind.wrap_i64]; omega
        have w2 : IntKind.i64.wrap ((s : Int) + (n : Int)) = (s : Int) + (n : Int) := by rw [IntKind.wrap_i64]; omega
        have w3 : IntKind.i64.wrap ((s : Int) + (n : Int) - (i : Int)) = (s : Int) + (n : Int) - (i : Int) := by rw [IntKind.wrap_i64]; omega
        have hn0 : ¬ n = 0 := by omega
        have hmi1 : (m1 : Int) < (n : Int) := by omega
        have hmi2 : (m2 : Int) < (n : Int) := by omega
        obtain ⟨ad, rfl, x0, x1⟩ := (HA.out.below HW.out).cell i (by have := HL.out.1; omega)
        have hbr := HB.out.below HW.out
        obtain ⟨bd, rfl, y0, y1⟩ := hbr.cell m1 (by have := HL.out.2; omega)
        obtain ⟨bd', e, z0, z1⟩ := hbr.cell m2 (by have := HL.out.2; omega)
        cases e
        obtain ⟨p, hp⟩ : ∃ p, p = a.getD i (0, 0) := ⟨_, rfl⟩
        obtain ⟨q, hq⟩ : ∃ q, q = b.getD m1 (0, 0) := ⟨_, rfl⟩
        obtain ⟨r, hr⟩ : ∃ r, r = b.getD m2 (0, 0) := ⟨_, rfl⟩
        rw [← hp] at x0 x1
        rw [← hq] at y0 y1
        rw [← hr] at z0 z1
        obtain ⟨v1, hv1⟩ : ∃ v, eqP p q = v := ⟨_, rfl⟩
        obtain ⟨v2, hv2⟩ : ∃ v, eqP p r = v := ⟨_, rfl⟩
        have E1 := eqP_run p q v1 hv1
        have E2 := eqP_run p r v2 hv2
        have HO2 : Off ((o && v1) = true ↔ ∀ j, j < i + 1 → a.getD j (0, 0) = b.getD ((s + j) % n) (0, 0)) := ⟨by
          rw [Bool.and_eq_true, HO.out, ← hv1, eqP_same]
          constructor
          · intro h j hj
            by_cases e : j = i
            · rw [e, ← hp, ← hm1, ← hq]; exact h.2
            · exact h.1 j (by omega)
          · intro h
            refine ⟨fun j hj => h j (by omega), ?_⟩
            have := h i (by omega)
            rwa [← hp, ← hm1, ← hq] at this⟩
        have HK2 : Off ((k && v2) = true ↔ ∀ j, j < i + 1 → a.getD j (0, 0) = b.getD ((s + n - j) % n) (0, 0)) := ⟨by
          rw [Bool.and_eq_true, HK.out, ← hv2, eqP_same]
          constructor
          · intro h j hj
            by_cases e : j = i
            · rw [e, ← hp, ← hm2, ← hr]; exact h.2
            · exact h.1 j (by omega)
          · intro h
            refine ⟨fun j hj => h j (by omega), ?_⟩
            have := h i (by omega)
            rwa [← hp, ← hm2, ← hr] at this⟩
        clear hp hq hr hv1 hv2 hm1 hm2 hbr HO HK
        cases o with
        | false =>
          go_wp2
          go_quiet (fail)
          go_wp2
          cases k with
          | false =>
            go_quiet (fail)
            go_wp2
            go_roundw
            case rel => exact ⟨false, false, i + 1, by omega, rfl, rfl, by go_num, HO2, HK2, ⟨below_drewN' HW.out _⟩⟩
            case measure => simp only [intOf]; omega
          | true =>
            go_quiet (fail)
            go_wp2
            go_roundw
            case rel => exact ⟨false, v2, i + 1, by omega, rfl, rfl, by go_num, HO2, ⟨by have := HK2.out; rwa [Bool.true_and] at this⟩, ⟨below_drewN' HW.out _⟩⟩
            case measure => simp only [intOf]; omega
        | true =>
          go_wp2
          go_quiet (fail)
          go_wp2
          cases k with
          | false =>
            go_quiet (fail)
            go_wp2
            go_roundw
            case rel => exact ⟨v1, false, i + 1, by omega, rfl, rfl, by go_num, ⟨by have := HO2.out; rwa [Bool.true_and] at this⟩, HK2, ⟨below_drewN' HW.out _⟩⟩
            case measure => simp only [intOf]; omega
          | true =>
            go_quiet (fail)
            go_wp2
            go_roundw
            case rel => exact ⟨v1, v2, i + 1, by omega, rfl, rfl, by go_num, ⟨by have := HO2.out; rwa [Bool.true_and] at this⟩, ⟨by have := HK2.out; rwa [Bool.true_and] at this⟩, ⟨below_drewN' HW.out _⟩⟩
            case measure => simp only [intOf]; omega
      · obtain rfl : i = n := by omega
        cases o with
        | true =>
          go_wp2
          go_ret
          exact ⟨rfl, HW.out⟩
        | false =>
          cases k with
          | true =>
            go_wp2
            go_ret
            exact ⟨rfl, HW.out⟩
          | false =>
            have hss : s + 1 ≤ s0 := by
              apply Nat.lt_of_le_of_ne hs
              intro e
              have h1 := HAT.out
              unfold AroundAt at h1
              rw [HL.out.2, ← e] at h1
              rcases h1 with g | g
              · have := HO.out.2 g
                cases this
              · have := HK.out.2 g
                cases this
            go_wp2
            go_roundw
            case rel => exact ⟨s + 1, hss, by go_num, HW⟩
            case measure => simp only [intOf]; omega
end
section
open Go.RowKit Go.Shelf

theorem add_zero2 (ad : Addr) : ad.add (0 * 2) = ad := by
  rw [Nat.zero_mul]
  unfold Addr.add
  split <;> simp_all
theorem getD_in {xs : PtL} {i : Nat} (h : i < xs.length) : xs.getD i (0, 0) ∈ xs := by rw [List.getD_eq_getElem?_getD, List.getElem?_eq_getElem h]; exact List.getElem_mem h
set_option maxHeartbeats 8000000 in
set_option maxRecDepth 100000 in
theorem hull_walk (xs : PtL) (A : Option Addr) (c : Nat) (w : World) (hx : xs.length ≤ 140737488351232 → PairsI w A xs) :
    Calls Try.prog 15 #[.slice A xs.length c] w fun e w' => e = .returned (.bool true) ∧ Below w.heap.size w w' := by
  by_cases hf : xs.length ≤ 60
  · have hx := hx (by omega)
    have CF := Off.mk (few_any xs A c true (decide_eq_true hf) w)
    have CH := Off.mk (Hull_any xs A c w hx)
    have HX := Off.mk hx
    clear hx
    go_enter Try.func15, Try.ntmps15
    go_wp2_with fail
    refine CF.out.mono ?_
    rintro e w0 ⟨rfl, hw0⟩
    subst w0
    go_wp2_with fail
    refine CH.out.mono ?_
    rintro e w1 ⟨⟨r, hr, u, rfl, hO⟩, hb1⟩
    obtain ⟨ps, er⟩ := r
    simp only at hO
    have HB1 := Off.mk hb1
    clear hb1 CH CF
    rcases hull_facts hr with ⟨hne, rfl⟩ | ⟨rfl, cyc, ⟨h3, h10⟩, hin⟩
    · obtain ⟨A1, k1, rfl, _, _⟩ := ownQ_pairs hO (by simp)
      have hb : (er != 0) = true := by simpa using hne
      clear hO hr hne
      go_wp2_with fail
      refine (alive_any _).mono ?_
      rintro e w2 ⟨rfl, hb2⟩
      go_wp2
      go_ret
      exact ⟨rfl, belowC HB1.out hb2⟩
    · obtain ⟨A1, k1, rfl, hI, _⟩ := ownQ_pairs hO (by omega)
      have hv := cyc_read cyc h3 h10 hin
      obtain ⟨hst, hcv⟩ := cyc_hit cyc h3 hv
      have HI := Off.mk hI
      have CV := Off.mk (fun W (hb : Below w1.heap.size w1 W) => Convex_any ps A1 k1 W (HI.out.below hb))
      rw [if_pos hv, hcv] at CV
      have CT := Off.mk (fun W (hb : Below w1.heap.size w1 W) => straight_any ps A1 k1 W (by omega) (near_all hv).1 (HI.out.below hb))
      rw [hst] at CT
      have CI := Off.mk (fun W (hb : Below w1.heap.size w1 W) => isPenR_read ps A1 k1 W true hv (HI.out.below hb))
      obtain ⟨ad, rfl, x0, x1⟩ := hI.cell 0 (by omega)
      obtain ⟨ad', e, y0, y1⟩ := hI.cell 1 (by omega)
      cases e
      obtain ⟨ad', e, z0, z1⟩ := hI.cell 2 (by omega)
      cases e
      rw [add_zero2] at x0 x1
      have e2 : ad.add (1 * 2) = ⟨ad.block, ad.off + 2, none⟩ := by simp [Addr.add]
      have e4 : ad.add (2 * 2) = ⟨ad.block, ad.off + 4, none⟩ := by simp [Addr.add]
      rw [e2] at y0 y1
      rw [e4] at z0 z1
      have y1 : w1.cell? ⟨ad.block, ad.off + 3, none⟩ = some (.int .i64 (ps.getD 1 (0, 0)).2) := y1
      have z1 : w1.cell? ⟨ad.block, ad.off + 5, none⟩ = some (.int .i64 (ps.getD 2 (0, 0)).2) := z1
      clear e2 e4
      have hcr := cyc_cross cyc h3
      obtain ⟨o, ho⟩ : ∃ o, o = ps.getD 0 (0, 0) := ⟨_, rfl⟩
      obtain ⟨p, hp⟩ : ∃ p, p = ps.getD 1 (0, 0) := ⟨_, rfl⟩
      obtain ⟨q, hq⟩ : ∃ q, q = ps.getD 2 (0, 0) := ⟨_, rfl⟩
      have ho5 : inB 50 o := by rw [ho]; exact hin _ (cyc_in cyc 0 (by omega))
      have hp5 : inB 50 p := by rw [hp]; exact hin _ (cyc_in cyc 1 (by omega))
      have hq5 : inB 50 q := by rw [hq]; exact hin _ (cyc_in cyc 2 (by omega))
      rw [← ho, ← hp, ← hq] at hcr
      rw [← ho] at x0 x1
      rw [← hp] at y0 y1
      rw [← hq] at z0 z1
      obtain ⟨cv, hcve⟩ : ∃ cv, cv = crossR o p q := ⟨_, rfl⟩
      have CC : Off (∀ W, Calls Try.prog 43 #[ptV o, ptV p, ptV q] W fun e w' => e = .returned (.int .i64 cv) ∧ Below W.heap.size W w') := ⟨fun W => by rw [hcve]; exact crossR_any o p q (inB_mono ho5 (by decide)) (inB_mono hp5 (by decide)) (inB_mono hq5 (by decide)) W⟩
      have hcd : decide (cv < 0) = false := decide_eq_false (by rw [hcve]; omega)
      have HCY := Off.mk (And.intro cyc (And.intro hin hv))
      have HO0 := Off.mk ho
      have h3' : (2 : Int) < (ps.length : Int) := by omega
      have h2' : (1 : Int) < (ps.length : Int) := by omega
      have h1' : (0 : Int) < (ps.length : Int) := by omega
      have n0 : 0 < ps.length := by omega
      have n1 : 1 < ps.length := by omega
      have n2 : 2 < ps.length := by omega
      have H310 := Off.mk (And.intro h3 h10)
      clear ho hp hq ho5 hp5 hq5 hcr hcve hO hr cyc hin hv hst hcv hI
      go_wp2_with fail
      refine (CV.out _ (Below.refl _ _)).mono ?_
      rintro e w2 ⟨rfl, hb2⟩
      have HB2 := Off.mk hb2
      have x0 := cellB hb2 x0
      have x1 := cellB hb2 x1
      have y0 := cellB hb2 y0
      have y1 := cellB hb2 y1
      have z0 := cellB hb2 z0
      have z1 := cellB hb2 z1
      clear hb2
      go_wp2
      have keepS : ∀ {u v : World}, Below u.heap.size u v → (fun u => ((u.cell? ad = some (.int .i64 o.1) ∧ u.cell? ⟨ad.block, ad.off + 1, none⟩ = some (.int .i64 o.2)) ∧ (u.cell? ⟨ad.block, ad.off + 2, none⟩ = some (.int .i64 p.1) ∧ u.cell? ⟨ad.block, ad.off + 3, none⟩ = some (.int .i64 p.2)) ∧ u.cell? ⟨ad.block, ad.off + 4, none⟩ = some (.int .i64 q.1) ∧ u.cell? ⟨ad.block, ad.off + 5, none⟩ = some (.int .i64 q.2)) ∧ Below w2.heap.size w2 u) u → (fun u => ((u.cell? ad = some (.int .i64 o.1) ∧ u.cell? ⟨ad.block, ad.off + 1, none⟩ = some (.int .i64 o.2)) ∧ (u.cell? ⟨ad.block, ad.off + 2, none⟩ = some (.int .i64 p.1) ∧ u.cell? ⟨ad.block, ad.off + 3, none⟩ = some (.int .i64 p.2)) ∧ u.cell? ⟨ad.block, ad.off + 4, none⟩ = some (.int .i64 q.1) ∧ u.cell? ⟨ad.block, ad.off + 5, none⟩ = some (.int .i64 q.2)) ∧ Below w2.heap.size w2 u) v := fun hb ⟨⟨⟨x0, x1⟩, ⟨y0, y1⟩, z0, z1⟩, hB⟩ => ⟨⟨⟨cellB hb x0, cellB hb x1⟩, ⟨cellB hb y0, cellB hb y1⟩, cellB hb z0, cellB hb z1⟩, belowC hB hb⟩
      refine wp_region_held_drew (S := (fun u => ((u.cell? ad = some (.int .i64 o.1) ∧ u.cell? ⟨ad.block, ad.off + 1, none⟩ = some (.int .i64 o.2)) ∧ (u.cell? ⟨ad.block, ad.off + 2, none⟩ = some (.int .i64 p.1) ∧ u.cell? ⟨ad.block, ad.off + 3, none⟩ = some (.int .i64 p.2)) ∧ u.cell? ⟨ad.block, ad.off + 4, none⟩ = some (.int .i64 q.1) ∧ u.cell? ⟨ad.block, ad.off + 5, none⟩ = some (.int .i64 q.2)) ∧ Below w2.heap.size w2 u)) (by kernel_rfl) ⟨⟨⟨x0, x1⟩, ⟨y0, y1⟩, z0, z1⟩, below_drew (Below.refl _ _)⟩ (fun hHeld => ?_)
      refine wpAnyH_take (i := 0) (oi := ⟨some 35, _, _, _, _, _⟩) (v := ?_) rfl (by kernel_rfl) (by kernel_rfl) (by kernel_rfl) (fun _ _ _ h => h) (Or.inl ⟨by rfl, by intro w hSw; (try dsimp only at hSw); go_simp; try with_reducible rfl⟩) hHeld ?_
      try simp only [Act.put, List.setIfInBounds_toArray, List.set_cons_zero, List.set_cons_succ]
      refine wpAnyH_take (i := 1) (oi := ⟨some 36, _, _, _, _, _⟩) (v := ?_) rfl (by kernel_rfl) (by kernel_rfl) (by kernel_rfl) (fun _ _ _ h => h) (Or.inl ⟨by rfl, by intro w hSw; (try dsimp only at hSw); go_simp; try with_reducible rfl⟩) hHeld ?_
      try simp only [Act.put, List.setIfInBounds_toArray, List.set_cons_zero, List.set_cons_succ]
      refine wpAnyH_take (i := 2) (oi := ⟨some 37, _, _, _, _, _⟩) (v := ?_) rfl (by kernel_rfl) (by kernel_rfl) (by kernel_rfl) (fun _ _ _ h => h) (Or.inl ⟨by rfl, by intro w hSw; (try dsimp only at hSw); go_simp; try with_reducible rfl⟩) hHeld ?_
      try simp only [Act.put, List.setIfInBounds_toArray, List.set_cons_zero, List.set_cons_succ]
      refine wpAnyH_take (i := 3) (oi := ⟨some 38, _, _, _, _, _⟩) (v := ?_) rfl (by kernel_rfl) (by kernel_rfl) (by kernel_rfl) (fun _ _ _ h => h) (Or.inl ⟨by rfl, by intro w hSw; (try dsimp only at hSw); go_simp; try with_reducible rfl⟩) hHeld ?_
      try simp only [Act.put, List.setIfInBounds_toArray, List.set_cons_zero, List.set_cons_succ]
      refine wpAnyH_take (i := 4) (oi := ⟨some 39, _, _, _, _, _⟩) (v := ?_) rfl (by kernel_rfl) (by kernel_rfl) (by kernel_rfl) (fun _ _ _ h => h) (Or.inl ⟨by rfl, by intro w hSw; (try dsimp only at hSw); go_simp; try with_reducible rfl⟩) hHeld ?_
      try simp only [Act.put, List.setIfInBounds_toArray, List.set_cons_zero, List.set_cons_succ]
      refine wpAnyH_take (i := 5) (oi := ⟨some 40, _, _, _, _, _⟩) (v := ?_) rfl (by kernel_rfl) (by kernel_rfl) (by kernel_rfl) (fun _ _ _ h => h) (Or.inl ⟨by rfl, by intro w hSw; (try dsimp only at hSw); go_simp; try with_reducible rfl⟩) hHeld ?_
      try simp only [Act.put, List.setIfInBounds_toArray, List.set_cons_zero, List.set_cons_succ]
      refine wpAnyH_take (i := 6) (oi := ⟨some 41, _, _, _, _, _⟩) (v := ?_) rfl (by kernel_rfl) (by kernel_rfl) (by kernel_rfl) (fun _ _ _ h => h) (Or.inl ⟨by rfl, by intro w hSw; (try dsimp only at hSw); go_simp; try with_reducible rfl⟩) hHeld ?_
      try simp only [Act.put, List.setIfInBounds_toArray, List.set_cons_zero, List.set_cons_succ]
      refine wpAnyH_take (i := 7) (oi := ⟨some 42, _, _, _, _, _⟩) (v := ?_) rfl (by kernel_rfl) (by kernel_rfl) (by kernel_rfl) (fun _ _ _ h => h) (Or.inl ⟨by rfl, by intro w hSw; (try dsimp only at hSw); go_simp; try with_reducible rfl⟩) hHeld ?_
      try simp only [Act.put, List.setIfInBounds_toArray, List.set_cons_zero, List.set_cons_succ]
      refine wpAnyH_ready (rs := [8]) (by kernel_rfl) (by simp) ?_
      refine AllReadyH.cons (o := ⟨some 43, _, _, _, _, _⟩) rfl (fun K hK => ?_) AllReadyH.nil
      go_simp
      refine (CT.out _ (belowC HB2.out hHeld.2)).mono ?_
      rintro e w3 ⟨rfl, hb3⟩
      go_wp2_with fail
      refine hK.out _ _ (keepS hb3 hHeld) (fun hHeld => ?_)
      clear hK K
      try simp only [Act.put, List.setIfInBounds_toArray, List.set_cons_zero, List.set_cons_succ]
      refine wpAnyH_take (i := 9) (oi := ⟨some 44, _, _, _, _, _⟩) (v := ?_) rfl (by kernel_rfl) (by kernel_rfl) (by kernel_rfl) (fun _ _ _ h => h) (Or.inl ⟨by rfl, by intro w hSw; (try dsimp only at hSw); go_simp; try with_reducible rfl⟩) hHeld ?_
      try simp only [Act.put, List.setIfInBounds_toArray, List.set_cons_zero, List.set_cons_succ]
      refine wpAnyH_take (i := 10) (oi := ⟨some 45, _, _, _, _, _⟩) (v := ?_) rfl (by kernel_rfl) (by kernel_rfl) (by kernel_rfl) (fun _ _ _ h => h) (Or.inl ⟨by rfl, by intro w hSw; (try dsimp only at hSw); go_simp; try with_reducible rfl⟩) hHeld ?_
      try simp only [Act.put, List.setIfInBounds_toArray, List.set_cons_zero, List.set_cons_succ]
      refine wpAnyH_take (i := 11) (oi := ⟨some 46, _, _, _, _, _⟩) (v := ?_) rfl (by kernel_rfl) (by kernel_rfl) (by kernel_rfl) (fun _ _ _ h => h) (Or.inl ⟨by rfl, by intro w hSw; (try dsimp only at hSw); go_simp; try with_reducible rfl⟩) hHeld ?_
      try simp only [Act.put, List.setIfInBounds_toArray, List.set_cons_zero, List.set_cons_succ]
      refine wpAnyH_ready (rs := [12]) (by kernel_rfl) (by simp) ?_
      refine AllReadyH.cons (o := ⟨some 47, _, _, _, _, _⟩) rfl (fun K hK => ?_) AllReadyH.nil
      go_simp
      refine (CI.out _ (belowC HB2.out hHeld.2)).mono ?_
      rintro e w4 ⟨rfl, hb4⟩
      go_wp2_with fail
      refine hK.out _ _ (keepS hb4 hHeld) (fun hHeld => ?_)
      clear hK K
      try simp only [Act.put, List.setIfInBounds_toArray, List.set_cons_zero, List.set_cons_succ]
      refine wpAnyH_take (i := 13) (oi := ⟨some 48, _, _, _, _, _⟩) (v := ?_) rfl (by kernel_rfl) (by kernel_rfl) (by kernel_rfl) (fun _ _ _ h => h) (Or.inl ⟨by rfl, by intro w hSw; (try dsimp only at hSw); go_simp; try with_reducible rfl⟩) hHeld ?_
      try simp only [Act.put, List.setIfInBounds_toArray, List.set_cons_zero, List.set_cons_succ]
      refine wpAnyH_take (i := 14) (oi := ⟨some 49, _, _, _, _, _⟩) (v := ?_) rfl (by kernel_rfl) (by kernel_rfl) (by kernel_rfl) (fun _ _ _ h => h) (Or.inl ⟨by rfl, by intro w hSw; (try dsimp only at hSw); go_simp; try with_reducible rfl⟩) hHeld ?_
      try simp only [Act.put, List.setIfInBounds_toArray, List.set_cons_zero, List.set_cons_succ]
      refine wpAnyH_take (i := 15) (oi := ⟨some 50, _, _, _, _, _⟩) (v := ?_) rfl (by kernel_rfl) (by kernel_rfl) (by kernel_rfl) (fun _ _ _ h => h) (Or.inl ⟨by rfl, by intro w hSw; (try dsimp only at hSw); go_simp; try with_reducible rfl⟩) hHeld ?_
      try simp only [Act.put, List.setIfInBounds_toArray, List.set_cons_zero, List.set_cons_succ]
      refine wpAnyH_take (i := 16) (oi := ⟨some 51, _, _, _, _, _⟩) (v := ?_) rfl (by kernel_rfl) (by kernel_rfl) (by kernel_rfl) (fun _ _ _ h => h) (Or.inl ⟨by rfl, by intro w hSw; (try dsimp only at hSw); go_simp; try with_reducible rfl⟩) hHeld ?_
      try simp only [Act.put, List.setIfInBounds_toArray, List.set_cons_zero, List.set_cons_succ]
      refine wpAnyH_take (i := 17) (oi := ⟨some 52, _, _, _, _, _⟩) (v := ?_) rfl (by kernel_rfl) (by kernel_rfl) (by kernel_rfl) (fun _ _ _ h => h) (Or.inl ⟨by rfl, by intro w hSw; (try dsimp only at hSw); go_simp; try with_reducible rfl⟩) hHeld ?_
      try simp only [Act.put, List.setIfInBounds_toArray, List.set_cons_zero, List.set_cons_succ]
      refine wpAnyH_take (i := 18) (oi := ⟨some 53, _, _, _, _, _⟩) (v := ?_) rfl (by kernel_rfl) (by kernel_rfl) (by kernel_rfl) (fun _ _ _ h => h) (Or.inl ⟨by rfl, by intro w hSw; (try dsimp only at hSw); go_simp; try with_reducible rfl⟩) hHeld ?_
      try simp only [Act.put, List.setIfInBounds_toArray, List.set_cons_zero, List.set_cons_succ]
      refine wpAnyH_take (i := 19) (oi := ⟨some 54, _, _, _, _, _⟩) (v := ?_) rfl (by kernel_rfl) (by kernel_rfl) (by kernel_rfl) (fun _ _ _ h => h) (Or.inl ⟨by rfl, by intro w hSw; (try dsimp only at hSw); go_simp; try with_reducible rfl⟩) hHeld ?_
      try simp only [Act.put, List.setIfInBounds_toArray, List.set_cons_zero, List.set_cons_succ]
      refine wpAnyH_take (i := 20) (oi := ⟨some 55, _, _, _, _, _⟩) (v := ?_) rfl (by kernel_rfl) (by kernel_rfl) (by kernel_rfl) (fun _ _ _ h => h) (Or.inl ⟨by rfl, by intro w hSw; (try dsimp only at hSw); go_simp; try with_reducible rfl⟩) hHeld ?_
      try simp only [Act.put, List.setIfInBounds_toArray, List.set_cons_zero, List.set_cons_succ]
      refine wpAnyH_take (i := 21) (oi := ⟨some 56, _, _, _, _, _⟩) (v := ?_) rfl (by kernel_rfl) (by kernel_rfl) (by kernel_rfl) (fun _ _ _ h => h) (Or.inl ⟨by rfl, by intro w hSw; (try dsimp only at hSw); go_simp; try with_reducible rfl⟩) hHeld ?_
      try simp only [Act.put, List.setIfInBounds_toArray, List.set_cons_zero, List.set_cons_succ]
      refine wpAnyH_take (i := 22) (oi := ⟨some 57, _, _, _, _, _⟩) (v := ?_) rfl (by kernel_rfl) (by kernel_rfl) (by kernel_rfl) (fun _ _ _ h => h) (Or.inl ⟨by rfl, by intro w hSw; (try dsimp only at hSw); go_simp; try with_reducible rfl⟩) hHeld ?_
      try simp only [Act.put, List.setIfInBounds_toArray, List.set_cons_zero, List.set_cons_succ]
      refine wpAnyH_take (i := 23) (oi := ⟨some 58, _, _, _, _, _⟩) (v := ?_) rfl (by kernel_rfl) (by kernel_rfl) (by kernel_rfl) (fun _ _ _ h => h) (Or.inl ⟨by rfl, by intro w hSw; (try dsimp only at hSw); go_simp; try with_reducible rfl⟩) hHeld ?_
      try simp only [Act.put, List.setIfInBounds_toArray, List.set_cons_zero, List.set_cons_succ]
      refine wpAnyH_take (i := 24) (oi := ⟨some 59, _, _, _, _, _⟩) (v := ?_) rfl (by kernel_rfl) (by kernel_rfl) (by kernel_rfl) (fun _ _ _ h => h) (Or.inl ⟨by rfl, by intro w hSw; (try dsimp only at hSw); go_simp; try with_reducible rfl⟩) hHeld ?_
      try simp only [Act.put, List.setIfInBounds_toArray, List.set_cons_zero, List.set_cons_succ]
      refine wpAnyH_ready (rs := [25]) (by kernel_rfl) (by simp) ?_
      refine AllReadyH.cons (o := ⟨some 60, _, _, _, _, _⟩) rfl (fun K hK => ?_) AllReadyH.nil
      go_simp
      refine (CC.out _).mono ?_
      rintro e w5 ⟨rfl, hb5⟩
      go_wp2_with fail
      refine hK.out _ _ (keepS hb5 hHeld) (fun hHeld => ?_)
      clear hK K
      try simp only [Act.put, List.setIfInBounds_toArray, List.set_cons_zero, List.set_cons_succ]
      refine wpAnyH_take (i := 26) (oi := ⟨some 61, _, _, _, _, _⟩) (v := ?_) rfl (by kernel_rfl) (by kernel_rfl) (by kernel_rfl) (fun _ _ _ h => h) (Or.inl ⟨by rfl, by intro w hSw; (try dsimp only at hSw); go_simp; try with_reducible rfl⟩) hHeld ?_
      try simp only [Act.put, List.setIfInBounds_toArray, List.set_cons_zero, List.set_cons_succ]
      refine wpAnyH_take (i := 27) (oi := ⟨some 62, _, _, _, _, _⟩) (v := ?_) rfl (by kernel_rfl) (by kernel_rfl) (by kernel_rfl) (fun _ _ _ h => h) (Or.inl ⟨by rfl, by intro w hSw; (try dsimp only at hSw); go_simp; try with_reducible rfl⟩) hHeld ?_
      try simp only [Act.put, List.setIfInBounds_toArray, List.set_cons_zero, List.set_cons_succ]
      refine wpAnyH_done (by kernel_rfl) ?_ _
      have HB5 := Off.mk (belowC HB2.out hHeld.2)
      clear hHeld keepS
      clear x0 x1 y0 y1 z0 z1 CC CT CI CV hcd
      go_wp2
      go_loopw [7] (fun iv wr => ∃ i : Nat, i ≤ ps.length ∧ iv = .int .i64 i ∧ Off (Below w1.heap.size w1 wr)) (fun iv _ => ps.length - (intOf iv).toNat)
      case atStart => exact ⟨0, by omega, rfl, HB5⟩
      case round =>
        clear HB5
        obtain ⟨i, hil, rfl, HB⟩ := hrel
        by_cases hlt : i < ps.length
        · have hii : (i : Int) < (ps.length : Int) := by omega
          have hiw : IntKind.i64.wrap ((i : Int) + 1) = (i : Int) + 1 := by rw [IntKind.wrap_i64]; omega
          obtain ⟨q, hq⟩ : ∃ q, q = ps.getD i (0, 0) := ⟨_, rfl⟩
          have HQ := Off.mk hq
          clear hq
          go_wp2
          go_loopw [8, 9] (fun bv kv wi => ∃ (b : Bool) (k : Nat), k ≤ xs.length ∧ bv = .bool b ∧ kv = .int .i64 k ∧ Off (b = true ↔ ∃ j, j < k ∧ xs.getD j (0, 0) = q) ∧ Off (Below w1.heap.size w1 wi)) (fun _ kv _ => xs.length - (intOf kv).toNat)
          case atStart => exact ⟨false, 0, by omega, rfl, rfl, ⟨⟨fun h => (by cases h), fun ⟨j, h, _⟩ => (by omega)⟩⟩, HB⟩
          case round =>
            clear HB
            obtain ⟨b, k, hkl, rfl, rfl, HBK, HB⟩ := hrel
            by_cases hklt : k < xs.length
            · have hki : (k : Int) < (xs.length : Int) := by omega
              have hkw : IntKind.i64.wrap ((k : Int) + 1) = (k : Int) + 1 := by rw [IntKind.wrap_i64]; omega
              obtain ⟨ax, rfl, x0, x1⟩ := (HX.out.below (belowC HB1.out HB.out)).cell k hklt
              obtain ⟨ad', e, y0, y1⟩ := (HI.out.below HB.out).cell i hlt
              cases e
              obtain ⟨p, hp⟩ : ∃ p, p = xs.getD k (0, 0) := ⟨_, rfl⟩
              rw [← hp] at x0 x1
              rw [← HQ.out] at y0 y1
              obtain ⟨v, hv⟩ : ∃ v, eqP p q = v := ⟨_, rfl⟩
              have E1 := eqP_run p q v hv
              have HV : Off ((b || v) = true ↔ ∃ j, j < k + 1 ∧ xs.getD j (0, 0) = q) := ⟨by
                rw [Bool.or_eq_true, HBK.out, ← hv, eqP_same]
                constructor
                · rintro (⟨j, hj, e⟩ | e)
                  · exact ⟨j, by omega, e⟩
                  · exact ⟨k, by omega, by rw [← hp]; exact e⟩
                · rintro ⟨j, hj, e⟩
                  by_cases ej : j = k
                  · right; rw [hp, ← ej]; exact e
                  · exact .inl ⟨j, by omega, e⟩⟩
              clear hp hv HBK
              cases b with
              | true =>
                go_wp2
                go_quiet (fail)
                go_wp2
                go_roundw
                case rel => exact ⟨true, k + 1, by omega, rfl, by go_num, HV, ⟨below_drewN' HB.out _⟩⟩
                case measure => simp only [intOf]; omega
              | false =>
                go_wp2
                go_quiet (fail)
                go_wp2
                go_roundw
                case rel => exact ⟨v, k + 1, by omega, rfl, by go_num, ⟨by have := HV.out; rwa [Bool.false_or] at this⟩, ⟨below_drewN' HB.out _⟩⟩
                case measure => simp only [intOf]; omega
            · obtain rfl : k = xs.length := by omega
              have hbt : b = true := HBK.out.2 (by
                have hm := cyc_in HCY.out.1 i hlt
                rw [← HQ.out] at hm
                obtain ⟨j, hj, e⟩ := List.getElem_of_mem hm
                exact ⟨j, hj, by rw [List.getD_eq_getElem?_getD, List.getElem?_eq_getElem hj]; exact e⟩)
              subst hbt
              have hir := HI.out.below HB.out
              obtain ⟨ad', e, x0, x1⟩ := hir.cell 0 (by have := H310.out; omega)
              cases e
              obtain ⟨ad', e, y0, y1⟩ := hir.cell i hlt
              cases e
              rw [add_zero2, ← HO0.out] at x0 x1
              rw [← HQ.out] at y0 y1
              by_cases hi0 : i = 0
              · have hd : decide (0 < (i : Int)) = false := decide_eq_false (by omega)
                have hdn : decide (0 < i) = false := decide_eq_false (by omega)
                clear hir hi0 HBK
                go_wp2
                go_quiet (fail)
                go_wp2
                go_roundw
                case rel => exact ⟨i + 1, by omega, by go_num, ⟨below_drewN' HB.out _⟩⟩
                case measure => simp only [intOf]; omega
              · have hd : decide (0 < (i : Int)) = true := decide_eq_true (by omega)
                have hdn : decide (0 < i) = true := decide_eq_true (by omega)
                have hlt1 : Hu.Lt 1 o q := by
                  have := HCY.out.1.once i (by omega) hlt
                  rw [← HO0.out, ← HQ.out] at this
                  exact this
                have hlt2 : o.1 < q.1 ∨ (o.1 = q.1 ∧ o.2 < q.2) := by
                  unfold Hu.Lt Hu.Up Hu.sm Hu.sb at hlt1
                  simp only at hlt1
                  omega
                have hd1 : decide (q.1 < o.1) = false := decide_eq_false (by omega)
                by_cases he : q.1 = o.1
                · have hd2 : (q.1 == o.1) = true := by rw [he]; simp
                  have hd3 : decide (q.2 < o.2) = false := decide_eq_false (by omega)
                  clear hir hi0 HBK hlt1 hlt2 he
                  go_wp2
                  go_quiet (fail)
                  go_wp2
                  go_roundw
                  case rel => exact ⟨i + 1, by omega, by go_num, ⟨below_drewN' HB.out _⟩⟩
                  case measure => simp only [intOf]; omega
                · have hd2 : (q.1 == o.1) = false := beq_eq_false_iff_ne.2 he
                  clear hir hi0 HBK hlt1 hlt2 he
                  go_wp2
                  go_quiet (fail)
                  go_wp2
                  go_roundw
                  case rel => exact ⟨i + 1, by omega, by go_num, ⟨below_drewN' HB.out _⟩⟩
                  case measure => simp only [intOf]; omega
        · obtain rfl : i = ps.length := by omega
          go_wp2
          go_loopw [10] (fun iv wr => ∃ i : Nat, i ≤ xs.length ∧ iv = .int .i64 i ∧ Off (Below w1.heap.size w1 wr)) (fun iv _ => xs.length - (intOf iv).toNat)
          case atStart => exact ⟨0, by omega, rfl, HB⟩
          case round =>
            clear HB
            obtain ⟨i, hil, rfl, HB⟩ := hrel
            by_cases hlt : i < xs.length
            · have hii : (i : Int) < (xs.length : Int) := by omega
              have hiw : IntKind.i64.wrap ((i : Int) + 1) = (i : Int) + 1 := by rw [IntKind.wrap_i64]; omega
              obtain ⟨ax, rfl, x0, x1⟩ := (HX.out.below (belowC HB1.out HB.out)).cell i hlt
              obtain ⟨p, hp⟩ : ∃ p, p = xs.getD i (0, 0) := ⟨_, rfl⟩
              rw [← hp] at x0 x1
              have hpx : p ∈ xs := by rw [hp]; exact getD_in hlt
              have hw := cyc_where HCY.out.1 H310.out.1 HCY.out.2.2 p hpx
              obtain ⟨wv, hwv⟩ : ∃ wv, wv = whereP ps p := ⟨_, rfl⟩
              have CW := Off.mk (fun W (hb : Below w1.heap.size w1 W) => Where_any ps (some ad) k1 p W (HI.out.below hb))
              rw [if_pos HCY.out.2.2, if_pos (inB_mono (HCY.out.2.1 p hpx) (by decide)), ← hwv] at CW
              rw [← hwv] at hw
              have hwd : decide (wv < 0) = false := decide_eq_false (by omega)
              clear hp hpx hwv hw
              go_wp2_with fail
              refine (CW.out _ HB.out).mono ?_
              rintro e w6 ⟨rfl, hb6⟩
              have HB6 := Off.mk (belowC HB.out hb6)
              clear hb6
              go_wp2
              go_roundw
              case rel => exact ⟨i + 1, by omega, by go_num, HB6⟩
              case measure => simp only [intOf]; omega
            · obtain rfl : i = xs.length := by omega
              obtain ⟨v, hv⟩ : ∃ v, readP xs = v := ⟨_, rfl⟩
              have CI := Off.mk (isPenR_read xs A c _ v hv (HX.out.below (belowC HB1.out HB.out)))
              go_wp2_with fail
              refine CI.out.mono ?_
              rintro e w6 ⟨rfl, hb6⟩
              have HB6 := Off.mk (belowC HB.out hb6)
              clear hb6 CI
              cases v with
              | false =>
                go_wp2_with fail
                refine (alive_any _).mono ?_
                rintro e w7 ⟨rfl, hb7⟩
                go_wp2
                go_ret
                exact ⟨rfl, belowC (belowC HB1.out HB6.out) hb7⟩
              | true =>
                have HV := Off.mk hv
                obtain ⟨st, hst⟩ : ∃ st, hitTo xs 0 xs.length = st := ⟨_, rfl⟩
                have CT := Off.mk (straight_any xs A c w6 (by omega) (near_all hv).1 (HX.out.below (belowC HB1.out HB6.out)))
                rw [hst] at CT
                have HST := Off.mk hst
                clear hv hst
                go_wp2_with fail
                refine CT.out.mono ?_
                rintro e w7 ⟨rfl, hb7⟩
                have HB7 := Off.mk (belowC HB6.out hb7)
                clear hb7 CT
                cases st with
                | true =>
                  go_wp2_with fail
                  refine (alive_any _).mono ?_
                  rintro e w8 ⟨rfl, hb8⟩
                  go_wp2
                  go_ret
                  exact ⟨rfl, belowC (belowC HB1.out HB7.out) hb8⟩
                | false =>
                  obtain ⟨cx, hcx⟩ : ∃ cx, convexP xs false = cx := ⟨_, rfl⟩
                  have CV := Off.mk (Convex_any xs A c w7 (HX.out.below (belowC HB1.out HB7.out)))
                  rw [if_pos HV.out, hcx] at CV
                  have HCX := Off.mk hcx
                  clear hcx
                  go_wp2_with fail
                  refine CV.out.mono ?_
                  rintro e w8 ⟨rfl, hb8⟩
                  have HB8 := Off.mk (belowC HB7.out hb8)
                  clear hb8 CV
                  cases cx with
                  | false =>
                    go_wp2_with fail
                    refine (alive_any _).mono ?_
                    rintro e w9 ⟨rfl, hb9⟩
                    go_wp2
                    go_ret
                    exact ⟨rfl, belowC (belowC HB1.out HB8.out) hb9⟩
                  | true =>
                    have CA : Off (Calls Try.prog 44 #[.slice (some ad) ps.length k1, .slice A xs.length c] w8 fun e w' => e = .returned (.bool true) ∧ Below w8.heap.size w8 w') := ⟨by
                      obtain ⟨e, s, hs, hat⟩ := cyc_around HCY.out.1 H310.out.1 HV.out HST.out HCX.out
                      rw [e]
                      exact around_yes ps xs (some ad) A xs.length k1 c w8 (HI.out.below HB8.out) (HX.out.below (belowC HB1.out HB8.out)) e rfl (by omega) s hs hat⟩
                    go_wp2_with fail
                    refine CA.out.mono ?_
                    rintro e w9 ⟨rfl, hb9⟩
                    have HB9 := Off.mk (belowC HB8.out hb9)
                    clear hb9 CA
                    go_wp2_with fail
                    refine (alive_any _).mono ?_
                    rintro e w10 ⟨rfl, hb10⟩
                    go_wp2
                    go_ret
                    exact ⟨rfl, belowC (belowC HB1.out HB9.out) hb10⟩
  · have CF := Off.mk (few_any xs A c false (decide_eq_false hf) w)
    clear hx hf
    go_enter Try.func15, Try.ntmps15
    go_wp2_with fail
    refine CF.out.mono ?_
    rintro e w0 ⟨rfl, rfl⟩
    go_wp2_with fail
    refine (alive_any _).mono ?_
    rintro e w3 ⟨rfl, hb3⟩
    go_wp2
    go_ret
    exact ⟨rfl, hb3⟩
end
end Go.Proofs.Ytbpmiphipjkdlaa
