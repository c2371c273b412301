/- Plain: pens sheared, or turned around and begun elsewhere, are alike. -/
import Derived.Test.YtbpmiphipjkdlaaBt
import Derived.Test.YtbpmiphipjkdlaaBs
import Derived.Test.YtbpmiphipjkdlaaBo
namespace Go.Proofs.Ytbpmiphipjkdlaa
open Go.RowKit Go.Shelf

theorem nsum_first (F : Nat → Int) : ∀ n, Pk.nsum F (n + 1) = F 0 + Pk.nsum (fun i => F (i + 1)) n
  | 0 => by simp [Pk.nsum]
  | n + 1 => by rw [Pk.nsum, nsum_first F n, Pk.nsum, Int.add_assoc]
theorem nsum_back (F : Nat → Int) : ∀ n, Pk.nsum (fun i => F (n - 1 - i)) n = Pk.nsum F n
  | 0 => rfl
  | n + 1 => by
    rw [nsum_first, Pk.nsum, Nat.add_sub_cancel, Nat.sub_zero, Int.add_comm, ← nsum_back F n]
    congr 1
    exact Pk.nsum_congr n fun j hj => by congr 1; omega
theorem nsum_neg (F : Nat → Int) : ∀ n, Pk.nsum (fun i => - F i) n = - Pk.nsum F n
  | 0 => rfl
  | n + 1 => by rw [Pk.nsum, nsum_neg F n, Pk.nsum]; omega
theorem nsum_rot {F : Nat → Int} {n : Nat} (hp : ∀ i, F (i + n) = F i) : ∀ s, Pk.nsum (fun i => F (s + i)) n = Pk.nsum F n
  | 0 => Pk.nsum_congr n fun j _ => by rw [Nat.zero_add]
  | s + 1 => by
    have h1 := nsum_rot hp s
    have h2 := nsum_first (fun i => F (s + i)) n
    rw [Pk.nsum, h1, Nat.add_zero, hp s] at h2
    have h3 : Pk.nsum (fun i => F (s + 1 + i)) n = Pk.nsum (fun i => F (s + (i + 1))) n := Pk.nsum_congr n fun j _ => by rw [Nat.add_assoc, Nat.add_comm 1 j]
    omega
theorem area_nsum (v : Nat → Int × Int) : ∀ n, Pk.areaTo v n = Pk.nsum (fun i => Pk.crs (v i) (v (i + 1))) n
  | 0 => rfl
  | n + 1 => by rw [Pk.areaTo, area_nsum v n, Pk.nsum]
theorem nsum_around {F G : Nat → Int} {n f : Nat} (hp : ∀ i, F (i + n) = F i) (hg : ∀ i j, (i + 1 + j) % n = f % n → G i = F j) : Pk.nsum G n = Pk.nsum F n := by
  rw [← nsum_back G n, ← nsum_rot hp f]
  refine Pk.nsum_congr n fun i hi => hg _ _ ?_
  rw [show n - 1 - i + 1 + (f + i) = f + n by omega, Nat.add_mod_right]
/-- The one turns where the other does. -/
structure Rev (n : Nat) (f : Nat) (v u : Nat → Int × Int) : Prop where
  eq : ∀ i j, (i + j) % n = f % n → u i = v j
theorem Rev.ex {n f : Nat} (hn : 0 < n) (i : Nat) : ∃ j, (i + j) % n = f % n := ⟨f + i * (n - 1), by
  have : i + (f + i * (n - 1)) = f + i * n := by
    obtain ⟨m, rfl⟩ : ∃ m, n = m + 1 := ⟨n - 1, by omega⟩
    rw [Nat.add_sub_cancel, Nat.mul_add]
    omega
  rw [this, Nat.add_mul_mod_self_right]⟩
theorem dv_rev {n f : Nat} {v u : Nat → Int × Int} (h : Rev n f v u) {i j : Nat} (hij : (i + 1 + j) % n = f % n) : Pk.dv u i = Pk.vneg (Pk.dv v j) := by
  unfold Pk.dv
  rw [h.eq (i + 1) j hij, h.eq i (j + 1) (by rw [← hij]; congr 1; omega), Pk.vneg_sub]
theorem pen_rev {n f : Nat} {v u : Nat → Int × Int} (hp : Pk.Pen n v) (h : Rev n f v u) : Pk.Pen n u := by
  have hn : 0 < n := by have := hp.n3; omega
  refine ⟨hp.n3, fun i => ?_, fun i => ?_, fun i => ?_, fun i k h1 h2 => ?_⟩
  · obtain ⟨j, hj⟩ := Rev.ex (f := f) hn i
    rw [h.eq i j hj, h.eq (i + n) j (by rw [← hj, show i + n + j = i + j + n by omega, Nat.add_mod_right])]
  · obtain ⟨j, hj⟩ := Rev.ex (f := f) hn (i + 1)
    rw [h.eq (i + 1) j hj, h.eq i (j + 1) (by rw [← hj]; congr 1; omega)]
    exact (hp.ne j).symm
  · obtain ⟨j, hj⟩ := Rev.ex (f := f) hn (i + 2)
    rw [h.eq (i + 2) j hj, h.eq (i + 1) (j + 1) (by rw [← hj]; congr 1; omega), h.eq i (j + 2) (by rw [← hj]; congr 1; omega)]
    rintro ⟨q1, q2⟩
    apply hp.fold j
    have c1 : Pk.crs (Pk.vsub (v (j + 1)) (v j)) (Pk.vsub (v (j + 2)) (v (j + 1))) = - Pk.crs (Pk.vsub (v (j + 1)) (v (j + 2))) (Pk.vsub (v j) (v (j + 1))) := by unfold Pk.crs Pk.vsub; grind
    have c2 : Pk.dt (Pk.vsub (v (j + 1)) (v j)) (Pk.vsub (v (j + 2)) (v (j + 1))) = Pk.dt (Pk.vsub (v (j + 1)) (v (j + 2))) (Pk.vsub (v j) (v (j + 1))) := by unfold Pk.dt Pk.vsub; grind
    exact ⟨by omega, by omega⟩
  · obtain ⟨j, hj⟩ := Rev.ex (f := f) hn (k + 1)
    obtain ⟨t, rfl⟩ : ∃ t, k = i + t := ⟨k - i, by omega⟩
    rw [h.eq (i + t + 1) j hj, h.eq (i + t) (j + 1) (by rw [← hj]; congr 1; omega), h.eq (i + 1) (j + t) (by rw [← hj]; congr 1; omega), h.eq i (j + t + 1) (by rw [← hj]; congr 1; omega)]
    exact sep_turn (sep_flip (hp.sep j (j + t) (by omega) (by omega)).swap)
theorem crs_neg2 (x y : Int × Int) : Pk.crs (Pk.vneg x) (Pk.vneg y) = Pk.crs x y := by unfold Pk.crs Pk.vneg; grind
theorem area_rev {n f : Nat} {v u : Nat → Int × Int} (hp : Pk.Pen n v) (h : Rev n f v u) : Pk.areaTo u n = - Pk.areaTo v n := by
  have hn : 0 < n := by have := hp.n3; omega
  rw [area_nsum, area_nsum, ← nsum_neg]
  refine nsum_around (f := f) (fun i => by rw [hp.per, show i + n + 1 = i + 1 + n by omega, hp.per]) fun i j hij => ?_
  rw [h.eq (i + 1) j hij, h.eq i (j + 1) (by rw [← hij]; congr 1; omega)]
  unfold Pk.crs
  grind
theorem border_rev {n f : Nat} {v u : Nat → Int × Int} (hp : Pk.Pen n v) (h : Rev n f v u) : Pk.borderN u n = Pk.borderN v n := by
  have hn : 0 < n := by have := hp.n3; omega
  unfold Pk.borderN
  refine nsum_around (f := f) (fun i => by rw [hp.per, show i + n + 1 = i + 1 + n by omega, hp.per]) fun i j hij => ?_
  rw [h.eq (i + 1) j hij, h.eq i (j + 1) (by rw [← hij]; congr 1; omega)]
  rw [← Int.gcd_neg, ← Int.neg_gcd, Int.neg_sub, Int.neg_sub]
/-- A pen turns so somewhere. -/
def Hit (v : Nat → Int × Int) (s : Int) : Prop := ∃ i, (Pk.crs (Pk.dv v i) (Pk.dv v (i + 1))).sign = s
theorem hit_rev {n f : Nat} {v u : Nat → Int × Int} (hn : 0 < n) (h : Rev n f v u) (s : Int) (hh : Hit u s) : Hit v (-s) := by
  obtain ⟨i, hi⟩ := hh
  obtain ⟨j, hj⟩ := Rev.ex (f := f) hn (i + 2)
  rw [dv_rev h (i := i + 1) (j := j) hj, dv_rev h (i := i) (j := j + 1) (by rw [← hj]; congr 1; omega), crs_neg2] at hi
  refine ⟨j, ?_⟩
  rw [← hi, ← Int.sign_neg]
  congr 1
  unfold Pk.crs
  grind
theorem Rev.symm {n f : Nat} {v u : Nat → Int × Int} (h : Rev n f v u) : Rev n f u v := ⟨fun i j hij => (h.eq j i (by rw [Nat.add_comm]; exact hij)).symm⟩
theorem hit_iff {xs : PtL} (h : readP xs = true) (s : Int) : hitTo xs s xs.length = true ↔ Hit (postAt xs) s := by
  have hp := pen_of h
  have hn : 0 < xs.length := by have := hp.n3; omega
  rw [hitTo_iff]
  constructor
  · rintro ⟨i, hi, e⟩
    exact ⟨i, by rw [← turnAt_crs i hi]; exact e⟩
  · rintro ⟨i, e⟩
    refine ⟨i % xs.length, Nat.mod_lt _ hn, ?_⟩
    rw [turnAt_crs _ (Nat.mod_lt _ hn), ← e]
    unfold Pk.dv
    have m : ∀ k, postAt xs (i % xs.length + k) = postAt xs (i + k) := fun k => by unfold postAt; rw [Nat.mod_add_mod]
    have m0 := m 0
    rw [Nat.add_zero, Nat.add_zero] at m0
    rw [show i % xs.length + 1 + 1 = i % xs.length + 2 by omega, m, m, m0]
/-- Pens that measure the same. -/
structure Alike (xs ys : PtL) : Prop where
  read : readP ys = true
  area : (twiceP ys).natAbs = (twiceP xs).natAbs
  border : borderP ys = borderP xs
  ins : insG ys 1 = insG xs 1
  conv : convexP ys false = convexP xs false
theorem twice_area {xs : PtL} : twiceP xs = Pk.areaTo (postAt xs) xs.length := by
  rw [area_to xs _ (Nat.le_refl _), signedR_eq]
theorem border_N {xs : PtL} : borderP xs = Pk.borderN (postAt xs) xs.length := by
  rw [border_to xs _ (Nat.le_refl _), ← sumF_sumTo]
  rfl
theorem alike_of {xs ys : PtL} (hx : readP xs = true) (hy : readP ys = true) (ha : (twiceP ys).natAbs = (twiceP xs).natAbs) (hb : borderP ys = borderP xs)
    (hc : (Hit (postAt ys) 1 ∧ Hit (postAt ys) (-1)) ↔ (Hit (postAt xs) 1 ∧ Hit (postAt xs) (-1))) : Alike xs ys := by
  refine ⟨hy, ha, hb, ?_, ?_⟩
  · have h1 := pick_read hx
    have h2 := pick_read hy
    rw [ins_inside hx, ins_inside hy]
    omega
  · rw [convex_eq hx, convex_eq hy]
    unfold convexR
    rw [← Bool.not_and, ← Bool.not_and]
    congr 1
    rw [Bool.eq_iff_iff, Bool.and_eq_true, Bool.and_eq_true, hit_iff hx, hit_iff hx, hit_iff hy, hit_iff hy]
    exact hc
theorem rev_alike {xs ys : PtL} {f : Nat} (hx : readP xs = true) (hl : ys.length = xs.length) (hr : Rev xs.length f (postAt xs) (postAt ys)) : Alike xs ys := by
  have hp := pen_of hx
  have hn : 0 < xs.length := by have := hp.n3; omega
  obtain ⟨hin, h3, h10⟩ := near_all hx
  have hy : readP ys = true := by
    refine read_of_pen (by omega) (fun i hi => ?_) (by rw [hl]; exact pen_rev hp hr)
    have e : ys.getD i (0, 0) = postAt ys i := by unfold postAt; rw [Nat.mod_eq_of_lt hi]
    obtain ⟨j, hj⟩ := Rev.ex (f := f) hn i
    rw [e, hr.eq i j hj]
    exact hin _
  refine alike_of hx hy ?_ ?_ ?_
  · rw [twice_area, twice_area, hl, area_rev hp hr, Int.natAbs_neg]
  · rw [border_N, border_N, hl, border_rev hp hr]
  · constructor
    · rintro ⟨h1, h2⟩
      exact ⟨by have := hit_rev hn hr _ h2; simpa using this, hit_rev hn hr _ h1⟩
    · rintro ⟨h1, h2⟩
      exact ⟨by have := hit_rev hn hr.symm _ h2; simpa using this, hit_rev hn hr.symm _ h1⟩
/-- A pen turned around, begun with another post: the first k posts. -/
def turnTo (f : Nat) (xs : PtL) : Nat → PtL
  | 0 => []
  | k + 1 => turnTo f xs k ++ [((xs.getD ((f + xs.length - k) % xs.length) (0, 0)).1, (xs.getD ((f + xs.length - k) % xs.length) (0, 0)).2)]
theorem turnTo_len (f : Nat) (xs : PtL) : ∀ k, (turnTo f xs k).length = k
  | 0 => rfl
  | k + 1 => by rw [turnTo, List.length_append, turnTo_len f xs k]; rfl
theorem turnTo_at (f : Nat) (xs : PtL) (i : Nat) : ∀ k, i < k → (turnTo f xs k).getD i (0, 0) = xs.getD ((f + xs.length - i) % xs.length) (0, 0)
  | 0, h => by omega
  | k + 1, h => by
    rw [turnTo]
    by_cases e : i < k
    · rw [← turnTo_at f xs i k e, List.getD_eq_getElem?_getD, List.getD_eq_getElem?_getD, List.getElem?_append_left (by rw [turnTo_len]; exact e), List.getD_eq_getElem?_getD]
    · obtain rfl : i = k := by omega
      rw [List.getD_eq_getElem?_getD, List.getElem?_append_right (by rw [turnTo_len]; omega), turnTo_len, Nat.sub_self]
      rfl
theorem rev_idx {n f i j : Nat} (hn : 0 < n) (hij : (i + j) % n = f % n) : (f + n - i % n) % n = j % n := by
  have hr := Nat.mod_lt i hn
  have hq := Nat.mod_lt j hn
  rw [Nat.add_mod] at hij
  obtain ⟨r, er⟩ : ∃ r, r = i % n := ⟨_, rfl⟩
  obtain ⟨q, eq⟩ : ∃ q, q = j % n := ⟨_, rfl⟩
  rw [← er, ← eq] at hij
  rw [← er, ← eq]
  rw [← er] at hr
  rw [← eq] at hq
  have hf := Nat.div_add_mod f n
  have hg := Nat.mod_lt f hn
  obtain ⟨g, eg⟩ : ∃ g, g = f % n := ⟨_, rfl⟩
  rw [← eg] at hf hg hij
  have e1 : f + n - r = g + n - r + n * (f / n) := by omega
  rw [e1, Nat.add_mul_mod_self_left]
  by_cases hlt : r + q < n
  · rw [Nat.mod_eq_of_lt hlt] at hij
    rw [show g + n - r = q + n by omega, Nat.add_mod_right, Nat.mod_eq_of_lt hq]
  · rw [Nat.mod_eq_sub_mod (by omega), Nat.mod_eq_of_lt (by omega)] at hij
    rw [show g + n - r = q by omega, Nat.mod_eq_of_lt hq]
theorem turned_alike {xs : PtL} (f : Nat) (hx : readP xs = true) : Alike xs (turnTo f xs xs.length) := by
  have hn : 0 < xs.length := by have := (pen_of hx).n3; omega
  refine rev_alike (f := f) hx (turnTo_len f xs _) ⟨fun i j hij => ?_⟩
  unfold postAt
  rw [turnTo_len, turnTo_at f xs _ _ (Nat.mod_lt i hn)]
  congr 1
  exact rev_idx hn hij
/-- A pen sheared. -/
theorem dvd_times {k a : Int} (c : Int) (h : k ∣ a) : k ∣ c * a := Int.dvd_trans h (Int.dvd_mul_left c a)
theorem gcd_lin {b0 b1 b2 b3 : Int} (hd : b0 * b3 - b1 * b2 = 1 ∨ b0 * b3 - b1 * b2 = -1) (x y : Int) : Int.gcd (b0 * x + b1 * y) (b2 * x + b3 * y) = Int.gcd x y := by
  apply Nat.dvd_antisymm
  · have h1 := Int.gcd_dvd_left (b0 * x + b1 * y) (b2 * x + b3 * y)
    have h2 := Int.gcd_dvd_right (b0 * x + b1 * y) (b2 * x + b3 * y)
    have e1 : (b0 * b3 - b1 * b2) * x = b3 * (b0 * x + b1 * y) - b1 * (b2 * x + b3 * y) := by grind
    have e2 : (b0 * b3 - b1 * b2) * y = b0 * (b2 * x + b3 * y) - b2 * (b0 * x + b1 * y) := by grind
    have d1 := Int.dvd_sub (dvd_times b3 h1) (dvd_times b1 h2)
    have d2 := Int.dvd_sub (dvd_times b0 h2) (dvd_times b2 h1)
    rw [← e1] at d1
    rw [← e2] at d2
    apply Int.dvd_gcd
    · rcases hd with e | e
      · rwa [e, Int.one_mul] at d1
      · rw [e, Int.neg_mul, Int.one_mul] at d1; exact Int.dvd_neg.1 d1
    · rcases hd with e | e
      · rwa [e, Int.one_mul] at d2
      · rw [e, Int.neg_mul, Int.one_mul] at d2; exact Int.dvd_neg.1 d2
  · have h1 := Int.gcd_dvd_left x y
    have h2 := Int.gcd_dvd_right x y
    exact Int.dvd_gcd (Int.dvd_add (dvd_times b0 h1) (dvd_times b1 h2)) (Int.dvd_add (dvd_times b2 h1) (dvd_times b3 h2))
section
variable {b0 b1 b2 b3 : Int}
theorem shr_sub (p q : Int × Int) : Pk.vsub (shr b0 b1 b2 b3 p) (shr b0 b1 b2 b3 q) = shr b0 b1 b2 b3 (Pk.vsub p q) := by
  unfold Pk.vsub shr
  exact Prod.ext (by simp only; grind) (by simp only; grind)
theorem shr_crs (p q : Int × Int) : Pk.crs (shr b0 b1 b2 b3 p) (shr b0 b1 b2 b3 q) = (b0 * b3 - b1 * b2) * Pk.crs p q := by unfold Pk.crs shr; grind
theorem shr_dt {u w : Int × Int} (hc : Pk.crs u w = 0) (h : Pk.dt (shr b0 b1 b2 b3 u) (shr b0 b1 b2 b3 w) < 0) : Pk.dt u w < 0 := by
  have e : Pk.dt u u * Pk.dt (shr b0 b1 b2 b3 u) (shr b0 b1 b2 b3 w) = Pk.dt u w * Pk.dt (shr b0 b1 b2 b3 u) (shr b0 b1 b2 b3 u) + Pk.crs u w * Pk.dt (shr b0 b1 b2 b3 u) (shr b0 b1 b2 b3 (-u.2, u.1)) := by unfold Pk.dt Pk.crs shr; grind
  rw [hc, Int.zero_mul, Int.add_zero] at e
  apply Int.not_le.1
  intro h0
  have h1 : 0 ≤ Pk.dt (shr b0 b1 b2 b3 u) (shr b0 b1 b2 b3 u) := by unfold Pk.dt; have := sq_ge (shr b0 b1 b2 b3 u).1; have := sq_ge (shr b0 b1 b2 b3 u).2; omega
  have h2 := Int.mul_nonneg h0 h1
  by_cases hu : u = (0, 0)
  · subst hu
    have : Pk.dt (shr b0 b1 b2 b3 (0, 0)) (shr b0 b1 b2 b3 w) = 0 := by unfold Pk.dt shr; grind
    omega
  · have h3 := Int.mul_neg_of_pos_of_neg (Pk.sq_pos hu) h
    omega
theorem shr_inj (hd : b0 * b3 - b1 * b2 = 1 ∨ b0 * b3 - b1 * b2 = -1) {p q : Int × Int} (h : shr b0 b1 b2 b3 p = shr b0 b1 b2 b3 q) : p = q := by
  unfold shr at h
  simp only [Prod.mk.injEq] at h
  obtain ⟨h1, h2⟩ := h
  have e1 : (b0 * b3 - b1 * b2) * (p.1 - q.1) = b3 * ((b0 * p.1 + b1 * p.2) - (b0 * q.1 + b1 * q.2)) - b1 * ((b2 * p.1 + b3 * p.2) - (b2 * q.1 + b3 * q.2)) := by grind
  have e2 : (b0 * b3 - b1 * b2) * (p.2 - q.2) = b0 * ((b2 * p.1 + b3 * p.2) - (b2 * q.1 + b3 * q.2)) - b2 * ((b0 * p.1 + b1 * p.2) - (b0 * q.1 + b1 * q.2)) := by grind
  rw [h1, h2, Int.sub_self, Int.sub_self, Int.mul_zero, Int.mul_zero] at e1 e2
  rcases hd with e | e <;> rw [e] at e1 e2 <;> exact Prod.ext (by omega) (by omega)
theorem shr_sep (hd : b0 * b3 - b1 * b2 = 1 ∨ b0 * b3 - b1 * b2 = -1) {p q r s : Int × Int} (h : Pk.Sep p q r s) : Pk.Sep (shr b0 b1 b2 b3 p) (shr b0 b1 b2 b3 q) (shr b0 b1 b2 b3 r) (shr b0 b1 b2 b3 s) := by
  obtain ⟨n, ⟨h1, h2⟩, h3, h4⟩ := h
  obtain ⟨d, ed⟩ : ∃ d, d = b0 * b3 - b1 * b2 := ⟨_, rfl⟩
  have key : ∀ x y : Int × Int, Pk.dt (d * (b3 * n.1 - b2 * n.2), d * (b0 * n.2 - b1 * n.1)) (Pk.vsub (shr b0 b1 b2 b3 x) (shr b0 b1 b2 b3 y)) = Pk.dt n (Pk.vsub x y) := fun x y => by
    have e : Pk.dt (d * (b3 * n.1 - b2 * n.2), d * (b0 * n.2 - b1 * n.1)) (Pk.vsub (shr b0 b1 b2 b3 x) (shr b0 b1 b2 b3 y)) = d * d * Pk.dt n (Pk.vsub x y) := by
      rw [ed]; unfold Pk.dt Pk.vsub shr; simp only; grind
    rw [e]
    rw [← ed] at hd
    rcases hd with rfl | rfl <;> omega
  exact ⟨(d * (b3 * n.1 - b2 * n.2), d * (b0 * n.2 - b1 * n.1)), ⟨by rwa [key], by rwa [key]⟩, by rwa [key], by rwa [key]⟩
theorem pen_shr {n : Nat} {v u : Nat → Int × Int} (hd : b0 * b3 - b1 * b2 = 1 ∨ b0 * b3 - b1 * b2 = -1) (hp : Pk.Pen n v) (h : ∀ i, u i = shr b0 b1 b2 b3 (v i)) : Pk.Pen n u := by
  refine ⟨hp.n3, fun i => by rw [h, h, hp.per], fun i => ?_, fun i => ?_, fun i k h1 h2 => ?_⟩
  · rw [h, h]
    exact fun e => hp.ne i (shr_inj hd e)
  · rw [h, h, h, shr_sub, shr_sub, shr_crs]
    rintro ⟨q1, q2⟩
    have hc : Pk.crs (Pk.vsub (v (i + 1)) (v i)) (Pk.vsub (v (i + 2)) (v (i + 1))) = 0 := by rcases hd with e | e <;> rw [e] at q1 <;> omega
    exact hp.fold i ⟨hc, shr_dt hc q2⟩
  · rw [h, h, h, h]
    exact shr_sep hd (hp.sep i k h1 h2)
theorem area_shr {v u : Nat → Int × Int} (h : ∀ i, u i = shr b0 b1 b2 b3 (v i)) : ∀ n, Pk.areaTo u n = (b0 * b3 - b1 * b2) * Pk.areaTo v n
  | 0 => by simp [Pk.areaTo]
  | n + 1 => by rw [Pk.areaTo, Pk.areaTo, area_shr h n, h, h, shr_crs, Int.mul_add]
theorem border_shr {v u : Nat → Int × Int} (hd : b0 * b3 - b1 * b2 = 1 ∨ b0 * b3 - b1 * b2 = -1) (h : ∀ i, u i = shr b0 b1 b2 b3 (v i)) (n : Nat) : Pk.borderN u n = Pk.borderN v n := by
  unfold Pk.borderN
  refine Pk.nsum_congr n fun i _ => ?_
  have e := shr_sub (b0 := b0) (b1 := b1) (b2 := b2) (b3 := b3) (v (i + 1)) (v i)
  unfold Pk.vsub at e
  rw [h, h]
  have e1 := congrArg Prod.fst e
  have e2 := congrArg Prod.snd e
  simp only at e1 e2
  rw [e1, e2]
  unfold shr
  simp only
  rw [gcd_lin hd]
theorem hit_shr {v u : Nat → Int × Int} (h : ∀ i, u i = shr b0 b1 b2 b3 (v i)) (s : Int) : Hit u s ↔ ∃ i, ((b0 * b3 - b1 * b2) * Pk.crs (Pk.dv v i) (Pk.dv v (i + 1))).sign = s := by
  unfold Hit
  refine exists_congr fun i => ?_
  have e : ∀ i, Pk.dv u i = shr b0 b1 b2 b3 (Pk.dv v i) := fun i => by unfold Pk.dv; rw [h, h, shr_sub]
  rw [e, e, shr_crs]
theorem shear_alike {xs : PtL} (hx : readP xs = true) (hok : shrOk xs b0 b1 b2 b3 = true) : Alike xs (xs.map (shr b0 b1 b2 b3)) := by
  have hp := pen_of hx
  have hn : 0 < xs.length := by have := hp.n3; omega
  obtain ⟨hin, h3, h10⟩ := near_all hx
  unfold shrOk at hok
  simp only [Bool.and_eq_true, Bool.not_eq_true'] at hok
  obtain ⟨⟨_, hbad⟩, hfar⟩ := hok
  have hd : b0 * b3 - b1 * b2 = 1 ∨ b0 * b3 - b1 * b2 = -1 := by
    unfold shrBad at hbad
    rw [Bool.or_eq_false_iff, Bool.and_eq_false_iff, decide_eq_false_iff_not, decide_eq_false_iff_not] at hbad
    omega
  have hl : (xs.map (shr b0 b1 b2 b3)).length = xs.length := List.length_map _
  have hv : ∀ i, postAt (xs.map (shr b0 b1 b2 b3)) i = shr b0 b1 b2 b3 (postAt xs i) := fun i => by
    have := Nat.mod_lt i hn
    unfold postAt
    rw [hl, List.getD_eq_getElem?_getD, List.getD_eq_getElem?_getD, List.getElem?_map, List.getElem?_eq_getElem this]
    rfl
  have hy : readP (xs.map (shr b0 b1 b2 b3)) = true := by
    refine read_of_pen (by omega) (fun i hi => ?_) (by rw [hl]; exact pen_shr hd hp hv)
    rw [List.any_eq_false] at hfar
    have := hfar _ (List.getElem_mem hi)
    rw [List.getD_eq_getElem?_getD, List.getElem?_eq_getElem hi]
    exact (far_in _).1 (by simpa using this)
  refine alike_of hx hy ?_ ?_ ?_
  · rw [twice_area, twice_area, hl, area_shr hv]
    rcases hd with e | e <;> rw [e]
    · rw [Int.one_mul]
    · rw [Int.neg_mul, Int.one_mul, Int.natAbs_neg]
  · rw [border_N, border_N, hl, border_shr hd hv]
  · rw [hit_shr hv, hit_shr hv]
    unfold Hit
    rcases hd with e | e
    · simp only [e, Int.one_mul]
    · simp only [e, Int.neg_mul, Int.one_mul, Int.sign_neg]
      constructor
      · rintro ⟨⟨i, hi⟩, k, hk⟩
        exact ⟨⟨k, by omega⟩, i, by omega⟩
      · rintro ⟨⟨i, hi⟩, k, hk⟩
        exact ⟨⟨k, by omega⟩, i, by omega⟩
end
end Go.Proofs.Ytbpmiphipjkdlaa
