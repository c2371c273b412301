/- Plain: the numbers between corners of a brand: at least 1, the same both ways, and of four neighbouring ones. -/
import Derived.Test.YtddcdopimpfhcaaFh
namespace Go.Proofs.Ytddcdopimpfhcaa

def Small (S : List Int) (v : Int → Int × Int) : Prop := ∀ x y, x ∈ S → y ∈ S → x < y → detV (v x) (v y) ≤ 2 ^ S.length
theorem Mid.small {S : List Int} {L : List (Int × Int)} {c a b : Int} (m : Mid S L c a b) {v : Int → Int × Int} (h : Frame (S.erase c) (L.erase (a, b)) v) (hs : Small (S.erase c) v) : Small S (addV v c a b) := by
  have hac := m.ac
  have hcb := m.cb
  have mem : ∀ s, s ∈ S → s ≠ c → s ∈ S.erase c := fun s h1 h2 => m.mem.2 ⟨h1, h2⟩
  have ha' := mem a m.aS (by omega)
  have hb' := mem b m.bS (by omega)
  have hab := m.ab1 h
  have hl := m.len
  intro x y hx hy hxy
  rw [← hl, Int.pow_succ]
  have hp : (1 : Int) ≤ 2 ^ (S.erase c).length := Int.le_of_lt_add_one (by have := Int.pow_pos (n := 2) (m := (S.erase c).length) (by decide); omega)
  have e3 := m.all x hx
  have e4 := m.all y hy
  by_cases hxc : x = c
  · subst hxc
    have hy' := mem y hy (by omega)
    rw [addV_c, addV_ne v x a b (by omega : y ≠ x), detV_add_left]
    by_cases hyb : y = b
    · subst hyb
      rw [hab, detV_self]
      omega
    · have h1 := hs a y ha' hy' (by omega)
      have h2 := hs b y hb' hy' (by omega)
      omega
  · by_cases hyc : y = c
    · subst hyc
      have hx' := mem x hx (by omega)
      rw [addV_c, addV_ne v y a b hxc, detV_add_right]
      by_cases hxa : x = a
      · subst hxa
        rw [hab, detV_self]
        omega
      · have h1 := hs x a hx' ha' (by omega)
        have h2 := hs x b hx' hb' (by omega)
        omega
    · rw [addV_ne v c a b hxc, addV_ne v c a b hyc]
      have := hs x y (mem x hx hxc) (mem y hy hyc) hxy
      omega
theorem small_three {x y z : Int} (h1 : x < y) (h2 : y < z) {v : Int → Int × Int} (h : Frame [x, y, z] [] v) : Small [x, y, z] v := by
  intro p q hp hq hpq
  have hn : Nearby [x, y, z] [] p q := by
    simp only [List.mem_cons, List.not_mem_nil, or_false] at hp hq
    have : (p = x ∧ q = y) ∨ (p = y ∧ q = z) ∨ (p = x ∧ q = z) := by omega
    rcases this with ⟨rfl, rfl⟩ | ⟨rfl, rfl⟩ | ⟨rfl, rfl⟩
    · refine .inr (.inl ?_)
      intro s hs; simp only [List.mem_cons, List.not_mem_nil, or_false] at hs; omega
    · refine .inr (.inl ?_)
      intro s hs; simp only [List.mem_cons, List.not_mem_nil, or_false] at hs; omega
    · refine .inr (.inr ?_)
      intro s hs; simp only [List.mem_cons, List.not_mem_nil, or_false] at hs; omega
  rw [(h.one p q hp hq hpq).2 hn]
  exact (by decide : (1 : Int) ≤ 2 ^ 3)
/-- Vectors for a brand: near corners have determinant 1, choices are counted by determinants, and none is great. -/
theorem Full.vecs : ∀ (n : Nat) {S : List Int} {L : List (Int × Int)}, S.length = n → 3 ≤ S.length → Full S L → ∃ v, Frame S L v ∧ Bro S L v ∧ Small S v
  | 0, S, L, e, h3, h => by omega
  | n + 1, S, L, e, h3, h => by
    by_cases h4 : 4 ≤ S.length
    · obtain ⟨c, a, b, m⟩ := h.mid h4
      have := m.len
      obtain ⟨v, hv, hb, hs⟩ := Full.vecs n (by omega) (by omega) m.cut
      exact ⟨_, m.frame hv, m.bro hv (by omega) hb, m.small hv hs⟩
    · obtain ⟨x, y, z, rfl, h1, h2⟩ := three_of h.part.sorted (by omega)
      have hl := h.len
      obtain rfl : L = [] := by simpa using hl
      exact ⟨_, frame_three h1 h2, bro_three h1 h2 (frame_three h1 h2), small_three h1 h2 (frame_three h1 h2)⟩
/-- The identity of four vectors. -/
theorem detV_four (a b c d : Int × Int) : detV a c * detV b d = detV a b * detV c d + detV a d * detV b c := by
  unfold detV
  generalize a.1 = a1; generalize a.2 = a2; generalize b.1 = b1; generalize b.2 = b2
  generalize c.1 = c1; generalize c.2 = c2; generalize d.1 = d1; generalize d.2 = d2
  grind
/-- A brand of n corners with its list and its vectors. -/
structure Vecs (n : Nat) (l : List (Int × Int)) (q : List Int) (v : Int → Int × Int) : Prop where
  n3 : 3 ≤ n
  n12 : n ≤ 12
  len : q.length = n
  rd : Rd (natsI n) l q
  frame : Frame (natsI n) l v
  bro : Bro (natsI n) l v
  small : ∀ x y, x ∈ natsI n → y ∈ natsI n → x < y → detV (v x) (v y) ≤ 4096
theorem vecs_of {n : Nat} {l : List (Int × Int)} (h : BrandL n l) : ∃ v, Vecs n l (roundOf n l) v := by
  have hs := h.size
  obtain ⟨v, h1, h2, h3⟩ := (full_nats h).vecs _ rfl (by rw [natsI_len]; omega)
  refine ⟨v, by omega, by omega, by rw [roundOf, roundTo_len], rd_round h, h1, h2, fun x y hx hy hxy => Int.le_trans (h3 x y hx hy hxy) ?_⟩
  rw [natsI_len]
  have : (2 : Int) ^ n ≤ 2 ^ 12 := by
    have := Nat.pow_le_pow_right (n := 2) (by decide) (show n ≤ 12 by omega)
    exact_mod_cast this
  omega
variable {n : Nat} {l : List (Int × Int)} {q : List Int} {v : Int → Int × Int}
theorem Vecs.pos (h : Vecs n l q v) {x y : Nat} (hxy : x < y) (hy : y < n) : 1 ≤ detV (v x) (v y) ∧ detV (v x) (v y) ≤ 4096 :=
  ⟨h.frame.pos _ _ (mem_nats.2 (by omega)) (mem_nats.2 (by omega)) (by omega), h.small _ _ (mem_nats.2 (by omega)) (mem_nats.2 (by omega)) (by omega)⟩
theorem Vecs.step (h : Vecs n l q v) {k : Nat} (hk : k + 1 < 2 * n) : detV (wv v n k) (wv v n (k + 1)) = 1 := by
  have hn := h.n3
  have hone : ∀ j : Nat, j + 1 < n → detV (v j) (v ((j + 1 : Nat) : Int)) = 1 := fun j hj =>
    (h.frame.one _ _ (mem_nats.2 (by omega)) (mem_nats.2 (by omega)) (by omega)).2 (.inr (.inl fun s hs => by have := mem_nats.1 hs; omega))
  by_cases hk1 : k < n
  · have := (eN_frame h.n3 h.frame h.rd hk1 0 (by omega)).2
    rw [Nat.add_zero] at this
    rw [← this]
    rfl
  · unfold wv
    rw [if_neg hk1, if_neg (by omega), detV_neg_right, detV_anti, detV_neg_right, ← detV_anti, show k + 1 - n = k - n + 1 by omega]
    have := hone (k - n) (by omega)
    have e := detV_anti (v ((k - n : Nat) : Int)) (v ((k - n + 1 : Nat) : Int))
    omega
theorem Vecs.eN (h : Vecs n l q v) {i r : Nat} (hi : i < n) (hr : r ≤ n) : eN q i r = detV (wv v n i) (wv v n (i + r)) := eN_vec h.n3 h.frame h.rd hi hr
theorem Vecs.eN_in (h : Vecs n l q v) {i r : Nat} (hi : i + r < n) : Go.Proofs.Ytddcdopimpfhcaa.eN q i r = detV (v i) (v ((i + r : Nat) : Int)) := by
  rw [h.eN (by omega) (by omega)]
  unfold wv
  rw [if_pos (by omega), if_pos hi]
theorem Vecs.eN_out (h : Vecs n l q v) {i r : Nat} (hi : i < n) (hr : r ≤ n) (ho : n ≤ i + r) : Go.Proofs.Ytddcdopimpfhcaa.eN q i r = detV (v ((i + r - n : Nat) : Int)) (v i) := by
  rw [h.eN hi hr]
  unfold wv
  rw [if_pos hi, if_neg (by omega), detV_neg_right, detV_anti, Int.neg_neg]
theorem Vecs.lo (h : Vecs n l q v) {i r : Nat} (hi : i < n) (h1 : 1 ≤ r) (hr : r < n) : 1 ≤ Go.Proofs.Ytddcdopimpfhcaa.eN q i r := by
  by_cases e : i + r < n
  · rw [h.eN_in e]
    exact (h.pos (by omega) e).1
  · rw [h.eN_out hi (by omega) (by omega)]
    exact (h.pos (by omega) hi).1
theorem Vecs.hi (h : Vecs n l q v) {i r : Nat} (hi : i < n) (hr : r ≤ n) : 0 ≤ Go.Proofs.Ytddcdopimpfhcaa.eN q i r ∧ Go.Proofs.Ytddcdopimpfhcaa.eN q i r ≤ 4096 := by
  by_cases e : i + r < n
  · rw [h.eN_in e]
    by_cases e0 : r = 0
    · subst e0
      rw [Nat.add_zero, detV_self]
      omega
    · have := h.pos (x := i) (y := i + r) (by omega) e
      omega
  · rw [h.eN_out hi hr (by omega)]
    by_cases e0 : r = n
    · subst e0
      rw [Nat.add_sub_cancel, detV_self]
      omega
    · have := h.pos (x := i + r - n) (y := i) (by omega) hi
      omega
theorem Vecs.one (h : Vecs n l q v) {i : Nat} (hi : i < n) : Go.Proofs.Ytddcdopimpfhcaa.eN q i (n - 1) = 1 ∧ Go.Proofs.Ytddcdopimpfhcaa.eN q i n = 0 := by
  have := (closedB_iff q).1 (closed_frame h.n3 h.frame h.rd)
  rw [h.len] at this
  exact this i hi
theorem Vecs.sym (h : Vecs n l q v) {i r : Nat} (hi : i < n) (_ : 1 ≤ r) (hr : r < n) : Go.Proofs.Ytddcdopimpfhcaa.eN q i r = Go.Proofs.Ytddcdopimpfhcaa.eN q ((i + r) % n) (n - r) := by
  by_cases e : i + r < n
  · rw [Nat.mod_eq_of_lt e, h.eN_in e, h.eN_out e (by omega) (by omega), show i + r + (n - r) - n = i by omega]
  · rw [Nat.mod_eq_sub_mod (by omega), Nat.mod_eq_of_lt (by omega), h.eN_out hi (by omega) (by omega), h.eN_in (by omega), show i + r - n + (n - r) = i by omega]
theorem Vecs.next (h : Vecs n l q v) {i r : Nat} (hi : i < n) (hr : r < n) : Go.Proofs.Ytddcdopimpfhcaa.eN q ((i + 1) % n) r = detV (wv v n (i + 1)) (wv v n (i + 1 + r)) := by
  by_cases e : i + 1 < n
  · rw [Nat.mod_eq_of_lt e, h.eN e (by omega)]
  · obtain rfl : n = i + 1 := by omega
    rw [Nat.mod_self, h.eN (by omega) (by omega)]
    unfold wv
    rw [if_pos (by omega), if_pos (by omega), if_neg (by omega), if_neg (by omega), detV_neg_right, Nat.sub_self, Nat.zero_add, Nat.add_sub_cancel_left]
    rw [detV_anti (-(v ((0 : Nat) : Int)).1, -(v ((0 : Nat) : Int)).2), detV_neg_right, Int.neg_neg, detV_anti (v (r : Int)), Int.neg_neg]
theorem Vecs.uni (h : Vecs n l q v) {i r : Nat} (hi : i < n) (h1 : 1 ≤ r) (hr : r < n) :
    Go.Proofs.Ytddcdopimpfhcaa.eN q i r * Go.Proofs.Ytddcdopimpfhcaa.eN q ((i + 1) % n) r - Go.Proofs.Ytddcdopimpfhcaa.eN q ((i + 1) % n) (r - 1) * Go.Proofs.Ytddcdopimpfhcaa.eN q i (r + 1) = 1 := by
  have hn := h.n3
  rw [h.next hi hr, h.next hi (by omega), h.eN hi (by omega), h.eN hi (by omega)]
  have hp := detV_four (wv v n i) (wv v n (i + 1)) (wv v n (i + r)) (wv v n (i + r + 1))
  have e1 := h.step (k := i) (by omega)
  have e2 := h.step (k := i + r) (by omega)
  rw [e1, e2] at hp
  rw [show i + 1 + r = i + r + 1 by omega, show i + 1 + (r - 1) = i + r by omega, show i + (r + 1) = i + r + 1 by omega, hp, Int.mul_comm (detV (wv v n (i + 1)) _)]
  omega
/-- Ptolemy. -/
theorem Vecs.four (h : Vecs n l q v) {i j k m : Nat} (hij : i < j) (hjk : j < k) (hkm : k < m) (hm : m < n) :
    Go.Proofs.Ytddcdopimpfhcaa.eN q i (k - i) * Go.Proofs.Ytddcdopimpfhcaa.eN q j (m - j) = Go.Proofs.Ytddcdopimpfhcaa.eN q i (j - i) * Go.Proofs.Ytddcdopimpfhcaa.eN q k (m - k) + Go.Proofs.Ytddcdopimpfhcaa.eN q i (m - i) * Go.Proofs.Ytddcdopimpfhcaa.eN q j (k - j) := by
  have e : ∀ a b : Nat, a < b → b < n → Go.Proofs.Ytddcdopimpfhcaa.eN q a (b - a) = detV (v a) (v b) := fun a b h1 h2 => by
    rw [h.eN_in (by omega), show a + (b - a) = b by omega]
  rw [e i k (by omega) (by omega), e j m (by omega) (by omega), e i j (by omega) (by omega), e k m (by omega) (by omega), e i m (by omega) (by omega), e j k (by omega) (by omega)]
  exact detV_four _ _ _ _
/-- Two corners are near exactly if their number is 1. -/
theorem Vecs.near (h : Vecs n l q v) {i k : Nat} (hik : i < k) (hk : k < n) : Go.Proofs.Ytddcdopimpfhcaa.eN q i (k - i) = 1 ↔ jn n l i k = true := by
  rw [h.eN_in (by omega), show i + (k - i) = k by omega, near_nats hik hk]
  exact h.frame.one _ _ (mem_nats.2 (by omega)) (mem_nats.2 (by omega)) (by omega)
end Go.Proofs.Ytddcdopimpfhcaa
