/- Plain: the triangles of a brand; how many a corner has; in how many ways they can be chosen. -/
import Derived.Test.YtddcdopimpfhcaaFa
namespace Go.Proofs.Ytddcdopimpfhcaa

abbrev Tr := Int × Int × Int
def hasT (c : Int) (t : Tr) : Bool := decide (t.1 = c ∨ t.2.1 = c ∨ t.2.2 = c)
structure IsTri (S : List Int) (L : List (Int × Int)) (t : Tr) : Prop where
  m1 : t.1 ∈ S
  m2 : t.2.1 ∈ S
  m3 : t.2.2 ∈ S
  l1 : t.1 < t.2.1
  l2 : t.2.1 < t.2.2
  n1 : Nearby S L t.1 t.2.1
  n2 : Nearby S L t.2.1 t.2.2
  n3 : Nearby S L t.1 t.2.2
structure Tris (S : List Int) (L : List (Int × Int)) (T : List Tr) : Prop where
  nodup : T.Nodup
  mem : ∀ t, t ∈ T ↔ IsTri S L t
theorem Mid.tri {S : List Int} {L : List (Int × Int)} {c a b : Int} (m : Mid S L c a b) : IsTri S L (a, c, b) :=
  ⟨m.aS, m.cS, m.bS, m.ac, m.cb, (m.near_ac m.aS m.ac).2 rfl, (m.near_cb m.bS m.cb).2 rfl, .inl m.line⟩
theorem Mid.tri_c {S : List Int} {L : List (Int × Int)} {c a b : Int} (m : Mid S L c a b) {t : Tr} (h : IsTri S L t) (hc : hasT c t = true) : t = (a, c, b) := by
  obtain ⟨x, y, z⟩ := t
  have l1 := h.l1
  have l2 := h.l2
  have n1 := h.n1
  have n2 := h.n2
  have n3 := h.n3
  have m1 := h.m1
  have m2 := h.m2
  have m3 := h.m3
  simp only at l1 l2 n1 n2 n3 m1 m2 m3
  simp only [hasT, decide_eq_true_eq] at hc
  rcases hc with rfl | rfl | rfl
  · have e1 := (m.near_cb m2 l1).1 n1
    have e2 := (m.near_cb m3 (by omega)).1 n3
    omega
  · have e1 := (m.near_ac m1 l1).1 n1
    have e2 := (m.near_cb m3 l2).1 n2
    rw [e1, e2]
  · have e1 := (m.near_ac m2 l2).1 n2
    have e2 := (m.near_ac m1 (by omega)).1 n3
    omega
theorem Mid.tri_cut {S : List Int} {L : List (Int × Int)} {c a b : Int} (m : Mid S L c a b) (t : Tr) : IsTri (S.erase c) (L.erase (a, b)) t ↔ IsTri S L t ∧ hasT c t = false := by
  obtain ⟨x, y, z⟩ := t
  constructor
  · intro h
    have m1 := m.mem.1 h.m1
    have m2 := m.mem.1 h.m2
    have m3 := m.mem.1 h.m3
    have l1 := h.l1
    have l2 := h.l2
    have n1 := h.n1
    have n2 := h.n2
    have n3 := h.n3
    simp only at m1 m2 m3 l1 l2 n1 n2 n3
    refine ⟨⟨m1.1, m2.1, m3.1, l1, l2, (m.near m1.1 m2.1 m1.2 m2.2 l1).2 n1, (m.near m2.1 m3.1 m2.2 m3.2 l2).2 n2, (m.near m1.1 m3.1 m1.2 m3.2 (by omega)).2 n3⟩, ?_⟩
    simp only [hasT, decide_eq_false_iff_not]
    omega
  · rintro ⟨h, hc⟩
    have m1 := h.m1
    have m2 := h.m2
    have m3 := h.m3
    have l1 := h.l1
    have l2 := h.l2
    have n1 := h.n1
    have n2 := h.n2
    have n3 := h.n3
    simp only at m1 m2 m3 l1 l2 n1 n2 n3
    simp only [hasT, decide_eq_false_iff_not] at hc
    have c1 : x ≠ c := fun e => hc (.inl e)
    have c2 : y ≠ c := fun e => hc (.inr (.inl e))
    have c3 : z ≠ c := fun e => hc (.inr (.inr e))
    exact ⟨m.mem.2 ⟨m1, c1⟩, m.mem.2 ⟨m2, c2⟩, m.mem.2 ⟨m3, c3⟩, l1, l2, (m.near m1 m2 c1 c2 l1).1 n1, (m.near m2 m3 c2 c3 l2).1 n2, (m.near m1 m3 c1 c3 (by omega)).1 n3⟩
theorem Mid.tris {S : List Int} {L : List (Int × Int)} {c a b : Int} (m : Mid S L c a b) {T : List Tr} (h : Tris S L T) : (a, c, b) ∈ T ∧ Tris (S.erase c) (L.erase (a, b)) (T.erase (a, c, b)) := by
  refine ⟨(h.mem _).2 m.tri, h.nodup.erase _, fun t => ?_⟩
  rw [h.nodup.mem_erase_iff, h.mem, m.tri_cut]
  constructor
  · rintro ⟨h1, h2⟩
    refine ⟨h2, ?_⟩
    cases e : hasT c t
    · rfl
    · exact (h1 (m.tri_c h2 e)).elim
  · rintro ⟨h1, h2⟩
    refine ⟨?_, h1⟩
    rintro rfl
    simp [hasT] at h2
theorem tris_three {x y z : Int} (h1 : x < y) (h2 : y < z) {T : List Tr} (h : Tris [x, y, z] [] T) : T.Perm [(x, y, z)] := by
  rw [List.perm_ext_iff_of_nodup h.nodup (by simp)]
  intro t
  rw [h.mem, List.mem_singleton]
  obtain ⟨p, q, r⟩ := t
  constructor
  · intro k
    have m1 := k.m1
    have m2 := k.m2
    have m3 := k.m3
    have l1 := k.l1
    have l2 := k.l2
    simp only [List.mem_cons, List.not_mem_nil, or_false] at m1 m2 m3 l1 l2
    obtain ⟨rfl, rfl, rfl⟩ : p = x ∧ q = y ∧ r = z := by omega
    rfl
  · intro e
    cases e
    refine ⟨by simp, by simp, by simp, h1, h2, .inr (.inl ?_), .inr (.inl ?_), .inr (.inr ?_)⟩ <;> intro s hs <;> simp only [List.mem_cons, List.not_mem_nil, or_false] at hs <;> simp only <;> omega
theorem hasT_ear (a b c x : Int) : hasT x (a, c, b) = decide (a = x ∨ c = x ∨ b = x) := rfl
/-- Each corner has one triangle more than lines. -/
theorem count_tris : ∀ (n : Nat) {S : List Int} {L : List (Int × Int)} {T : List Tr}, S.length = n → 3 ≤ S.length → Full S L → Tris S L T → T.length + 2 = S.length ∧ ∀ x, x ∈ S → T.countP (hasT x) = 1 + cnt L x
  | 0, S, L, T, e, h3, h, hT => by omega
  | n + 1, S, L, T, e, h3, h, hT => by
    by_cases h4 : 4 ≤ S.length
    · obtain ⟨c, a, b, m⟩ := h.mid h4
      have hl := m.len
      obtain ⟨hmem, hT'⟩ := m.tris hT
      obtain ⟨ih1, ih2⟩ := count_tris n (by omega) (by omega) m.cut hT'
      have hp := List.perm_cons_erase hmem
      refine ⟨by rw [hp.length_eq]; simp; omega, fun x hx => ?_⟩
      have hac := m.ac
      have hcb := m.cb
      rw [hp.countP_eq, List.countP_cons, hasT_ear]
      by_cases hxc : x = c
      · subst hxc
        have h0 : (T.erase (a, x, b)).countP (hasT x) = 0 := by
          rw [List.countP_eq_zero]
          intro t ht
          have := ((m.tri_cut t).1 ((hT'.mem t).1 ht)).2
          simp [this]
        rw [h0, m.cntc]
        simp
      · rw [ih2 x (m.mem.2 ⟨hx, hxc⟩), cnt_erase m.line x]
        by_cases he : a = x ∨ b = x
        · rw [if_pos he, if_pos (by simp; omega)]
          omega
        · rw [if_neg he, if_neg (by simp; omega)]
          omega
    · obtain ⟨x, y, z, rfl, h1, h2⟩ := three_of h.part.sorted (by omega)
      have hl := h.len
      obtain rfl : L = [] := by simpa using hl
      have hp := tris_three h1 h2 hT
      refine ⟨by rw [hp.length_eq]; rfl, fun s hs => ?_⟩
      rw [hp.countP_eq]
      have h0 : cnt [] s = 0 := rfl
      rw [h0, List.countP_singleton, hasT_ear, if_pos]
      simp at hs ⊢
      omega

/-- In how many ways different triangles can be chosen for corners. -/
def chW : List Int → List Tr → Nat
  | [], _ => 1
  | c :: cs, T => (T.map fun t => if hasT c t then chW cs (T.erase t) else 0).sum
theorem sum_perm {l m : List Nat} (h : l.Perm m) : l.sum = m.sum := by
  induction h with
  | nil => rfl
  | cons x _ ih => simp [ih]
  | swap x y l => simp; omega
  | trans _ _ h1 h2 => exact h1.trans h2
theorem chW_perm : ∀ (cs : List Int) {T U : List Tr}, T.Perm U → chW cs T = chW cs U
  | [], T, U, _ => rfl
  | c :: cs, T, U, h => by
    rw [chW, chW]
    have e : (fun t => if hasT c t then chW cs (T.erase t) else 0) = fun t => if hasT c t then chW cs (U.erase t) else 0 := by
      funext t
      rw [chW_perm cs (h.erase t)]
    rw [e]
    exact sum_perm (h.map _)
theorem chW_cons (c : Int) (cs : List Int) (t0 : Tr) (T : List Tr) (h0 : t0 ∉ T) : chW (c :: cs) (t0 :: T) = (if hasT c t0 then chW cs T else 0) + (T.map fun t => if hasT c t then chW cs (t0 :: T.erase t) else 0).sum := by
  rw [chW, List.map_cons, List.sum_cons, List.erase_cons_head]
  congr 2
  refine List.map_congr_left fun t ht => ?_
  rw [List.erase_cons_tail]
  simp only [beq_iff_eq]
  rintro rfl
  exact h0 ht
/-- A triangle of no corner does not count. -/
theorem chW_none : ∀ (cs : List Int) (t0 : Tr) (T : List Tr), t0 ∉ T → (∀ c, c ∈ cs → hasT c t0 = false) → chW cs (t0 :: T) = chW cs T
  | [], t0, T, _, _ => rfl
  | c :: cs, t0, T, h0, h => by
    rw [chW_cons c cs t0 T h0, h c (by simp), chW]
    simp only [Bool.false_eq_true, if_false, Nat.zero_add]
    congr 1
    refine List.map_congr_left fun t ht => ?_
    rw [chW_none cs t0 (T.erase t) (fun hm => h0 (List.mem_of_mem_erase hm)) (fun d hd => h d (List.mem_cons_of_mem _ hd))]
/-- A corner with one triangle takes it. -/
theorem chW_only (c : Int) (cs : List Int) (t0 : Tr) (T : List Tr) (h0 : t0 ∉ T) (h : hasT c t0 = true) (hT : ∀ t, t ∈ T → hasT c t = false) : chW (c :: cs) (t0 :: T) = chW cs T := by
  rw [chW_cons c cs t0 T h0, if_pos h]
  have : (T.map fun t => if hasT c t then chW cs (t0 :: T.erase t) else 0) = T.map fun _ => 0 := List.map_congr_left fun t ht => by rw [hT t ht]; rfl
  rw [this, List.map_const', List.sum_replicate_nat]
  omega
/-- A triangle of one corner only: the corner takes it or it does not. -/
theorem chW_one (c : Int) (cs : List Int) (t0 : Tr) (T : List Tr) (h0 : t0 ∉ T) (h : hasT c t0 = true) (hcs : ∀ c, c ∈ cs → hasT c t0 = false) : chW (c :: cs) (t0 :: T) = chW cs T + chW (c :: cs) T := by
  rw [chW_cons c cs t0 T h0, if_pos h, chW]
  congr 2
  refine List.map_congr_left fun t ht => ?_
  rw [chW_none cs t0 (T.erase t) (fun hm => h0 (List.mem_of_mem_erase hm)) hcs]
/-- More corners than triangles. -/
theorem chW_few : ∀ (cs : List Int) (T : List Tr), T.length < cs.length → chW cs T = 0
  | [], T, h => by simp at h
  | c :: cs, T, h => by
    rw [chW]
    have : (T.map fun t => if hasT c t then chW cs (T.erase t) else 0) = T.map fun _ => 0 := List.map_congr_left fun t ht => by
      rw [chW_few cs (T.erase t) (by
        have := List.length_pos_of_mem ht
        rw [List.length_erase_of_mem ht]
        simp at h
        omega)]
      simp
    rw [this, List.map_const', List.sum_replicate_nat]
    omega
theorem sum_add (f g : Tr → Nat) (l : List Tr) : (l.map fun t => f t + g t).sum = (l.map f).sum + (l.map g).sum := by
  induction l with
  | nil => rfl
  | cons x l ih => simp [ih]; omega
theorem sum_zero (l : List Tr) : (l.map fun _ => 0).sum = 0 := by
  rw [List.map_const', List.sum_replicate_nat]
  omega
theorem sum_swap (G : Tr → Tr → Nat) (l m : List Tr) : (l.map fun t => (m.map fun u => G t u).sum).sum = (m.map fun u => (l.map fun t => G t u).sum).sum := by
  induction l with
  | nil => simp [sum_zero]
  | cons x l ih =>
    simp only [List.map_cons, List.sum_cons]
    rw [ih, sum_add]
theorem sum_erase (f : Tr → Nat) {T : List Tr} (hn : T.Nodup) {t : Tr} (ht : t ∈ T) : ((T.erase t).map f).sum = (T.map fun u => if u = t then 0 else f u).sum := by
  have hp := List.perm_cons_erase ht
  have h1 : (T.map fun u => if u = t then 0 else f u).sum = ((t :: T.erase t).map fun u => if u = t then 0 else f u).sum := sum_perm (hp.map _)
  rw [h1, List.map_cons, List.sum_cons, if_pos rfl, Nat.zero_add]
  congr 1
  refine List.map_congr_left fun u hu => ?_
  rw [if_neg (hn.mem_erase_iff.1 hu).1]
/-- The order of two corners does not matter. -/
theorem chW_swap (c d : Int) (cs : List Int) {T : List Tr} (hn : T.Nodup) : chW (c :: d :: cs) T = chW (d :: c :: cs) T := by
  have key : ∀ c d : Int, chW (c :: d :: cs) T = (T.map fun t => (T.map fun u => if hasT c t ∧ hasT d u ∧ u ≠ t then chW cs ((T.erase t).erase u) else 0).sum).sum := by
    intro c d
    rw [chW]
    congr 1
    refine List.map_congr_left fun t ht => ?_
    by_cases h : hasT c t = true
    · rw [if_pos h, chW, sum_erase _ hn ht]
      congr 1
      refine List.map_congr_left fun u hu => ?_
      by_cases e : u = t
      · rw [if_pos e, if_neg (fun k => k.2.2 e)]
      · rw [if_neg e]
        by_cases h2 : hasT d u = true
        · rw [if_pos h2, if_pos ⟨h, h2, e⟩]
        · rw [if_neg h2, if_neg (fun k => h2 k.2.1)]
    · rw [if_neg h]
      have : (T.map fun u => if hasT c t = true ∧ hasT d u = true ∧ u ≠ t then chW cs ((T.erase t).erase u) else 0) = T.map fun _ => 0 := List.map_congr_left fun u hu => by rw [if_neg (fun k => h k.1)]
      rw [this, sum_zero]
  rw [key c d, key d c, sum_swap]
  congr 1
  refine List.map_congr_left fun u hu => ?_
  congr 1
  refine List.map_congr_left fun t ht => ?_
  rw [List.erase_comm]
  by_cases h : hasT c t = true ∧ hasT d u = true ∧ u ≠ t
  · rw [if_pos h, if_pos ⟨h.2.1, h.1, fun e => h.2.2 e.symm⟩]
  · rw [if_neg h, if_neg (fun k => h ⟨k.2.1, k.1, fun e => k.2.2 e.symm⟩)]
theorem chW_congr (c : Int) {cs ds : List Int} (h : ∀ T : List Tr, T.Nodup → chW cs T = chW ds T) {T : List Tr} (hn : T.Nodup) : chW (c :: cs) T = chW (c :: ds) T := by
  rw [chW, chW]
  congr 1
  refine List.map_congr_left fun t ht => ?_
  rw [h _ (hn.erase t)]
theorem chW_order {cs ds : List Int} (h : cs.Perm ds) : ∀ {T : List Tr}, T.Nodup → chW cs T = chW ds T := by
  induction h with
  | nil => intro T _; rfl
  | cons x _ ih => intro T hn; exact chW_congr x (fun T hT => ih hT) hn
  | swap x y l => intro T hn; exact chW_swap y x l hn
  | trans _ _ h1 h2 => intro T hn; exact (h1 hn).trans (h2 hn)
end Go.Proofs.Ytddcdopimpfhcaa
