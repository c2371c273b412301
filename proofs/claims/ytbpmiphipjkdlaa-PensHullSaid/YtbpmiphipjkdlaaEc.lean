/- Plain: the lower border of sorted points. Plain: the smallest convex pen around points, side by side. Plain: the smallest convex pen is a pen that turns left; all points are in it. -/
import Derived.Test.YtbpmiphipjkdlaaKd
import Derived.Test.YtbpmiphipjkdlaaBj
namespace Go.Proofs.Ytbpmiphipjkdlaa.Hu
section
open Go.Proofs.Ytbpmiphipjkdlaa

/-- Ways that lead upward: to the right, or straight up. -/
def Up (d : Int × Int) : Prop := 0 < d.1 ∨ (d.1 = 0 ∧ 0 < d.2)
def cr (a b : Int × Int) : Int := a.1 * b.2 - a.2 * b.1
def sb (p q : Int × Int) : Int × Int := (p.1 - q.1, p.2 - q.2)
theorem key1 (a b c : Int × Int) : cr a c * b.1 = cr a b * c.1 + cr b c * a.1 := by unfold cr; grind
theorem key2 (a b c : Int × Int) : cr a c * b.2 = cr a b * c.2 + cr b c * a.2 := by unfold cr; grind
theorem pos_of {x y : Int} (h : 0 < x * y) (hy : 0 < y) : 0 < x := by
  apply Int.not_le.1
  intro hx
  have := Int.mul_nonpos_of_nonpos_of_nonneg hx (Int.le_of_lt hy)
  omega
theorem nn_of {x y : Int} (h : 0 ≤ x * y) (hy : 0 < y) : 0 ≤ x := by
  apply Int.not_lt.1
  intro hx
  have := Int.mul_neg_of_neg_of_pos hx hy
  omega
theorem Up.n1 {d : Int × Int} (h : Up d) : 0 ≤ d.1 := by rcases h with h | h <;> omega
/-- Among ways upward, turning left goes on. -/
theorem tr {a b c : Int × Int} (ha : Up a) (hb : Up b) (hc : Up c) (h1 : 0 ≤ cr a b) (h2 : 0 ≤ cr b c) : 0 ≤ cr a c := by
  have a1 := ha.n1
  have c1 := hc.n1
  rcases hb with b1 | ⟨b1, b2⟩
  · have k := key1 a b c
    have := Int.mul_nonneg h1 c1
    have := Int.mul_nonneg h2 a1
    exact nn_of (y := b.1) (by omega) b1
  · unfold cr at h2
    rw [b1, Int.zero_mul] at h2
    have : c.1 = 0 := by
      rcases Int.lt_or_eq_of_le c1 with h | h
      · have := Int.mul_pos b2 h
        omega
      · omega
    rcases hc with h | ⟨_, c2⟩
    · omega
    · unfold cr
      rw [this, Int.mul_zero]
      have := Int.mul_nonneg a1 (Int.le_of_lt c2)
      omega
theorem tr1 {a b c : Int × Int} (ha : Up a) (hb : Up b) (hc : Up c) (h1 : 0 < cr a b) (h2 : 0 ≤ cr b c) : 0 < cr a c := by
  have a1 := ha.n1
  have c1 := hc.n1
  rcases hb with b1 | ⟨b1, b2⟩
  · have k := key1 a b c
    have h3 := Int.mul_nonneg h2 a1
    rcases Int.lt_or_eq_of_le c1 with h | h
    · have := Int.mul_pos h1 h
      exact pos_of (y := b.1) (by omega) b1
    · rcases hc with hc | ⟨_, c2⟩
      · omega
      · have hbc : 0 < cr b c := by
          unfold cr
          rw [← h, Int.mul_zero]
          have := Int.mul_pos b1 c2
          omega
        have ha0 : 0 < a.1 := by
          rcases ha with h | ⟨h4, h5⟩
          · exact h
          · unfold cr at h1
            rw [h4, Int.zero_mul] at h1
            have := Int.mul_pos h5 b1
            omega
        have := Int.mul_pos hbc ha0
        rw [← h, Int.mul_zero] at k
        exact pos_of (y := b.1) (by omega) b1
  · unfold cr at h2 h1
    rw [b1, Int.zero_mul] at h2
    rw [b1, Int.mul_zero] at h1
    have : c.1 = 0 := by
      rcases Int.lt_or_eq_of_le c1 with h | h
      · have := Int.mul_pos b2 h
        omega
      · omega
    rcases hc with h | ⟨_, c2⟩
    · omega
    · unfold cr
      rw [this, Int.mul_zero]
      have := Int.mul_pos (pos_of (x := a.1) (y := b.2) (by omega) b2) c2
      omega
theorem tr2 {a b c : Int × Int} (ha : Up a) (hb : Up b) (hc : Up c) (h1 : 0 ≤ cr a b) (h2 : 0 < cr b c) : 0 < cr a c := by
  have e1 : ∀ x y : Int × Int, cr (x.1, -x.2) (y.1, -y.2) = - cr x y := fun x y => by unfold cr; grind
  have a1 := ha.n1
  have c1 := hc.n1
  rcases hb with b1 | ⟨b1, b2⟩
  · have k := key1 a b c
    have h3 := Int.mul_nonneg h1 c1
    rcases Int.lt_or_eq_of_le a1 with h | h
    · have := Int.mul_pos h2 h
      exact pos_of (y := b.1) (by omega) b1
    · rcases ha with ha | ⟨_, a2⟩
      · omega
      · unfold cr at h1
        rw [← h, Int.zero_mul] at h1
        have := Int.mul_pos a2 b1
        omega
  · unfold cr at h2
    rw [b1, Int.zero_mul] at h2
    have := Int.mul_nonneg (Int.le_of_lt b2) c1
    omega
/-- Times 1 or -1. -/
def sm (s : Int) (d : Int × Int) : Int × Int := (s * d.1, s * d.2)
theorem cr_sm {s : Int} (hs : s * s = 1) (a b : Int × Int) : cr (sm s a) (sm s b) = cr a b := by unfold cr sm; grind
/-- The order of points, or its converse. -/
def Lt (s : Int) (p q : Int × Int) : Prop := Up (sm s (sb q p))
theorem Lt.trans {s : Int} {p q r : Int × Int} (h1 : Lt s p q) (h2 : Lt s q r) : Lt s p r := by
  unfold Lt Up sm sb at *
  simp only [Int.mul_sub] at *
  omega
theorem Lt.irrefl {s : Int} {p : Int × Int} : ¬ Lt s p p := by
  unfold Lt Up sm sb
  simp only [Int.sub_self, Int.mul_zero]
  omega
theorem lt_three {s : Int} (hs : s = 1 ∨ s = -1) (p q : Int × Int) : Lt s p q ∨ p = q ∨ Lt s q p := by
  unfold Lt Up sm sb
  by_cases h : p = q
  · exact .inr (.inl h)
  · have : p.1 ≠ q.1 ∨ p.2 ≠ q.2 := by
      by_cases e : p.1 = q.1
      · exact .inr fun e2 => h (Prod.ext e e2)
      · exact .inl e
    rcases hs with rfl | rfl <;> simp only <;> omega
/-- A side of the border of these points: all lie to its left, or on it. -/
structure Edge (s : Int) (S : List (Int × Int)) (a b : Int × Int) : Prop where
  lt : Lt s a b
  all : ∀ q ∈ S, 0 < cr (sb b a) (sb q a) ∨ (cr (sb b a) (sb q a) = 0 ∧ (q = a ∨ Lt s a q) ∧ (q = b ∨ Lt s q b))
/-- The chain of the border, its last post ahead. -/
def Ch (s : Int) (S : List (Int × Int)) : List (Int × Int) → Prop
  | [] => False
  | [a] => a ∈ S ∧ ∀ q ∈ S, q = a ∨ Lt s a q
  | b :: a :: r => (Edge s S a b ∧ b ∈ S) ∧ Ch s S (a :: r)
theorem tri (a b p : Int × Int) : cr (sb b a) (sb p a) = cr (sb b a) (sb p b) := by unfold cr sb; grind
theorem Edge.more {s : Int} {S : List (Int × Int)} {a b p : Int × Int} (h : Edge s S a b) (hp : 0 < cr (sb b a) (sb p b)) : Edge s (S ++ [p]) a b := ⟨h.lt, fun q hq => by
  rcases List.mem_append.1 hq with hq | hq
  · exact h.all q hq
  · rw [List.mem_singleton.1 hq]
    exact .inl (by rw [tri]; exact hp)⟩
theorem cr_anti (a b : Int × Int) : cr b a = - cr a b := by unfold cr; grind
/-- A point ahead turns left from all sides of the chain if it does from the last one. -/
theorem Ch.more {s : Int} (hs : s * s = 1) {S : List (Int × Int)} {p : Int × Int} : ∀ (r : List (Int × Int)) (a b : Int × Int), Lt s b p → 0 < cr (sb b a) (sb p b) → Ch s S (b :: a :: r) → Ch s (S ++ [p]) (b :: a :: r)
  | [], a, b, hbp, hc, ⟨⟨he, hb⟩, ha, hmin⟩ => ⟨⟨he.more hc, List.mem_append_left _ hb⟩, List.mem_append_left _ ha, fun q hq => by
      rcases List.mem_append.1 hq with hq | hq
      · exact hmin q hq
      · rw [List.mem_singleton.1 hq]
        exact .inr (he.lt.trans hbp)⟩
  | z :: r, a, b, hbp, hc, ⟨⟨he, hb⟩, h2⟩ => by
    refine ⟨⟨he.more hc, List.mem_append_left _ hb⟩, ?_⟩
    have hz := h2.1.1
    have hab := he.lt
    refine Ch.more hs r z a (hab.trans hbp) ?_ h2
    have h3 : 0 < cr (sb a z) (sb b a) := by
      rcases hz.all b hb with h | ⟨_, _, h⟩
      · rwa [tri] at h
      · rcases h with h | h
        · rw [h] at hab; exact absurd hab Lt.irrefl
        · exact absurd (hab.trans h) Lt.irrefl
    have h4 : 0 < cr (sb b a) (sb p a) := by rw [tri]; exact hc
    rw [← cr_sm hs] at h3 h4 ⊢
    exact tr1 hz.lt hab (hab.trans hbp) h3 (Int.le_of_lt h4)
/-- The points are sorted. -/
def Sorted (s : Int) : List (Int × Int) → Prop
  | [] => True
  | p :: l => (∀ q ∈ l, Lt s p q) ∧ Sorted s l
/-- Posts that the way to p leaves to its right are given up. -/
def pop : List (Int × Int) → (Int × Int) → List (Int × Int)
  | b :: a :: r, p => if cr (sb b a) (sb p b) ≤ 0 then pop (a :: r) p else b :: a :: r
  | st, _ => st
theorem pop_one (a p : Int × Int) : pop [a] p = [a] := by rw [pop]; intro _ _ _ h; cases h
theorem pop_nil (p : Int × Int) : pop [] p = [] := by rw [pop]; intro _ _ _ h; cases h
theorem pop_yes {a b p : Int × Int} {r : List (Int × Int)} (h : cr (sb b a) (sb p b) ≤ 0) : pop (b :: a :: r) p = pop (a :: r) p := by rw [pop, if_pos h]
theorem pop_no {a b p : Int × Int} {r : List (Int × Int)} (h : ¬ cr (sb b a) (sb p b) ≤ 0) : pop (b :: a :: r) p = b :: a :: r := by rw [pop, if_neg h]
theorem Ch.push {s : Int} (hs : s = 1 ∨ s = -1) {S : List (Int × Int)} {p : Int × Int} (hp : ∀ q ∈ S, Lt s q p) : ∀ (r : List (Int × Int)) (b : Int × Int), Ch s S (b :: r) → (∀ q ∈ S, (q = b ∨ Lt s b q) → 0 ≤ cr (sb p b) (sb q b)) →
    Ch s (S ++ [p]) (p :: pop (b :: r) p)
  | [], b, hc, hq => by
    have hs2 : s * s = 1 := by rcases hs with rfl | rfl <;> rfl
    rw [pop_one]
    obtain ⟨hb, hmin⟩ := hc
    have hbp := hp b hb
    refine ⟨⟨⟨hbp, fun q hqS => ?_⟩, List.mem_append_right _ (List.mem_singleton.2 rfl)⟩, List.mem_append_left _ hb, fun q hqS => ?_⟩
    · rcases List.mem_append.1 hqS with hqS | hqS
      · have h1 := hq q hqS (hmin q hqS)
        rcases Int.lt_or_eq_of_le h1 with h | h
        · exact .inl h
        · exact .inr ⟨h.symm, hmin q hqS, .inr (hp q hqS)⟩
      · rw [List.mem_singleton.1 hqS]
        exact .inr ⟨by unfold cr; grind, .inr hbp, .inl rfl⟩
    · rcases List.mem_append.1 hqS with hqS | hqS
      · exact hmin q hqS
      · rw [List.mem_singleton.1 hqS]
        exact .inr hbp
  | a :: r, b, hc, hq => by
    have hs2 : s * s = 1 := by rcases hs with rfl | rfl <;> rfl
    have hb : b ∈ S := hc.1.2
    have hbp := hp b hb
    have he := hc.1.1
    have hab := he.lt
    by_cases hle : cr (sb b a) (sb p b) ≤ 0
    · rw [pop_yes hle]
      refine Ch.push hs hp r a hc.2 fun q hqS hqa => ?_
      rcases hqa with rfl | hqa
      · have : cr (sb p q) (sb q q) = 0 := by unfold cr sb; grind
        omega
      · have h1 : 0 ≤ cr (sb b a) (sb q a) := by rcases he.all q hqS with h | ⟨h, _⟩ <;> omega
        have h2 : 0 ≤ cr (sb p a) (sb b a) := by rw [cr_anti, tri]; omega
        rw [← cr_sm hs2] at h1 h2 ⊢
        exact tr (hab.trans hbp) hab hqa h2 h1
    · rw [pop_no hle]
      have hpos : 0 < cr (sb b a) (sb p b) := by omega
      refine ⟨⟨⟨hbp, fun q hqS => ?_⟩, List.mem_append_right _ (List.mem_singleton.2 rfl)⟩, Ch.more hs2 r a b hbp hpos hc⟩
      rcases List.mem_append.1 hqS with hqS | hqS
      · rcases lt_three hs q b with h | h | h
        · left
          have h1 : 0 ≤ cr (sb b q) (sb b a) := by
            have : 0 ≤ cr (sb b a) (sb q a) := by rcases he.all q hqS with h | ⟨h, _⟩ <;> omega
            have e : cr (sb b q) (sb b a) = cr (sb b a) (sb q a) := by unfold cr sb; grind
            omega
          have h2 : 0 < cr (sb b q) (sb p b) := by
            rw [← cr_sm hs2] at h1 hpos ⊢
            exact tr2 h hab hbp h1 hpos
          have e : cr (sb p b) (sb q b) = cr (sb b q) (sb p b) := by unfold cr sb; grind
          omega
        · have h1 := hq q hqS (.inl h)
          rcases Int.lt_or_eq_of_le h1 with g | g
          · exact .inl g
          · exact .inr ⟨g.symm, .inl h, .inr (hp q hqS)⟩
        · have h1 := hq q hqS (.inr h)
          rcases Int.lt_or_eq_of_le h1 with g | g
          · exact .inl g
          · exact .inr ⟨g.symm, .inr h, .inr (hp q hqS)⟩
      · rw [List.mem_singleton.1 hqS]
        exact .inr ⟨by unfold cr; grind, .inr hbp, .inl rfl⟩
/-- The chain of the first points of a list, its last post ahead. -/
def stk : List (Int × Int) → List (Int × Int) → List (Int × Int)
  | st, [] => st
  | st, p :: l => stk (p :: pop st p) l
theorem pop_cons : ∀ (r : List (Int × Int)) (b p : Int × Int), ∃ c r', pop (b :: r) p = c :: r'
  | [], b, p => ⟨b, [], pop_one b p⟩
  | a :: r, b, p => by
    by_cases h : cr (sb b a) (sb p b) ≤ 0
    · rw [pop_yes h]; exact pop_cons r a p
    · rw [pop_no h]; exact ⟨_, _, rfl⟩
theorem stk_more (p : Int × Int) : ∀ (l st : List (Int × Int)), stk st (l ++ [p]) = p :: pop (stk st l) p
  | [], st => rfl
  | q :: l, st => by rw [List.cons_append, stk, stk_more p l]; rfl
theorem Sorted.append {s : Int} : ∀ (l m : List (Int × Int)), Sorted s (l ++ m) → Sorted s l ∧ Sorted s m ∧ ∀ p ∈ l, ∀ q ∈ m, Lt s p q
  | [], m, h => ⟨trivial, h, fun _ hp => by cases hp⟩
  | x :: l, m, ⟨h1, h2⟩ => by
    obtain ⟨g1, g2, g3⟩ := Sorted.append l m h2
    refine ⟨⟨fun q hq => h1 q (List.mem_append_left _ hq), g1⟩, g2, fun p hp q hq => ?_⟩
    rcases List.mem_cons.1 hp with rfl | hp
    · exact h1 q (List.mem_append_right _ hq)
    · exact g3 p hp q hq
/-- The chain of sorted points; its last post is the last point. -/
theorem stk_ch {s : Int} (hs : s = 1 ∨ s = -1) : ∀ (S m : List (Int × Int)) (b : Int × Int) (r : List (Int × Int)), Sorted s (S ++ m) → Ch s S (b :: r) → (∀ q ∈ S, q = b ∨ Lt s q b) →
    ∃ b' r', stk (b :: r) m = b' :: r' ∧ Ch s (S ++ m) (b' :: r') ∧ ∀ q ∈ S ++ m, q = b' ∨ Lt s q b'
  | S, [], b, r, _, hc, hmax => ⟨b, r, rfl, by rwa [List.append_nil], by rwa [List.append_nil]⟩
  | S, p :: m, b, r, hso, hc, hmax => by
    obtain ⟨_, _, h3⟩ := Sorted.append S (p :: m) hso
    have hp : ∀ q ∈ S, Lt s q p := fun q hq => h3 q hq p (List.mem_cons_self ..)
    have h4 := Ch.push hs hp r b hc fun q hq hqb => by
      rcases hqb with rfl | hqb
      · have : cr (sb p q) (sb q q) = 0 := by unfold cr sb; grind
        omega
      · rcases hmax q hq with h | h
        · rw [h]
          have : cr (sb p b) (sb b b) = 0 := by unfold cr sb; grind
          omega
        · exact absurd (hqb.trans h) Lt.irrefl
    have e : S ++ p :: m = (S ++ [p]) ++ m := by simp
    have h5 := stk_ch hs (S ++ [p]) m p (pop (b :: r) p) (by rw [← e]; exact hso) h4 fun q hq => by
      rcases List.mem_append.1 hq with hq | hq
      · exact .inr (hp q hq)
      · exact .inl (List.mem_singleton.1 hq)
    rw [← e] at h5
    exact h5
theorem half_ch {s : Int} (hs : s = 1 ∨ s = -1) (p : Int × Int) (l : List (Int × Int)) (h : Sorted s (p :: l)) : ∃ b r, stk [] (p :: l) = b :: r ∧ Ch s (p :: l) (b :: r) ∧ ∀ q ∈ p :: l, q = b ∨ Lt s q b := by
  have h1 := stk_ch hs [p] l p [] h ⟨List.mem_singleton.2 rfl, fun q hq => .inl (List.mem_singleton.1 hq)⟩ (fun q hq => .inl (List.mem_singleton.1 hq))
  obtain ⟨b, r, e, h2, h3⟩ := h1
  exact ⟨b, r, by rw [stk, pop_nil]; exact e, h2, h3⟩
end
section
open Go.Proofs.Ytbpmiphipjkdlaa

/-- The next post: no point lies to the right of the way to it; it is the farthest one on that way. -/
structure Nx (l : List (Int × Int)) (a b : Int × Int) : Prop where
  ne : a ≠ b
  ma : a ∈ l
  mb : b ∈ l
  all : ∀ q ∈ l, 0 < cr (sb b a) (sb q a) ∨ (cr (sb b a) (sb q a) = 0 ∧ Pk.On a b q)
def dtt (a b : Int × Int) : Int := a.1 * b.1 + a.2 * b.2
theorem up_dt {x y : Int × Int} (hx : Up x) (hy : Up y) (h : cr x y = 0) : 0 < dtt x y := by
  unfold dtt cr at *
  rcases hx with x1 | ⟨x1, x2⟩
  · rcases hy with y1 | ⟨y1, y2⟩
    · have h1 := Int.mul_pos x1 y1
      have h2 : x.1 * (x.2 * y.2) = x.2 * (x.2 * y.1) := by grind
      have h3 : 0 ≤ x.2 * y.2 := by
        have : 0 ≤ x.2 * y.2 * x.1 := by
          have e : x.2 * y.2 * x.1 = x.2 * x.2 * y.1 := by grind
          rw [e]
          have : 0 ≤ x.2 * x.2 := by
            rcases Int.le_total 0 x.2 with g | g
            · exact Int.mul_nonneg g g
            · exact Int.mul_nonneg_of_nonpos_of_nonpos g g
          exact Int.mul_nonneg this (Int.le_of_lt y1)
        exact nn_of this x1
      omega
    · have := Int.mul_pos x1 y2
      rw [y1, Int.mul_zero] at h
      omega
  · rcases hy with y1 | ⟨y1, y2⟩
    · have := Int.mul_pos x2 y1
      rw [x1, Int.zero_mul] at h
      omega
    · have := Int.mul_pos x2 y2
      rw [x1, Int.zero_mul]
      omega
theorem Edge.nx {s : Int} (hs : s * s = 1) {S l : List (Int × Int)} (hl : ∀ q, q ∈ l ↔ q ∈ S) {a b : Int × Int} (h : Edge s S a b) (ha : a ∈ S) (hb : b ∈ S) : Nx l a b := ⟨fun e => by
    have := h.lt
    rw [e] at this
    exact Lt.irrefl this, (hl a).2 ha, (hl b).2 hb, fun q hq => by
    rcases h.all q ((hl q).1 hq) with g | ⟨g, h1, h2⟩
    · exact .inl g
    · refine .inr ⟨g, ?_, ?_⟩
      · have : Pk.crs (Pk.vsub b a) (Pk.vsub q b) = cr (sb b a) (sb q a) := by unfold Pk.crs Pk.vsub cr sb; grind
        rw [this, g]
      · rcases h1 with rfl | h1
        · have : Pk.dt (Pk.vsub q q) (Pk.vsub q b) = 0 := by unfold Pk.dt Pk.vsub; grind
          omega
        · rcases h2 with rfl | h2
          · have : Pk.dt (Pk.vsub q a) (Pk.vsub q q) = 0 := by unfold Pk.dt Pk.vsub; grind
            omega
          · have c : cr (sm s (sb q a)) (sm s (sb b q)) = 0 := by
              rw [cr_sm hs]
              have : cr (sb q a) (sb b q) = - cr (sb b a) (sb q a) := by unfold cr sb; grind
              omega
            have := up_dt h1 h2 c
            have e : dtt (sm s (sb q a)) (sm s (sb b q)) = - Pk.dt (Pk.vsub q a) (Pk.vsub q b) := by unfold dtt sm sb Pk.dt Pk.vsub; grind
            omega⟩
theorem dt_sq {e : Int × Int} (h : e ≠ (0, 0)) : 0 < dtt e e := Pk.sq_pos h
theorem On.tot {a b q : Int × Int} (h : Pk.On a b q) (hq : Pk.On a q b) : q = b := by
  obtain ⟨_, h1⟩ := h
  obtain ⟨_, h2⟩ := hq
  apply Classical.byContradiction
  intro hne
  have h3 : sb q b ≠ (0, 0) := fun e => hne (by
    unfold sb at e
    have e1 := congrArg Prod.fst e
    have e2 := congrArg Prod.snd e
    simp only at e1 e2
    exact Prod.ext (by omega) (by omega))
  have h4 := dt_sq h3
  have e : Pk.dt (Pk.vsub q a) (Pk.vsub q b) + Pk.dt (Pk.vsub b a) (Pk.vsub b q) = dtt (sb q b) (sb q b) := by unfold Pk.dt Pk.vsub dtt sb; grind
  omega
theorem Nx.uniq {l : List (Int × Int)} {a b c : Int × Int} (h1 : Nx l a b) (h2 : Nx l a c) : b = c := by
  have e := cr_anti (sb b a) (sb c a)
  rcases h1.all c h2.mb with g | ⟨g, o1⟩
  · rcases h2.all b h1.mb with k | ⟨k, _⟩ <;> omega
  · rcases h2.all b h1.mb with k | ⟨k, o2⟩
    · omega
    · exact (On.tot o1 o2).symm
/-- Each follows the one ahead. -/
def Path (E : Int × Int → Int × Int → Prop) : List (Int × Int) → Prop
  | [] => True
  | [_] => True
  | a :: b :: l => E a b ∧ Path E (b :: l)
theorem Path.join {E : Int × Int → Int × Int → Prop} {x : Int × Int} {m : List (Int × Int)} : ∀ l : List (Int × Int), Path E (l ++ [x]) → Path E (x :: m) → Path E (l ++ x :: m)
  | [], _, h => h
  | [_], h1, h2 => ⟨h1.1, h2⟩
  | _ :: b :: l, h1, h2 => ⟨h1.1, Path.join (b :: l) h1.2 h2⟩
theorem Path.at {E : Int × Int → Int × Int → Prop} : ∀ (l : List (Int × Int)) (i : Nat), Path E l → i + 1 < l.length → E (l.getD i (0, 0)) (l.getD (i + 1) (0, 0))
  | [], _, _, h => by simp at h
  | [_], _, _, h => by simp at h
  | a :: b :: l, 0, h, _ => h.1
  | a :: b :: l, i + 1, h, hi => by
    have := Path.at (b :: l) i h.2 (by simp at hi ⊢; omega)
    exact this
/-- The posts of a chain, in their order, and what is known of them. -/
theorem Ch.path {s : Int} {S : List (Int × Int)} {E : Int × Int → Int × Int → Prop} (hE : ∀ a b, a ∈ S → b ∈ S → Edge s S a b → E a b) : ∀ (r : List (Int × Int)) (b : Int × Int), Ch s S (b :: r) →
    Path E (r.reverse ++ [b]) ∧ b ∈ S ∧ (∀ x ∈ r, Lt s x b ∧ x ∈ S) ∧ ∃ a, a ∈ S ∧ (∀ q ∈ S, q = a ∨ Lt s a q) ∧ ∃ t, r.reverse ++ [b] = a :: t ∧ ∀ x ∈ t, Lt s a x
  | [], b, h => ⟨trivial, h.1, fun x hx => (by cases hx), b, h.1, h.2, [], rfl, fun x hx => (by cases hx)⟩
  | a :: r, b, h => by
    obtain ⟨p1, p2, p3, a0, q1, q2, t, e, q3⟩ := Ch.path hE r a h.2
    have hab := h.1.1.lt
    refine ⟨?_, h.1.2, fun x hx => ?_, a0, q1, q2, t ++ [b], ?_, fun x hx => ?_⟩
    · rw [List.reverse_cons, List.append_assoc]
      exact Path.join r.reverse p1 ⟨hE a b p2 h.1.2 h.1.1, trivial⟩
    · rcases List.mem_cons.1 hx with rfl | hx
      · exact ⟨hab, p2⟩
      · exact ⟨(p3 x hx).1.trans hab, (p3 x hx).2⟩
    · rw [List.reverse_cons, e]
      rfl
    · rcases List.mem_append.1 hx with hx | hx
      · exact q3 x hx
      · rw [List.mem_singleton.1 hx]
        have : a ∈ a0 :: t := by rw [← e]; simp
        rcases List.mem_cons.1 this with h1 | h1
        · rw [← h1]; exact hab
        · exact (q3 a h1).trans hab
/-- What half returns. -/
def half (l : List (Int × Int)) : List (Int × Int) := (stk [] l).tail.reverse
/-- The smallest convex pen around sorted points. -/
def hull (S : List (Int × Int)) : List (Int × Int) := half S ++ half S.reverse
theorem Sorted.rev {s : Int} : ∀ l : List (Int × Int), Sorted s l → Sorted (-s) l.reverse
  | [], _ => trivial
  | p :: l, ⟨h1, h2⟩ => by
    rw [List.reverse_cons]
    have h3 := Sorted.rev l h2
    have app : ∀ (m : List (Int × Int)), Sorted (-s) m → (∀ q ∈ m, Lt (-s) q p) → Sorted (-s) (m ++ [p]) := fun m => by
      induction m with
      | nil => intro _ _; exact ⟨fun q hq => (by cases hq), trivial⟩
      | cons x m ih =>
        intro hm hq
        refine ⟨fun q hqm => ?_, ih hm.2 fun q hqm => hq q (List.mem_cons_of_mem _ hqm)⟩
        rcases List.mem_append.1 hqm with g | g
        · exact hm.1 q g
        · rw [List.mem_singleton.1 g]; exact hq x (List.mem_cons_self ..)
    refine app _ h3 fun q hq => ?_
    have := h1 q (List.mem_reverse.1 hq)
    unfold Lt Up sm sb at *
    simp only [Int.neg_mul, Int.mul_sub] at *
    omega
/-- A cycle of next posts, begun with the least point. -/
structure Cyc (l H : List (Int × Int)) : Prop where
  len : 2 ≤ H.length
  nx : ∀ i, i < H.length → Nx l (H.getD i (0, 0)) (H.getD ((i + 1) % H.length) (0, 0))
  once : ∀ i, 0 < i → i < H.length → Lt 1 (H.getD 0 (0, 0)) (H.getD i (0, 0))
  least : ∀ q ∈ l, q = H.getD 0 (0, 0) ∨ Lt 1 (H.getD 0 (0, 0)) q
theorem lt_neg {p q : Int × Int} : Lt (-1) p q ↔ Lt 1 q p := by
  unfold Lt Up sm sb
  simp only
  omega
theorem stk_some (p : Int × Int) (l : List (Int × Int)) : ∃ b r, stk [] (p :: l) = b :: r := by
  have : ∀ (m : List (Int × Int)) (b : Int × Int) (r : List (Int × Int)), ∃ b' r', stk (b :: r) m = b' :: r' := fun m => by
    induction m with
    | nil => intro b r; exact ⟨b, r, rfl⟩
    | cons q m ih => intro b r; exact ih _ _
  rw [stk, pop_nil]
  exact this l p []
theorem hull_cyc {S l : List (Int × Int)} (hs : Sorted 1 S) (hl : ∀ q, q ∈ l ↔ q ∈ S) (h2 : 2 ≤ S.length) : Cyc l (hull S) := by
  obtain ⟨p, p', S', rfl⟩ : ∃ p p' S', S = p :: p' :: S' := by
    match S, h2 with
    | p :: p' :: S', _ => exact ⟨p, p', S', rfl⟩
  obtain ⟨b1, r1, e1, c1, m1⟩ := half_ch (.inl rfl) p (p' :: S') hs
  have hrev := Sorted.rev _ hs
  obtain ⟨x, X, eX⟩ : ∃ x X, (p :: p' :: S').reverse = x :: X := by
    cases h : (p :: p' :: S').reverse with
    | nil => simp at h
    | cons x X => exact ⟨x, X, rfl⟩
  rw [eX] at hrev
  obtain ⟨b2, r2, e2, c2, m2⟩ := half_ch (.inr rfl) x X hrev
  have hmem : ∀ q, q ∈ x :: X ↔ q ∈ p :: p' :: S' := fun q => by rw [← eX, List.mem_reverse]
  have hl2 : ∀ q, q ∈ l ↔ q ∈ x :: X := fun q => by rw [hl, hmem]
  obtain ⟨P1, q1, g1, a1, f1, f2, t1, w1, w2⟩ := c1.path (E := Nx l) (fun a b ha hb h => h.nx (by decide) hl ha hb)
  obtain ⟨P2, q2, g2, a2, k1, k2, t2, u1, u2⟩ := c2.path (E := Nx l) (fun a b ha hb h => h.nx (by decide) hl2 ha hb)
  -- the ends meet
  have hb1 : b1 = a2 := by
    rcases m1 a2 ((hmem a2).1 k1) with h | h
    · exact h.symm
    · rcases k2 b1 ((hmem b1).2 q1) with h' | h'
      · exact h'
      · exact absurd (h.trans (lt_neg.1 h')) Lt.irrefl
  have hb2 : b2 = a1 := by
    rcases m2 a1 ((hmem a1).2 f1) with h | h
    · exact h.symm
    · rcases f2 b2 ((hmem b2).1 q2) with h' | h'
      · exact h'
      · exact absurd ((lt_neg.1 h).trans h') Lt.irrefl
  have hdif : a1 ≠ b1 := by
    intro e
    have h1 := hs.1 p' (List.mem_cons_self ..)
    have z : ∀ q ∈ p :: p' :: S', q = a1 := fun q hq => by
      rcases m1 q hq with h | h
      · rw [h, e]
      · rcases f2 q hq with h' | h'
        · exact h'
        · rw [← e] at h
          exact absurd (h.trans h') Lt.irrefl
    have z1 := z p (List.mem_cons_self ..)
    have z2 := z p' (List.mem_cons_of_mem _ (List.mem_cons_self ..))
    rw [z1, z2] at h1
    exact Lt.irrefl h1
  obtain ⟨t1', ht1, hr1⟩ : ∃ t, r1.reverse = a1 :: t ∧ t1 = t ++ [b1] := by
    cases hr : r1.reverse with
    | nil =>
      rw [hr] at w1
      simp at w1
      exact absurd w1.1.symm hdif
    | cons y t =>
      rw [hr] at w1
      simp at w1
      exact ⟨t, by rw [w1.1], w1.2.symm⟩
  obtain ⟨t2', ht2, hr2⟩ : ∃ t, r2.reverse = a2 :: t ∧ t2 = t ++ [b2] := by
    cases hr : r2.reverse with
    | nil =>
      rw [hr] at u1
      simp at u1
      rw [hb2, ← hb1] at u1
      exact absurd u1.1 hdif
    | cons y t =>
      rw [hr] at u1
      simp at u1
      exact ⟨t, by rw [u1.1], u1.2.symm⟩
  have eH : hull (p :: p' :: S') = (a1 :: t1') ++ (b1 :: t2') := by
    unfold hull half
    rw [eX, e1, e2, List.tail_cons, List.tail_cons, ht1, ht2, hb1]
  have hP : Path (Nx l) (((a1 :: t1') ++ (b1 :: t2')) ++ [a1]) := by
    rw [List.append_assoc]
    rw [ht1] at P1
    rw [ht2, hb2, ← hb1] at P2
    exact Path.join _ P1 P2
  rw [eH]
  obtain ⟨H, hH⟩ : ∃ H, H = (a1 :: t1') ++ (b1 :: t2') := ⟨_, rfl⟩
  have hlen : H.length = t1'.length + t2'.length + 2 := by rw [hH]; simp; omega
  have h0 : H.getD 0 (0, 0) = a1 := by rw [hH]; rfl
  rw [← hH] at hP ⊢
  refine ⟨by omega, fun i hi => ?_, fun i hi hlt => ?_, fun q hq => by rw [h0]; exact f2 q ((hl q).1 hq)⟩
  · have h3 := Path.at _ i hP (by rw [List.length_append, List.length_singleton]; omega)
    rw [List.getD_eq_getElem?_getD, List.getElem?_append_left hi, ← List.getD_eq_getElem?_getD] at h3
    by_cases e : i + 1 < H.length
    · rw [List.getD_eq_getElem?_getD (l := H ++ [a1]), List.getElem?_append_left e, ← List.getD_eq_getElem?_getD] at h3
      rwa [Nat.mod_eq_of_lt e]
    · have e' : i + 1 = H.length := by omega
      rw [e', List.getD_eq_getElem?_getD (l := H ++ [a1]), List.getElem?_append_right (Nat.le_refl _), Nat.sub_self] at h3
      rw [e', Nat.mod_self, h0]
      exact h3
  · rw [h0]
    have hmemH : ∀ x, x ∈ t1' ∨ x = b1 ∨ x ∈ t2' → Lt 1 a1 x := fun x hx => by
      rcases hx with hx | hx | hx
      · exact w2 x (by rw [hr1]; exact List.mem_append_left _ hx)
      · rw [hx]; exact w2 b1 (by rw [hr1]; simp)
      · have : x ∈ r2 := by rw [← List.mem_reverse, ht2]; exact List.mem_cons_of_mem _ hx
        have := (g2 x this).1
        rw [hb2] at this
        exact lt_neg.1 this
    obtain ⟨k, rfl⟩ : ∃ k, i = k + 1 := ⟨i - 1, by omega⟩
    have hx : H.getD (k + 1) (0, 0) ∈ t1' ++ (b1 :: t2') := by
      rw [hH, List.cons_append, List.getD_cons_succ, List.getD_eq_getElem?_getD, List.getElem?_eq_getElem (by simp; omega)]
      exact List.getElem_mem _
    refine hmemH _ ?_
    rcases List.mem_append.1 hx with h | h
    · exact .inl h
    · rcases List.mem_cons.1 h with h | h
      · exact .inr (.inl h)
      · exact .inr (.inr h)
end
section
open Go.Proofs.Ytbpmiphipjkdlaa

theorem crs_cr (a b : Int × Int) : Pk.crs a b = cr a b := rfl
theorem vsub_sb (a b : Int × Int) : Pk.vsub a b = sb a b := rfl
section
variable {l H : List (Int × Int)}
theorem Cyc.at (c : Cyc l H) (i : Nat) : Nx l (postAt H i) (postAt H (i + 1)) := by
  have h2 := c.len
  have := c.nx (i % H.length) (Nat.mod_lt _ (by omega))
  rw [Nat.mod_add_mod] at this
  exact this
theorem Cyc.uniq (c : Cyc l H) {i j : Nat} (h : postAt H i = postAt H j) : ∀ k, postAt H (i + k) = postAt H (j + k)
  | 0 => h
  | k + 1 => by
    have h1 := c.uniq h k
    have a := c.at (i + k)
    have b := c.at (j + k)
    rw [h1] at a
    exact a.uniq b
theorem Cyc.distinct (c : Cyc l H) (i t : Nat) (h1 : 1 ≤ t) (h2 : t < H.length) : postAt H i ≠ postAt H (i + t) := by
  intro e
  have hl := c.len
  have hge : i + t ≤ H.length * (i + t) := Nat.le_mul_of_pos_left _ (by omega)
  have h3 := c.uniq e (H.length * (i + t) - (i + t))
  rw [show i + t + (H.length * (i + t) - (i + t)) = H.length * (i + t) by omega] at h3
  have e1 : postAt H (H.length * (i + t)) = H.getD 0 (0, 0) := by unfold postAt; rw [Nat.mul_mod_right]
  have e2 : (i + (H.length * (i + t) - (i + t))) % H.length = H.length - t := by
    obtain ⟨k, hk⟩ : ∃ k, i + t = k + 1 := ⟨i + t - 1, by omega⟩
    rw [hk, Nat.mul_succ]
    have hm : k ≤ H.length * k := Nat.le_mul_of_pos_left _ (by omega)
    rw [show i + (H.length * k + H.length - (k + 1)) = H.length - t + H.length * k by omega, Nat.add_mul_mod_self_left, Nat.mod_eq_of_lt (by omega)]
  have h4 := c.once (H.length - t) (by omega) (by omega)
  rw [e1] at h3
  unfold postAt at h3
  rw [e2] at h3
  rw [h3] at h4
  exact Lt.irrefl h4
theorem On.sym {a b q : Int × Int} (h : Pk.On a b q) : Pk.On b a q := by
  obtain ⟨h1, h2⟩ := h
  refine ⟨?_, ?_⟩
  · have : Pk.crs (Pk.vsub a b) (Pk.vsub q a) = - Pk.crs (Pk.vsub b a) (Pk.vsub q b) := by unfold Pk.crs Pk.vsub; grind
    omega
  · have : Pk.dt (Pk.vsub q b) (Pk.vsub q a) = Pk.dt (Pk.vsub q a) (Pk.vsub q b) := by unfold Pk.dt Pk.vsub; grind
    omega
theorem Cyc.turn (c : Cyc l H) (h3 : 3 ≤ H.length) (i : Nat) : 0 < cr (sb (postAt H (i + 1)) (postAt H i)) (sb (postAt H (i + 2)) (postAt H (i + 1))) := by
  have n1 := c.at i
  have n2 := c.at (i + 1)
  rw [show i + 1 + 1 = i + 2 by omega] at n2
  rcases n1.all _ n2.mb with h | ⟨h, o1⟩
  · rwa [tri] at h
  · exfalso
    rw [tri] at h
    rcases n2.all _ n1.ma with g | ⟨_, o2⟩
    · have : cr (sb (postAt H (i + 2)) (postAt H (i + 1))) (sb (postAt H i) (postAt H (i + 1))) = cr (sb (postAt H (i + 1)) (postAt H i)) (sb (postAt H (i + 2)) (postAt H (i + 1))) := by unfold cr sb; grind
      omega
    · exact c.distinct i 2 (by omega) (by omega) (On.tot (On.sym o1) o2).symm
theorem sb_ne {a b : Int × Int} (h : a ≠ b) : sb a b ≠ (0, 0) := fun e => h (by
  unfold sb at e
  have e1 := congrArg Prod.fst e
  have e2 := congrArg Prod.snd e
  simp only at e1 e2
  exact Prod.ext (by omega) (by omega))
theorem on_strict {a b q : Int × Int} (ho : Pk.On a b q) (h1 : q ≠ a) (h2 : q ≠ b) : cr (sb a q) (sb b q) = 0 ∧ dtt (sb a q) (sb b q) < 0 := by
  obtain ⟨o1, o2⟩ := ho
  have c0 : cr (sb a q) (sb b q) = 0 := by
    have : cr (sb a q) (sb b q) = Pk.crs (Pk.vsub b a) (Pk.vsub q b) := by unfold Pk.crs Pk.vsub cr sb; grind
    omega
  refine ⟨c0, ?_⟩
  have e : dtt (sb a q) (sb b q) = Pk.dt (Pk.vsub q a) (Pk.vsub q b) := by unfold Pk.dt Pk.vsub dtt sb; grind
  have hne : dtt (sb a q) (sb b q) ≠ 0 := by
    intro h0
    have x := dt_sq (sb_ne (Ne.symm h1))
    have y := dt_sq (sb_ne (Ne.symm h2))
    have key : dtt (sb a q) (sb a q) * dtt (sb b q) (sb b q) = dtt (sb a q) (sb b q) * dtt (sb a q) (sb b q) + cr (sb a q) (sb b q) * cr (sb a q) (sb b q) := by unfold dtt cr; grind
    rw [h0, c0] at key
    have := Int.mul_pos x y
    omega
  omega
theorem Cyc.strict (c : Cyc l H) (i t : Nat) (h2 : 2 ≤ t) (htn : t < H.length) : 0 < cr (sb (postAt H (i + 1)) (postAt H i)) (sb (postAt H (i + t)) (postAt H i)) := by
  have n1 := c.at i
  have n2 := c.at (i + t)
  rcases n1.all _ n2.ma with h | ⟨_, ho⟩
  · exact h
  · exfalso
    have d1 := c.distinct i t (by omega) htn
    have d2 := c.distinct (i + 1) (t - 1) (by omega) (by omega)
    rw [show i + 1 + (t - 1) = i + t by omega] at d2
    obtain ⟨a, ha⟩ : ∃ a, a = postAt H i := ⟨_, rfl⟩
    obtain ⟨b, hb⟩ : ∃ b, b = postAt H (i + 1) := ⟨_, rfl⟩
    obtain ⟨q, hq⟩ : ∃ q, q = postAt H (i + t) := ⟨_, rfl⟩
    obtain ⟨d, hd⟩ : ∃ d, d = postAt H (i + t + 1) := ⟨_, rfl⟩
    rw [← ha, ← hq] at d1
    rw [← hb, ← hq] at d2
    rw [← ha, ← hb, ← hq] at ho
    rw [← hq, ← hd] at n2
    rw [← ha, ← hb] at n1
    obtain ⟨c0, dneg⟩ := on_strict ho (Ne.symm d1) (Ne.symm d2)
    have xx := dt_sq (sb_ne d1)
    have yy := dt_sq (sb_ne d2)
    have k1 : cr (sb d q) (sb b q) * dtt (sb a q) (sb a q) = cr (sb d q) (sb a q) * dtt (sb a q) (sb b q) + dtt (sb d q) (sb a q) * cr (sb a q) (sb b q) := by unfold cr dtt; grind
    rw [c0, Int.mul_zero, Int.add_zero] at k1
    have ca : 0 ≤ cr (sb d q) (sb a q) := by rcases n2.all a n1.ma with h | ⟨h, _⟩ <;> omega
    have cb : 0 ≤ cr (sb d q) (sb b q) := by rcases n2.all b n1.mb with h | ⟨h, _⟩ <;> omega
    have p1 := Int.mul_nonneg cb (Int.le_of_lt xx)
    have ca0 : cr (sb d q) (sb a q) = 0 := by
      rcases Int.lt_or_eq_of_le ca with h | h
      · have := Int.mul_neg_of_pos_of_neg h dneg
        omega
      · exact h.symm
    rw [ca0, Int.zero_mul] at k1
    have cb0 : cr (sb d q) (sb b q) = 0 := by
      rcases Int.mul_eq_zero.1 k1 with h | h <;> omega
    have oa : Pk.On q d a := by
      rcases n2.all a n1.ma with h | ⟨_, h⟩
      · omega
      · exact h
    have ob : Pk.On q d b := by
      rcases n2.all b n1.mb with h | ⟨_, h⟩
      · omega
      · exact h
    have ea : 0 < dtt (sb a q) (sb d q) := by
      have : Pk.dt (Pk.vsub a q) (Pk.vsub a d) = dtt (sb a q) (sb a q) - dtt (sb a q) (sb d q) := by unfold Pk.dt Pk.vsub dtt sb; grind
      have := oa.2
      omega
    have eb : 0 < dtt (sb b q) (sb d q) := by
      have : Pk.dt (Pk.vsub b q) (Pk.vsub b d) = dtt (sb b q) (sb b q) - dtt (sb b q) (sb d q) := by unfold Pk.dt Pk.vsub dtt sb; grind
      have := ob.2
      omega
    have key : dtt (sb a q) (sb d q) * dtt (sb b q) (sb d q) = dtt (sb a q) (sb b q) * dtt (sb d q) (sb d q) - cr (sb d q) (sb a q) * cr (sb d q) (sb b q) := by unfold dtt cr; grind
    rw [ca0, Int.zero_mul, Int.sub_zero] at key
    have l1 := Int.mul_pos ea eb
    have l2 : 0 < dtt (sb d q) (sb d q) := dt_sq (sb_ne n2.ne.symm)
    have := Int.mul_neg_of_neg_of_pos dneg l2
    omega
theorem postAt_per {xs : List (Int × Int)} (i : Nat) : postAt xs (i + xs.length) = postAt xs i := by unfold postAt; rw [Nat.add_mod_right]
theorem Cyc.pen (c : Cyc l H) (h3 : 3 ≤ H.length) : Pk.Pen H.length (postAt H) := by
  refine ⟨h3, fun i => postAt_per i, fun i => (c.at i).ne, fun i => ?_, fun i j h1 h2 => ?_⟩
  · rintro ⟨h, _⟩
    have := c.turn h3 i
    rw [crs_cr, vsub_sb, vsub_sb] at h
    omega
  · have a1 := c.strict i (j - i) (by omega) (by omega)
    have a2 := c.strict i (j + 1 - i) (by omega) (by omega)
    rw [show i + (j - i) = j by omega] at a1
    rw [show i + (j + 1 - i) = j + 1 by omega] at a2
    obtain ⟨a, ha⟩ : ∃ a, a = postAt H i := ⟨_, rfl⟩
    obtain ⟨b, hb⟩ : ∃ b, b = postAt H (i + 1) := ⟨_, rfl⟩
    rw [← ha, ← hb] at a1 a2 ⊢
    have k1 : ∀ q, Pk.dt (-(sb b a).2, (sb b a).1) (Pk.vsub q a) = cr (sb b a) (sb q a) := fun q => by unfold Pk.dt Pk.vsub cr sb; grind
    have k2 : ∀ q, Pk.dt (-(sb b a).2, (sb b a).1) (Pk.vsub q b) = cr (sb b a) (sb q a) := fun q => by unfold Pk.dt Pk.vsub cr sb; grind
    exact ⟨(-(sb b a).2, (sb b a).1), ⟨by rw [k1]; exact a1, by rw [k1]; exact a2⟩, by rw [k2]; exact a1, by rw [k2]; exact a2⟩
/-- All points lie on one line. -/
theorem Cyc.line (c : Cyc l H) (h : H.length < 3) : ∀ p ∈ l, ∀ q ∈ l, ∀ r ∈ l, cr (sb q p) (sb r p) = 0 := by
  have hl := c.len
  have e2 : H.length = 2 := by omega
  have n1 := c.at 0
  have n2 := c.at 1
  have e : postAt H (1 + 1) = postAt H 0 := by unfold postAt; rw [e2]
  rw [e] at n2
  rw [Nat.zero_add] at n1
  obtain ⟨a, ha⟩ : ∃ a, a = postAt H 0 := ⟨_, rfl⟩
  obtain ⟨b, hb⟩ : ∃ b, b = postAt H 1 := ⟨_, rfl⟩
  rw [← ha, ← hb] at n1 n2
  have z : ∀ q ∈ l, cr (sb b a) (sb q a) = 0 := fun q hq => by
    have h1 : 0 ≤ cr (sb b a) (sb q a) := by rcases n1.all q hq with h | ⟨h, _⟩ <;> omega
    have h2 : 0 ≤ cr (sb a b) (sb q b) := by rcases n2.all q hq with h | ⟨h, _⟩ <;> omega
    have : cr (sb a b) (sb q b) = - cr (sb b a) (sb q a) := by unfold cr sb; grind
    omega
  intro p hp q hq r hr
  have z1 := z p hp
  have z2 := z q hq
  have z3 := z r hr
  have k1 : (sb b a).1 * cr (sb q p) (sb r p) = (sb q p).1 * (cr (sb b a) (sb r a) - cr (sb b a) (sb p a)) - (sb r p).1 * (cr (sb b a) (sb q a) - cr (sb b a) (sb p a)) := by unfold cr sb; grind
  have k2 : (sb b a).2 * cr (sb q p) (sb r p) = (sb q p).2 * (cr (sb b a) (sb r a) - cr (sb b a) (sb p a)) - (sb r p).2 * (cr (sb b a) (sb q a) - cr (sb b a) (sb p a)) := by unfold cr sb; grind
  rw [z1, z2, z3, Int.sub_self, Int.mul_zero, Int.mul_zero, Int.sub_self] at k1 k2
  rcases Int.mul_eq_zero.1 k1 with h | h
  · rcases Int.mul_eq_zero.1 k2 with g | g
    · exact absurd (Prod.ext h g) (sb_ne n1.ne.symm)
    · exact g
  · exact h
theorem Cyc.notline (c : Cyc l H) (h3 : 3 ≤ H.length) (z : ∀ q ∈ l, ∀ r ∈ l, cr (sb q (l.getD 0 (0, 0))) (sb r (l.getD 0 (0, 0))) = 0) : False := by
  have t := c.turn h3 0
  have n1 := c.at 0
  have n2 := c.at 1
  have m0 := n1.ma
  have m1 := n1.mb
  have m2 := n2.mb
  rw [Nat.zero_add] at t m1
  rw [Nat.zero_add] at t
  rw [show 1 + 1 = 2 by rfl] at m2
  have z1 := z _ m0 _ m1
  have z2 := z _ m1 _ m2
  have z3 := z _ m0 _ m2
  have k : cr (sb (postAt H 1) (postAt H 0)) (sb (postAt H 2) (postAt H 1)) = cr (sb (postAt H 0) (l.getD 0 (0, 0))) (sb (postAt H 1) (l.getD 0 (0, 0))) + cr (sb (postAt H 1) (l.getD 0 (0, 0))) (sb (postAt H 2) (l.getD 0 (0, 0))) - cr (sb (postAt H 0) (l.getD 0 (0, 0))) (sb (postAt H 2) (l.getD 0 (0, 0))) := by unfold cr sb; grind
  omega
end
/-- A point that sees all sides turn left is inside. -/
theorem tot_left {n : Nat} {v : Nat → Int × Int} {p : Int × Int} (hn : 0 < n) (hper : ∀ i, v (i + n) = v i) (h : ∀ i, 0 < Pk.crs (Pk.vsub (v i) p) (Pk.vsub (v (i + 1)) p)) : Pk.tot n v p ≠ 0 := by
  intro h0
  have hW : ∀ i, Pk.W (Pk.vsub (v i) p) (Pk.vsub (v (i + 1)) p) = (((Pk.vsub (v (i + 1)) p).2.sign - (Pk.vsub (v i) p).2.sign).natAbs : Int) := fun i => by
    unfold Pk.W
    rw [Int.sign_eq_one_of_pos (h i), Int.mul_one]
  have hge : ∀ m, 0 ≤ Pk.rowW p v 0 m := fun m => by
    induction m with
    | zero => exact Int.le_refl 0
    | succ m ih => rw [Pk.rowW, Nat.zero_add, hW]; omega
  have hall : ∀ m, Pk.rowW p v 0 m = 0 → ∀ i, i ≤ m → (Pk.vsub (v i) p).2.sign = (Pk.vsub (v 0) p).2.sign := fun m => by
    induction m with
    | zero =>
      intro _ i hi
      obtain rfl : i = 0 := by omega
      rfl
    | succ m ih =>
      intro hz i hi
      rw [Pk.rowW, Nat.zero_add, hW] at hz
      have := hge m
      have e := ih (by omega)
      by_cases hlt : i ≤ m
      · exact e i hlt
      · obtain rfl : i = m + 1 := by omega
        have := e m (Nat.le_refl _)
        omega
  have hs := hall n h0
  have far : ∀ k, 1 ≤ k → k ≤ n → 0 < Pk.crs (Pk.vsub (v 0) p) (Pk.vsub (v k) p) := fun k => by
    induction k with
    | zero => intro h; omega
    | succ k ih =>
      intro _ hk
      by_cases k0 : k = 0
      · subst k0; exact h 0
      · have i1 := ih (by omega) (by omega)
        have i2 := h k
        have s1 := hs k (by omega)
        have s2 := hs (k + 1) hk
        obtain ⟨a, ha⟩ : ∃ a, a = Pk.vsub (v 0) p := ⟨_, rfl⟩
        obtain ⟨b, hb⟩ : ∃ b, b = Pk.vsub (v k) p := ⟨_, rfl⟩
        obtain ⟨c, hc⟩ : ∃ c, c = Pk.vsub (v (k + 1)) p := ⟨_, rfl⟩
        rw [← ha, ← hb] at s1 i1
        rw [← ha, ← hc] at s2 ⊢
        rw [← hb, ← hc] at i2
        have key : Pk.crs a c * b.2 = Pk.crs a b * c.2 + Pk.crs b c * a.2 := key2 a b c
        rcases Pk.sign_cases a.2 with ⟨g, ga⟩ | ⟨g, ga⟩ | ⟨g, ga⟩
        · have hb2 : 0 < b.2 := by rw [g] at s1; exact Int.sign_eq_one_iff_pos.1 s1
          have hc2 : 0 < c.2 := by rw [g] at s2; exact Int.sign_eq_one_iff_pos.1 s2
          have q1 := Int.mul_pos i1 hc2
          have q2 := Int.mul_pos i2 ga
          exact pos_of (y := b.2) (by omega) hb2
        · have hb2 : b.2 = 0 := by rw [g] at s1; exact Int.sign_eq_zero_iff_zero.1 s1
          unfold Pk.crs at i1
          rw [hb2, ga] at i1
          omega
        · have hb2 : b.2 < 0 := by rw [g] at s1; exact Int.sign_eq_neg_one_iff_neg.1 s1
          have hc2 : c.2 < 0 := by rw [g] at s2; exact Int.sign_eq_neg_one_iff_neg.1 s2
          have q1 := Int.mul_neg_of_pos_of_neg i1 hc2
          have q2 := Int.mul_neg_of_pos_of_neg i2 ga
          refine pos_of (y := -b.2) ?_ (by omega)
          rw [Int.mul_neg]
          omega
  have e := hper 0
  rw [Nat.zero_add] at e
  have := far n hn (Nat.le_refl _)
  rw [e] at this
  have z : Pk.crs (Pk.vsub (v 0) p) (Pk.vsub (v 0) p) = 0 := by unfold Pk.crs; grind
  omega
theorem Cyc.inside {l H : List (Int × Int)} (c : Cyc l H) (h3 : 3 ≤ H.length) (p : Int × Int) (hp : p ∈ l) : Pk.OnB H.length (postAt H) p ∨ Pk.tot H.length (postAt H) p ≠ 0 := by
  by_cases hb : Pk.OnB H.length (postAt H) p
  · exact .inl hb
  · right
    refine tot_left (by omega) (fun i => postAt_per i) fun i => ?_
    have n1 := c.at i
    rcases n1.all p hp with h | ⟨_, ho⟩
    · have : Pk.crs (Pk.vsub (postAt H i) p) (Pk.vsub (postAt H (i + 1)) p) = cr (sb (postAt H (i + 1)) (postAt H i)) (sb p (postAt H i)) := by unfold Pk.crs Pk.vsub cr sb; grind
      rw [this]
      exact h
    · exact absurd (Pk.OnB.of (c.pen h3) ho) hb
/-- A row of next posts that goes around is the cycle, begun elsewhere. -/
theorem Cyc.around {l H : List (Int × Int)} (c : Cyc l H) {u : Nat → Int × Int} {n : Nat} (hn : 2 ≤ n) (hper : ∀ i, u (i + n) = u i) (hd : ∀ i t, 1 ≤ t → t < n → u i ≠ u (i + t)) (hnx : ∀ i, Nx l (u i) (u (i + 1))) (hall : ∀ q ∈ l, ∃ k, q = u k) :
    H.length = n ∧ ∃ k, ∀ i, postAt H i = u (k + i) := by
  have h2 := c.len
  obtain ⟨k, hk⟩ := hall _ (c.at 0).ma
  have hfol : ∀ i, postAt H i = u (k + i) := fun i => by
    induction i with
    | zero => exact hk
    | succ i ih =>
      have a := c.at i
      have b := hnx (k + i)
      rw [ih] at a
      exact a.uniq b
  have hmore : ∀ i q, u (i + n * q) = u i := fun i q => by
    induction q with
    | zero => rfl
    | succ q ih => rw [Nat.mul_succ, ← Nat.add_assoc, hper, ih]
  have e1 : H.length % n = 0 := by
    apply Classical.byContradiction
    intro h0
    have hlt := Nat.mod_lt H.length (show n > 0 by omega)
    have a := hfol H.length
    have b := hfol 0
    have p0 : postAt H H.length = postAt H 0 := by unfold postAt; rw [Nat.mod_self, Nat.zero_mod]
    have dm := Nat.mod_add_div H.length n
    have m := hmore (k + H.length % n) (H.length / n)
    rw [show k + H.length % n + n * (H.length / n) = k + H.length by omega] at m
    exact hd k (H.length % n) (by omega) hlt (by rw [← m, ← a, p0, b, Nat.add_zero])
  have e2 : n % H.length = 0 := by
    apply Classical.byContradiction
    intro h0
    have hlt := Nat.mod_lt n (show H.length > 0 by omega)
    have a := hfol n
    have b := hfol 0
    rw [hper] at a
    have p0 : postAt H n = postAt H (0 + n % H.length) := by unfold postAt; rw [Nat.zero_add, Nat.mod_mod]
    exact c.distinct 0 (n % H.length) (by omega) hlt (by rw [← p0, a, b, Nat.add_zero])
  exact ⟨Nat.dvd_antisymm (Nat.dvd_of_mod_eq_zero e2) (Nat.dvd_of_mod_eq_zero e1), k, hfol⟩
end
end Go.Proofs.Ytbpmiphipjkdlaa.Hu
