/- The plain law of rules: a rule is the list of the least sets of what wins by it. -/
import Derived.Test.YtdbleghnblohgaaPv
import Derived.Test.YtdbleghnblohgaaVk
namespace Go.Proofs.Ytdbleghnblohgaa

theorem sorted_eq : ∀ {a b : List Int}, a.Pairwise (· < ·) → b.Pairwise (· < ·) → (∀ x, x ∈ a ↔ x ∈ b) → a = b
  | [], [], _, _, _ => rfl
  | [], y :: b, _, _, h => by have := (h y).2 (by simp); cases this
  | x :: a, [], _, _, h => by have := (h x).1 (by simp); cases this
  | x :: a, y :: b, ha, hb, h => by
    rw [List.pairwise_cons] at ha hb
    have hxy : x = y := by
      have h1 := (h x).1 (by simp)
      have h2 := (h y).2 (by simp)
      simp only [List.mem_cons] at h1 h2
      rcases h1 with h1 | h1
      · exact h1
      · rcases h2 with h2 | h2
        · exact h2.symm
        · have := ha.1 y h2
          have := hb.1 x h1
          omega
    subst hxy
    congr 1
    refine sorted_eq ha.2 hb.2 fun z => ?_
    have hz := h z
    simp only [List.mem_cons] at hz
    constructor
    · intro k
      rcases hz.1 (Or.inr k) with e | e
      · subst e
        have := ha.1 z k
        omega
      · exact e
    · intro k
      rcases hz.2 (Or.inr k) with e | e
      · subst e
        have := hb.1 z k
        omega
      · exact e
theorem least_lt (p : Int → Bool) (n k : Nat) : ∀ x, x ∈ leastTo p n k → x < k := by
  induction k with
  | zero => intro x h; simp [leastTo] at h
  | succ k ih =>
    intro x h
    simp only [leastTo, List.mem_append] at h
    rcases h with h | h
    · have := ih x h
      omega
    · split at h
      · simp only [List.mem_singleton] at h
        omega
      · cases h
theorem least_sorted (p : Int → Bool) (n k : Nat) : (leastTo p n k).Pairwise (· < ·) := by
  induction k with
  | zero => simp [leastTo]
  | succ k ih =>
    simp only [leastTo, List.pairwise_append]
    refine ⟨ih, by split <;> simp, fun x hx y hy => ?_⟩
    have := least_lt p n k x hx
    split at hy
    · simp only [List.mem_singleton] at hy
      omega
    · cases hy
theorem sub_iff (x s : Nat) : subB x s = true ↔ ∀ j, x.testBit j = true → s.testBit j = true := by
  unfold subB
  rw [decide_eq_true_iff]
  simp only [andI, Int.toNat_natCast]
  constructor
  · intro h j hj
    have h' : x &&& s = x := by omega
    have := congrArg (fun y => y.testBit j) h'
    simp only [Nat.testBit_and, hj, Bool.true_and] at this
    exact this
  · intro h
    congr 1
    apply Nat.eq_of_testBit_eq
    intro j
    rw [Nat.testBit_and]
    cases hx : x.testBit j
    · rfl
    · rw [h j hx]; rfl
theorem minus_test (s i j : Nat) (hs : s < 256) (hb : s.testBit i = true) : (s - 2 ^ i).testBit j = (s.testBit j && !decide (j = i)) := by
  have hi : i < 8 := by
    apply Classical.byContradiction
    intro h
    rw [test_high s i hs (by omega)] at hb
    cases hb
  by_cases hj : j < 8
  · simpa using without_test ⟨i, hi⟩ ⟨j, hj⟩ ⟨s, hs⟩ hb
  · have hpos := Nat.two_pow_pos i
    rw [test_high s j hs (by omega), test_high _ j (by omega) (by omega)]
    rfl
/-- What a rule is. -/
structure Rule (m : Nat) (l : List Int) : Prop where
  lo : 1 ≤ m
  hi : m ≤ 5
  ne : l ≠ []
  set : ∀ x, x ∈ l → ∃ s : Nat, x = s ∧ 1 ≤ s ∧ s < 2 ^ m
  inc : l.Pairwise (· < ·)
  anti : ∀ x y, x ∈ l → y ∈ l → subB x y = true → x = y
theorem getD_get {l : List Int} {j : Nat} (h : j < l.length) : l.getD j 0 = l[j] := by
  rw [List.getD_eq_getElem?_getD, List.getElem?_eq_getElem h]
  rfl
theorem clash_iff (l : List Int) (i : Nat) (hi : i ≤ l.length) (x : Int) : clashB (l.take i) x = false ↔ ∀ j, j < i → subB (l.getD j 0) x = false ∧ subB x (l.getD j 0) = false := by
  unfold clashB
  rw [List.any_eq_false]
  constructor
  · intro h j hj
    have := h (l.getD j 0) (by
      rw [List.mem_take_iff_getElem]
      exact ⟨j, by omega, by rw [getD_get (by omega)]⟩)
    simpa using this
  · intro h y hy
    rw [List.mem_take_iff_getElem] at hy
    obtain ⟨j, hj, rfl⟩ := hy
    have := h j (by omega)
    rw [getD_get (by omega)] at this
    simp [this]
theorem ok_iff (m : Nat) (l : List Int) (k : Nat) (hk : k ≤ l.length) : okTo m l k = true ↔ ∀ j, j < k → (1 ≤ l.getD j 0 ∧ l.getD j 0 < 2 ^ m) ∧ (0 < j → l.getD (j - 1) 0 < l.getD j 0) ∧ ∀ i, i < j → subB (l.getD i 0) (l.getD j 0) = false ∧ subB (l.getD j 0) (l.getD i 0) = false := by
  induction k with
  | zero => simp [okTo]
  | succ k ih =>
    simp only [okTo, Bool.and_eq_true, Bool.or_eq_true, decide_eq_true_eq, Bool.not_eq_true']
    rw [ih (by omega), clash_iff l k (by omega)]
    constructor
    · rintro ⟨h1, h2, h3, h4⟩ j hj
      by_cases e : j = k
      · subst e
        exact ⟨h2, fun h => by rcases h3 with h3 | h3 <;> omega, h4⟩
      · exact h1 j (by omega)
    · intro h
      refine ⟨fun j hj => h j (by omega), (h k (by omega)).1, ?_, (h k (by omega)).2.2⟩
      by_cases e : k = 0
      · exact Or.inl e
      · exact Or.inr ((h k (by omega)).2.1 (by omega))
theorem rule_iff (m : Nat) (l : List Int) : isRule m l = true ↔ Rule m l := by
  unfold isRule
  rw [Bool.and_eq_true, decide_eq_true_eq, Int.toNat_natCast, ok_iff m l l.length (Nat.le_refl _)]
  constructor
  · rintro ⟨⟨h1, h2, h3⟩, h⟩
    have hlt : ∀ j, j < l.length → ∀ i, i < j → l.getD i 0 < l.getD j 0 := by
      intro j
      induction j with
      | zero => intro _ i hi; omega
      | succ j ih =>
        intro hj i hi
        have h5 := (h (j + 1) hj).2.1 (by omega)
        by_cases e : i = j
        · subst e; exact h5
        · have := ih (by omega) i (by omega)
          rw [show j + 1 - 1 = j by omega] at h5
          omega
    refine ⟨by omega, by omega, fun e => by subst e; simp at h3, fun x hx => ?_, ?_, fun x y hx hy hxy => ?_⟩
    · obtain ⟨j, hj, rfl⟩ := List.mem_iff_getElem.1 hx
      have h4 := (h j hj).1
      rw [getD_get hj] at h4
      obtain ⟨s, hs⟩ := Int.eq_ofNat_of_zero_le (show 0 ≤ l[j] by omega)
      refine ⟨s, hs, by omega, ?_⟩
      rw [hs] at h4
      exact nat_lt_pow h4.2
    · rw [List.pairwise_iff_getElem]
      intro i j hi hj hij
      have := hlt j hj i hij
      rwa [getD_get hi, getD_get hj] at this
    · obtain ⟨i, hi, rfl⟩ := List.mem_iff_getElem.1 hx
      obtain ⟨j, hj, rfl⟩ := List.mem_iff_getElem.1 hy
      rcases Nat.lt_trichotomy i j with e | e | e
      · have := ((h j hj).2.2 i e).1
        rw [getD_get hi, getD_get hj, hxy] at this
        cases this
      · subst e; rfl
      · have := ((h i hi).2.2 j e).2
        rw [getD_get hi, getD_get hj, hxy] at this
        cases this
  · intro h
    have hp := List.pairwise_iff_getElem.1 h.inc
    have hlo := h.lo
    have hhi := h.hi
    refine ⟨⟨by omega, by omega, List.length_pos_iff.2 h.ne⟩, fun j hj => ⟨?_, fun h0 => ?_, fun i hi => ?_⟩⟩
    · obtain ⟨s, e, h1, h2⟩ := h.set _ (List.getElem_mem hj)
      rw [getD_get hj, e]
      refine ⟨by omega, ?_⟩
      have : ((2 ^ m : Nat) : Int) = 2 ^ m := by simp
      rw [← this]
      omega
    · rw [getD_get hj, getD_get (show j - 1 < l.length by omega)]
      exact hp (j - 1) j (by omega) hj (by omega)
    · rw [getD_get hj, getD_get (show i < l.length by omega)]
      have hlt := hp i j (by omega) hj hi
      refine ⟨?_, ?_⟩
      · cases hs : subB l[i] l[j]
        · rfl
        · have := h.anti _ _ (List.getElem_mem (by omega)) (List.getElem_mem hj) hs
          omega
      · cases hs : subB l[j] l[i]
        · rfl
        · have := h.anti _ _ (List.getElem_mem hj) (List.getElem_mem (by omega)) hs
          omega
/-- With more drovers a set wins as well. -/
def Mono (p : Int → Bool) (n : Nat) : Prop := ∀ a b : Nat, a < 2 ^ n → b < 2 ^ n → (∀ j, a.testBit j = true → b.testBit j = true) → p a = true → p b = true
theorem bool_ext {a b : Bool} (h : a = true ↔ b = true) : a = b := by
  cases a <;> cases b <;> simp at h <;> rfl
theorem rule_least (p : Int → Bool) (n : Nat) (hn : n ≤ 8) (hm : Mono p n) (s : Nat) (hs : s < 2 ^ n) : ruleB (leastTo p n (2 ^ n)) s = p s := by
  apply bool_ext
  unfold ruleB
  rw [any_least p n hn]
  constructor
  · rintro ⟨m, hl, hx⟩
    exact hm m s hl.1 hs ((sub_iff m s).1 hx) hl.2.1
  · intro h
    obtain ⟨m, h1, h2⟩ := least_in p n hn s hs h
    exact ⟨m, h1, (sub_iff m s).2 h2⟩
theorem pow_256 {n : Nat} (hn : n ≤ 8) : 2 ^ n ≤ 256 := Nat.pow_le_pow_right (n := 2) (by decide) hn
theorem least_anti (p : Int → Bool) (n : Nat) (hn : n ≤ 8) (hm : Mono p n) (a b : Nat) (ha : IsLeast p n a) (hb : IsLeast p n b) (h : ∀ j, a.testBit j = true → b.testBit j = true) : a = b := by
  apply Nat.eq_of_testBit_eq
  intro i
  have h256 := pow_256 hn
  have hb1 := hb.1
  cases e : b.testBit i
  · cases ea : a.testBit i
    · rfl
    · rw [h i ea] at e; cases e
  · cases ea : a.testBit i
    · have h1 := hb.2.2 i e
      have hpos := Nat.two_pow_pos i
      have := hm a (b - 2 ^ i) ha.1 (by omega) (fun j hj => by
        rw [minus_test b i j (by omega) e, h j hj]
        have : j ≠ i := fun e' => by subst e'; rw [ea] at hj; cases hj
        simp [this]) ha.2.1
      rw [h1] at this
      cases this
    · rfl
theorem least_rule (p : Int → Bool) (n : Nat) (h1 : 1 ≤ n) (hn : n ≤ 5) (hm : Mono p n) (h0 : p ((0 : Nat) : Int) = false) (hf : p ((2 ^ n - 1 : Nat) : Int) = true) : isRule n (leastTo p n (2 ^ n)) = true := by
  rw [rule_iff]
  have hpos : 0 < 2 ^ n := Nat.two_pow_pos n
  refine ⟨h1, hn, fun e => ?_, fun x hx => ?_, least_sorted _ _ _, fun x y hx hy hxy => ?_⟩
  · obtain ⟨m, h3, _⟩ := least_in p n (by omega) (2 ^ n - 1) (by omega) hf
    have := (mem_least p n (by omega) (2 ^ n) (Nat.le_refl _) m).2 ⟨m, rfl, h3.1, h3⟩
    rw [e] at this
    cases this
  · obtain ⟨s, e, h2, h3⟩ := (mem_least p n (by omega) (2 ^ n) (Nat.le_refl _) x).1 hx
    refine ⟨s, e, ?_, h2⟩
    apply Classical.byContradiction
    intro h4
    obtain rfl : s = 0 := by omega
    rw [h3.2.1] at h0
    cases h0
  · obtain ⟨s, rfl, _, h3⟩ := (mem_least p n (by omega) (2 ^ n) (Nat.le_refl _) x).1 hx
    obtain ⟨t, rfl, _, h5⟩ := (mem_least p n (by omega) (2 ^ n) (Nat.le_refl _) y).1 hy
    rw [least_anti p n (by omega) hm s t h3 h5 ((sub_iff s t).1 hxy)]
theorem rule_mono {m : Nat} {l : List Int} (h : Rule m l) : Mono (ruleB l) m := by
  intro a b _ _ hab hp
  unfold ruleB at hp ⊢
  rw [List.any_eq_true] at hp ⊢
  obtain ⟨x, hx, hs⟩ := hp
  obtain ⟨s, rfl, _⟩ := h.set x hx
  exact ⟨_, hx, (sub_iff s b).2 fun j hj => hab j ((sub_iff s a).1 hs j hj)⟩
theorem least_of_rule {m : Nat} {l : List Int} (hr : isRule m l = true) : leastTo (ruleB l) m (2 ^ m) = l := by
  have h := (rule_iff m l).1 hr
  have h5 := h.hi
  have h256 := pow_256 (show m ≤ 8 by omega)
  refine sorted_eq (least_sorted _ _ _) h.inc fun x => ?_
  rw [mem_least _ m (by omega) (2 ^ m) (Nat.le_refl _)]
  constructor
  · rintro ⟨s, rfl, h1, h2⟩
    have h3 := h2.2.1
    unfold ruleB at h3
    rw [List.any_eq_true] at h3
    obtain ⟨x, hx, hs⟩ := h3
    obtain ⟨t, rfl, _, h4⟩ := h.set x hx
    have ht := (sub_iff t s).1 hs
    have : t = s := by
      apply Nat.eq_of_testBit_eq
      intro i
      cases e : s.testBit i
      · cases ea : t.testBit i
        · rfl
        · rw [ht i ea] at e; cases e
      · cases ea : t.testBit i
        · have h6 := h2.2.2 i e
          have : ruleB l ((s - 2 ^ i : Nat) : Int) = true := by
            unfold ruleB
            rw [List.any_eq_true]
            refine ⟨_, hx, (sub_iff t _).2 fun j hj => ?_⟩
            rw [minus_test s i j (by omega) e, ht j hj]
            have : j ≠ i := fun e' => by subst e'; rw [ea] at hj; cases hj
            simp [this]
          rw [h6] at this
          cases this
        · rfl
    rw [← this]
    exact hx
  · intro hx
    obtain ⟨s, rfl, _, h2⟩ := h.set x hx
    refine ⟨s, rfl, h2, h2, ?_, fun i hi => ?_⟩
    · unfold ruleB
      rw [List.any_eq_true]
      exact ⟨_, hx, (sub_iff s s).2 fun j hj => hj⟩
    · cases e : ruleB l ((s - 2 ^ i : Nat) : Int)
      · rfl
      · exfalso
        unfold ruleB at e
        rw [List.any_eq_true] at e
        obtain ⟨y, hy, hs⟩ := e
        obtain ⟨t, rfl, _, h4⟩ := h.set y hy
        have ht := (sub_iff t _).1 hs
        have hts : ∀ j, t.testBit j = true → s.testBit j = true := fun j hj => by
          have := ht j hj
          rw [minus_test s i j (by omega) hi, Bool.and_eq_true] at this
          exact this.1
        have := h.anti _ _ hy hx ((sub_iff t s).2 hts)
        have : t = s := by omega
        subst this
        have := ht i hi
        rw [minus_test t i i (by omega) hi] at this
        simp at this
theorem least_congr (p q : Int → Bool) (n : Nat) (hn : n ≤ 8) (h : ∀ s : Nat, s < 2 ^ n → p s = q s) : leastTo p n (2 ^ n) = leastTo q n (2 ^ n) := by
  refine sorted_eq (least_sorted _ _ _) (least_sorted _ _ _) fun x => ?_
  rw [mem_least p n hn (2 ^ n) (Nat.le_refl _), mem_least q n hn (2 ^ n) (Nat.le_refl _)]
  have : ∀ s, IsLeast p n s ↔ IsLeast q n s := by
    intro s
    unfold IsLeast
    constructor
    · rintro ⟨h1, h2, h3⟩
      refine ⟨h1, by rw [← h s h1]; exact h2, fun i hi => by have hpos := Nat.two_pow_pos i; rw [← h _ (by omega)]; exact h3 i hi⟩
    · rintro ⟨h1, h2, h3⟩
      refine ⟨h1, by rw [h s h1]; exact h2, fun i hi => by have hpos := Nat.two_pow_pos i; rw [h _ (by omega)]; exact h3 i hi⟩
  simp only [this]
theorem compl_int (m s : Nat) (hs : s < 2 ^ m) : (2 : Int) ^ m - 1 - (s : Int) = ((2 ^ m - (s + 1) : Nat) : Int) := by
  have : ((2 ^ m : Nat) : Int) = 2 ^ m := by simp
  rw [← this]
  omega
theorem other_nat (l : List Int) (m s : Nat) (hs : s < 2 ^ m) : otherB l m s = !ruleB l ((2 ^ m - (s + 1) : Nat) : Int) := by
  unfold otherB
  rw [compl_int m s hs]
theorem other_mono {m : Nat} {l : List Int} (h : Rule m l) : Mono (otherB l m) m := by
  intro a b ha hb hab hp
  rw [other_nat l m a ha, Bool.not_eq_true'] at hp
  rw [other_nat l m b hb, Bool.not_eq_true']
  cases e : ruleB l ((2 ^ m - (b + 1) : Nat) : Int)
  · rfl
  · have := rule_mono h (2 ^ m - (b + 1)) (2 ^ m - (a + 1)) (by omega) (by omega) (fun j hj => by
      rw [Nat.testBit_two_pow_sub_succ hb] at hj
      rw [Nat.testBit_two_pow_sub_succ ha]
      simp only [Bool.and_eq_true, decide_eq_true_eq, Bool.not_eq_true'] at hj ⊢
      refine ⟨hj.1, ?_⟩
      cases ea : a.testBit j
      · rfl
      · rw [hab j ea] at hj; simp at hj) e
    rw [hp] at this
    cases this
theorem rule_zero {m : Nat} {l : List Int} (h : Rule m l) : ruleB l ((0 : Nat) : Int) = false := by
  unfold ruleB
  rw [List.any_eq_false]
  intro x hx hs
  obtain ⟨s, rfl, h1, _⟩ := h.set x hx
  have : s = 0 := by
    apply Nat.eq_of_testBit_eq
    intro j
    cases e : s.testBit j
    · simp
    · have := (sub_iff s 0).1 hs j e
      simp at this
  omega
theorem rule_full {m : Nat} {l : List Int} (h : Rule m l) : ruleB l ((2 ^ m - 1 : Nat) : Int) = true := by
  unfold ruleB
  rw [List.any_eq_true]
  obtain ⟨x, hx⟩ := List.exists_mem_of_ne_nil l h.ne
  obtain ⟨s, rfl, _, h2⟩ := h.set x hx
  refine ⟨_, hx, (sub_iff s _).2 fun j hj => ?_⟩
  rw [Nat.testBit_two_pow_sub_one]
  simp [test_under h2 hj]
/-- The other rule of a rule. -/
def otherOf (m : Nat) (l : List Int) : List Int := leastTo (otherB l m) m (2 ^ m)
theorem other_rule {m : Nat} {l : List Int} (hr : isRule m l = true) : isRule m (otherOf m l) = true := by
  have h := (rule_iff m l).1 hr
  have hpos : 0 < 2 ^ m := Nat.two_pow_pos m
  refine least_rule _ m h.lo h.hi (other_mono h) ?_ ?_
  · rw [other_nat l m 0 hpos, rule_full h]
    rfl
  · rw [other_nat l m _ (by omega), show 2 ^ m - (2 ^ m - 1 + 1) = 0 by omega, rule_zero h]
    rfl
theorem other_sets {m : Nat} {l : List Int} (hr : isRule m l = true) (s : Nat) (hs : s < 2 ^ m) : ruleB (otherOf m l) s = otherB l m s := by
  have h := (rule_iff m l).1 hr
  have := h.hi
  exact rule_least _ m (by omega) (other_mono h) s hs
theorem other_back {m : Nat} {l : List Int} (hr : isRule m l = true) : otherOf m (otherOf m l) = l := by
  have h := (rule_iff m l).1 hr
  have h5 := h.hi
  have hpos : 0 < 2 ^ m := Nat.two_pow_pos m
  unfold otherOf
  rw [least_congr (otherB (leastTo (otherB l m) m (2 ^ m)) m) (ruleB l) m (by omega) fun s hs => ?_]
  · exact least_of_rule hr
  · rw [other_nat _ m s hs]
    have := other_sets hr (2 ^ m - (s + 1)) (by omega)
    unfold otherOf at this
    rw [this, other_nat _ m _ (by omega), Bool.not_not]
    congr 2
    omega
theorem other_not {m : Nat} {l : List Int} (hr : isRule m l = true) (s : Nat) (hs : s < 2 ^ m) : (ruleB (otherOf m l) s != ruleB l (2 ^ m - 1 - s)) = true := by
  rw [other_sets hr s hs, otherB]
  cases ruleB l (2 ^ m - 1 - s) <;> rfl
end Go.Proofs.Ytdbleghnblohgaa
