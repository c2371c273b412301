/- VoteKindly's plain law, fourth part: what the law folds over the least sets. -/
import Derived.Test.YtdbleghnblohgaaPu
namespace Go.Proofs.Ytdbleghnblohgaa

def someTo (L : List Int) : Nat → Int
  | 0 => 0
  | k + 1 => orI (someTo L k) (L.getD k 0)
def allOf (n : Nat) (L : List Int) : Nat → Int
  | 0 => 2 ^ n - 1
  | k + 1 => andI (allOf n L k) (L.getD k 0)
def oneTo (L : List Int) : Nat → Int
  | 0 => 0
  | k + 1 => if andI (L.getD k 0) (L.getD k 0 - 1) = 0 then orI (oneTo L k) (L.getD k 0) else oneTo L k
/-- The members of a list are sets. -/
def Sets (L : List Int) : Prop := ∀ x, x ∈ L → 0 ≤ x ∧ x < 256
theorem Sets.tells {L : List Int} (h : Sets L) (k : Nat) (hk : k < L.length) : Tells8 (L.getD k 0) (fun j => (L.getD k 0).toNat.testBit j) := by
  have h1 := h (L.getD k 0) (by rw [List.getD_eq_getElem?_getD, List.getElem?_eq_getElem hk]; exact List.getElem_mem hk)
  have := tells_self (L.getD k 0).toNat (by omega)
  rwa [Int.toNat_of_nonneg h1.1] at this
theorem take_snoc (L : List Int) (k : Nat) (hk : k < L.length) : L.take (k + 1) = L.take k ++ [L.getD k 0] := by
  rw [List.take_succ_eq_append_getElem hk, List.getD_eq_getElem?_getD, List.getElem?_eq_getElem hk]; rfl
theorem tells_some (L : List Int) (h : Sets L) (k : Nat) (hk : k ≤ L.length) : Tells8 (someTo L k) (fun j => (L.take k).any fun x => x.toNat.testBit j) := by
  induction k with
  | zero => exact tells_zero.congr fun j _ => by simp
  | succ k ih =>
    refine (tells_or (ih (by omega)) (h.tells k (by omega))).congr fun j _ => ?_
    rw [take_snoc L k (by omega), List.any_append]
    simp
theorem tells_all (n : Nat) (hn : n ≤ 8) (L : List Int) (h : Sets L) (k : Nat) (hk : k ≤ L.length) : Tells8 (allOf n L k) (fun j => decide (j < n) && (L.take k).all fun x => x.toNat.testBit j) := by
  induction k with
  | zero => exact (tells_full n hn).congr fun j _ => by simp
  | succ k ih =>
    refine (tells_and (ih (by omega)) (h.tells k (by omega))).congr fun j _ => ?_
    rw [take_snoc L k (by omega), List.all_append]
    simp [Bool.and_assoc]
theorem tells_one (L : List Int) (h : Sets L) (k : Nat) (hk : k ≤ L.length) : Tells8 (oneTo L k) (fun j => (L.take k).any fun x => decide (andI x (x - 1) = 0) && x.toNat.testBit j) := by
  induction k with
  | zero => exact tells_zero.congr fun j _ => by simp
  | succ k ih =>
    simp only [oneTo]
    split
    · rename_i he
      refine (tells_or (ih (by omega)) (h.tells k (by omega))).congr fun j _ => ?_
      rw [take_snoc L k (by omega), List.any_append, List.any_cons, List.any_nil, Bool.or_false, decide_eq_true he, Bool.true_and]
    · rename_i he
      refine (ih (by omega)).congr fun j _ => ?_
      rw [take_snoc L k (by omega), List.any_append, List.any_cons, List.any_nil, Bool.or_false, decide_eq_false he, Bool.false_and, Bool.or_false]
theorem least_sets (p : Int → Bool) (n : Nat) (hn : n ≤ 8) : Sets (leastTo p n (2 ^ n)) := by
  have h256 : 2 ^ n ≤ 256 := Nat.pow_le_pow_right (n := 2) (by decide) hn
  intro x hx
  obtain ⟨s, rfl, h1, _⟩ := (mem_least p n hn (2 ^ n) (Nat.le_refl _) x).1 hx
  omega
theorem any_least (p : Int → Bool) (n : Nat) (hn : n ≤ 8) (f : Int → Bool) : (leastTo p n (2 ^ n)).any f = true ↔ ∃ m : Nat, IsLeast p n m ∧ f m = true := by
  rw [List.any_eq_true]
  constructor
  · rintro ⟨x, hx, hf⟩
    obtain ⟨s, rfl, h1, h2⟩ := (mem_least p n hn (2 ^ n) (Nat.le_refl _) x).1 hx
    exact ⟨s, h2, hf⟩
  · rintro ⟨m, hm, hf⟩
    exact ⟨m, (mem_least p n hn (2 ^ n) (Nat.le_refl _) m).2 ⟨m, rfl, hm.1, hm⟩, hf⟩
theorem all_least (p : Int → Bool) (n : Nat) (hn : n ≤ 8) (f : Int → Bool) : (leastTo p n (2 ^ n)).all f = true ↔ ∀ m : Nat, IsLeast p n m → f m = true := by
  rw [List.all_eq_true]
  constructor
  · intro h m hm
    exact h m ((mem_least p n hn (2 ^ n) (Nat.le_refl _) m).2 ⟨m, rfl, hm.1, hm⟩)
  · intro h x hx
    obtain ⟨s, rfl, h1, h2⟩ := (mem_least p n hn (2 ^ n) (Nat.le_refl _) x).1 hx
    exact h s h2
theorem bool_iff {a b : Bool} (h : a = true ↔ b = true) : a = b := by
  cases a <;> cases b <;> simp_all
theorem pow_one : ∀ m : Fin 256, ∀ j : Fin 8, andI ((m.val : Nat) : Int) (((m.val : Nat) : Int) - 1) = 0 → m.val.testBit j = true → m.val = 2 ^ j.val := by decide +kernel
theorem one_pow : ∀ j : Fin 8, andI ((2 : Int) ^ j.val) ((2 : Int) ^ j.val - 1) = 0 ∧ (2 ^ j.val).testBit j = true := by decide +kernel
theorem pow_bits : ∀ j i : Fin 8, (2 ^ j.val).testBit i = decide (i = j) := by decide +kernel
/-- The drovers in every least set are those whose lack loses. -/
theorem every_all (q : Int) (l : List Int) (hw : ∀ j, j < l.length → 0 ≤ l.getD j 0 ∧ l.getD j 0 ≤ 1000) (h8 : l.length ≤ 8) :
    everyTo (winB q l) l.length l.length = allOf l.length (leastTo (winB q l) l.length (2 ^ l.length)) (leastTo (winB q l) l.length (2 ^ l.length)).length := by
  have h256 : 2 ^ l.length ≤ 256 := Nat.pow_le_pow_right (n := 2) (by decide) h8
  have hpos := Nat.two_pow_pos l.length
  refine (tells_every (winB q l) l.length l.length h8).eq ((tells_all l.length h8 _ (least_sets _ _ h8) _ (Nat.le_refl _)).congr fun j hj => ?_)
  rw [List.take_length]
  by_cases hjl : j < l.length
  · simp only [hjl, decide_true, Bool.true_and]
    have ft := full_test ⟨l.length, by omega⟩
    simp only at ft
    have hb : (2 ^ l.length - 1).testBit j = true := by rw [ft ⟨j, hj⟩]; simpa using hjl
    have hwn := without_nat ⟨j, hj⟩ ⟨2 ^ l.length - 1, by omega⟩ hb
    simp only at hwn
    rw [full_int] at hwn
    rw [hwn]
    apply bool_iff
    rw [all_least _ _ h8, Bool.not_eq_true']
    constructor
    · intro h
      cases hp : winB q l ((2 ^ l.length - 1 - 2 ^ j : Nat) : Int)
      · rfl
      · exfalso
        obtain ⟨m, hm, hsub⟩ := least_in (winB q l) l.length h8 (2 ^ l.length - 1 - 2 ^ j) (by have := Nat.two_pow_pos j; omega) hp
        have h1 := hsub j (by have := h m hm; simpa using this)
        have h2 := without_test ⟨j, hj⟩ ⟨j, hj⟩ ⟨2 ^ l.length - 1, by omega⟩ hb
        simp only at h2
        rw [h2] at h1
        simp at h1
    · intro h m hm
      cases hb' : ((m : Int).toNat).testBit j
      · exfalso
        rw [Int.toNat_natCast] at hb'
        have := win_sub q l hw m (2 ^ l.length - 1 - 2 ^ j) (fun i hi => by
          have hi' := test_under hm.1 hi
          have h2 := without_test ⟨j, hj⟩ ⟨i, by omega⟩ ⟨2 ^ l.length - 1, by omega⟩ hb
          simp only at h2
          rw [h2, ft ⟨i, by omega⟩]
          have : ¬ i = j := fun e => by subst e; rw [hb'] at hi; cases hi
          simp [hi', this]) hm.2.1
        rw [h] at this
        cases this
      · rfl
  · simp [hjl]
/-- The drovers that are a least set alone are those who win alone. -/
theorem single_one (q : Int) (l : List Int) (hbody : bodyB q l = true) :
    singleTo (winB q l) l.length = oneTo (leastTo (winB q l) l.length (2 ^ l.length)) (leastTo (winB q l) l.length (2 ^ l.length)).length := by
  obtain ⟨h1, h8, hw, hq, hqa⟩ := of_decide_eq_true hbody
  have h256 : 2 ^ l.length ≤ 256 := Nat.pow_le_pow_right (n := 2) (by decide) h8
  refine (tells_single (winB q l) l.length h8).eq ((tells_one _ (least_sets _ _ h8) _ (Nat.le_refl _)).congr fun j hj => ?_)
  rw [List.take_length]
  apply bool_iff
  rw [any_least _ _ h8, Bool.and_eq_true, decide_eq_true_eq]
  constructor
  · rintro ⟨m, hm, hf⟩
    simp only [Bool.and_eq_true, decide_eq_true_eq, Int.toNat_natCast] at hf
    have := hm.1
    have e := pow_one ⟨m, by omega⟩ ⟨j, hj⟩ hf.1 hf.2
    simp only at e
    refine ⟨test_under hm.1 hf.2, ?_⟩
    have h2 := hm.2.1
    rw [e, nat_pow] at h2
    exact h2
  · rintro ⟨hjl, hp⟩
    obtain ⟨h2, h3⟩ := one_pow ⟨j, hj⟩
    simp only at h2 h3
    refine ⟨2 ^ j, ⟨Nat.pow_lt_pow_right (by decide) hjl, by rw [nat_pow]; exact hp, fun i hi => ?_⟩, ?_⟩
    · have hi8 : i < 8 := by
        apply Classical.byContradiction
        intro hn
        rw [test_high (2 ^ j) i (Nat.pow_lt_pow_right (a := 2) (m := j) (n := 8) (by decide) hj) (by omega)] at hi
        cases hi
      have := pow_bits ⟨j, hj⟩ ⟨i, hi8⟩
      simp only at this
      rw [this] at hi
      have e : i = j := by simpa using hi
      subst e
      rw [Nat.sub_self]
      exact decide_eq_false (by rw [show ((0 : Nat) : Int) = 0 from rfl, sum_zero]; omega)
    · simp only [Bool.and_eq_true, decide_eq_true_eq, Int.toNat_natCast, h3, and_true]
      rw [nat_pow]
      exact h2
/-- Whether a drover is in some least set, by whether they turn anything. -/
theorem some_turn (q : Int) (l : List Int) (hw : ∀ j, j < l.length → 0 ≤ l.getD j 0 ∧ l.getD j 0 ≤ 1000) (h8 : l.length ≤ 8) (i : Nat) (hi : i < l.length) :
    someTo (leastTo (winB q l) l.length (2 ^ l.length)) (leastTo (winB q l) l.length (2 ^ l.length)).length / 2 ^ i % 2 = if turnsIn (winB q l) i (2 ^ l.length) = [] then 0 else 1 := by
  rw [(tells_some _ (least_sets _ _ h8) _ (Nat.le_refl _)).bit i (by omega), List.take_length]
  have h1 := no_turn q l hw h8 i hi
  by_cases h : turnsIn (winB q l) i (2 ^ l.length) = []
  · rw [if_pos h, if_neg]
    rw [any_least _ _ h8]
    rintro ⟨m, hm, hf⟩
    rw [Int.toNat_natCast, h1.1 h m hm] at hf
    cases hf
  · rw [if_neg h, if_pos]
    rw [any_least _ _ h8]
    apply Classical.byContradiction
    intro hn
    apply h
    rw [h1]
    intro m hm
    cases hb : m.testBit i
    · rfl
    · exact absurd ⟨m, hm, by rw [Int.toNat_natCast]; exact hb⟩ hn
theorem none_turn (p : Int → Bool) (n : Nat) (hn : n ≤ 8) (i : Nat) (hi : i < n) : noneOf n (turnsTo p n n) / 2 ^ i % 2 = if turnsIn p i (2 ^ n) = [] then 1 else 0 := by
  rw [(tells_none n hn (turnsTo p n n) (fun x hx => by have := ((mem_turnsTo p n n x).1 hx).1; omega)).bit i (by omega)]
  simp only [hi, decide_true, Bool.true_and]
  by_cases h : turnsIn p i (2 ^ n) = []
  · rw [if_pos h, if_pos]
    rw [Bool.not_eq_true', List.any_eq_false]
    intro x hx he
    simp only [decide_eq_true_eq] at he
    have := ((mem_turnsTo p n n x).1 hx).2
    rw [he, h] at this
    cases this
  · rw [if_neg h, if_neg]
    rw [Bool.not_eq_true', Bool.not_eq_false, List.any_eq_true]
    obtain ⟨x, hx⟩ := List.exists_mem_of_ne_nil _ h
    have := ((mem_turnsIn p i (2 ^ n) x).1 hx).1
    exact ⟨x, (mem_turnsTo p n n x).2 ⟨by omega, by rw [this]; exact hx⟩, by simpa using this⟩
theorem none_lt (p : Int → Bool) (n : Nat) (_hn : n ≤ 8) : 0 ≤ noneOf n (turnsTo p n n) ∧ noneOf n (turnsTo p n n) < 2 ^ n := by
  have hpos := Nat.two_pow_pos n
  have H : ∀ (acc : List (Nat × Nat)) (m : Int), 0 ≤ m ∧ m < 2 ^ n → 0 ≤ acc.foldl (fun m x => without m x.1) m ∧ acc.foldl (fun m x => without m x.1) m < 2 ^ n := by
    intro acc
    induction acc with
    | nil => intro m h; exact h
    | cons x acc ih =>
      intro m h
      rw [List.foldl_cons]
      have := without_range m x.1 n h.1 h.2
      exact ih _ ⟨this.1, by omega⟩
  refine H _ _ ⟨?_, by omega⟩
  rw [← full_int]; omega
end Go.Proofs.Ytdbleghnblohgaa
