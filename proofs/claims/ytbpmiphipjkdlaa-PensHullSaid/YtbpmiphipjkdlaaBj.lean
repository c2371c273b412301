/- Plain: a pen that is let in is a pen of the plain theory; where, and Pick's theorem, in the program's words. -/
import Derived.Test.YtbpmiphipjkdlaaBg
import Derived.Test.YtbpmiphipjkdlaaBh
import Derived.Test.YtbpmiphipjkdlaaAs
import Derived.Test.YtbpmiphipjkdlaaKh
namespace Go.Proofs.Ytbpmiphipjkdlaa
open Go.RowKit Go.Shelf

theorem postAt_mod (xs : PtL) (i : Nat) : postAt xs (i % xs.length) = postAt xs i := by unfold postAt; rw [Nat.mod_mod]
theorem side_post (xs : PtL) (i : Nat) : sideAt xs (i % xs.length) = (postAt xs i, postAt xs (i + 1)) := by
  unfold sideAt postAt
  rw [Nat.mod_add_mod]
theorem side_post' (xs : PtL) (i : Nat) (h : i < xs.length) : sideAt xs i = (postAt xs i, postAt xs (i + 1)) := by
  have := side_post xs i
  rwa [Nat.mod_eq_of_lt h] at this
theorem pen_of {xs : PtL} (h : readP xs = true) : Pk.Pen xs.length (postAt xs) := by
  have hg := (readP_iff xs).1 h
  obtain ⟨⟨h3, h10⟩, hr, ht, _⟩ := hg
  have hn : 0 < xs.length := by omega
  unfold readP at h
  simp only [Bool.and_eq_true, decide_eq_true_eq, Bool.not_eq_true'] at h
  obtain ⟨_, h4⟩ := h
  have hsb : ∀ i, i < xs.length → sideBad xs i = false := fun i hi => by
    have := List.any_eq_false.1 h4 ⟨i, hi⟩ (List.mem_finRange _)
    simpa using this
  have hne : ∀ i, i < xs.length → (sideAt xs i).1 ≠ (sideAt xs i).2 := fun i hi => ((sideBad_iff xs i).1 (hsb i hi)).1
  have hpb : ∀ i, i < xs.length → ∀ k, k < xs.length → pairBad xs i k = false := fun i hi => ((sideBad_iff xs i).1 (hsb i hi)).2
  have hne' : ∀ i, postAt xs i ≠ postAt xs (i + 1) := fun i => by
    have := hne (i % xs.length) (Nat.mod_lt _ hn)
    rwa [side_post] at this
  refine ⟨h3, fun i => by unfold postAt; rw [Nat.add_mod_right], hne', fun i => ?_, fun i j h1 h2 => ?_⟩
  · have hp := hpb (i % xs.length) (Nat.mod_lt _ hn) ((i + 1) % xs.length) (Nat.mod_lt _ hn)
    unfold pairBad at hp
    have e1 : (i + 1) % xs.length ≠ i % xs.length := by
      have := mod_next (Nat.mod_lt i hn)
      rw [Nat.mod_add_mod] at this
      rw [this]
      split <;> omega
    rw [if_neg e1, if_pos (by rw [Nat.mod_add_mod]), side_post, side_post] at hp
    rintro ⟨q1, q2⟩
    have c1 : crossP (subP (postAt xs i) (postAt xs (i + 1))) (subP (postAt xs (i + 2)) (postAt xs (i + 1))) = - Pk.crs (Pk.vsub (postAt xs (i + 1)) (postAt xs i)) (Pk.vsub (postAt xs (i + 2)) (postAt xs (i + 1))) := by unfold crossP subP Pk.crs Pk.vsub; grind
    have c2 : dotP (subP (postAt xs i) (postAt xs (i + 1))) (subP (postAt xs (i + 2)) (postAt xs (i + 1))) = - Pk.dt (Pk.vsub (postAt xs (i + 1)) (postAt xs i)) (Pk.vsub (postAt xs (i + 2)) (postAt xs (i + 1))) := by unfold dotP subP Pk.dt Pk.vsub; grind
    rw [q1] at c1
    simp only at hp
    rw [show i + 1 + 1 = i + 2 by omega, c1] at hp
    simp at hp
    omega
  · have hmi := Nat.mod_lt i hn
    have hmj := Nat.mod_lt j hn
    have hd : i % xs.length ≠ j % xs.length ∧ j % xs.length ≠ (i % xs.length + 1) % xs.length ∧ i % xs.length ≠ (j % xs.length + 1) % xs.length := by
      obtain ⟨t, rfl⟩ : ∃ t, j = i + t := ⟨j - i, by omega⟩
      have e1 : (i + t) % xs.length = (i % xs.length + t) % xs.length := (Nat.mod_add_mod i xs.length t).symm
      obtain ⟨r, hr⟩ : ∃ r, r = i % xs.length := ⟨_, rfl⟩
      rw [← hr] at hmi e1 ⊢
      rw [e1]
      have e2 : (r + t) % xs.length = if r + t < xs.length then r + t else r + t - xs.length := by
        split
        · exact Nat.mod_eq_of_lt (by assumption)
        · rw [Nat.mod_eq_sub_mod (by omega), Nat.mod_eq_of_lt (by omega)]
      have hlt := Nat.mod_lt (r + t) hn
      rw [mod_next hmi, mod_next hlt, e2]
      refine ⟨?_, ?_, ?_⟩ <;> (repeat' split) <;> omega
    have hp := hpb (i % xs.length) hmi (j % xs.length) hmj
    unfold pairBad at hp
    rw [if_neg (Ne.symm hd.1), if_neg hd.2.1, if_neg hd.2.2, side_post, side_post] at hp
    unfold meetS at hp
    simp only [Bool.or_eq_false_iff] at hp
    obtain ⟨⟨⟨⟨o1, o2⟩, o3⟩, o4⟩, o5⟩ := hp
    have no : ∀ a b p : Int × Int, onS (a, b) p = false → ¬ Pk.On a b p := fun a b p h ho => by rw [(onS_iff a b p).2 ho] at h; cases h
    refine Pk.sep_of (hne' i) (hne' j) (no _ _ _ o1) (no _ _ _ o2) (no _ _ _ o3) (no _ _ _ o4) ?_
    rintro ⟨x1, x2⟩
    have y1 := (mul_neg_iff _ _).1 (show turnP (postAt xs i) (postAt xs (i + 1)) (postAt xs j) * turnP (postAt xs i) (postAt xs (i + 1)) (postAt xs (j + 1)) < 0 from x1)
    have y2 := (mul_neg_iff _ _).1 (show turnP (postAt xs j) (postAt xs (j + 1)) (postAt xs i) * turnP (postAt xs j) (postAt xs (j + 1)) (postAt xs (i + 1)) < 0 from x2)
    unfold crsS at o5
    simp only at o5
    rw [← Bool.not_eq_true] at o5
    apply o5
    simp only [Bool.and_eq_true, bne_iff_ne]
    exact ⟨⟨⟨y1.1, y2.1⟩, y1.2.1⟩, y1.2.2⟩
theorem area_to (xs : PtL) : ∀ k, k ≤ xs.length → Pk.areaTo (postAt xs) k = sumTo crossS xs k
  | 0, _ => rfl
  | k + 1, h => by
    rw [Pk.areaTo, sumTo, area_to xs k (by omega), side_post' xs k (by omega)]
    rfl
theorem border_to (xs : PtL) : ∀ k, k ≤ xs.length → Pk.borderN (postAt xs) k = sumTo (fun s => (pointsS s : Int)) xs k
  | 0, _ => rfl
  | k + 1, h => by
    have := border_to xs k (by omega)
    unfold Pk.borderN at *
    rw [Pk.nsum, sumTo, this, side_post' xs k (by omega)]
    rfl
/-- A side leads over the height of q to the right of it. -/
theorem crossW_cr (a b q : Int × Int) : crossW q (a, b) = true ↔ Pk.cr a b q ≠ 0 := by
  have e1 : Pk.crs (Pk.vsub a q) (Pk.vsub b q) = turnP a b q := Pk.turn_crs a b q
  have e2 : turnP b a q = - turnP a b q := by unfold turnP crossP subP; grind
  unfold crossW Pk.cr lowP highP
  rw [e1]
  simp only
  by_cases h : b.2 < a.2
  · rw [if_pos h, if_pos h, e2, if_neg (by omega)]
    simp only [Bool.and_eq_true, decide_eq_true_eq]
    split <;> omega
  · rw [if_neg h, if_neg h]
    simp only [Bool.and_eq_true, decide_eq_true_eq]
    split
    · omega
    · rw [if_neg (by omega)]
      omega
theorem cr_small (a b q : Int × Int) : Pk.cr a b q = 0 ∨ Pk.cr a b q = 1 ∨ Pk.cr a b q = -1 := by
  unfold Pk.cr
  repeat' split
  · exact .inr (.inl rfl)
  · exact .inr (.inr rfl)
  · exact .inl rfl
def parTo (xs : PtL) (q : Int × Int) : Nat → Int
  | 0 => -1
  | k + 1 => if crossW q (sideAt xs k) = true then - parTo xs q k else parTo xs q k
theorem parF_to (xs : PtL) (q : Int × Int) : parF xs q (List.finRange xs.length) = parTo xs q xs.length := by
  have h : ∀ k, (hk : k ≤ xs.length) → parF xs q ((List.finRange xs.length).take k) = parTo xs q k := by
    intro k
    induction k with
    | zero => intro _; rfl
    | succ k ih =>
      intro hk
      have hfin : (List.finRange xs.length).take (k + 1) = (List.finRange xs.length).take k ++ [⟨k, by omega⟩] := by
        rw [List.take_succ_eq_append_getElem (by rw [List.length_finRange]; omega)]
        congr 1
        simp
      rw [hfin, parF_more, ih (by omega), parTo]
  have := h xs.length (Nat.le_refl _)
  rwa [List.take_of_length_le (by rw [List.length_finRange]; exact Nat.le_refl _)] at this
theorem parTo_cr (xs : PtL) (q : Int × Int) : ∀ k, k ≤ xs.length → parTo xs q k = if Pk.crSum q (postAt xs) 0 k % 2 = 0 then -1 else 1
  | 0, _ => rfl
  | k + 1, h => by
    have e := crossW_cr (postAt xs k) (postAt xs (k + 1)) q
    have hs := cr_small (postAt xs k) (postAt xs (k + 1)) q
    rw [parTo, parTo_cr xs q k (by omega), side_post' xs k (by omega), Pk.crSum, Nat.zero_add]
    by_cases hc : crossW q (postAt xs k, postAt xs (k + 1)) = true
    · rw [if_pos hc]
      have := e.1 hc
      repeat' split
      all_goals omega
    · rw [if_neg hc]
      have : Pk.cr (postAt xs k) (postAt xs (k + 1)) q = 0 := by
        apply Classical.byContradiction
        intro hn
        exact hc (e.2 hn)
      rw [this, Int.add_zero]
theorem any_on (xs : PtL) (q : Int × Int) : ((List.finRange xs.length).any fun i => onS (sideAt xs i.val) q) = true ↔ Pk.OnB xs.length (postAt xs) q := by
  rw [List.any_eq_true]
  constructor
  · rintro ⟨i, _, hi⟩
    rw [side_post' xs i.val i.isLt, onS_iff] at hi
    exact ⟨i.val, i.isLt, hi⟩
  · rintro ⟨i, hi, ho⟩
    refine ⟨⟨i, hi⟩, List.mem_finRange _, ?_⟩
    rw [side_post' xs i hi, onS_iff]
    exact ho
/-- Where a point is, by its turns. -/
theorem where_tot {xs : PtL} (h : readP xs = true) (q : Int × Int) : whereP xs q = if Pk.OnB xs.length (postAt xs) q then 0 else if Pk.tot xs.length (postAt xs) q = 0 then -1 else 1 := by
  have hp := pen_of h
  unfold whereP
  by_cases hb : Pk.OnB xs.length (postAt xs) q
  · rw [if_pos ((any_on xs q).2 hb), if_pos hb]
  · rw [if_neg (fun e => hb ((any_on xs q).1 e)), if_neg hb, parF_to, parTo_cr xs q _ (Nat.le_refl _)]
    have hoff : ∀ i, ¬ Pk.On (postAt xs i) (postAt xs (i + 1)) q := fun i ho => hb (Pk.OnB.of hp ho)
    have h1 := Pk.tot_cr hp.per hoff
    have h2 := Pk.tot_off hp hoff
    have h3 := Pk.rho_two hp
    rw [h1] at h2 ⊢
    repeat' split
    all_goals omega
/-- The number of points inside. -/
def insideP (xs : PtL) : Int := Pk.box 50 fun q => if whereP xs q = 1 then 1 else 0
theorem inside_box {xs : PtL} (h : readP xs = true) : insideP xs = Pk.box 50 (Pk.inI xs.length (postAt xs)) := by
  unfold insideP
  refine Pk.box_congr fun p _ => ?_
  rw [where_tot h]
  unfold Pk.inI
  repeat' split
  all_goals omega
theorem post_in {xs : PtL} (h : readP xs = true) (i : Nat) : Pk.inSq 50 (postAt xs i) := by
  have := (near_all h).1 (i % xs.length)
  unfold inB at this
  unfold Pk.inSq postAt
  omega
/-- Pick's theorem for the pens that are let in. -/
theorem pick_read {xs : PtL} (h : readP xs = true) : ((twiceP xs).natAbs : Int) = 2 * insideP xs + borderP xs - 2 := by
  have h1 := Pk.pick (pen_of h) (M := 50) (post_in h)
  rw [area_to xs _ (Nat.le_refl _), border_to xs _ (Nat.le_refl _), ← inside_box h, signedR_eq, ← sumF_sumTo] at h1
  exact h1
theorem ins_inside {xs : PtL} (h : readP xs = true) : insG xs 1 = insideP xs := by
  have h1 := pick_read h
  have h2 := two_ins xs (by have := (near_all h).2.1; omega) 1
  omega
theorem inside_nonneg (xs : PtL) : 0 ≤ insideP xs := Pk.box_nonneg fun p => by split <;> omega
theorem border_ge {xs : PtL} (h : readP xs = true) : 3 ≤ borderP xs := by
  have h1 := Pk.borderN_ge (pen_of h) xs.length
  rw [border_to xs _ (Nat.le_refl _), ← sumF_sumTo] at h1
  have h2 := (near_all h).2.1
  unfold borderP
  omega
end Go.Proofs.Ytbpmiphipjkdlaa
