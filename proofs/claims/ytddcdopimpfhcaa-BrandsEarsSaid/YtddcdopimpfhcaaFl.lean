/- Plain: the ears of a brand's list: two of them, no two of them neighbours; cut off and glued on again. -/
import Derived.Test.YtddcdopimpfhcaaFk
import Derived.Test.YtddcdopimpfhcaaCr
namespace Go.Proofs.Ytddcdopimpfhcaa

theorem ofRun_names : ∀ (f : Nat) (q S S' : List Int) (out out' : List (Int × Int)), (ofRun f q S out).isSome = (ofRun f q S' out').isSome
  | 0, _, _, _, _, _ => rfl
  | f + 1, q, S, S', out, out' => by
    rw [ofRun, ofRun]
    split
    · split
      · split
        · rfl
        · exact ofRun_names f _ _ _ _ _
      · rfl
    · split <;> rfl
/-- How many of the first numbers are 1. -/
def earTo (q : List Int) : Nat → Nat
  | 0 => 0
  | k + 1 => earTo q k + if q.getD k 0 = 1 then 1 else 0
theorem earTo_le (q : List Int) : ∀ k, earTo q k ≤ k
  | 0 => Nat.le_refl _
  | k + 1 => by
    have := earTo_le q k
    rw [earTo]
    split <;> omega
theorem earTo_one (q : List Int) {i : Nat} (hi : q.getD i 0 = 1) : ∀ k, i < k → 1 ≤ earTo q k
  | 0, h => by omega
  | k + 1, h => by
    rw [earTo]
    by_cases e : i = k
    · subst e; rw [if_pos hi]; omega
    · have := earTo_one q hi k (by omega)
      omega
theorem earTo_two (q : List Int) {i j : Nat} (hij : i < j) (hi : q.getD i 0 = 1) (hj : q.getD j 0 = 1) : ∀ k, j < k → 2 ≤ earTo q k
  | 0, h => by omega
  | k + 1, h => by
    rw [earTo]
    by_cases e : j = k
    · subst e
      have := earTo_one q hi j hij
      rw [if_pos hj]
      omega
    · have := earTo_two q hij hi hj k (by omega)
      omega
theorem rounds_two {n : Nat} {l : List (Int × Int)} (h : BrandL n l) (h4 : 4 ≤ n) : 2 ≤ earTo (roundOf n l) n := by
  have hR := rd_round h
  obtain ⟨c, d, hc, hd, hcd, fc, fd⟩ := two_ears _ rfl (by rw [natsI_len]; exact h4) (full_nats h)
  have key : ∀ x, x ∈ natsI n → FreeC l x → ∃ i : Nat, x = (i : Int) ∧ i < n ∧ (roundOf n l).getD i 0 = 1 := by
    intro x hx hf
    have hm := mem_nats.1 hx
    obtain ⟨i, rfl⟩ : ∃ i : Nat, x = (i : Int) := ⟨x.toNat, by omega⟩
    have := hR.get i (by rw [natsI_len]; omega)
    rw [natsI_get n i (by omega), cnt_zero.2 hf] at this
    exact ⟨i, rfl, by omega, this⟩
  obtain ⟨i, rfl, hi, ri⟩ := key c hc fc
  obtain ⟨j, rfl, hj, rj⟩ := key d hd fd
  rcases Nat.lt_trichotomy i j with e | e | e
  · exact earTo_two _ e ri rj n hj
  · exact (hcd (by rw [e])).elim
  · exact earTo_two _ e rj ri n hi
structure EarAt (n : Nat) (r : List Int) (c : Nat) (x y : List Int) : Prop where
  next : r.getD ((c + 1) % n) 0 ≠ 1
  cut : cutO r c = some x
  len : x.length + 1 = n
  round : roundB x = true
  of : (ofL x).isSome = true
  glue : glueO x ((c + n - 2) % (n - 1)) = some y
  turn : y.length = n ∧ ∃ s, s < n ∧ ∀ i, i < n → r.getD i 0 = y.getD ((i + s) % n) 0
theorem ear_at {n : Nat} {l : List (Int × Int)} (h : BrandL n l) (h4 : 4 ≤ n) {c : Nat} (hc : c < n) (h1 : (roundOf n l).getD c 0 = 1) : ∃ x y, EarAt n (roundOf n l) c x y := by
  have hs := h.size
  have hR := rd_round h
  have hF := full_nats h
  have hrl : (roundOf n l).length = n := by rw [roundOf, roundTo_len]
  obtain ⟨r, hr⟩ : ∃ r, r = roundOf n l := ⟨_, rfl⟩
  rw [← hr] at h1 hR hrl ⊢
  have hn := natsI_len n
  obtain ⟨_, hF', hR', h2, h3⟩ := hR.ear hF (by rw [hn]; exact h4) (j := c) (by rw [hn]; exact hc) h1
  rw [hn] at h2 h3
  have hcut : cutO r c = some (cutL r c) := by
    unfold cutO
    rw [if_pos]
    rw [hrl]
    exact ⟨by omega, h1, by omega, by omega⟩
  have hx : (cutAt r c).eraseIdx c = cutL r c := rfl
  rw [hx] at hR'
  have hlen : (cutL r c).length + 1 = n := by
    have := cut_len (q := r) (j := c) (by omega)
    rw [hx, hrl] at this
    exact this
  have hSl : ((natsI n).eraseIdx c).length = (cutL r c).length := hR'.len.symm
  have hLl := hF'.len
  have hget : ∀ j, j < (cutL r c).length → 1 ≤ (cutL r c).getD j 0 ∧ (cutL r c).getD j 0 ≤ 11 := fun j hj => by
    have e := hR'.get j (by rw [hSl]; exact hj)
    have hle : cnt (l.erase (lineAt (natsI n) c)) (((natsI n).eraseIdx c).getD j 0) ≤ (l.erase (lineAt (natsI n) c)).length := List.countP_le_length
    omega
  have hround : roundB (cutL r c) = true := roundB_iff.2 ⟨by omega, fun j hj => by have := hget j hj; omega⟩
  have hof : (ofL (cutL r c)).isSome = true := by
    obtain ⟨M, e, _⟩ := ofRun_full (cutL r c).length [] (by omega) (by omega) hF' hR'
    have := ofRun_names (cutL r c).length (cutL r c) (natsI (cutL r c).length) ((natsI n).eraseIdx c) [] []
    rw [e] at this
    rw [ofL, Option.isSome_map, this]
    rfl
  obtain ⟨p, hp⟩ : ∃ p, p = (c + n - 2) % (n - 1) := ⟨_, rfl⟩
  have hpv : p = if c = 0 then n - 2 else c - 1 := by
    rw [hp]
    split
    · rename_i e; subst e; rw [Nat.zero_add]; exact Nat.mod_eq_of_lt (by omega)
    · rw [show c + n - 2 = c - 1 + (n - 1) by omega, Nat.add_mod_right]; exact Nat.mod_eq_of_lt (by omega)
  have hpl : p < (cutL r c).length := by split at hpv <;> omega
  have hnp := nextN_val hpl
  have hnpl : nextN p (cutL r c).length < (cutL r c).length := nextN_lt (by omega)
  have hglue : glueO (cutL r c) p = some (glueL (cutL r c) p) := by
    unfold glueO
    rw [if_pos]
    have := hget p hpl
    have := hget _ hnpl
    exact ⟨by omega, by omega, by omega⟩
  refine ⟨cutL r c, glueL (cutL r c) p, ?_, hcut, hlen, hround, hof, by rw [← hp]; exact hglue, ?_, ?_⟩
  · unfold nextN at h3
    omega
  · unfold glueL
    rw [insL_len _ _ _ (by rw [incAt_len]; omega), incAt_len, hlen]
  · have hxg : ∀ j, (cutL r c).getD j 0 = if j < c then r.getD j 0 - (if j = prevN c n ∨ j = nextN c n then 1 else 0) else r.getD (j + 1) 0 - (if j + 1 = prevN c n ∨ j + 1 = nextN c n then 1 else 0) := by
      intro j
      unfold cutL
      rw [getD_erase, cutI_get (by omega) (by omega), cutI_get (by omega) (by omega), hrl]
    have hyg : ∀ j, (glueL (cutL r c) p).getD j 0 = if j < p + 1 then (cutL r c).getD j 0 + (if j = p ∨ j = nextN p (cutL r c).length then 1 else 0) else if j = p + 1 then 1 else (cutL r c).getD (j - 1) 0 + (if j - 1 = p ∨ j - 1 = nextN p (cutL r c).length then 1 else 0) := by
      intro j
      unfold glueL
      rw [insL_get _ _ _ (by rw [incAt_len]; omega), incAt_get hpl (by omega), incAt_get hpl (by omega)]
    rw [prevN_val hc, nextN_val hc] at hxg
    rw [hnp] at hyg
    by_cases h0 : c = 0
    · rw [if_pos h0] at hpv
      subst h0
      refine ⟨n - 1, by omega, fun i hi => ?_⟩
      by_cases i0 : i = 0
      · subst i0
        rw [Nat.zero_add, Nat.mod_eq_of_lt (by omega), hyg, if_neg (by omega), if_pos (by omega), h1]
      · have hm : (i + (n - 1)) % n = i - 1 := by
          rw [show i + (n - 1) = i - 1 + n by omega, Nat.add_mod_right]
          exact Nat.mod_eq_of_lt (by omega)
        rw [hm, hyg, if_pos (by omega), hxg, if_neg (by omega), if_pos (by omega : p + 1 = (cutL r 0).length), show i - 1 + 1 = i by omega, if_pos rfl, if_neg (by omega : ¬ 0 + 1 = n)]
        by_cases e : i = 1 ∨ i = n - 1
        · rw [if_pos (by omega), if_pos (by omega)]; omega
        · rw [if_neg (by omega), if_neg (by omega)]; omega
    · rw [if_neg h0] at hpv
      refine ⟨0, by omega, fun i hi => ?_⟩
      rw [Nat.add_zero, Nat.mod_eq_of_lt hi, hyg]
      rw [if_neg h0] at hxg
      by_cases hl : c + 1 = n
      · rw [if_pos hl] at hxg
        rw [if_pos (by omega : p + 1 = (cutL r c).length)]
        by_cases ic : i < c
        · rw [if_pos (by omega), hxg, if_pos ic]
          by_cases e : i = c - 1 ∨ i = 0
          · rw [if_pos e, if_pos (by omega)]; omega
          · rw [if_neg e, if_neg (by omega)]; omega
        · obtain rfl : i = c := by omega
          rw [if_neg (by omega), if_pos (by omega), h1]
      · rw [if_neg hl] at hxg
        rw [if_neg (by omega : ¬ p + 1 = (cutL r c).length)]
        rcases Nat.lt_trichotomy i c with e | e | e
        · rw [if_pos (by omega), hxg, if_pos e]
          by_cases e2 : i = c - 1
          · rw [if_pos (.inl e2), if_pos (by omega)]; omega
          · rw [if_neg (by omega), if_neg (by omega)]; omega
        · subst e
          rw [if_neg (by omega), if_pos (by omega), h1]
        · rw [if_neg (by omega), if_neg (by omega), hxg, if_neg (by omega), show i - 1 + 1 = i by omega]
          by_cases e2 : i = c + 1
          · rw [if_pos (.inr e2), if_pos (by omega)]; omega
          · rw [if_neg (by omega), if_neg (by omega)]; omega
end Go.Proofs.Ytddcdopimpfhcaa
