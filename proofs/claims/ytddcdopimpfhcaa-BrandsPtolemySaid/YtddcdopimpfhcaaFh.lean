/- Plain: the numbers between corners are determinants; Of succeeds exactly if the list closes and has the right sum. -/
import Derived.Test.YtddcdopimpfhcaaFg
import Derived.Test.YtddcdopimpfhcaaFd
import Derived.Test.YtddcdopimpfhcaaCl
namespace Go.Proofs.Ytddcdopimpfhcaa

theorem run_seg (q : List Int) (i : Nat) : ∀ r, runL ((List.range r).map fun t => q.getD ((i + t) % q.length) 0) (0, -1) = (eN q i r, ePrev q i r)
  | 0 => rfl
  | r + 1 => by
    rw [List.range_succ, List.map_append, runL_app, run_seg q i r, eN_next]
    rfl
theorem seg_all (q : List Int) : (List.range q.length).map (fun t => q.getD ((0 + t) % q.length) 0) = q := by
  refine getI_ext (by simp) (fun i hi => ?_)
  rw [List.length_map, List.length_range] at hi
  rw [List.getD_eq_getElem?_getD, List.getElem?_map, List.getElem?_range hi, Option.map_some, Option.getD_some, Nat.zero_add, Nat.mod_eq_of_lt hi]
theorem seg_one (x : Int) (q : List Int) : (List.range (q.length + 1)).map (fun t => (x :: q).getD ((1 + t) % (x :: q).length) 0) = q ++ [x] := by
  refine getI_ext (by simp) (fun i hi => ?_)
  rw [List.length_map, List.length_range] at hi
  rw [List.getD_eq_getElem?_getD, List.getElem?_map, List.getElem?_range hi, Option.map_some, Option.getD_some, getD_app, List.length_cons]
  by_cases e : i < q.length
  · rw [if_pos e, Nat.mod_eq_of_lt (by omega), Nat.add_comm, List.getD_cons_succ]
  · obtain rfl : i = q.length := by omega
    rw [if_neg e, Nat.add_comm, Nat.mod_self, Nat.sub_self]
    rfl
theorem closed_mon {q : List Int} (h3 : 3 ≤ q.length) (h : ∀ i, i < q.length → eN q i (q.length - 1) = 1 ∧ eN q i q.length = 0) : Mon (-1) q := by
  rcases q with _ | ⟨x, q⟩
  · simp at h3
  have h0 := h 0 (by omega)
  have h1 := h 1 (by omega)
  have r0 := run_seg (x :: q) 0 (x :: q).length
  have r1 := run_seg (x :: q) 1 (x :: q).length
  rw [seg_all] at r0
  rw [show (x :: q).length = q.length + 1 from rfl] at r1
  rw [show q.length + 1 = (x :: q).length from rfl] at r1
  have e1 := seg_one x q
  rw [show (List.range (x :: q).length) = List.range (q.length + 1) from rfl, e1] at r1
  obtain ⟨m, hm⟩ : ∃ m, (x :: q).length = m + 1 := ⟨q.length, rfl⟩
  rw [hm] at h0 h1 r0 r1
  simp only [ePrev, Nat.add_sub_cancel] at h0 h1 r0 r1
  rw [h0.1, h0.2] at r0
  rw [h1.1, h1.2] at r1
  -- the list keeps (0, -1) and (-1, -x)
  have r2 : runL (x :: q) (-1, -x) = (1, x) := by
    rw [runL_app] at r1
    have e : runL (x :: q) (-1, -x) = runL q (0, -1) := by
      rw [runL]
      congr 1
      simp
    rw [e]
    have h2 := congrArg Prod.fst r1
    have h3 := congrArg Prod.snd r1
    simp only [runL] at h2 h3
    rw [h3] at h2
    exact Prod.ext h3 (by simp only at h2 ⊢; omega)
  intro p
  have l1 := runL_lin (x :: q) (0, 0) (-1, -x) (-p.1)
  have l0 := runL_lin (x :: q) (0 + -p.1 * -1, 0 + -p.1 * -x) (0, -1) (p.1 * x - p.2)
  have z : runL (x :: q) (0, 0) = (0, 0) := by
    have := runL_neg (x :: q) (0, 0)
    simp only [Int.neg_zero] at this
    have h2 := congrArg Prod.fst this
    have h3 := congrArg Prod.snd this
    simp only at h2 h3
    exact Prod.ext (by simp only; omega) (by simp only; omega)
  simp only at l1 l0
  rw [z, r2] at l1
  rw [l1, r0] at l0
  simp only [Int.mul_zero, Int.add_zero, Int.zero_add, Int.mul_neg, Int.neg_mul, Int.neg_neg, Int.mul_one] at l0
  rw [show p.1 * x + -(p.1 * x - p.2) = p.2 by omega] at l0
  rw [l0]
  refine Prod.ext ?_ ?_
  · simp only; omega
  · simp only; omega
/-- The vectors once around and on. -/
def wv (v : Int → Int × Int) (n k : Nat) : Int × Int := if k < n then v k else (-(v ((k - n : Nat) : Int)).1, -(v ((k - n : Nat) : Int)).2)
theorem wv_rec {n : Nat} {L : List (Int × Int)} {v : Int → Int × Int} {q : List Int} (h3 : 3 ≤ n) (hF : Frame (natsI n) L v) (hR : Rd (natsI n) L q) {k : Nat} (h1 : 1 ≤ k) (h2 : k + 1 < 2 * n) :
    q.getD (k % n) 0 * (wv v n k).1 = (wv v n (k - 1)).1 + (wv v n (k + 1)).1 ∧ q.getD (k % n) 0 * (wv v n k).2 = (wv v n (k - 1)).2 + (wv v n (k + 1)).2 := by
  have hq : ∀ j, j < n → q.getD j 0 = 1 + cnt L j := fun j hj => by
    rw [hR.get j (by rw [natsI_len]; exact hj), natsI_get n j hj]
  have hmem : ∀ j : Nat, j < n → (j : Int) ∈ natsI n := fun j hj => mem_nats.2 (by omega)
  have mid : ∀ j : Nat, 1 ≤ j → j + 1 < n → q.getD j 0 * (v j).1 = (v ((j - 1 : Nat) : Int)).1 + (v ((j + 1 : Nat) : Int)).1 ∧ q.getD j 0 * (v j).2 = (v ((j - 1 : Nat) : Int)).2 + (v ((j + 1 : Nat) : Int)).2 := by
    intro j hj1 hj2
    have := hF.recur j (((j - 1 : Nat) : Int), ((j + 1 : Nat) : Int)) (hmem j (by omega)) (.mid _ _ (hmem _ (by omega)) (hmem _ (by omega)) (by omega) (by omega) (fun s hs => by have := mem_nats.1 hs; omega))
    unfold RecAt at this
    simp only at this
    rw [if_neg (by omega), if_neg (by omega), ← hq j (by omega)] at this
    omega
  have fst : q.getD 0 0 * (v 0).1 = (v 1).1 - (v ((n - 1 : Nat) : Int)).1 ∧ q.getD 0 0 * (v 0).2 = (v 1).2 - (v ((n - 1 : Nat) : Int)).2 := by
    have := hF.recur 0 (1, ((n - 1 : Nat) : Int)) (hmem 0 (by omega)) (.fst _ _ (hmem 1 (by omega)) (hmem _ (by omega)) (by omega) (by omega) (fun s hs => by have := mem_nats.1 hs; omega))
    unfold RecAt at this
    simp only at this
    have h0 := hq 0 (by omega)
    simp only [Int.natCast_zero] at h0
    rw [if_neg (by omega), if_pos (by omega), ← h0] at this
    omega
  have lst : q.getD (n - 1) 0 * (v ((n - 1 : Nat) : Int)).1 = (v ((n - 1 - 1 : Nat) : Int)).1 - (v 0).1 ∧ q.getD (n - 1) 0 * (v ((n - 1 : Nat) : Int)).2 = (v ((n - 1 - 1 : Nat) : Int)).2 - (v 0).2 := by
    have := hF.recur ((n - 1 : Nat) : Int) (0, ((n - 1 - 1 : Nat) : Int)) (hmem _ (by omega)) (.lst _ _ (hmem 0 (by omega)) (hmem _ (by omega)) (by omega) (by omega) (fun s hs => by have := mem_nats.1 hs; omega))
    unfold RecAt at this
    simp only at this
    rw [if_pos (by omega), if_neg (by omega), ← hq (n - 1) (by omega)] at this
    omega
  unfold wv
  by_cases hk : k < n
  · rw [Nat.mod_eq_of_lt hk, if_pos hk, if_pos (by omega)]
    by_cases hk1 : k + 1 < n
    · rw [if_pos hk1]
      exact mid k h1 hk1
    · obtain rfl : k = n - 1 := by omega
      rw [if_neg hk1, show n - 1 + 1 - n = 0 by omega]
      simp only [Int.natCast_zero]
      omega
  · have hkn : k % n = k - n := by
      rw [Nat.mod_eq_sub_mod (by omega), Nat.mod_eq_of_lt (by omega)]
    rw [hkn, if_neg hk, if_neg (by omega : ¬ k + 1 < n)]
    by_cases e : k = n
    · subst e
      rw [if_pos (by omega : k - 1 < k), Nat.sub_self, show k + 1 - k = 1 by omega]
      simp only [Int.natCast_zero, Int.natCast_one, Int.mul_neg]
      omega
    · rw [if_neg (by omega : ¬ k - 1 < n)]
      have := mid (k - n) (by omega) (by omega)
      rw [show k - n - 1 = k - 1 - n by omega, show k - n + 1 = k + 1 - n by omega] at this
      simp only [Int.mul_neg]
      omega
theorem detV_neg_right (u w : Int × Int) : detV u (-w.1, -w.2) = - detV u w := by
  unfold detV
  simp only [Int.mul_neg]
  omega
theorem eN_frame {n : Nat} {L : List (Int × Int)} {v : Int → Int × Int} {q : List Int} (h3 : 3 ≤ n) (hF : Frame (natsI n) L v) (hR : Rd (natsI n) L q) {i : Nat} (hi : i < n) :
    ∀ r, r + 1 ≤ n → eN q i r = detV (wv v n i) (wv v n (i + r)) ∧ eN q i (r + 1) = detV (wv v n i) (wv v n (i + r + 1))
  | 0, _ => by
    refine ⟨(detV_self _).symm, ?_⟩
    show 1 = _
    symm
    unfold wv
    rw [if_pos hi, Nat.add_zero]
    by_cases e : i + 1 < n
    · rw [if_pos e]
      exact (hF.one _ _ (mem_nats.2 (by omega)) (mem_nats.2 (by omega)) (by omega)).2 (.inr (.inl fun s hs => by have := mem_nats.1 hs; omega))
    · rw [if_neg e, show i + 1 - n = 0 by omega, detV_neg_right, detV_anti, Int.neg_neg]
      exact (hF.one _ _ (mem_nats.2 (by omega)) (mem_nats.2 (by omega)) (by omega)).2 (.inr (.inr fun s hs => by have := mem_nats.1 hs; omega))
  | r + 1, hr => by
    obtain ⟨h1, h2⟩ := eN_frame h3 hF hR hi r (by omega)
    refine ⟨h2, ?_⟩
    have hq : q.length = n := by rw [hR.len, natsI_len]
    have hw := wv_rec h3 hF hR (k := i + r + 1) (by omega) (by omega)
    rw [Nat.add_sub_cancel] at hw
    show q.getD ((i + (r + 1)) % q.length) 0 * eN q i (r + 1) - eN q i r = _
    rw [h2, h1, hq, ← Nat.add_assoc]
    generalize q.getD ((i + r + 1) % n) 0 = x at hw ⊢
    unfold detV
    have h4 : (wv v n (i + r + 1 + 1)).1 = x * (wv v n (i + r + 1)).1 - (wv v n (i + r)).1 := by omega
    have h5 : (wv v n (i + r + 1 + 1)).2 = x * (wv v n (i + r + 1)).2 - (wv v n (i + r)).2 := by omega
    rw [h4, h5]
    simp only [Int.mul_sub]
    rw [Int.mul_left_comm x, Int.mul_left_comm x]
    omega
theorem eN_vec {n : Nat} {L : List (Int × Int)} {v : Int → Int × Int} {q : List Int} (h3 : 3 ≤ n) (hF : Frame (natsI n) L v) (hR : Rd (natsI n) L q) {i r : Nat} (hi : i < n) (hr : r ≤ n) : eN q i r = detV (wv v n i) (wv v n (i + r)) := by
  rcases r with _ | r
  · exact (eN_frame h3 hF hR hi 0 (by omega)).1
  · exact (eN_frame h3 hF hR hi r hr).2
/-- The number between two corners of a brand. -/
theorem eN_dst {n : Nat} {L : List (Int × Int)} {v : Int → Int × Int} {q : List Int} (h3 : 3 ≤ n) (hF : Frame (natsI n) L v) (hR : Rd (natsI n) L q) {i k : Nat} (hik : i ≤ k) (hk : k < n) : eN q i (k - i) = detV (v i) (v k) := by
  rw [eN_vec h3 hF hR (by omega) (by omega), show i + (k - i) = k by omega]
  unfold wv
  rw [if_pos (by omega), if_pos hk]
theorem eN_around {n : Nat} {L : List (Int × Int)} {v : Int → Int × Int} {q : List Int} (h3 : 3 ≤ n) (hF : Frame (natsI n) L v) (hR : Rd (natsI n) L q) {i k : Nat} (hki : k ≤ i) (hi : i < n) : eN q i (n + k - i) = detV (v k) (v i) := by
  rw [eN_vec h3 hF hR hi (by omega), show i + (n + k - i) = n + k by omega]
  unfold wv
  rw [if_pos hi, if_neg (by omega), Nat.add_sub_cancel_left, detV_neg_right, detV_anti, Int.neg_neg]
theorem closed_frame {n : Nat} {L : List (Int × Int)} {v : Int → Int × Int} {q : List Int} (h3 : 3 ≤ n) (hF : Frame (natsI n) L v) (hR : Rd (natsI n) L q) : closedB q = true := by
  have hq : q.length = n := by rw [hR.len, natsI_len]
  rw [closedB_iff, hq]
  intro i hi
  constructor
  · by_cases e : i = 0
    · subst e
      have := eN_dst h3 hF hR (i := 0) (k := n - 1) (by omega) (by omega)
      rw [Nat.sub_zero] at this
      rw [this]
      exact (hF.one _ _ (mem_nats.2 (by omega)) (mem_nats.2 (by omega)) (by omega)).2 (.inr (.inr fun s hs => by have := mem_nats.1 hs; omega))
    · have := eN_around h3 hF hR (i := i) (k := i - 1) (by omega) hi
      rw [show n + (i - 1) - i = n - 1 by omega] at this
      rw [this]
      exact (hF.one _ _ (mem_nats.2 (by omega)) (mem_nats.2 (by omega)) (by omega)).2 (.inr (.inl fun s hs => by have := mem_nats.1 hs; omega))
  · have := eN_around h3 hF hR (i := i) (k := i) (by omega) hi
    rw [show n + i - i = n by omega] at this
    rw [this, detV_self]
theorem cut_pos {q : List Int} {j : Nat} (hi : j < q.length) (h3 : 3 ≤ q.length) (hm : ¬ min ((cutAt q j).getD (prevN j q.length) 0) ((cutAt q j).getD (nextN j q.length) 0) < 1) (hq : ∀ k, k < q.length → 1 ≤ q.getD k 0) : ∀ k, k < ((cutAt q j).eraseIdx j).length → 1 ≤ ((cutAt q j).eraseIdx j).getD k 0 := by
  have hl := cut_len hi
  have hpos : ∀ k, k < q.length → 1 ≤ (cutAt q j).getD k 0 := by
    intro k hk
    by_cases e1 : k = prevN j q.length
    · rw [← e1] at hm; omega
    · by_cases e2 : k = nextN j q.length
      · rw [← e2] at hm; omega
      · rw [cutI_get hi h3, if_neg (by omega)]
        have := hq k hk
        omega
  intro k hk
  rw [getD_erase]
  split
  · exact hpos k (by omega)
  · exact hpos (k + 1) (by omega)
theorem ofRun_sum : ∀ (f : Nat) {q S : List Int} {out res : List (Int × Int)}, 3 ≤ q.length → (∀ k, k < q.length → 1 ≤ q.getD k 0) → ofRun f q S out = some res → q.sum + 6 = 3 * (q.length : Int)
  | 0, q, S, out, res, h3, hq, h => by simp [ofRun] at h
  | f + 1, q, S, out, res, h3, hq, h => by
    by_cases h4 : 3 < q.length
    · by_cases hi : idxI 1 q < q.length
      · by_cases hm : min ((cutAt q (idxI 1 q)).getD (prevN (idxI 1 q) q.length) 0) ((cutAt q (idxI 1 q)).getD (nextN (idxI 1 q) q.length) 0) < 1
        · rw [ofRun_low h4 hi hm] at h; cases h
        · rw [ofRun_on h4 hi hm] at h
          have hl := cut_len hi
          have ih := ofRun_sum f (by omega) (cut_pos hi h3 hm hq) h
          obtain ⟨x, y, mid, _, _, hr, hr'⟩ := cut_shape hi h4 (idxI_at 1 q hi)
          have e1 := hr.sum
          have e2 := hr'.sum
          simp only [List.sum_cons] at e1 e2
          omega
      · rw [ofRun_none h4 hi] at h; cases h
    · obtain ⟨x, y, z, rfl⟩ := list_three (q := q) (by omega)
      have g0 := hq 0 (by simp)
      have g1 := hq 1 (by simp)
      have g2 := hq 2 (by simp)
      rw [ofRun, if_neg (by simp)] at h
      split at h
      · rename_i h5
        have b0 := le_maxTo [x, y, z] 2 0 (by omega)
        have b1 := le_maxTo [x, y, z] 2 1 (by omega)
        have b2 := le_maxTo [x, y, z] 2 2 (by omega)
        have h5' : maxTo [x, y, z] 2 = 1 := h5
        rw [h5'] at b0 b1 b2
        simp at b0 b1 b2 g0 g1 g2 ⊢
        omega
      · cases h
/-- Of succeeds exactly if the list closes and has the right sum. -/
theorem of_iff {q : List Int} (hq : roundB q = true) : (ofL q).isSome = true ↔ closedB q = true ∧ q.sum = 3 * (q.length : Int) - 6 := by
  obtain ⟨hl, hg⟩ := roundB_iff.1 hq
  constructor
  · intro h
    obtain ⟨res, hr⟩ := Option.isSome_iff_exists.1 h
    obtain ⟨hB, hR⟩ := brand_of hq hr
    obtain ⟨v, hF⟩ := (full_nats hB).frame _ rfl (by rw [natsI_len]; omega)
    have hRd := rd_round hB
    rw [hR] at hRd
    refine ⟨closed_frame hl.1 hF hRd, ?_⟩
    rw [ofL, Option.map_eq_some_iff] at hr
    obtain ⟨M, h1, _⟩ := hr
    have := ofRun_sum _ hl.1 (fun k hk => (hg k hk).1) h1
    omega
  · rintro ⟨hc, hs⟩
    rw [closedB_iff] at hc
    obtain ⟨res, hr⟩ := ofRun_mon q.length (S := natsI q.length) [] (Nat.le_refl _) hl.1 (fun x hx => by
      obtain ⟨i, hi, rfl⟩ := mem_idx hx
      exact (hg i hi).1) (closed_mon hl.1 hc) (by omega)
    rw [ofL, hr]
    rfl
end Go.Proofs.Ytddcdopimpfhcaa
