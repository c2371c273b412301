/- Plain: what Round, Triangles and Of compute, in the words of the corners and lines of a brand. -/
import Derived.Test.YtddcdopimpfhcaaEc
import Derived.Test.YtddcdopimpfhcaaFc
import Derived.Test.YtddcdopimpfhcaaFf
namespace Go.Proofs.Ytddcdopimpfhcaa

theorem mem_nats {n : Nat} {x : Int} : x ∈ natsI n ↔ 0 ≤ x ∧ x < n := by
  unfold natsI
  rw [List.mem_map]
  constructor
  · rintro ⟨k, hk, rfl⟩
    have := List.mem_range.1 hk
    simp only [Int.ofNat_eq_natCast]
    omega
  · rintro ⟨h1, h2⟩
    exact ⟨x.toNat, List.mem_range.2 (by omega), by simp only [Int.ofNat_eq_natCast]; omega⟩
theorem nats_sorted (n : Nat) : (natsI n).Pairwise (· < ·) := by
  unfold natsI
  rw [List.pairwise_map]
  exact List.pairwise_lt_range.imp fun h => by simp only [Int.ofNat_eq_natCast]; omega
theorem full_nats {n : Nat} {l : List (Int × Int)} (h : BrandL n l) : Full (natsI n) l := by
  have hs := h.size
  refine ⟨⟨nats_sorted n, h.nodup, fun p hp => ?_, fun p hp q hq => h.crs p hp q hq⟩, by rw [natsI_len]; omega⟩
  have hl := h.line p hp
  unfold lineP at hl
  refine ⟨mem_nats.2 (by omega), mem_nats.2 (by omega), ⟨p.1 + 1, mem_nats.2 (by omega), by omega, by omega⟩, ?_⟩
  by_cases e : p.1 = 0
  · exact ⟨n - 1, mem_nats.2 (by omega), by omega⟩
  · exact ⟨0, mem_nats.2 (by omega), by omega⟩
theorem brand_sort {n : Nat} {M : List (Int × Int)} (h3 : 3 ≤ n) (h12 : n ≤ 12) (h : Full (natsI n) M) : BrandL n (sortL M) := by
  have hp := sortL_perm M
  have hl := h.len
  rw [natsI_len] at hl
  refine ⟨⟨by omega, by omega, by rw [hp.length_eq]; omega⟩, fun x hx => ?_, hp.nodup_iff.2 h.part.nodup, sortL_srt M, fun x hx y hy => h.part.free x (hp.mem_iff.1 hx) y (hp.mem_iff.1 hy)⟩
  have hL := h.part.line x (hp.mem_iff.1 hx)
  have h1 := mem_nats.1 hL.fst
  have h2 := mem_nats.1 hL.snd
  obtain ⟨s, hs, h5⟩ := hL.mid
  obtain ⟨t, ht, h6⟩ := hL.out
  have h7 := mem_nats.1 ht
  unfold lineP
  omega
theorem sort_same {n : Int} {l M : List (Int × Int)} (h : BrandL n l) (hp : M.Perm l) : sortL M = l :=
  srt_eq (sortL_srt M) h.srt ((sortL_perm M).trans hp) fun x hx => line_inR h.size.2.1 (h.line x (hp.mem_iff.1 ((sortL_perm M).mem_iff.1 hx)))
theorem near_nats {n : Nat} {l : List (Int × Int)} {a b : Nat} (hab : a < b) (hb : b < n) : jn n l a b = true ↔ Nearby (natsI n) l a b := by
  unfold jn joinB nbB Nearby Adj
  rw [Bool.or_eq_true, decide_eq_true_iff, List.contains_iff_mem]
  constructor
  · rintro (h | h)
    · right
      by_cases e : b = a + 1
      · left
        intro s _
        omega
      · right
        intro s hs
        have := mem_nats.1 hs
        omega
    · exact .inl h
  · rintro (h | h | h)
    · exact .inr h
    · left
      have := h (a + 1) (mem_nats.2 (by omega))
      omega
    · left
      have h1 := h 0 (mem_nats.2 (by omega))
      have h2 := h (n - 1) (mem_nats.2 (by omega))
      omega
theorem triC_in (J : Nat → Nat → Bool) (a b : Nat) (h1 : J a b = true) {c : Nat} (hbc : b < c) (h2 : J b c = true) (h3 : J a c = true) : ∀ m, c < m → (a, b, c) ∈ triC J a b m
  | 0, h => by omega
  | m + 1, h => by
    rw [triC, List.mem_append]
    by_cases e : c = m
    · subst e
      right
      rw [if_pos ⟨hbc, h1, h2, h3⟩]
      simp
    · exact .inl (triC_in J a b h1 hbc h2 h3 m (by omega))
theorem triB_in (J : Nat → Nat → Bool) (n a : Nat) {b c : Nat} (hab : a < b) (h : (a, b, c) ∈ triC J a b n) : ∀ m, b < m → (a, b, c) ∈ triB J n a m
  | 0, h => by omega
  | m + 1, hm => by
    rw [triB, List.mem_append]
    by_cases e : b = m
    · subst e
      right
      rw [if_pos hab]
      exact h
    · exact .inl (triB_in J n a hab h m (by omega))
theorem triA_in (J : Nat → Nat → Bool) (n : Nat) {a b c : Nat} (h : (a, b, c) ∈ triB J n a n) : ∀ m, a < m → (a, b, c) ∈ triA J n m
  | 0, h => by omega
  | m + 1, hm => by
    rw [triA, List.mem_append]
    by_cases e : a = m
    · subst e
      exact .inr h
    · exact .inl (triA_in J n h m (by omega))
theorem trC_nodup (J : Nat → Nat → Bool) (a b : Nat) : ∀ c, (triC J a b c).Nodup
  | 0 => List.Pairwise.nil
  | c + 1 => by
    rw [triC]
    refine List.nodup_append.2 ⟨trC_nodup J a b c, by split <;> simp, fun x hx y hy => ?_⟩
    have h1 := (triC_mem J a b c x hx).2.2.1
    split at hy
    · simp at hy; subst hy; intro e; rw [e] at h1; exact Nat.lt_irrefl _ h1
    · simp at hy
theorem trB_nodup (J : Nat → Nat → Bool) (n a : Nat) : ∀ b, (triB J n a b).Nodup
  | 0 => List.Pairwise.nil
  | b + 1 => by
    rw [triB]
    refine List.nodup_append.2 ⟨trB_nodup J n a b, ?_, fun x hx y hy => ?_⟩
    · split
      · exact trC_nodup J a b n
      · exact List.Pairwise.nil
    · have h1 := (triB_mem J n a b x hx).2.1
      split at hy
      · have h2 := (triC_mem J a b n y hy).2.1
        intro e; rw [e] at h1; omega
      · simp at hy
theorem trA_nodup (J : Nat → Nat → Bool) (n : Nat) : ∀ a, (triA J n a).Nodup
  | 0 => List.Pairwise.nil
  | a + 1 => by
    rw [triA]
    refine List.nodup_append.2 ⟨trA_nodup J n a, trB_nodup J n a n, fun x hx y hy => ?_⟩
    have h1 := (triA_mem J n a x hx).1
    have h2 := (triB_mem J n a n y hy).2.2.1
    intro e; rw [e] at h1; omega
def triI (t : Tri) : Tr := ((t.1 : Int), (t.2.1 : Int), (t.2.2 : Int))
theorem triI_inj {s t : Tri} (h : triI s = triI t) : s = t := by
  unfold triI at h
  have h1 := congrArg Prod.fst h
  have h2 := congrArg (fun x => x.2.1) h
  have h3 := congrArg (fun x => x.2.2) h
  simp only at h1 h2 h3
  exact Prod.ext (by omega) (Prod.ext (by omega) (by omega))
theorem map_nodup {l : List Tri} (h : l.Nodup) : (l.map triI).Nodup := by
  unfold List.Nodup at h ⊢
  rw [List.pairwise_map]
  exact h.imp fun h e => h (triI_inj e)
theorem tris_nats (n : Nat) (l : List (Int × Int)) : Tris (natsI n) l ((trisOf (jn n l) n).map triI) := by
  refine ⟨map_nodup (trA_nodup _ _ _), fun t => ?_⟩
  rw [List.mem_map]
  constructor
  · rintro ⟨s, hs, rfl⟩
    obtain ⟨h1, h2, h3, h4, j1, j2, j3⟩ := triA_mem _ _ _ _ hs
    refine ⟨mem_nats.2 ?_, mem_nats.2 ?_, mem_nats.2 ?_, ?_, ?_, (near_nats h2 (by omega)).1 j1, (near_nats h3 h4).1 j2, (near_nats (by omega) h4).1 j3⟩ <;> simp only [triI] <;> omega
  · intro h
    obtain ⟨x, y, z⟩ := t
    have m1 := mem_nats.1 h.m1
    have m2 := mem_nats.1 h.m2
    have m3 := mem_nats.1 h.m3
    have l1 := h.l1
    have l2 := h.l2
    have n1 := h.n1
    have n2 := h.n2
    have n3 := h.n3
    simp only at m1 m2 m3 l1 l2 n1 n2 n3
    obtain ⟨a, rfl⟩ : ∃ a : Nat, x = (a : Int) := ⟨x.toNat, by omega⟩
    obtain ⟨b, rfl⟩ : ∃ b : Nat, y = (b : Int) := ⟨y.toNat, by omega⟩
    obtain ⟨c, rfl⟩ : ∃ c : Nat, z = (c : Int) := ⟨z.toNat, by omega⟩
    refine ⟨(a, b, c), triA_in _ _ (triB_in _ _ _ (by omega) (triC_in _ _ _ ((near_nats (by omega) (by omega)).2 n1) (by omega) ((near_nats (by omega) (by omega)).2 n2) ((near_nats (by omega) (by omega)).2 n3) n (by omega)) n (by omega)) n (by omega), rfl⟩
theorem getD_tri {ts : List Tri} {k : Nat} (h : k < ts.length) : ts.getD k (0, 0, 0) = ts[k] := by
  rw [List.getD_eq_getElem?_getD, List.getElem?_eq_getElem h]
  rfl
/-- How many triangles a corner has. -/
theorem roundTo_get (ts : List Tri) (n : Nat) (hts : ∀ t, t ∈ ts → t.1 < t.2.1 ∧ t.2.1 < t.2.2 ∧ t.2.2 < n) (i : Nat) : ∀ k, k ≤ ts.length → (roundTo ts n k).getD i 0 = ((ts.take k).map triI).countP (hasT i)
  | 0, _ => by
    rw [roundTo, List.take_zero, List.map_nil, List.countP_nil, List.getD_eq_getElem?_getD, List.getElem?_replicate]
    split <;> rfl
  | k + 1, h => by
    have ih := roundTo_get ts n hts i k (by omega)
    have hr := hts ts[k] (List.getElem_mem (by omega))
    rw [roundTo, getD_tri (by omega), List.take_succ_eq_append_getElem (by omega), List.map_append, List.countP_append, Int.natCast_add, ← ih]
    simp only [bumps, bump_get, bump_len, roundTo_len, List.map_cons, List.map_nil, List.countP_singleton, hasT, triI, decide_eq_true_eq]
    split <;> split <;> split <;> split <;> omega
theorem rd_round {n : Nat} {l : List (Int × Int)} (h : BrandL n l) : Rd (natsI n) l (roundOf n l) := by
  have hs := h.size
  have hT := tris_nats n l
  have hc := count_tris _ rfl (by rw [natsI_len]; omega) (full_nats h) hT
  refine ⟨by rw [roundOf, roundTo_len, natsI_len], fun j hj => ?_⟩
  rw [natsI_len] at hj
  rw [natsI_get n j hj, roundOf, roundTo_get _ n (fun t ht => by
    obtain ⟨_, h2, h3, h4, _⟩ := triA_mem _ _ _ _ ht
    exact ⟨h2, h3, h4⟩) j _ (Nat.le_refl _), List.take_length, hc.2 j (mem_nats.2 (by omega))]
  omega
/-- Of the numbers of a brand is the brand. -/
theorem of_round {n : Nat} {l : List (Int × Int)} (h : BrandL n l) : ofL (roundOf n l) = some l := by
  have hs := h.size
  have hR := rd_round h
  have hl : (roundOf n l).length = n := by rw [roundOf, roundTo_len]
  obtain ⟨M, h1, h2⟩ := ofRun_full n [] (by rw [natsI_len]; omega) (by rw [natsI_len]; omega) (full_nats h) hR
  rw [List.nil_append] at h1
  rw [ofL, hl, h1, Option.map_some, sort_same h h2]
theorem rd_same {S : List Int} {L : List (Int × Int)} {p q : List Int} (h : Rd S L p) (k : Rd S L q) : p = q :=
  getI_ext (by rw [h.len, k.len]) fun i hi => by rw [h.get i (by rw [← h.len]; exact hi), k.get i (by rw [← h.len]; exact hi)]
theorem Rd.perm {S : List Int} {L M : List (Int × Int)} {q : List Int} (h : Rd S L q) (hp : L.Perm M) : Rd S M q := ⟨h.len, fun j hj => by rw [h.get j hj, cnt_perm hp]⟩
/-- What Of returns is a brand whose numbers are the list. -/
theorem brand_of {q : List Int} {res : List (Int × Int)} (hq : roundB q = true) (h : ofL q = some res) : BrandL q.length res ∧ roundOf q.length res = q := by
  obtain ⟨hl, hg⟩ := roundB_iff.1 hq
  rw [ofL, Option.map_eq_some_iff] at h
  obtain ⟨M, h1, rfl⟩ := h
  obtain ⟨L, h2, h3, h4⟩ := full_ofRun _ (nats_sorted _) (by rw [natsI_len]) (by rw [natsI_len]; omega) (fun j hj => (hg j hj).1) h1
  rw [List.nil_append] at h2
  subst h2
  have hB := brand_sort hl.1 hl.2 h3
  exact ⟨hB, rd_same (rd_round hB) (h4.perm (sortL_perm _).symm)⟩
end Go.Proofs.Ytddcdopimpfhcaa
