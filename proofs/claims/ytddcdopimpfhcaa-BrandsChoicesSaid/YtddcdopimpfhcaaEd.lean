/- Plain: a brand has few triangles. -/
import Derived.Test.YtddcdopimpfhcaaCx
import Derived.Test.YtddcdopimpfhcaaEa
namespace Go.Proofs.Ytddcdopimpfhcaa

theorem triC_nodup (J : Nat → Nat → Bool) (a b : Nat) : ∀ c, (triC J a b c).Pairwise (· ≠ ·)
  | 0 => List.Pairwise.nil
  | c + 1 => by
    rw [triC, List.pairwise_append]
    refine ⟨triC_nodup J a b c, by split <;> simp, fun x hx y hy => ?_⟩
    have h1 := (triC_mem J a b c x hx).2.2.1
    split at hy
    · simp at hy; subst hy; intro e; rw [e] at h1; exact Nat.lt_irrefl _ h1
    · simp at hy
theorem triB_nodup (J : Nat → Nat → Bool) (n a : Nat) : ∀ b, (triB J n a b).Pairwise (· ≠ ·)
  | 0 => List.Pairwise.nil
  | b + 1 => by
    rw [triB, List.pairwise_append]
    refine ⟨triB_nodup J n a b, ?_, fun x hx y hy => ?_⟩
    · split
      · exact triC_nodup J a b n
      · exact List.Pairwise.nil
    · have h1 := (triB_mem J n a b x hx).2.1
      split at hy
      · have h2 := (triC_mem J a b n y hy).2.1
        intro e; rw [e] at h1; omega
      · simp at hy
theorem triA_nodup (J : Nat → Nat → Bool) (n : Nat) : ∀ a, (triA J n a).Pairwise (· ≠ ·)
  | 0 => List.Pairwise.nil
  | a + 1 => by
    rw [triA, List.pairwise_append]
    refine ⟨triA_nodup J n a, triB_nodup J n a n, fun x hx y hy => ?_⟩
    have h1 := (triA_mem J n a x hx).1
    have h2 := (triB_mem J n a n y hy).2.2.1
    intro e; rw [e] at h1; omega
theorem join_line {n : Nat} {l : List (Int × Int)} {a b : Nat} (h : jn n l a b = true) (hab : a + 2 ≤ b) (hb : b < n) : ((a : Int), (b : Int)) ∈ l ∨ (a = 0 ∧ b + 1 = n) := by
  unfold jn joinB at h
  rw [Bool.or_eq_true] at h
  rcases h with h | h
  · unfold nbB at h
    rw [decide_eq_true_iff] at h
    right
    omega
  · left
    exact List.contains_iff_mem.1 h
theorem tri_one {n : Nat} {l : List (Int × Int)} (hl : BrandL n l) {a b b' c : Nat} (h1 : a < b) (h2 : b < b') (h3 : b' < c) (h4 : c < n) (j1 : jn n l a b' = true) (j2 : jn n l b c = true) : False := by
  rcases join_line j1 (by omega) (by omega) with m1 | e
  · rcases join_line j2 (by omega) h4 with m2 | e
    · refine hl.crs _ m1 _ m2 ?_
      unfold crsP
      omega
    · omega
  · omega
theorem few_tris : FewTris := by
  intro n l hn hb
  have hl := (brandL_iff n l).1 ((brand_iff n l).1 hb)
  have hk : ((trisOf (jn n l) n).map fun t => (((t.1 : Nat) : Int), ((t.2.2 : Nat) : Int))).Nodup := by
    unfold List.Nodup
    rw [List.pairwise_map]
    refine (triA_nodup (jn n l) n n).imp_of_mem fun {x y} hx hy hxy e => hxy ?_
    obtain ⟨_, x1, x2, x3, x4, x5, x6⟩ := triA_mem _ _ _ x hx
    obtain ⟨_, y1, y2, y3, y4, y5, y6⟩ := triA_mem _ _ _ y hy
    simp only [Prod.mk.injEq] at e
    have e1 : x.1 = y.1 := by omega
    have e2 : x.2.2 = y.2.2 := by omega
    rw [e1] at x1 x4 x6
    rw [e2] at x2 x3 x5 x6
    have e3 : x.2.1 = y.2.1 := by
      rcases Nat.lt_trichotomy x.2.1 y.2.1 with h | h | h
      · exact (tri_one hl x1 h y2 y3 y4 x5).elim
      · exact h
      · exact (tri_one hl y1 h x2 y3 x4 y5).elim
    exact Prod.ext e1 (Prod.ext e3 e2)
  have hs := nodup_le _ (l ++ [((0 : Int), (n : Int) - 1)]) hk (fun z hz => by
    obtain ⟨t, ht, rfl⟩ := List.mem_map.1 hz
    obtain ⟨_, x1, x2, x3, x4, x5, x6⟩ := triA_mem _ _ _ t ht
    rw [List.mem_append, List.mem_singleton]
    rcases join_line x6 (by omega) x3 with m | e
    · exact .inl m
    · right
      simp only [Prod.mk.injEq]
      omega)
  rw [List.length_map, List.length_append, List.length_singleton] at hs
  have := hl.size
  omega
theorem choices_walk (n : Int) (l : List (Int × Int)) (A : Option Go.Addr) (c : Nat) (i k : Int) (w : Go.World) (hx : l.length ≤ 140737488351232 → PairsI w A l) (hlc : l.length ≤ c) (hA : A = none → c = 0) :
    Go.Calls Try.prog 3 #[.int .i64 n, .slice A l.length c, .int .i64 i, .int .i64 k] w fun e w' => e = .returned (.bool true) ∧ Go.RowKit.Below w.heap.size w w' := choices_walk_of few_tris n l A c i k w hx hlc hA
end Go.Proofs.Ytddcdopimpfhcaa
