/- Contracts: sorting lines. -/
import Derived.Test.YtddcdopimpfhcaaBk
import Derived.RegionTactic
import Derived.Laws.EntriesVeiled
namespace Go.Proofs.Ytddcdopimpfhcaa
open Go.RowKit Go.Shelf

def cmpI (a b : Int) : Int := if a < b then -1 else if b < a then 1 else 0
theorem nan_any (a : Int) (w : World) : Calls Try.prog 92 #[.int .i64 a] w fun e w' => e = .returned (.bool false) ∧ w' = w := by
  go_enter Try.func92, Try.ntmps92
  go_wp2
  go_ret
  exact ⟨rfl, rfl⟩
theorem compare_any (a b v : Int) (hv : cmpI a b = v) (w : World) : Calls Try.prog 81 #[.int .i64 a, .int .i64 b] w fun e w' => e = .returned (.int .i64 v) ∧ w' = w := by
  unfold cmpI at hv
  by_cases h1 : a < b
  · rw [if_pos h1] at hv
    subst hv
    go_enter Try.func81, Try.ntmps81
    go_wp2_with (go_at_call 92; refine (nan_any _ _).mono ?_; rintro e w1 ⟨rfl, hw⟩; subst w1)
    go_ret
    exact ⟨rfl, rfl⟩
  · rw [if_neg h1] at hv
    by_cases h2 : b < a
    · rw [if_pos h2] at hv
      subst hv
      go_enter Try.func81, Try.ntmps81
      go_wp2_with (go_at_call 92; refine (nan_any _ _).mono ?_; rintro e w1 ⟨rfl, hw⟩; subst w1)
      go_ret
      exact ⟨rfl, rfl⟩
    · rw [if_neg h2] at hv
      subst hv
      go_enter Try.func81, Try.ntmps81
      go_wp2_with (go_at_call 92; refine (nan_any _ _).mono ?_; rintro e w1 ⟨rfl, hw⟩; subst w1)
      go_ret
      exact ⟨rfl, rfl⟩
def inR (p : Int × Int) : Prop := (0 ≤ p.1 ∧ p.1 < 12) ∧ 0 ≤ p.2 ∧ p.2 < 12
/-- The box of the function by which lines are ordered. -/
def OrdBox (w : World) (P : Nat) : Prop := w.cell? ⟨P, 0, none⟩ = some (.func (.func 57) #[] #[])

set_option maxHeartbeats 4000000 in
set_option maxRecDepth 100000 in
theorem by_any (x y : Int × Int) (v : Int) (hv : cmpI (orderI x) (orderI y) = v) (hx : inR x) (hy : inR y) (P : Nat) (w : World) (hP : OrdBox w P) :
    Calls Try.prog 80 #[.agg #[.int .i64 x.1, .int .i64 x.2], .agg #[.int .i64 y.1, .int .i64 y.2], .pointer (some ⟨P, 0, none⟩)] w fun e w' => e = .returned (.int .i64 v) ∧ Below w.heap.size w w' := by
  have hc57 : ∀ (args : Array Value) (w : World), (callFunc 57 args).run Try.prog w = .ok (.enter 57 args) w := enters_of Try.func57 (by kernel_rfl) rfl
  have CX := Off.mk (fun W => order_any x.1 x.2 hx.1 hx.2 W)
  have CY := Off.mk (fun W => order_any y.1 y.2 hy.1 hy.2 W)
  have CC := Off.mk (fun W => compare_any _ _ v hv W)
  have hX := alloc_old (o' := .cells #[.int .i64 y.1, .int .i64 y.2] 36) (block_new w (.cells #[.int .i64 x.1, .int .i64 x.2] 36))
  have hY := block_new (w.alloc (.cells #[.int .i64 x.1, .int .i64 x.2] 36)) (.cells #[.int .i64 y.1, .int .i64 y.2] 36)
  rw [World.size_alloc] at hY
  have hB1 : Below w.heap.size w (w.alloc (.cells #[.int .i64 x.1, .int .i64 x.2] 36)) := (Below.refl _ _).alloc (Nat.le_refl _) _
  have hB2 := belowA hB1 (.cells #[.int .i64 y.1, .int .i64 y.2] 36)
  have hP2 := cellB hB2 hP
  obtain ⟨⟨x0, x1⟩, _, _⟩ := two_facts hX
  obtain ⟨⟨y0, y1⟩, _, _⟩ := two_facts hY
  obtain ⟨w2, hw2⟩ : ∃ w2, w2 = (w.alloc (.cells #[.int .i64 x.1, .int .i64 x.2] 36)).alloc (.cells #[.int .i64 y.1, .int .i64 y.2] 36) := ⟨_, rfl⟩
  obtain ⟨z, hz⟩ : ∃ z, z = w.heap.size := ⟨_, rfl⟩
  rw [← hw2] at x0 x1 y0 y1 hP2 hB2
  have HB2 := Off.mk hB2
  rw [← hz] at x0 x1 y0 y1
  clear hX hY hB1 hB2 hP hv hx hy
  go_enter Try.func80, Try.ntmps80
  go_wp2
  rw [← hw2, ← hz]
  clear hw2 hz
  refine wp_region_held_drew (S := (fun w' => w'.cell? ⟨P, 0, none⟩ = some (.func (.func 57) #[] #[]) ∧ (w'.cell? ⟨z, 0, none⟩ = some (.int .i64 x.1) ∧ w'.cell? ⟨z, 1, none⟩ = some (.int .i64 x.2)) ∧ (w'.cell? ⟨z + 1, 0, none⟩ = some (.int .i64 y.1) ∧ w'.cell? ⟨z + 1, 1, none⟩ = some (.int .i64 y.2)))) (by kernel_rfl) ⟨hP2, ⟨x0, x1⟩, y0, y1⟩ (fun hHeld => ?_)
  refine wpAnyH_take (i := 0) (oi := ⟨some 6, _, _, _, _, _⟩) (v := ?_) rfl (by kernel_rfl) (by kernel_rfl) (by kernel_rfl) (fun _ _ _ h => h) (Or.inl ⟨by rfl, by intro w hSw; (try dsimp only at hSw); go_simp; try with_reducible rfl⟩) hHeld ?_
  try simp only [Act.put, List.setIfInBounds_toArray, List.set_cons_zero, List.set_cons_succ]
  refine wpAnyH_take (i := 1) (oi := ⟨some 7, _, _, _, _, _⟩) (v := ?_) rfl (by kernel_rfl) (by kernel_rfl) (by kernel_rfl) (fun _ _ _ h => h) (Or.inl ⟨by rfl, by intro w hSw; (try dsimp only at hSw); go_simp; try with_reducible rfl⟩) hHeld ?_
  try simp only [Act.put, List.setIfInBounds_toArray, List.set_cons_zero, List.set_cons_succ]
  refine wpAnyH_take (i := 3) (oi := ⟨some 9, _, _, _, _, _⟩) (v := ?_) rfl (by kernel_rfl) (by kernel_rfl) (by kernel_rfl) (fun _ _ _ h => h) (Or.inl ⟨by rfl, by intro w hSw; (try dsimp only at hSw); go_simp; try with_reducible rfl⟩) hHeld ?_
  try simp only [Act.put, List.setIfInBounds_toArray, List.set_cons_zero, List.set_cons_succ]
  refine wpAnyH_take (i := 4) (oi := ⟨some 10, _, _, _, _, _⟩) (v := ?_) rfl (by kernel_rfl) (by kernel_rfl) (by kernel_rfl) (fun _ _ _ h => h) (Or.inl ⟨by rfl, by intro w hSw; (try dsimp only at hSw); go_simp; try with_reducible rfl⟩) hHeld ?_
  try simp only [Act.put, List.setIfInBounds_toArray, List.set_cons_zero, List.set_cons_succ]
  refine wpAnyH_ready (rs := [2]) (by kernel_rfl) (by simp) ?_
  refine AllReadyH.cons (o := ⟨some 8, _, _, _, _, _⟩) rfl (fun K hK => ?_) AllReadyH.nil
  go_simp
  go_at_fn 57
  refine (CX.out _).mono ?_
  rintro e w3 ⟨rfl, hb3⟩
  have HB3 := Off.mk (belowC HB2.out.drew hb3)
  go_wp2_with fail
  refine hK.out _ _ ⟨cellB hb3 hHeld.1, ⟨cellB hb3 hHeld.2.1.1, cellB hb3 hHeld.2.1.2⟩, cellB hb3 hHeld.2.2.1, cellB hb3 hHeld.2.2.2⟩ (fun hHeld => ?_)
  clear hK K
  try simp only [Act.put, List.setIfInBounds_toArray, List.set_cons_zero, List.set_cons_succ]
  refine wpAnyH_ready (rs := [5]) (by kernel_rfl) (by simp) ?_
  refine AllReadyH.cons (o := ⟨some 11, _, _, _, _, _⟩) rfl (fun K hK => ?_) AllReadyH.nil
  go_simp
  go_at_fn 57
  refine (CY.out _).mono ?_
  rintro e w4 ⟨rfl, hb4⟩
  have HB4 := Off.mk (belowC HB3.out hb4)
  go_wp2_with fail
  refine hK.out _ _ ⟨cellB hb4 hHeld.1, ⟨cellB hb4 hHeld.2.1.1, cellB hb4 hHeld.2.1.2⟩, cellB hb4 hHeld.2.2.1, cellB hb4 hHeld.2.2.2⟩ (fun hHeld => ?_)
  clear hK K
  try simp only [Act.put, List.setIfInBounds_toArray, List.set_cons_zero, List.set_cons_succ]
  refine wpAnyH_ready (rs := [6]) (by kernel_rfl) (by simp) ?_
  refine AllReadyH.cons (o := ⟨some 12, _, _, _, _, _⟩) rfl (fun K hK => ?_) AllReadyH.nil
  go_simp
  go_at_call 81
  refine (CC.out _).mono ?_
  rintro e w5 ⟨rfl, hw⟩
  subst w5
  go_wp2_with fail
  refine hK.out _ _ hHeld (fun hHeld => ?_)
  clear hK K
  try simp only [Act.put, List.setIfInBounds_toArray, List.set_cons_zero, List.set_cons_succ]
  refine wpAnyH_take (i := 7) (oi := ⟨some 5, _, _, _, _, _⟩) (v := ?_) rfl (by kernel_rfl) (by kernel_rfl) (by kernel_rfl) (fun _ _ _ h => h) (Or.inl ⟨by rfl, by intro w hSw; (try dsimp only at hSw); go_simp; try with_reducible rfl⟩) hHeld ?_
  try simp only [Act.put, List.setIfInBounds_toArray, List.set_cons_zero, List.set_cons_succ]
  refine wpAnyH_done (by kernel_rfl) ?_ _
  go_wp2
  go_ret
  exact ⟨rfl, HB4.out⟩
def swapAt (xs : List (Int × Int)) (j : Nat) : List (Int × Int) := (xs.set j (xs.getD (j - 1) (0, 0))).set (j - 1) (xs.getD j (0, 0))
/-- The line at j goes to its place among those ahead of it. -/
def insTo : Nat → List (Int × Int) → List (Int × Int)
  | 0, xs => xs
  | j + 1, xs => if orderI (xs.getD (j + 1) (0, 0)) < orderI (xs.getD j (0, 0)) then insTo j (swapAt xs (j + 1)) else xs
def sortTo (xs : List (Int × Int)) : Nat → List (Int × Int)
  | 0 => xs
  | k + 1 => insTo k (sortTo xs k)
theorem swapAt_len (xs : List (Int × Int)) (j : Nat) : (swapAt xs j).length = xs.length := by simp [swapAt]
theorem insTo_len : ∀ (j : Nat) (xs : List (Int × Int)), (insTo j xs).length = xs.length
  | 0, xs => rfl
  | j + 1, xs => by
    rw [insTo]
    split
    · rw [insTo_len, swapAt_len]
    · rfl
theorem sortTo_len (xs : List (Int × Int)) : ∀ k, (sortTo xs k).length = xs.length
  | 0 => rfl
  | k + 1 => by rw [sortTo, insTo_len, sortTo_len]
theorem all_set {P : Int × Int → Prop} {xs : List (Int × Int)} (h : ∀ x, x ∈ xs → P x) (j : Nat) {y : Int × Int} (hy : P y) : ∀ x, x ∈ xs.set j y → P x := fun x hx => by
  rcases List.mem_or_eq_of_mem_set hx with e | e
  · exact h x e
  · exact e ▸ hy
theorem getD_mem {xs : List (Int × Int)} {j : Nat} (h : j < xs.length) : xs.getD j (0, 0) ∈ xs := by
  rw [List.getD_eq_getElem?_getD, List.getElem?_eq_getElem h]
  exact List.getElem_mem h
theorem swapAt_all {P : Int × Int → Prop} {xs : List (Int × Int)} (h : ∀ x, x ∈ xs → P x) (j : Nat) (hj : j < xs.length) : ∀ x, x ∈ swapAt xs j → P x :=
  all_set (all_set h _ (h _ (getD_mem (by omega)))) _ (h _ (getD_mem hj))
theorem insTo_all {P : Int × Int → Prop} : ∀ (j : Nat) (xs : List (Int × Int)), (∀ x, x ∈ xs → P x) → j < xs.length → ∀ x, x ∈ insTo j xs → P x
  | 0, xs, h, _ => h
  | j + 1, xs, h, hj => by
    rw [insTo]
    split
    · exact insTo_all j _ (swapAt_all h _ hj) (by rw [swapAt_len]; omega)
    · exact h
theorem sortTo_all {P : Int × Int → Prop} (xs : List (Int × Int)) (h : ∀ x, x ∈ xs → P x) : ∀ k, k ≤ xs.length → ∀ x, x ∈ sortTo xs k → P x
  | 0, _ => h
  | k + 1, hk => insTo_all k _ (sortTo_all xs h k (by omega)) (by rw [sortTo_len]; omega)

end Go.Proofs.Ytddcdopimpfhcaa
