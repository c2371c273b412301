/- Contracts: sorted. -/
import Derived.Test.YtddcdopimpfhcaaBm
namespace Go.Proofs.Ytddcdopimpfhcaa
open Go.RowKit Go.Shelf

set_option maxRecDepth 100000 in
set_option maxHeartbeats 2000000 in
theorem len64_any (n : Nat) (hn : n ≤ 12) (w : World) : Calls Try.prog 104 #[.int .u64 (n : Int)] w fun e w' => (∃ k : Int, e = .returned (.int .i64 k)) ∧ w' = w := by
  obtain ⟨k, rfl⟩ : ∃ k : Fin 13, k.val = n := ⟨⟨n, by omega⟩, rfl⟩
  have h : ∀ m : Nat, m ≤ 12 → Calls Try.prog 104 #[.int .u64 (m : Int)] w fun e w' => (∃ k : Int, e = .returned (.int .i64 k)) ∧ w' = w := by
    intro m hm
    obtain rfl | rfl | rfl | rfl | rfl | rfl | rfl | rfl | rfl | rfl | rfl | rfl | rfl : m = 0 ∨ m = 1 ∨ m = 2 ∨ m = 3 ∨ m = 4 ∨ m = 5 ∨ m = 6 ∨ m = 7 ∨ m = 8 ∨ m = 9 ∨ m = 10 ∨ m = 11 ∨ m = 12 := by omega
    all_goals
      go_enter Try.func104, Try.ntmps104
      go_wp2
      go_ret
      exact ⟨⟨_, rfl⟩, rfl⟩
  exact h k.val (by omega)
theorem len_any (n : Nat) (hn : n ≤ 12) (w : World) : Calls Try.prog 91 #[.int .u64 (n : Int)] w fun e w' => (∃ k : Int, e = .returned (.int .i64 k)) ∧ w' = w := by
  go_enter Try.func91, Try.ntmps91
  go_wp2_with (go_at_call 104; refine (len64_any n hn _).mono ?_; rintro e w1 ⟨⟨k, rfl⟩, hw⟩; subst w1)
  go_ret
  exact ⟨⟨_, rfl⟩, rfl⟩
set_option maxHeartbeats 1000000 in
set_option maxRecDepth 100000 in
theorem pdq_any (base r n c P : Nat) (lim : Int) (xs : List (Int × Int)) (w : World) (h : QRow w base r n c xs) (hR : ∀ x, x ∈ xs → inR x) (hn : n ≤ 12) (hc : n ≤ c) (hP : OrdBox w P) (hne : P ≠ r) :
    Calls Try.prog 90 #[.slice (some ⟨r, 0, none⟩) n c, .int .i64 0, .int .i64 (n : Int), .int .i64 lim, byFn P] w fun e w' => e = .returned (.tuple #[]) ∧ QRow w' base r n c (sortTo xs n) ∧ Keeps r w w' := by
  have CI := Off.mk (insertion_any base r n c P xs w h hR hn hc hP hne)
  clear h hR hP
  go_enter Try.func90, Try.ntmps90
  go_wp2
  refine wp_loop_rounds 1 ?_
  rw [rounds_succ]
  go_wp2_with (go_at_call 95; refine (CI.out).mono ?_; rintro e w1 ⟨rfl, hq, hk⟩)
  exact bodyPost_ret (v := .tuple #[]) (by simp [results, Try.results90, go_sem]) rfl ⟨rfl, hq, hk⟩
set_option maxHeartbeats 1000000 in
theorem sortFunc_any (base r n c P : Nat) (xs : List (Int × Int)) (w : World) (h : QRow w base r n c xs) (hR : ∀ x, x ∈ xs → inR x) (hn : n ≤ 12) (hc : n ≤ c) (hP : OrdBox w P) (hne : P ≠ r) :
    Calls Try.prog 79 #[.slice (some ⟨r, 0, none⟩) n c, byFn P] w fun e w' => e = .returned (.tuple #[]) ∧ QRow w' base r n c (sortTo xs n) ∧ Keeps r w w' := by
  have CI := Off.mk (fun lim => pdq_any base r n c P lim xs w h hR hn hc hP hne)
  clear h hR hP
  go_enter Try.func79, Try.ntmps79
  go_wp2_with (first
    | (go_at_call 91; refine (len_any n hn _).mono ?_; rintro e w1 ⟨⟨k, rfl⟩, hw⟩; subst w1)
    | (go_at_call 90; refine (CI.out _).mono ?_; rintro e w1 ⟨rfl, hq, hk⟩))
  go_end0
  exact ⟨rfl, hq, hk⟩
/-- A list in its order. -/
def sortL (xs : List (Int × Int)) : List (Int × Int) := sortTo xs xs.length
set_option maxHeartbeats 1000000 in
theorem sorted_any (base : Nat) (v : Value) (xs : List (Int × Int)) (w : World) (h : OwnQ w base v xs) (hR : ∀ x, x ∈ xs → inR x) (hn : xs.length ≤ 12) (h0 : 0 < xs.length) :
    Calls Try.prog 56 #[v, .func (.func 57) #[] #[]] w fun e w' => e = .returned v ∧ OwnQ w' base v (sortL xs) ∧ (base ≤ w.heap.size → Below base w w') := by
  obtain ⟨r, c, rfl, hbr, hq⟩ := ownQ_row h h0
  have hlt := hq.lt
  have hnc : xs.length ≤ c := by
    rcases hq.own.2 with ⟨h', _⟩ | ⟨g, cap, cur, h', hb, hg, hnc, hcm, hcs, htake⟩
    · simp at h'
    · simp only [Value.slice.injEq, Option.some.injEq, Addr.mk.injEq, and_true] at h'
      omega
  have hB : Below w.heap.size w (w.alloc (.cells #[.func (.func 57) #[] #[]] 73)) := (Below.refl _ _).alloc (Nat.le_refl _) _
  have hb := block_new w (.cells #[.func (.func 57) #[] #[]] 73)
  have CS := Off.mk (sortFunc_any base r xs.length c w.heap.size xs _ (hq.below hB) hR hn hnc (one_facts hb).1 (by omega))
  have HB := Off.mk hB
  have HO := Off.mk h
  have Hlt := Off.mk hlt
  clear h hq hR hB hb hlt
  go_enter Try.func56, Try.ntmps56
  go_wp2_with (go_at_call 79; refine (CS.out).mono ?_; rintro e w1 ⟨rfl, hq, hk⟩)
  go_ret
  have hq' := hq.own
  rw [← hq.len] at hq'
  have hle : (sortL xs).length = xs.length := sortTo_len _ _
  refine ⟨rfl, ⟨by rw [hle]; exact hq.own⟩, fun hb => ?_⟩
  exact Keeps.below ((Below.refl _ _).alloc hb _) hk (by simp; omega) hbr
end Go.Proofs.Ytddcdopimpfhcaa
