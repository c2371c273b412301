/- Contract of the specification's Where; the walk of PensCounts. -/
import Derived.Test.YtbpmiphipjkdlaaBo
import Derived.Test.YtbpmiphipjkdlaaBa
namespace Go.Proofs.Ytbpmiphipjkdlaa
open Go.RowKit Go.Shelf

/-- What Where answers. -/
def WhereAns (xs : PtL) (q : Int × Int) : Value :=
  if readP xs = true then (if inB 1048576 q then .tuple #[.int .i64 (whereP xs q), .int .i64 0] else .tuple #[.int .i64 0, .int .i64 4]) else .tuple #[.int .i64 0, .int .i64 2]
theorem WhereR_any (xs : PtL) (A : Option Addr) (c : Nat) (q : Int × Int) (w : World) (hx : PairsI w A xs) :
    Calls Try.prog 31 #[.slice A xs.length c, ptV q] w fun e w' => e = .returned (WhereAns xs q) ∧ Below w.heap.size w w' := by
  have hbx := belowA (Below.refl _ w) (.cells #[.int .i64 q.1, .int .i64 q.2] 34)
  have hbq := two_facts (block_new w (.cells #[.int .i64 q.1, .int .i64 q.2] 34))
  have HB := Off.mk hbx
  obtain ⟨⟨c0, c1⟩, _⟩ := hbq
  unfold WhereAns
  cases hv : readP xs with
  | false =>
    have CR := Off.mk (isPenR_read xs A c _ false hv (hx.below hbx))
    clear hx hbx
    rw [if_neg (by simp)]
    go_enter Try.func31, Try.ntmps31
    go_wp2_with fail
    refine CR.out.mono ?_
    rintro e w1 ⟨rfl, hb1⟩
    go_wp2
    refine bodyPost_ret (v := .tuple #[.int .i64 0, .int .i64 2]) (by simp [results, Try.results31, go_sem]) rfl ⟨rfl, belowC HB.out hb1⟩
  | true =>
  rw [if_pos rfl]
  have CR := Off.mk (isPenR_read xs A c _ true hv (hx.below hbx))
  have CP := Off.mk (fun W (hb : Below w.heap.size w W) (hz : inB 2097152 q) => place_read xs A c q W hv hz (hx.below hb))
  clear hx hbx hv
  by_cases k0 : q.1 < -1048576
  · rw [if_neg (by unfold inB; omega)]
    have d0 := decide_eq_true k0
    go_enter Try.func31, Try.ntmps31
    go_wp2_with fail
    refine CR.out.mono ?_
    rintro e w1 ⟨rfl, hb1⟩
    have c0 := cellB hb1 c0
    have c1 := cellB hb1 c1
    go_wp2
    refine bodyPost_ret (v := .tuple #[.int .i64 0, .int .i64 4]) (by simp [results, Try.results31, go_sem]) rfl ⟨rfl, belowC HB.out hb1⟩
  by_cases k1 : 1048576 < q.1
  · rw [if_neg (by unfold inB; omega)]
    have d0 := decide_eq_false k0
    have d1 := decide_eq_true k1
    go_enter Try.func31, Try.ntmps31
    go_wp2_with fail
    refine CR.out.mono ?_
    rintro e w1 ⟨rfl, hb1⟩
    have c0 := cellB hb1 c0
    have c1 := cellB hb1 c1
    go_wp2
    refine bodyPost_ret (v := .tuple #[.int .i64 0, .int .i64 4]) (by simp [results, Try.results31, go_sem]) rfl ⟨rfl, belowC HB.out hb1⟩
  by_cases k2 : q.2 < -1048576
  · rw [if_neg (by unfold inB; omega)]
    have d0 := decide_eq_false k0
    have d1 := decide_eq_false k1
    have d2 := decide_eq_true k2
    go_enter Try.func31, Try.ntmps31
    go_wp2_with fail
    refine CR.out.mono ?_
    rintro e w1 ⟨rfl, hb1⟩
    have c0 := cellB hb1 c0
    have c1 := cellB hb1 c1
    go_wp2
    refine bodyPost_ret (v := .tuple #[.int .i64 0, .int .i64 4]) (by simp [results, Try.results31, go_sem]) rfl ⟨rfl, belowC HB.out hb1⟩
  by_cases k3 : 1048576 < q.2
  · rw [if_neg (by unfold inB; omega)]
    have d0 := decide_eq_false k0
    have d1 := decide_eq_false k1
    have d2 := decide_eq_false k2
    have d3 := decide_eq_true k3
    go_enter Try.func31, Try.ntmps31
    go_wp2_with fail
    refine CR.out.mono ?_
    rintro e w1 ⟨rfl, hb1⟩
    have c0 := cellB hb1 c0
    have c1 := cellB hb1 c1
    go_wp2
    refine bodyPost_ret (v := .tuple #[.int .i64 0, .int .i64 4]) (by simp [results, Try.results31, go_sem]) rfl ⟨rfl, belowC HB.out hb1⟩
  have hq : inB 1048576 q := by unfold inB; omega
  rw [if_pos hq]
  have HQ := Off.mk (inB_mono hq (show (1048576 : Int) ≤ 2097152 by decide))
  have d0 := decide_eq_false k0
  have d1 := decide_eq_false k1
  have d2 := decide_eq_false k2
  have d3 := decide_eq_false k3
  clear hq
  obtain ⟨v, hv⟩ : ∃ v, v = whereP xs q := ⟨_, rfl⟩
  rw [← hv] at CP ⊢
  clear hv
  go_enter Try.func31, Try.ntmps31
  go_wp2_with fail
  refine CR.out.mono ?_
  rintro e w1 ⟨rfl, hb1⟩
  have c0 := cellB hb1 c0
  have c1 := cellB hb1 c1
  have HB1 := Off.mk (belowC HB.out hb1)
  clear hb1
  go_wp2_with fail
  refine (CP.out _ HB1.out HQ.out).mono ?_
  rintro e w2 ⟨rfl, hb2⟩
  go_wp2
  refine bodyPost_ret (v := .tuple #[.int .i64 v, .int .i64 0]) (by simp [results, Try.results31, go_sem]) rfl ⟨rfl, belowC HB1.out hb2⟩
theorem where_ans (xs : PtL) (q : Int × Int) : ∃ x e : Int, WhereAns xs q = .tuple #[.int .i64 x, .int .i64 e] := by
  unfold WhereAns
  repeat' split
  all_goals exact ⟨_, _, rfl⟩
theorem count_walk (xs : PtL) (A : Option Addr) (c : Nat) (x y : Int) (w : World) (hx : xs.length ≤ 140737488351232 → PairsI w A xs) :
    Calls Try.prog 8 #[.slice A xs.length c, .agg #[.int .i64 x, .int .i64 y]] w fun e w' => e = .returned (.bool true) ∧ Below w.heap.size w w' := by
  have hbx := belowA (Below.refl _ w) (.cells #[.int .i64 x, .int .i64 y] 34)
  have hbq := two_facts (block_new w (.cells #[.int .i64 x, .int .i64 y] 34))
  have HB := Off.mk hbx
  obtain ⟨⟨c0, c1⟩, _⟩ := hbq
  by_cases hf : xs.length ≤ 60
  · have hx := hx (by omega)
    have CF := Off.mk (few_any xs A c true (decide_eq_true hf) (w.alloc (.cells #[.int .i64 x, .int .i64 y] 34)))
    obtain ⟨a, b, e, hR⟩ : ∃ a b e : Int, (if readP xs = true then Value.tuple #[.int .i64 (borderP xs), .int .i64 (insG xs 1), .int .i64 0] else .tuple #[.int .i64 0, .int .i64 0, .int .i64 2]) = .tuple #[.int .i64 a, .int .i64 b, .int .i64 e] := by
      split <;> exact ⟨_, _, _, rfl⟩
    have C1 := Off.mk (fun W (hb : Below w.heap.size w W) => Count_any xs A c W (hx.below hb))
    have C2 := Off.mk (fun W (hb : Below w.heap.size w W) => CountR_any xs A c W (hx.below hb))
    rw [hR] at C1 C2
    obtain ⟨z, f, hZ⟩ := where_ans xs (x, y)
    have C3 := Off.mk (fun W (hb : Below w.heap.size w W) => Where_any xs A c (x, y) W (hx.below hb))
    have C4 := Off.mk (fun W (hb : Below w.heap.size w W) => WhereR_any xs A c (x, y) W (hx.below hb))
    rw [hZ] at C4
    unfold WhereAns at hZ
    rw [hZ] at C3
    clear hx hbx hf hR hZ
    go_enter Try.func8, Try.ntmps8
    go_wp2_with fail
    refine CF.out.mono ?_
    rintro e w0 ⟨rfl, rfl⟩
    go_wp2_with fail
    refine (C1.out _ HB.out).mono ?_
    rintro e w1 ⟨rfl, hb1⟩
    have c0 := cellB hb1 c0
    have c1 := cellB hb1 c1
    have HB1 := Off.mk (belowC HB.out hb1)
    clear hb1
    go_wp2_with fail
    refine (C2.out _ HB1.out).mono ?_
    rintro e w2 ⟨rfl, hb2⟩
    have c0 := cellB hb2 c0
    have c1 := cellB hb2 c1
    have HB2 := Off.mk (belowC HB1.out hb2)
    clear hb2
    go_wp2_with fail
    refine (C3.out _ HB2.out).mono ?_
    rintro e w3 ⟨rfl, hb3⟩
    have c0 := cellB hb3 c0
    have c1 := cellB hb3 c1
    have HB3 := Off.mk (belowC HB2.out hb3)
    clear hb3
    go_wp2_with fail
    refine (C4.out _ HB3.out).mono ?_
    rintro e w4 ⟨rfl, hb4⟩
    have HB4 := Off.mk (belowC HB3.out hb4)
    clear hb4
    go_wp2_with fail
    refine (alive_any _).mono ?_
    rintro e w5 ⟨rfl, hb5⟩
    go_wp2
    go_ret
    exact ⟨rfl, belowC HB4.out hb5⟩
  · have CF := Off.mk (few_any xs A c false (decide_eq_false hf) (w.alloc (.cells #[.int .i64 x, .int .i64 y] 34)))
    clear hx hf
    go_enter Try.func8, Try.ntmps8
    go_wp2_with fail
    refine CF.out.mono ?_
    rintro e w0 ⟨rfl, rfl⟩
    go_wp2_with fail
    refine (alive_any _).mono ?_
    rintro e w3 ⟨rfl, hb3⟩
    go_wp2
    go_ret
    exact ⟨rfl, belowC HB.out hb3⟩
end Go.Proofs.Ytbpmiphipjkdlaa
