/- Contracts: Grown of the specification; the walk of PensGrows. -/
import Derived.Test.YtbpmiphipjkdlaaBg
import Derived.Test.YtbpmiphipjkdlaaBh
import Derived.Test.YtbpmiphipjkdlaaBa
namespace Go.Proofs.Ytbpmiphipjkdlaa
open Go.RowKit Go.Shelf

theorem signed_read (xs : PtL) (A : Option Addr) (c : Nat) (w : World) (hv : readP xs = true) (hx : PairsI w A xs) : Calls Try.prog 48 #[.slice A xs.length c] w fun e w' => e = .returned (.int .i64 (twiceP xs)) ∧ Below w.heap.size w w' := by
  obtain ⟨h1, h2, h3⟩ := near_all hv
  have := signedR_any xs A c w (by omega) h1 hx
  rwa [signedR_eq] at this
theorem border_read (xs : PtL) (A : Option Addr) (c : Nat) (w : World) (hv : readP xs = true) (hx : PairsI w A xs) : Calls Try.prog 49 #[.slice A xs.length c] w fun e w' => e = .returned (.int .i64 (borderP xs)) ∧ Below w.heap.size w w' := by
  obtain ⟨h1, h2, h3⟩ := near_all hv
  have := borderR_any xs A c w (by omega) h1 hx
  rwa [borderR_eq] at this
theorem grownR_any (xs : PtL) (A : Option Addr) (c : Nat) (t : Int) (w : World) (hx : PairsI w A xs) :
    Calls Try.prog 19 #[.slice A xs.length c, .int .i64 t] w fun e w' => e = .returned (if readP xs = true ∧ 1 ≤ t ∧ t ≤ 1000 then .tuple #[.int .i64 (allG xs t), .int .i64 (insG xs t), .int .i64 0] else .tuple #[.int .i64 0, .int .i64 0, .int .i64 2]) ∧ Below w.heap.size w w' := by
  cases hv : readP xs with
  | false =>
    have CR := Off.mk (isPenR_read xs A c w false hv hx)
    clear hx
    rw [if_neg (by simp)]
    go_enter Try.func19, Try.ntmps19
    go_wp2_with fail
    refine CR.out.mono ?_
    rintro e w1 ⟨rfl, hb1⟩
    go_wp2
    refine bodyPost_ret (v := .tuple #[.int .i64 0, .int .i64 0, .int .i64 2]) (by simp [results, Try.results19, go_sem]) rfl ⟨rfl, hb1⟩
  | true =>
    have CR := Off.mk (isPenR_read xs A c w true hv hx)
    have CS := Off.mk (fun W (hb : Below w.heap.size w W) => signed_read xs A c W hv (hx.below hb))
    have CB := Off.mk (fun W (hb : Below w.heap.size w W) => border_read xs A c W hv (hx.below hb))
    obtain ⟨hn, h3, h10⟩ := near_all hv
    have hb1 := twiceP_in hn (by omega)
    have hb2 := borderP_in hn (by omega)
    have HA := Off.mk (ins_all xs (by omega) t)
    clear hx hv
    by_cases ht1 : t < 1
    · rw [if_neg (by omega)]
      go_enter Try.func19, Try.ntmps19
      go_wp2_with fail
      refine CR.out.mono ?_
      rintro e w1 ⟨rfl, hb1⟩
      go_wp2
      refine bodyPost_ret (v := .tuple #[.int .i64 0, .int .i64 0, .int .i64 2]) (by simp [results, Try.results19, go_sem]) rfl ⟨rfl, hb1⟩
    by_cases ht2 : 1000 < t
    · rw [if_neg (by omega)]
      go_enter Try.func19, Try.ntmps19
      go_wp2_with fail
      refine CR.out.mono ?_
      rintro e w1 ⟨rfl, hb1⟩
      go_wp2
      refine bodyPost_ret (v := .tuple #[.int .i64 0, .int .i64 0, .int .i64 2]) (by simp [results, Try.results19, go_sem]) rfl ⟨rfl, hb1⟩
    rw [if_pos ⟨rfl, by omega, by omega⟩]
    unfold insG at HA ⊢
    obtain ⟨al, hal⟩ : ∃ al, al = allG xs t := ⟨_, rfl⟩
    rw [← hal] at HA ⊢
    obtain ⟨a, ha⟩ : ∃ a, a = twiceP xs := ⟨_, rfl⟩
    obtain ⟨b, hb⟩ : ∃ b, b = borderP xs := ⟨_, rfl⟩
    rw [← ha] at CS hb1 HA ⊢
    rw [← hb] at CB hb2 HA ⊢
    clear ha hb hal
    have W0 : IntKind.i64.wrap (-a) = -a := by rw [IntKind.wrap_i64]; omega
    obtain ⟨p, hp⟩ : ∃ p : Int, p = (a.natAbs : Nat) := ⟨_, rfl⟩
    have hmx : max a (-a) = p := by omega
    have hpb : -300000 ≤ p ∧ p ≤ 300000 := by omega
    rw [← hp] at HA ⊢
    clear hp hb1
    have m1 := mul_in (a := 300000) (b := 1000) hpb (show -1000 ≤ t ∧ t ≤ 1000 by omega) (by omega) (by omega)
    have m2 := mul_in (a := 300000 * 1000) (b := 1000) m1 (show -1000 ≤ t ∧ t ≤ 1000 by omega) (by omega) (by omega)
    have m3 := mul_in (a := 300000) (b := 1000) hb2 (show -1000 ≤ t ∧ t ≤ 1000 by omega) (by omega) (by omega)
    have d2 := tdiv_in (x := p * t * t - b * t + 2) (b := 1000000000000) (by omega)
    have W1 : IntKind.i64.wrap (p * t) = p * t := by rw [IntKind.wrap_i64]; omega
    have W2 : IntKind.i64.wrap (p * t * t) = p * t * t := by rw [IntKind.wrap_i64]; omega
    have W3 : IntKind.i64.wrap (b * t) = b * t := by rw [IntKind.wrap_i64]; omega
    have W6 : IntKind.i64.wrap (p * t * t - b * t) = p * t * t - b * t := by rw [IntKind.wrap_i64]; omega
    have W7 : IntKind.i64.wrap (p * t * t - b * t + 2) = p * t * t - b * t + 2 := by rw [IntKind.wrap_i64]; omega
    have W9 : IntKind.i64.wrap ((p * t * t - b * t + 2).tdiv 2) = (p * t * t - b * t + 2).tdiv 2 := by rw [IntKind.wrap_i64]; omega
    have W10 : IntKind.i64.wrap ((p * t * t - b * t + 2).tdiv 2 + b * t) = (p * t * t - b * t + 2).tdiv 2 + b * t := by rw [IntKind.wrap_i64]; omega
    clear m1 m2 m3 d2 hpb hb2
    go_enter Try.func19, Try.ntmps19
    go_wp2_with fail
    refine CR.out.mono ?_
    rintro e w1 ⟨rfl, hw1⟩
    go_wp2_with fail
    refine (CS.out _ hw1).mono ?_
    rintro e w2 ⟨rfl, hw2⟩
    have hw2 := belowC hw1 hw2
    go_wp2_with fail
    refine (CS.out _ hw2).mono ?_
    rintro e w3 ⟨rfl, hw3⟩
    have hw3 := belowC hw2 hw3
    go_wp2_with fail
    refine (CB.out _ hw3).mono ?_
    rintro e w4 ⟨rfl, hw4⟩
    have hw4 := belowC hw3 hw4
    clear hw1 hw2 hw3
    go_wp2
    refine bodyPost_ret (v := .tuple #[.int .i64 ((p * t * t - b * t + 2).tdiv 2 + b * t), .int .i64 ((p * t * t - b * t + 2).tdiv 2), .int .i64 0]) (by simp [results, Try.results19, go_sem]) rfl ⟨by rw [HA.out], hw4⟩
/-- The walk of PensGrows. -/
theorem grows_walk (xs : PtL) (A : Option Addr) (c : Nat) (t : Int) (w : World) (hx : xs.length ≤ 140737488351232 → PairsI w A xs) :
    Calls Try.prog 3 #[.slice A xs.length c, .int .i64 t] w fun e w' => e = .returned (.bool true) ∧ Below w.heap.size w w' := by
  by_cases hf : xs.length ≤ 60
  · have hx := hx (by omega)
    have CF := Off.mk (few_any xs A c true (decide_eq_true hf) w)
    have CG := Off.mk (Grown_any xs A c t w hx)
    have CR := Off.mk (fun W (hb : Below w.heap.size w W) => grownR_any xs A c t W (hx.below hb))
    obtain ⟨x, y, z, hxyz⟩ : ∃ x y z : Int, (if readP xs = true ∧ 1 ≤ t ∧ t ≤ 1000 then Value.tuple #[.int .i64 (allG xs t), .int .i64 (insG xs t), .int .i64 0] else .tuple #[.int .i64 0, .int .i64 0, .int .i64 2]) = .tuple #[.int .i64 x, .int .i64 y, .int .i64 z] := by
      split
      · exact ⟨_, _, _, rfl⟩
      · exact ⟨_, _, _, rfl⟩
    rw [hxyz] at CG CR
    clear hx hxyz hf
    go_enter Try.func3, Try.ntmps3
    go_wp2_with fail
    refine CF.out.mono ?_
    rintro e w0 ⟨rfl, rfl⟩
    go_wp2_with fail
    refine CG.out.mono ?_
    rintro e w1 ⟨rfl, hb1⟩
    go_wp2_with fail
    refine (CR.out _ hb1).mono ?_
    rintro e w2 ⟨rfl, hb2⟩
    have HB2 := Off.mk (belowC hb1 hb2)
    clear hb1 hb2
    go_wp2_with fail
    refine (alive_any _).mono ?_
    rintro e w3 ⟨rfl, hb3⟩
    go_wp2
    go_ret
    exact ⟨rfl, belowC HB2.out hb3⟩
  · have CF := Off.mk (few_any xs A c false (decide_eq_false hf) w)
    clear hx hf
    go_enter Try.func3, Try.ntmps3
    go_wp2_with fail
    refine CF.out.mono ?_
    rintro e w0 ⟨rfl, rfl⟩
    go_wp2_with fail
    refine (alive_any _).mono ?_
    rintro e w3 ⟨rfl, hb3⟩
    go_wp2
    go_ret
    exact ⟨rfl, hb3⟩
end Go.Proofs.Ytbpmiphipjkdlaa
