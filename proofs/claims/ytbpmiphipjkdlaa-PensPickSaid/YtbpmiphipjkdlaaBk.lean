/- The walk of PensPick. -/
import Derived.Test.YtbpmiphipjkdlaaBj
import Derived.Test.YtbpmiphipjkdlaaBi
import Derived.Test.YtbpmiphipjkdlaaAk
namespace Go.Proofs.Ytbpmiphipjkdlaa
open Go.RowKit Go.Shelf

theorem pick_walk (xs : PtL) (A : Option Addr) (c : Nat) (w : World) (hx : xs.length ≤ 140737488351232 → PairsI w A xs) :
    Calls Try.prog 6 #[.slice A xs.length c] w fun e w' => e = .returned (.bool true) ∧ Below w.heap.size w w' := by
  by_cases hf : xs.length ≤ 60
  · have hx := hx (by omega)
    have CF := Off.mk (few_any xs A c true (decide_eq_true hf) w)
    have CA := Off.mk (Area_any xs A c w hx)
    have CC := Off.mk (fun W (hb : Below w.heap.size w W) => Count_any xs A c W (hx.below hb))
    cases hv : readP xs with
    | false =>
      have CI := Off.mk (fun W (hb : Below w.heap.size w W) => isPen_any xs A c W false hv (hx.below hb))
      have CR := Off.mk (fun W (hb : Below w.heap.size w W) => isPenR_read xs A c W false hv (hx.below hb))
      rw [hv] at CA CC
      simp only [Bool.false_eq_true, if_false] at CA CC
      clear hx hf hv
      go_enter Try.func6, Try.ntmps6
      go_wp2_with fail
      refine CF.out.mono ?_
      rintro e w0 ⟨rfl, rfl⟩
      go_wp2_with fail
      refine CA.out.mono ?_
      rintro e w1 ⟨rfl, hb1⟩
      go_wp2_with fail
      refine (CC.out _ hb1).mono ?_
      rintro e w2 ⟨rfl, hb2⟩
      have hb2 := belowC hb1 hb2
      go_wp2_with fail
      refine (CR.out _ hb2).mono ?_
      rintro e w3 ⟨rfl, hb3⟩
      have hb3 := belowC hb2 hb3
      go_wp2_with fail
      refine (CI.out _ hb3).mono ?_
      rintro e w4 ⟨rfl, hb4⟩
      have HB4 := Off.mk (belowC hb3 hb4)
      clear hb1 hb2 hb3 hb4
      go_wp2_with fail
      refine (alive_any _).mono ?_
      rintro e w5 ⟨rfl, hb5⟩
      go_wp2
      go_ret
      exact ⟨rfl, belowC HB4.out hb5⟩
    | true =>
      have CI := Off.mk (fun W (hb : Below w.heap.size w W) => isPen_any xs A c W true hv (hx.below hb))
      have CR := Off.mk (fun W (hb : Below w.heap.size w W) => isPenR_read xs A c W true hv (hx.below hb))
      rw [hv] at CA CC
      simp only [if_true] at CA CC
      have hp := pick_read hv
      have hb3 := border_ge hv
      have hi := inside_nonneg xs
      have hii := ins_inside hv
      obtain ⟨hn, h3, h10⟩ := near_all hv
      have hb1 := twiceP_in hn (by omega)
      have hb2 := borderP_in hn (by omega)
      rw [hii] at CC
      obtain ⟨a, ha⟩ : ∃ a : Int, a = (twiceP xs).natAbs := ⟨_, rfl⟩
      obtain ⟨b, hb⟩ : ∃ b, b = borderP xs := ⟨_, rfl⟩
      obtain ⟨i, hi'⟩ : ∃ i, i = insideP xs := ⟨_, rfl⟩
      rw [← ha] at CA hp
      rw [← hb] at CC hp hb2 hb3
      rw [← hi'] at CC hp hi
      have ha3 : 0 < a := by omega
      have hab : a ≤ 300000 := by omega
      have hie : 2 * i + b - 2 = a := by omega
      have hb3' : 3 ≤ b := hb3
      have hib : i ≤ 300000 := by omega
      have hbb : b ≤ 300000 := by omega
      have W1 : IntKind.i64.wrap (2 * i) = 2 * i := by rw [IntKind.wrap_i64]; omega
      have W2 : IntKind.i64.wrap (2 * i + b) = 2 * i + b := by rw [IntKind.wrap_i64]; omega
      have W3 : IntKind.i64.wrap (2 * i + b - 2) = a := by rw [hie, IntKind.wrap_i64]; omega
      clear hx hf hv hp hii hn h3 h10 hb1 hb2 ha hb hi' hie hab hib hbb hb3
      go_enter Try.func6, Try.ntmps6
      go_wp2_with fail
      refine CF.out.mono ?_
      rintro e w0 ⟨rfl, rfl⟩
      go_wp2_with fail
      refine CA.out.mono ?_
      rintro e w1 ⟨rfl, hb1⟩
      go_wp2_with fail
      refine (CC.out _ hb1).mono ?_
      rintro e w2 ⟨rfl, hb2⟩
      have hb2 := belowC hb1 hb2
      go_wp2_with fail
      refine (CR.out _ hb2).mono ?_
      rintro e w3 ⟨rfl, hb3⟩
      have hb3 := belowC hb2 hb3
      go_wp2_with fail
      refine (CI.out _ hb3).mono ?_
      rintro e w4 ⟨rfl, hb4⟩
      have HB4 := Off.mk (belowC hb3 hb4)
      clear hb1 hb2 hb3 hb4
      go_wp2_with fail
      refine (alive_any _).mono ?_
      rintro e w5 ⟨rfl, hb5⟩
      go_wp2
      go_ret
      exact ⟨rfl, belowC HB4.out hb5⟩
  · have CF := Off.mk (few_any xs A c false (decide_eq_false hf) w)
    clear hx hf
    go_enter Try.func6, Try.ntmps6
    go_wp2_with fail
    refine CF.out.mono ?_
    rintro e w0 ⟨rfl, rfl⟩
    go_wp2_with fail
    refine (alive_any _).mono ?_
    rintro e w3 ⟨rfl, hb3⟩
    go_wp2
    go_ret
    exact ⟨rfl, hb3⟩
end Go.Proofs.Ytbpmiphipjkdlaa
