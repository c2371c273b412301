/- The law VoteWeights: its walk. -/
import Derived.Test.YtdbleghnblohgaaVv
import Derived.Test.YtdbleghnblohgaaWy
namespace Go.Proofs.Ytdbleghnblohgaa
open Go.RowKit Go.Shelf

/-- What both sides answer with: a quota, the weights, a code. -/
def Gives (q : Int) (L : List Int) (k : Int) (w : World) (e : Ending) (w' : World) : Prop :=
  (∃ A c, e = .returned (.tuple #[.agg #[.int .i64 q, .slice A L.length c], .int .i64 k]) ∧ IntsAt w' A L) ∧ Below w.heap.size w w'
theorem weights_alike (n : Int) (l : List Int) (A : Option Addr) (cp : Nat) (w : World) (hl : IntsAt w A l) (hlc : l.length ≤ cp) : ∃ q L k, (∀ W, Below w.heap.size w W → Calls Try.prog 22 #[.int .i64 n, .slice A l.length cp] W fun e w' => Gives q L k W e w') ∧
    ∀ W, Below w.heap.size w W → Calls Try.prog 23 #[.int .i64 n, .slice A l.length cp] W fun e w' => Gives q L k W e w' := by
  have hnil : ∀ W : World, IntsAt W none [] := fun W => ⟨by simp, fun j hj => by simp at hj⟩
  cases hr : isRule n l
  · refine ⟨0, [], 2, fun W hW => (Weights_no n l A cp W (hl.below hW) hlc hr).mono ?_, fun W hW => (rWeights_no n l A cp W (hl.below hW) hlc hr).mono ?_⟩
    · rintro e w' ⟨rfl, hb⟩
      exact ⟨⟨none, 0, rfl, hnil _⟩, hb⟩
    · rintro e w' ⟨rfl, hb⟩
      exact ⟨⟨none, 0, rfl, hnil _⟩, hb⟩
  · obtain ⟨⟨m, rfl, hm1, hm⟩, _⟩ := isRule_range hr
    by_cases hs : 0 < (searchTo (ruleB l) m (9 * m)).1
    · have hlen := (search_sound hm1 hs).len
      refine ⟨(searchTo (ruleB l) m (9 * m)).1, (searchTo (ruleB l) m (9 * m)).2, 0, fun W hW => (Weights_yes m l A cp W (hl.below hW) hlc hr).mono ?_, fun W hW => (rWeights_yes m l A cp W (hl.below hW) hlc hr).mono ?_⟩
      · rintro e w' ⟨h | h, hb⟩
        · obtain ⟨_, v, rfl, hO⟩ := h
          obtain ⟨A1, c1, rfl, hI, _⟩ := own_ints hO (by omega)
          exact ⟨⟨A1, c1, rfl, hI⟩, hb⟩
        · exact absurd hs h.1
      · rintro e w' ⟨h | h, hb⟩
        · obtain ⟨_, A1, c1, rfl, hI, hl1⟩ := h
          exact ⟨⟨A1, c1, by simp only [hl1], hI⟩, hb⟩
        · exact absurd hs h.1
    · refine ⟨0, [], 10, fun W hW => (Weights_yes m l A cp W (hl.below hW) hlc hr).mono ?_, fun W hW => (rWeights_yes m l A cp W (hl.below hW) hlc hr).mono ?_⟩
      · rintro e w' ⟨h | h, hb⟩
        · exact absurd h.1 hs
        · exact ⟨⟨none, 0, h.2, hnil _⟩, hb⟩
      · rintro e w' ⟨h | h, hb⟩
        · exact absurd h.1 hs
        · exact ⟨⟨none, 0, h.2, hnil _⟩, hb⟩

set_option maxHeartbeats 2000000 in
theorem vweights_many (n : Int) (l : List Int) (A : Option Addr) (c : Nat) (w : World) (h60 : 60 < l.length) :
    Calls Try.prog 4 #[.int .i64 n, .slice A l.length c] w fun e w' => e = .returned (.bool true) ∧ Below w.heap.size w w' := by
  go_enter Try.func4, Try.ntmps4
  go_wp2_with (go_at_call 16; refine (alive_any _).mono ?_; rintro e w2 ⟨rfl, hb2⟩)
  go_ret
  exact ⟨rfl, hb2⟩

set_option maxHeartbeats 4000000 in
theorem vweights_few (n : Int) (l : List Int) (A : Option Addr) (c : Nat) (w : World) (hl : IntsAt w A l) (hlc : l.length ≤ c) (h60 : l.length ≤ 60) :
    Calls Try.prog 4 #[.int .i64 n, .slice A l.length c] w fun e w' => e = .returned (.bool true) ∧ Below w.heap.size w w' := by
  obtain ⟨q, L, k, H1, H2⟩ := weights_alike n l A c w hl hlc
  have H1 := Off.mk H1
  have H2 := Off.mk H2
  go_enter Try.func4, Try.ntmps4
  go_wp2_with fail
  refine (H1.out _ (Below.refl _ _)).mono ?_
  rintro e w1 ⟨⟨A1, c1, rfl, hI1⟩, hb1⟩
  have hW1 := box_body w1 q A1 L.length c1
  have hA1 : Below w1.heap.size w1 (w1.alloc (.cells #[.int .i64 q, .slice A1 L.length c1] 24)) := (Below.refl _ _).alloc (Nat.le_refl _) _
  have B1 := belowC hb1 hA1
  have hI1 := hI1.below hA1
  go_wp2_with fail
  refine (H2.out _ B1).mono ?_
  rintro e w2 ⟨⟨A2, c2, rfl, hI2⟩, hb2⟩
  have hW2 := box_body w2 q A2 L.length c2
  have hA2 : Below w2.heap.size w2 (w2.alloc (.cells #[.int .i64 q, .slice A2 L.length c2] 24)) := (Below.refl _ _).alloc (Nat.le_refl _) _
  have B2 := belowC (belowC B1 hb2) hA2
  have hI1 := (hI1.below hb2).below hA2
  have hI2 := hI2.below hA2
  have hV := (hW1.below hb2).below hA2
  have f0 := hV.quota
  have f1 := hV.weights
  have g0 := hW2.quota
  have g1 := hW2.weights
  clear H1 H2 hb1 hb2 hA1 hA2 hW1 hW2 hV B1
  go_wp2_with fail
  refine (same_any L L A1 A2 c1 c2 _ hI1 hI2).mono ?_
  rw [decide_eq_true rfl]
  rintro e w3 ⟨rfl, hb3⟩
  have B3 := belowC B2 hb3
  go_wp2_with (go_at_call 16; refine (alive_any _).mono ?_; rintro e w4 ⟨rfl, hb4⟩)
  go_ret
  exact ⟨rfl, belowC B3 hb4⟩
end Go.Proofs.Ytdbleghnblohgaa
