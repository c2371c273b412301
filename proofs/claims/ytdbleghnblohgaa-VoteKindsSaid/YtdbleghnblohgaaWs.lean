/- The law VoteKinds: its walk. -/
import Derived.Test.YtdbleghnblohgaaWq
import Derived.Test.YtdbleghnblohgaaWr
namespace Go.Proofs.Ytdbleghnblohgaa
open Go.RowKit Go.Shelf

theorem kinds_alike (q : Int) (l : List Int) (h30 : l.length ≤ 30) : ∃ x y z k : Int, (∀ A c W, IntsAt W A l → l.length ≤ c → Calls Try.prog 38 #[.agg #[.int .i64 q, .slice A l.length c]] W fun e w' => e = .returned (.tuple #[.int .i64 x, .int .i64 y, .int .i64 z, .int .i64 k]) ∧ Below W.heap.size W w') ∧
    ∀ A c W, IntsAt W A l → l.length ≤ c → Calls Try.prog 40 #[.agg #[.int .i64 q, .slice A l.length c]] W fun e w' => e = .returned (.tuple #[.int .i64 x, .int .i64 y, .int .i64 z, .int .i64 k]) ∧ Below W.heap.size W w' := by
  cases h : bodyB q l
  · exact ⟨0, 0, 0, 2, fun A c W hI _ => Kinds_no q l A c W hI h, fun A c W hI hc => rKinds_no q l A c W hI hc h30 h⟩
  · exact ⟨_, _, _, 0, fun A c W hI _ => Kinds_yes q l A c W hI h, fun A c W hI hc => rKinds_yes q l A c W hI hc h⟩
theorem same_alike (q r : Int) (l k : List Int) (hl30 : l.length ≤ 30) (hk30 : k.length ≤ 30) : ∃ jb je, (∀ A B c d W, IntsAt W A l → IntsAt W B k → Calls Try.prog 39 #[.agg #[.int .i64 q, .slice A l.length c], .agg #[.int .i64 r, .slice B k.length d]] W fun e w' => e = .returned (.tuple #[.bool jb, .int .i64 je]) ∧ Below W.heap.size W w') ∧
    ∀ A B c d W, IntsAt W A l → IntsAt W B k → Calls Try.prog 41 #[.agg #[.int .i64 q, .slice A l.length c], .agg #[.int .i64 r, .slice B k.length d]] W fun e w' => e = .returned (.tuple #[.bool jb, .int .i64 je]) ∧ Below W.heap.size W w' := by
  by_cases h : bodyB q l = true ∧ bodyB r k = true
  · exact ⟨_, 0, fun A B c d W hI hJ => Same_yes q r l k A B c d W hI hJ h.1 h.2, fun A B c d W hI hJ => rSame_yes q r l k A B c d W hI hJ h.1 h.2⟩
  · exact ⟨false, 2, fun A B c d W hI hJ => Same_no q r l k A B c d W hI hJ h, fun A B c d W hI hJ => rSame_no q r l k A B c d W hI hJ hl30 hk30 h⟩

set_option maxHeartbeats 2000000 in
theorem vkinds_many (q r : Int) (l k : List Int) (A B : Option Addr) (c d : Nat) (w : World) (h30 : 30 < l.length ∨ 30 < k.length) :
    Calls Try.prog 14 #[.agg #[.int .i64 q, .slice A l.length c], .agg #[.int .i64 r, .slice B k.length d]] w fun e w' => e = .returned (.bool true) ∧ Below w.heap.size w w' := by
  have HB : Off (∀ o o', Below w.heap.size w ((w.alloc o).alloc o')) := ⟨fun o o' => belowA ((Below.refl _ _).alloc (Nat.le_refl _) _) _⟩
  have hB2 := Off.mk (box_body (w.alloc (.cells #[.int .i64 q, .slice A l.length c] 24)) r B k.length d)
  by_cases hl : 30 < l.length
  · clear h30
    go_enter Try.func14, Try.ntmps14
    go_wp2_with fail
    refine (c_few_no q A l.length c hl _).mono ?_
    rintro e w1 ⟨rfl, hb1⟩
    go_wp2_with (go_at_call 16; refine (alive_any _).mono ?_; rintro e w2 ⟨rfl, hb2⟩)
    go_ret
    exact ⟨rfl, belowC (belowC (HB.out _ _) hb1) hb2⟩
  · have hk : 30 < k.length := by omega
    clear h30
    go_enter Try.func14, Try.ntmps14
    go_wp2_with fail
    refine (c_few q A l.length c (by omega) _).mono ?_
    rintro e w1 ⟨rfl, hb1⟩
    have hb := hB2.out.below hb1
    have h1 := hb.quota
    have h2 := hb.weights
    rw [show (w.alloc (.cells #[.int .i64 q, .slice A l.length c] 24)).heap.size = w.heap.size + 1 by simp] at h1 h2
    go_wp2_with fail
    refine (c_few_no r B k.length d hk _).mono ?_
    rintro e w3 ⟨rfl, hb3⟩
    go_wp2_with (go_at_call 16; refine (alive_any _).mono ?_; rintro e w2 ⟨rfl, hb2⟩)
    go_ret
    exact ⟨rfl, belowC (belowC (belowC (HB.out _ _) hb1) hb3) hb2⟩

set_option maxHeartbeats 4000000 in
theorem vkinds_few (q r : Int) (l k : List Int) (A B : Option Addr) (c d : Nat) (w : World) (hl : IntsAt w A l) (hk : IntsAt w B k) (hlc : l.length ≤ c) (hl30 : l.length ≤ 30) (hk30 : k.length ≤ 30) :
    Calls Try.prog 14 #[.agg #[.int .i64 q, .slice A l.length c], .agg #[.int .i64 r, .slice B k.length d]] w fun e w' => e = .returned (.bool true) ∧ Below w.heap.size w w' := by
  have HB : Off (∀ o o', Below w.heap.size w ((w.alloc o).alloc o')) := ⟨fun o o' => belowA ((Below.refl _ _).alloc (Nat.le_refl _) _) _⟩
  have hA2 : Below (w.alloc (.cells #[.int .i64 q, .slice A l.length c] 24)).heap.size (w.alloc (.cells #[.int .i64 q, .slice A l.length c] 24)) ((w.alloc (.cells #[.int .i64 q, .slice A l.length c] 24)).alloc (.cells #[.int .i64 r, .slice B k.length d] 24)) := (Below.refl _ _).alloc (Nat.le_refl _) _
  have hB1 := Off.mk ((box_body w q A l.length c).below hA2)
  have hB2 := box_body (w.alloc (.cells #[.int .i64 q, .slice A l.length c] 24)) r B k.length d
  rw [show (w.alloc (.cells #[.int .i64 q, .slice A l.length c] 24)).heap.size = w.heap.size + 1 by simp] at hB2
  have HB2 := Off.mk hB2
  clear hB2 hA2
  obtain ⟨x, y, z, n, HK1, HK2⟩ := kinds_alike q l hl30
  obtain ⟨jb, je, HS1, HS2⟩ := same_alike q r l k hl30 hk30
  have HK1 := Off.mk HK1
  have HK2 := Off.mk HK2
  have HS1 := Off.mk HS1
  have HS2 := Off.mk HS2
  go_enter Try.func14, Try.ntmps14
  go_wp2_with fail
  refine (c_few q A l.length c hl30 _).mono ?_
  rintro e w1 ⟨rfl, hb1⟩
  have B1 := belowC (HB.out _ _) hb1
  have hx := hB1.out.below hb1
  have hy := HB2.out.below hb1
  have f0 := hx.quota
  have f1 := hx.weights
  have g0 := hy.quota
  have g1 := hy.weights
  clear hx hy
  go_wp2_with fail
  refine (c_few r B k.length d hk30 _).mono ?_
  rintro e w2 ⟨rfl, hb2⟩
  have B2 := belowC B1 hb2
  have f0 := cellB hb2 f0
  have f1 := cellB hb2 f1
  have g0 := cellB hb2 g0
  have g1 := cellB hb2 g1
  go_wp2_with fail
  refine (HK1.out A c _ (hl.below B2) hlc).mono ?_
  rintro e w3 ⟨rfl, hb3⟩
  have B3 := belowC B2 hb3
  have f0 := cellB hb3 f0
  have f1 := cellB hb3 f1
  have g0 := cellB hb3 g0
  have g1 := cellB hb3 g1
  go_wp2_with fail
  refine (HK2.out A c _ (hl.below B3) hlc).mono ?_
  rintro e w4 ⟨rfl, hb4⟩
  have B4 := belowC B3 hb4
  have f0 := cellB hb4 f0
  have f1 := cellB hb4 f1
  have g0 := cellB hb4 g0
  have g1 := cellB hb4 g1
  clear hb1 hb2 hb3 hb4 B1 B2 B3
  go_wp2_with fail
  refine (HS1.out A B c d _ (hl.below B4) (hk.below B4)).mono ?_
  rintro e w5 ⟨rfl, hb5⟩
  have B5 := belowC B4 hb5
  have f0 := cellB hb5 f0
  have f1 := cellB hb5 f1
  have g0 := cellB hb5 g0
  have g1 := cellB hb5 g1
  go_wp2_with fail
  refine (HS2.out A B c d _ (hl.below B5) (hk.below B5)).mono ?_
  rintro e w6 ⟨rfl, hb6⟩
  have B6 := belowC B5 hb6
  cases jb
  · go_wp2_with (go_at_call 16; refine (alive_any _).mono ?_; rintro e w7 ⟨rfl, hb7⟩)
    go_ret
    exact ⟨rfl, belowC B6 hb7⟩
  · go_wp2_with (go_at_call 16; refine (alive_any _).mono ?_; rintro e w7 ⟨rfl, hb7⟩)
    go_ret
    exact ⟨rfl, belowC B6 hb7⟩
end Go.Proofs.Ytdbleghnblohgaa
