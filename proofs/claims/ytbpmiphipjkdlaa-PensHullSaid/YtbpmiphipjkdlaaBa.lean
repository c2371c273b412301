/- Contracts: square, alive. -/
import Derived.Test.YtbpmiphipjkdlaaAz
namespace Go.Proofs.Ytbpmiphipjkdlaa
open Go.RowKit Go.Shelf

def sqL : PtL := [(0, 0), (2, 0), (2, 2), (0, 2)]
def opT : PtL := [(1, 0), (0, 1), (-1, -1)]
def smT : Tri := ⟨(0, 0), (1, 0), (0, 1)⟩
theorem new4 (w : World) (p0 p1 p2 p3 : Int × Int) : PairsI (w.alloc (.cells #[.int .i64 p0.1, .int .i64 p0.2, .int .i64 p1.1, .int .i64 p1.2, .int .i64 p2.1, .int .i64 p2.2, .int .i64 p3.1, .int .i64 p3.2] 34)) (some ⟨w.heap.size, 0, none⟩) [p0, p1, p2, p3] := by
  have hb := block_new w (.cells #[.int .i64 p0.1, .int .i64 p0.2, .int .i64 p1.1, .int .i64 p1.2, .int .i64 p2.1, .int .i64 p2.2, .int .i64 p3.1, .int .i64 p3.2] 34)
  revert hb
  generalize w.alloc _ = W
  intro hb
  refine ⟨by simp, fun j hj => ⟨_, rfl, ?_⟩⟩
  have hj4 : j < 4 := hj
  match j, hj4 with
  | 0, _ => simp [World.cell?, hb, Addr.add_lit]
  | 1, _ => simp [World.cell?, hb, Addr.add_lit]
  | 2, _ => simp [World.cell?, hb, Addr.add_lit]
  | 3, _ => simp [World.cell?, hb, Addr.add_lit]
theorem new3 (w : World) (p0 p1 p2 : Int × Int) : PairsI (w.alloc (.cells #[.int .i64 p0.1, .int .i64 p0.2, .int .i64 p1.1, .int .i64 p1.2, .int .i64 p2.1, .int .i64 p2.2] 34)) (some ⟨w.heap.size, 0, none⟩) [p0, p1, p2] := by
  have hb := block_new w (.cells #[.int .i64 p0.1, .int .i64 p0.2, .int .i64 p1.1, .int .i64 p1.2, .int .i64 p2.1, .int .i64 p2.2] 34)
  revert hb
  generalize w.alloc _ = W
  intro hb
  refine ⟨by simp, fun j hj => ⟨_, rfl, ?_⟩⟩
  have hj3 : j < 3 := hj
  match j, hj3 with
  | 0, _ => simp [World.cell?, hb, Addr.add_lit]
  | 1, _ => simp [World.cell?, hb, Addr.add_lit]
  | 2, _ => simp [World.cell?, hb, Addr.add_lit]
theorem square_any (w : World) : Calls Try.prog 45 #[] w fun e w' => (∃ A, e = .returned (.slice A 4 4) ∧ PairsI w' A sqL) ∧ Below w.heap.size w w' := by
  have hp := new4 w (0, 0) (2, 0) (2, 2) (0, 2)
  have hb := belowA (Below.refl _ w) (.cells #[.int .i64 0, .int .i64 0, .int .i64 2, .int .i64 0, .int .i64 2, .int .i64 2, .int .i64 0, .int .i64 2] 34)
  have HP := Off.mk hp
  have HB := Off.mk hb
  clear hp hb
  go_enter Try.func45, Try.ntmps45
  go_wp2
  go_ret
  exact ⟨⟨_, rfl, HP.out⟩, HB.out⟩
theorem s_read : readP sqL = true := by decide +kernel
theorem s_area (w : World) (A : Option Addr) (hx : PairsI w A sqL) : Calls Try.prog 21 #[.slice A 4 4] w fun e w' => e = .returned (.tuple #[.int .i64 8, .int .i64 0]) ∧ Below w.heap.size w w' := by
  have h := Area_any sqL A 4 w hx
  rw [if_pos s_read, show ((twiceP sqL).natAbs : Int) = 8 by decide +kernel] at h
  exact h
theorem s_count (w : World) (A : Option Addr) (hx : PairsI w A sqL) : Calls Try.prog 22 #[.slice A 4 4] w fun e w' => e = .returned (.tuple #[.int .i64 8, .int .i64 1, .int .i64 0]) ∧ Below w.heap.size w w' := by
  have h := Count_any sqL A 4 w hx
  rw [if_pos s_read, show borderP sqL = 8 by decide +kernel, show insG sqL 1 = 1 by decide +kernel] at h
  exact h
theorem s_grown (w : World) (A : Option Addr) (hx : PairsI w A sqL) : Calls Try.prog 18 #[.slice A 4 4, .int .i64 2] w fun e w' => e = .returned (.tuple #[.int .i64 25, .int .i64 9, .int .i64 0]) ∧ Below w.heap.size w w' := by
  have h := Grown_any sqL A 4 2 w hx
  rw [if_pos ⟨s_read, by decide, by decide⟩, show allG sqL 2 = 25 by decide +kernel, show insG sqL 2 = 9 by decide +kernel] at h
  exact h
theorem s_opp (w : World) (A : Option Addr) (hx : PairsI w A opT) : Calls Try.prog 23 #[.slice A 3 3] w fun e w' => (∃ B c, e = .returned (.tuple #[.slice B 3 c, .int .i64 0]) ∧ PairsI w' B [(1, 1), (-2, 1), (1, -2)]) ∧ Below w.heap.size w w' := by
  refine (Opposite_yes opT A 3 w hx (by decide +kernel) (by decide +kernel) (by decide +kernel)).mono ?_
  rintro e w' ⟨⟨u, rfl, hO⟩, hb⟩
  rw [show oppL opT = [(1, 1), (-2, 1), (1, -2)] by decide +kernel] at hO
  obtain ⟨B, c, rfl, h1, _⟩ := ownQ_pairs hO (by simp)
  exact ⟨⟨B, c, rfl, h1⟩, hb⟩
theorem sm_none : ∀ q, inBox smT q → goodT smT q = false := by
  intro q hq
  have h1 : lowT smT = (0, 0) := by decide +kernel
  have h2 : highT smT = (1, 1) := by decide +kernel
  unfold inBox at hq
  rw [h1, h2] at hq
  obtain ⟨x, y⟩ := q
  simp only at hq
  have hx : x = 0 ∨ x = 1 := by omega
  have hy : y = 0 ∨ y = 1 := by omega
  rcases hx with rfl | rfl <;> rcases hy with rfl | rfl <;> decide +kernel
theorem s_split (w : World) (A : Option Addr) (hx : PairsI w A (triL smT)) : Calls Try.prog 39 #[.slice A 3 3] w fun e w' => (∃ B c, e = .returned (.tuple #[.slice B 1 c, .int .i64 0])) ∧ Below w.heap.size w w' := by
  refine (Split_one smT A 3 w hx (by decide +kernel) (by decide +kernel) (by decide +kernel) ⟨by decide, by decide, by decide⟩ sm_none).mono ?_
  rintro e w' ⟨⟨u, rfl, hO⟩, hb⟩
  rcases hO.out.2 with ⟨_, h1⟩ | ⟨g, cap, cur, rfl, _⟩
  · simp at h1
  · exact ⟨⟨_, _, rfl⟩, hb⟩
set_option maxHeartbeats 2000000 in
set_option maxRecDepth 100000 in
theorem alive_any (w : World) : Calls Try.prog 17 #[] w fun e w' => e = .returned (.bool true) ∧ Below w.heap.size w w' := by
  go_enter Try.func17, Try.ntmps17
  go_wp2_with fail
  refine (square_any _).mono ?_
  rintro e w1 ⟨⟨A1, rfl, hp1⟩, hb1⟩
  go_wp2_with fail
  refine (s_area _ _ hp1).mono ?_
  rintro e w2 ⟨rfl, hb2⟩
  have HB2 := Off.mk (belowC hb1 hb2)
  clear hb1 hb2 hp1
  go_wp2_with fail
  refine (square_any _).mono ?_
  rintro e w3 ⟨⟨A3, rfl, hp3⟩, hb3⟩
  go_wp2_with fail
  refine (s_count _ _ hp3).mono ?_
  rintro e w4 ⟨rfl, hb4⟩
  have HB4 := Off.mk (belowC (belowC HB2.out hb3) hb4)
  clear hb3 hb4 hp3 HB2
  go_wp2_with fail
  refine (square_any _).mono ?_
  rintro e w5 ⟨⟨A5, rfl, hp5⟩, hb5⟩
  go_wp2_with fail
  refine (s_grown _ _ hp5).mono ?_
  rintro e w6 ⟨rfl, hb6⟩
  have HB6 := Off.mk (belowC (belowC HB4.out hb5) hb6)
  clear hb5 hb6 hp5 HB4
  have C7 := Off.mk (s_opp _ _ (new3 w6 (1, 0) (0, 1) (-1, -1)))
  have HB7 := Off.mk (belowA HB6.out (.cells #[.int .i64 1, .int .i64 0, .int .i64 0, .int .i64 1, .int .i64 (-1), .int .i64 (-1)] 34))
  go_wp2_with fail
  refine C7.out.mono ?_
  rintro e w7 ⟨⟨B7, c7, rfl, hp7⟩, hb7⟩
  have HB7 := Off.mk (belowC HB7.out hb7)
  have HP7 := Off.mk hp7
  clear hb7 hp7 HB6 C7
  have C8 := Off.mk (s_split _ _ (new3 w7 (0, 0) (1, 0) (0, 1)))
  have HB8 := Off.mk (belowA HB7.out (.cells #[.int .i64 0, .int .i64 0, .int .i64 1, .int .i64 0, .int .i64 0, .int .i64 1] 34))
  have HB87 := Off.mk (belowA (Below.refl _ w7) (.cells #[.int .i64 0, .int .i64 0, .int .i64 1, .int .i64 0, .int .i64 0, .int .i64 1] 34))
  go_wp2_with fail
  refine C8.out.mono ?_
  rintro e w8 ⟨⟨B8, c8, rfl⟩, hb8⟩
  have HB8 := Off.mk (belowC HB8.out hb8)
  have HP8 := Off.mk ((HP7.out.below HB87.out).below hb8)
  clear hb8 HB7 C8 HP7 HB87
  have hb9 := belowA (Below.refl _ w8) (.cells #[.int .i64 1, .int .i64 1, .int .i64 (-2), .int .i64 1, .int .i64 1, .int .i64 (-2)] 34)
  have C9 := Off.mk (same_any [(1, 1), (-2, 1), (1, -2)] [(1, 1), (-2, 1), (1, -2)] B7 (some ⟨w8.heap.size, 0, none⟩) c7 3 true (by decide) _ (HP8.out.below hb9) (new3 w8 (1, 1) (-2, 1) (1, -2)))
  have HB9 := Off.mk (belowC HB8.out hb9)
  clear hb9 HB8 HP8
  go_wp2_with fail
  refine C9.out.mono ?_
  rintro e w9 ⟨rfl, hb9⟩
  have HB9 := Off.mk (belowC HB9.out hb9)
  clear hb9 C9
  go_wp2
  go_ret
  exact ⟨rfl, HB9.out⟩
end Go.Proofs.Ytbpmiphipjkdlaa
