/- The law GrazeTurns: its walk. -/
import Derived.Test.YtnhbkopgbibcgaaHr
import Derived.Test.YtnhbkopgbibcgaaHf
import Derived.Test.YtnhbkopgbibcgaaHo
namespace Go.Proofs.Ytnhbkopgbibcgaa
open Go.RowKit Go.Shelf

theorem turns_gets' {a b : Int} {l : List Int} {xs : List (Int × Int)} {w : World} {e : Ending} {w' : World} (hl : l.length ≤ 100) (h : TurnsPost a b l xs w e w') : Gets (if turnsErr a b l xs = 0 then turnsP xs l else []) (turnsErr a b l xs) w e w' := by
  obtain ⟨v, rfl, hO, hb⟩ := h
  have hlen : (if turnsErr a b l xs = 0 then turnsP xs l else []).length ≤ 100 := by
    split
    · rw [show (turnsP xs l).length = l.length from turnsTo_length _ _ _]; exact hl
    · simp
  obtain ⟨A, c, rfl, hI, h2, h3⟩ := own_ints' hO (by omega)
  exact ⟨A, c, rfl, hI, h2, h3, hb⟩

set_option maxHeartbeats 4000000 in
set_option maxRecDepth 100000 in
theorem turns_walk (a b : Int) (l : List Int) (A : Option Addr) (c : Nat) (x y : Int) (xs : List (Int × Int)) (Ax : Option Addr) (cx : Nat) (w : World) (hI : l.length ≤ 140737488351232 → IntsAt w A l) (hlc : l.length ≤ c) (hA : A = none → c = 0) (hP : xs.length ≤ 140737488351232 → PairsI w Ax xs) :
    Calls Try.prog 7 #[.int .i64 a, .int .i64 b, .slice A l.length c, .agg #[.int .i64 x, .int .i64 y], .slice Ax xs.length cx] w fun e w' => e = .returned (.bool true) ∧ Below w.heap.size w w' := by
  have HB : Off (∀ o, Below w.heap.size w (w.alloc o)) := ⟨fun o => (Below.refl _ _).alloc (Nat.le_refl _) _⟩
  by_cases h20 : 20 < l.length
  · clear hI hA hlc hP
    go_enter Try.func7, Try.ntmps7
    go_wp2_with (go_at_call 17; refine (alive_any _).mono ?_; rintro e w2 ⟨rfl, hb2⟩)
    go_ret
    exact ⟨rfl, belowC (HB.out _) hb2⟩
  · by_cases h300 : 300 < xs.length
    · clear hI hA hlc hP
      go_enter Try.func7, Try.ntmps7
      go_wp2_with (go_at_call 17; refine (alive_any _).mono ?_; rintro e w2 ⟨rfl, hb2⟩)
      go_ret
      exact ⟨rfl, belowC (HB.out _) hb2⟩
    · have hl := hI (by omega)
      have hp := hP (by omega)
      have hll : l.length ≤ 20 := by omega
      have H1 : Off (∀ (A : Option Addr) (c : Nat) (W : World), IntsAt W A l → l.length ≤ c → (A = none → c = 0) → Calls Try.prog 32 #[.int .i64 a, .int .i64 b, .slice A l.length c, .int .i64 x, .int .i64 y] W fun e w' => Gets (if turnsErr a b l [(x, y)] = 0 then turnsP [(x, y)] l else []) (turnsErr a b l [(x, y)]) W e w') := ⟨fun A c W h1 h2 h3 =>
        (Turn_any a b l A c x y W h1 h2 h3).mono fun _ _ h => turns_gets' (by omega) h⟩
      have H2 : Off (∀ (A : Option Addr) (c : Nat) (W : World), IntsAt W A l → l.length ≤ c → (A = none → c = 0) → Calls Try.prog 33 #[.int .i64 a, .int .i64 b, .slice A l.length c, .int .i64 x, .int .i64 y] W fun e w' => Gets (if turnsErr a b l [(x, y)] = 0 then turnsP [(x, y)] l else []) (turnsErr a b l [(x, y)]) W e w') := ⟨fun A c W h1 h2 h3 =>
        (rTurn_any a b l A c x y W h1 h2).mono fun _ _ h => turns_gets' (by omega) h⟩
      have H3 : Off (∀ (A : Option Addr) (c : Nat) (W : World), IntsAt W A l → l.length ≤ c → (A = none → c = 0) → Below w.heap.size w W → Calls Try.prog 30 #[.int .i64 a, .int .i64 b, .slice A l.length c, .slice Ax xs.length cx] W fun e w' => Gets (if turnsErr a b l xs = 0 then turnsP xs l else []) (turnsErr a b l xs) W e w') := ⟨fun A c W h1 h2 h3 hW =>
        (Turns_any a b l A c xs Ax cx W h1 h2 h3 (hp.below hW)).mono fun _ _ h => turns_gets' (by omega) h⟩
      have H4 : Off (∀ (A : Option Addr) (c : Nat) (W : World), IntsAt W A l → l.length ≤ c → (A = none → c = 0) → Below w.heap.size w W → Calls Try.prog 34 #[.int .i64 a, .int .i64 b, .slice A l.length c, .slice Ax xs.length cx] W fun e w' => Gets (if turnsErr a b l xs = 0 then turnsP xs l else []) (turnsErr a b l xs) W e w') := ⟨fun A c W h1 h2 h3 hW =>
        (rTurns_any a b l A c xs Ax cx W h1 h2 h3 (hp.below hW)).mono fun _ _ h => turns_gets' (by omega) h⟩
      obtain ⟨R1, hR1⟩ : ∃ R, R = (if turnsErr a b l [(x, y)] = 0 then turnsP [(x, y)] l else []) := ⟨_, rfl⟩
      obtain ⟨R2, hR2⟩ : ∃ R, R = (if turnsErr a b l xs = 0 then turnsP xs l else []) := ⟨_, rfl⟩
      obtain ⟨z1, hz1⟩ : ∃ z, z = turnsErr a b l [(x, y)] := ⟨_, rfl⟩
      obtain ⟨z2, hz2⟩ : ∃ z, z = turnsErr a b l xs := ⟨_, rfl⟩
      rw [← hR1, ← hz1] at H1 H2
      rw [← hR2, ← hz2] at H3 H4
      have HI := Off.mk hl
      have b0 := HB.out (.cells #[.int .i64 x, .int .i64 y] 43)
      obtain ⟨⟨q0, q1⟩, _, _⟩ := two_facts (block_new w (.cells #[.int .i64 x, .int .i64 y] 43))
      have hl0 := hl.below b0
      clear hR1 hR2 hz1 hz2 hI hP hp hl
      go_enter Try.func7, Try.ntmps7
      go_wp2_with (at_builtin; refine wpList_copy rfl _ _ rfl A l c hl0 hlc (by omega) hA (by rw [World.size_alloc]; rfl) rfl ?_)
      intro v1 w1 hO1 b1'
      have b1 : Below (w.alloc (.cells #[.int .i64 x, .int .i64 y] 43)).heap.size (w.alloc (.cells #[.int .i64 x, .int .i64 y] 43)) w1 := by rw [World.size_alloc]; exact b1'
      have q0 := cellB b1 q0
      have q1 := cellB b1 q1
      have b1 := belowC b0 b1
      obtain ⟨A1, c1, rfl, hI1, hlc1, hA1⟩ := own_ints' hO1 (by omega)
      clear hl0 b0 hO1
      go_wp2_with fail
      refine (H1.out _ _ _ hI1 hlc1 hA1).mono ?_
      rintro e w2 ⟨A2, c2, rfl, hI2, _, _, h2⟩
      have b2 := belowC b1 h2
      have hI1 := hI1.below h2
      have q0 := cellB h2 q0
      have q1 := cellB h2 q1
      clear h2 b1
      go_wp2_with fail
      refine (H2.out _ _ _ (HI.out.below b2) hlc hA).mono ?_
      rintro e w3 ⟨A3, c3, rfl, hI3, _, _, h3⟩
      have b3 := belowC b2 h3
      have hI1 := hI1.below h3
      have hI2 := hI2.below h3
      clear h3 b2 q0 q1
      go_wp2_with fail
      refine (same_self R1 _ _ _ _ _ hI2 hI3).mono ?_
      rintro e w4 ⟨rfl, h4⟩
      have b4 := belowC b3 h4
      have hI1 := hI1.below h4
      clear h4 b3 hI2 hI3
      go_wp2_with fail
      refine (H3.out _ _ _ hI1 hlc1 hA1 b4).mono ?_
      rintro e w5 ⟨A5, c5, rfl, hI5, _, _, h5⟩
      have b5 := belowC b4 h5
      have hI1 := hI1.below h5
      clear h5 b4
      go_wp2_with fail
      refine (H4.out _ _ _ (HI.out.below b5) hlc hA b5).mono ?_
      rintro e w6 ⟨A6, c6, rfl, hI6, _, _, h6⟩
      have b6 := belowC b5 h6
      have hI1 := hI1.below h6
      have hI5 := hI5.below h6
      clear h6 b5
      go_wp2_with fail
      refine (same_self R2 _ _ _ _ _ hI5 hI6).mono ?_
      rintro e w7 ⟨rfl, h7⟩
      have b7 := belowC b6 h7
      have hI1 := hI1.below h7
      clear h7 b6 hI5 hI6
      go_wp2_with fail
      refine (same_self l _ _ _ _ _ hI1 (HI.out.below b7)).mono ?_
      rintro e w8 ⟨rfl, h8⟩
      have b8 := belowC b7 h8
      clear h8 b7
      go_wp2_with (go_at_call 17; refine (alive_any _).mono ?_; rintro e w12 ⟨rfl, hb12⟩)
      go_ret
      exact ⟨rfl, belowC b8 hb12⟩
end Go.Proofs.Ytnhbkopgbibcgaa
