/- Contract: alive. -/
import Derived.Test.YtnhbkopgbibcgaaHi
import Derived.Test.YtnhbkopgbibcgaaHl
namespace Go.Proofs.Ytnhbkopgbibcgaa
open Go.RowKit Go.Shelf

theorem lit_two (w : World) (a b : Int) : IntsAt (w.alloc (.cells #[.int .i64 a, .int .i64 b] 3)) (some ⟨w.heap.size, 0, none⟩) [a, b] := by
  obtain ⟨⟨c0, c1⟩, _, _⟩ := two_facts (block_new w (.cells #[.int .i64 a, .int .i64 b] 3))
  refine ⟨by simp, fun j hj => ⟨_, rfl, ?_⟩⟩
  rw [Addr.add_lit, Nat.zero_add]
  match j, hj with
  | 0, _ => exact c0
  | 1, _ => exact c1
def OneState (out : List Int) (w : World) (e : Ending) (w' : World) : Prop := ∃ A c, e = .returned (.tuple #[.slice A 2 c, .int .i64 0]) ∧ IntsAt w' A out ∧ Below w.heap.size w w'
theorem one_of {a b : Int} {l out r : List Int} {w : World} {e : Ending} {w' : World} (hk : askedB a b l = true) (h2 : out = r) (hl : r.length = 2) (h : MovedPost a b l out w e w') : OneState r w e w' := by
  subst h2
  obtain ⟨v, he, hO, hb⟩ := h
  rw [hk, if_pos rfl] at hO he
  obtain ⟨A, c, rfl, hI, _⟩ := own_ints hO (by omega)
  rw [hl] at he
  exact ⟨A, c, he, hI, hb⟩
theorem alive_day (A : Option Addr) (w : World) (h : IntsAt w A [1, 0]) (hA : A = none → (2 : Nat) = 0) : Calls Try.prog 22 #[.int .i64 2, .int .i64 2, .slice A 2 2] w fun e w' => OneState [2, 1] w e w' :=
  (Day_any 2 2 [1, 0] A 2 w h (by decide) hA).mono fun _ _ h => one_of (by decide) (by decide) rfl h
theorem alive_back (A : Option Addr) (w : World) (h : IntsAt w A [0, 0]) (hA : A = none → (2 : Nat) = 0) : Calls Try.prog 25 #[.int .i64 2, .int .i64 2, .slice A 2 2] w fun e w' => OneState [2, 2] w e w' :=
  (Back_any 2 2 [0, 0] A 2 w h (by decide) hA).mono fun _ _ h => one_of (by decide) (by decide) rfl h
theorem alive_sweep (A : Option Addr) (w : World) (h : IntsAt w A [1, 0]) (hA : A = none → (2 : Nat) = 0) : Calls Try.prog 40 #[.int .i64 2, .int .i64 2, .slice A 2 2] w fun e w' => OneState [2, 1] w e w' :=
  (Sweep_any 2 2 [1, 0] A 2 w h (by decide) hA).mono fun _ _ h => one_of (by decide) (by decide) rfl h
theorem alive_word (A : Option Addr) (w : World) (h : IntsAt w A [1, 0]) (hA : A = none → (2 : Nat) = 0) : Calls Try.prog 21 #[.int .i64 2, .int .i64 2, .slice A 2 2] w fun e w' => e = .returned (.tuple #[.string ⟨#[117, 114, 117, 114]⟩, .int .i64 0]) ∧ Below w.heap.size w w' :=
  (Word_any 2 2 [1, 0] A 2 w h (by decide) hA).mono fun _ _ ⟨h, hb⟩ => ⟨by
    rw [h, show askedB 2 2 [1, 0] = true by decide, if_pos rfl, if_pos rfl, show wordP (2 : Int).toNat [1, 0] = [117, 114, 117, 114] by decide], hb⟩
theorem alive_same (w : World) : Calls Try.prog 15 #[.int .i64 2, .int .i64 2, .int .i64 2] w fun e w' => e = .returned (.tuple #[.int .i64 2, .int .i64 0]) ∧ Below w.heap.size w w' :=
  (Same_any 2 2 2 w).mono fun _ _ ⟨h, hb⟩ => ⟨by
    rw [h, show fieldB 2 2 = true by decide, if_pos rfl, if_pos rfl]
    show Ending.returned (.tuple #[.int .i64 ((sameP 2 2 ((2 : Int) % (2 + 2)).toNat : Nat) : Int), .int .i64 0]) = _
    rw [show sameP 2 2 ((2 : Int) % (2 + 2)).toNat = 2 by decide]
    rfl, hb⟩
theorem alive_eq (A B : Option Addr) (c d : Nat) (l : List Int) (w : World) (hl : l.length = 2) (h : IntsAt w A l) (k : IntsAt w B l) : Calls Try.prog 24 #[.slice A 2 c, .slice B 2 d] w fun e w' => e = .returned (.bool true) ∧ Below w.heap.size w w' := by
  have := same_any l l A B c d w h k
  rw [hl, decide_eq_true rfl] at this
  exact this

set_option maxHeartbeats 4000000 in
set_option maxRecDepth 100000 in
theorem alive_any (w : World) : Calls Try.prog 17 #[] w fun e w' => e = .returned (.bool true) ∧ Below w.heap.size w w' := by
  have HB : Off (∀ W : World, ∀ o, Below w.heap.size w W → Below w.heap.size w (W.alloc o)) := ⟨fun W o h => belowA h o⟩
  go_enter Try.func17, Try.ntmps17
  go_wp2_with fail
  have hb1 := HB.out w (.cells #[.int .i64 1, .int .i64 0] 3) (Below.refl _ _)
  refine (alive_day _ _ (lit_two w 1 0) (fun e => by cases e)).mono ?_
  rintro e w1 ⟨A1, c1, rfl, hI1, h1⟩
  have hb1 := belowC hb1 h1
  clear h1
  go_wp2_with fail
  have hb2 := HB.out w1 (.cells #[.int .i64 0, .int .i64 0] 3) hb1
  have hI1 := hI1.below ((Below.refl w1.heap.size w1).alloc (Nat.le_refl _) (.cells #[.int .i64 0, .int .i64 0] 3))
  refine (alive_back _ _ (lit_two w1 0 0) (fun e => by cases e)).mono ?_
  rintro e w2 ⟨A2, c2, rfl, hI2, h2⟩
  have hI1 := hI1.below h2
  have hb2 := belowC hb2 h2
  clear h2 hb1
  go_wp2_with fail
  have hb3 := HB.out w2 (.cells #[.int .i64 1, .int .i64 0] 3) hb2
  have hx := (Below.refl w2.heap.size w2).alloc (Nat.le_refl _) (.cells #[.int .i64 1, .int .i64 0] 3)
  refine (alive_word _ _ (lit_two w2 1 0) (fun e => by cases e)).mono ?_
  rintro e w3 ⟨rfl, h3⟩
  have hI1 := (hI1.below hx).below h3
  have hI2 := (hI2.below hx).below h3
  have hb3 := belowC hb3 h3
  clear h3 hb2 hx
  go_wp2_with fail
  have hb4 := HB.out w3 (.cells #[.int .i64 1, .int .i64 0] 3) hb3
  have hx := (Below.refl w3.heap.size w3).alloc (Nat.le_refl _) (.cells #[.int .i64 1, .int .i64 0] 3)
  refine (alive_sweep _ _ (lit_two w3 1 0) (fun e => by cases e)).mono ?_
  rintro e w4 ⟨A4, c4, rfl, hI4, h4⟩
  have hI1 := (hI1.below hx).below h4
  have hI2 := (hI2.below hx).below h4
  have hb4 := belowC hb4 h4
  clear h4 hb3 hx
  go_wp2_with fail
  refine (alive_same _).mono ?_
  rintro e w5 ⟨rfl, h5⟩
  have hI1 := hI1.below h5
  have hI2 := hI2.below h5
  have hI4 := hI4.below h5
  have hb5 := belowC hb4 h5
  clear h5 hb4
  go_wp2_with fail
  have hx := (Below.refl w5.heap.size w5).alloc (Nat.le_refl _) (.cells #[.int .i64 2, .int .i64 1] 3)
  refine (alive_eq _ _ _ _ [2, 1] _ rfl (hI1.below hx) (lit_two w5 2 1)).mono ?_
  rintro e w6 ⟨rfl, h6⟩
  have hI2 := (hI2.below hx).below h6
  have hI4 := (hI4.below hx).below h6
  have hb6 := belowC (HB.out _ _ hb5) h6
  clear h6 hb5 hx
  go_wp2_with fail
  have hx := (Below.refl w6.heap.size w6).alloc (Nat.le_refl _) (.cells #[.int .i64 2, .int .i64 2] 3)
  refine (alive_eq _ _ _ _ [2, 2] _ rfl (hI2.below hx) (lit_two w6 2 2)).mono ?_
  rintro e w7 ⟨rfl, h7⟩
  have hI4 := (hI4.below hx).below h7
  have hb7 := belowC (HB.out _ _ hb6) h7
  clear h7 hb6 hx
  go_wp2_with fail
  have hx := (Below.refl w7.heap.size w7).alloc (Nat.le_refl _) (.cells #[.int .i64 2, .int .i64 1] 3)
  refine (alive_eq _ _ _ _ [2, 1] _ rfl (hI4.below hx) (lit_two w7 2 1)).mono ?_
  rintro e w8 ⟨rfl, h8⟩
  have hb8 := belowC (HB.out _ _ hb7) h8
  clear h8 hb7 hx
  go_wp2
  go_ret
  exact ⟨rfl, hb8⟩
end Go.Proofs.Ytnhbkopgbibcgaa
