/- The law BrandsEars: turned, and its walk. -/
import Derived.Test.YtddcdopimpfhcaaFl
namespace Go.Proofs.Ytddcdopimpfhcaa
open Go.RowKit Go.Shelf

set_option linter.unusedSimpArgs false in
set_option maxHeartbeats 4000000 in
set_option maxRecDepth 100000 in
theorem turned_yes (xs ys : List Int) (A B : Option Addr) (c d n s0 : Nat) (hxl : xs.length = n) (hyl : ys.length = n) (hs0 : s0 < n) (hturn : ∀ i, i < n → xs.getD i 0 = ys.getD ((i + s0) % n) 0) (hn : n ≤ 100) (w : World) (hx : IntsAt w A xs) (hy : IntsAt w B ys) :
    Calls Try.prog 47 #[.slice A n c, .slice B n d] w fun e w' => e = .returned (.bool true) ∧ Below w.heap.size w w' := by
  have HX := Off.mk hx
  have HY := Off.mk hy
  have HT := Off.mk hturn
  have HL : Off (xs.length = n ∧ ys.length = n) := ⟨hxl, hyl⟩
  have hlb : ((n : Int) != (n : Int)) = false := by simp
  clear hx hy hturn hxl hyl
  go_enter Try.func47, Try.ntmps47
  go_wp2
  go_loopw [5] (fun sv wr => ∃ s : Nat, s ≤ s0 ∧ sv = .int .i64 s ∧ Off (Below w.heap.size w wr)) (fun sv _ => n - (intOf sv).toNat)
  case atStart => exact ⟨0, by omega, rfl, ⟨Below.refl _ _⟩⟩
  case round =>
    obtain ⟨s, hs, rfl, HB⟩ := hrel
    have hsI : (s : Int) < (n : Int) := by omega
    obtain ⟨wo, hwo⟩ : ∃ wo : World, wo = wr := ⟨_, rfl⟩
    rw [← hwo] at HB ⊢
    clear hwo
    go_wp2
    go_loopw [6, 7] (fun bv iv wr => ∃ i : Nat, i ≤ n ∧ iv = .int .i64 i ∧ (∃ b : Bool, bv = .bool b ∧ Off (s = s0 → b = true)) ∧ Off (Below w.heap.size w wr)) (fun _ iv _ => n - (intOf iv).toNat)
    case atStart => exact ⟨0, by omega, rfl, ⟨true, rfl, ⟨fun _ => rfl⟩⟩, HB⟩
    case round =>
      obtain ⟨i, hi, rfl, ⟨b, rfl, HBb⟩, HBr⟩ := hrel
      by_cases hin : i < n
      · have hiI : (i : Int) < (n : Int) := by omega
        obtain ⟨j, hj⟩ : ∃ j, j = (i + s) % n := ⟨_, rfl⟩
        have hjn : j < n := by rw [hj]; exact Nat.mod_lt _ (by omega)
        have hxr := HX.out.below HBr.out
        have hyr := HY.out.below HBr.out
        obtain ⟨ad, rfl, x0⟩ := hxr.cell i (by rw [HL.out.1]; exact hin)
        obtain ⟨bd, rfl, y0⟩ := hyr.cell j (by rw [HL.out.2]; exact hjn)
        have e5 : ((i : Int) + (s : Int)) % (n : Int) = (j : Int) := by
          rw [hj, show (i : Int) + (s : Int) = ((i + s : Nat) : Int) by omega]
          exact (Int.natCast_emod _ _).symm
        have e7 : ((i : Int) + (s : Int)).tmod (n : Int) = (j : Int) := by rw [Int.tmod_eq_emod_of_nonneg (by omega)]; exact e5
        have w5 : IntKind.i64.wrap ((i : Int) + (s : Int)) = (i : Int) + (s : Int) := by rw [IntKind.wrap_i64]; omega
        have hn0 : ¬ n = 0 := by omega
        have hj0 : (0 : Int) ≤ (j : Int) := by omega
        have hjI : (j : Int) < (n : Int) := by omega
        have HE : Off (s = s0 → xs.getD i 0 = ys.getD j 0) := ⟨fun e => by rw [hj, e]; exact HT.out i hin⟩
        obtain ⟨x, hxe⟩ : ∃ x, x = xs.getD i 0 := ⟨_, rfl⟩
        obtain ⟨y, hye⟩ : ∃ y, y = ys.getD j 0 := ⟨_, rfl⟩
        rw [← hxe] at x0 HE
        rw [← hye] at y0 HE
        clear hxe hye hj hjn hxr hyr
        cases b with
        | false =>
          have HR : Off (s = s0 → false = true) := HBb
          clear HBb
          go_wp2
          refine wp_region_held_drew (S := (fun w' => w'.cell? (ad.add i) = some (.int .i64 x) ∧ w'.cell? (bd.add j) = some (.int .i64 y))) (by kernel_rfl) ⟨x0, y0⟩ (fun hHeld => ?_)
          refine wpAnyH_take (i := 0) (oi := ⟨some 25, _, _, _, _, _⟩) (v := ?_) rfl (by kernel_rfl) (by kernel_rfl) (by kernel_rfl) (fun _ _ _ h => h) (Or.inl ⟨by rfl, by intro w hSw; (try dsimp only at hSw); go_simp; try with_reducible rfl⟩) hHeld ?_
          try simp only [Act.put, List.setIfInBounds_toArray, List.set_cons_zero, List.set_cons_succ]
          refine wpAnyH_take (i := 1) (oi := ⟨some 26, _, _, _, _, _⟩) (v := ?_) rfl (by kernel_rfl) (by kernel_rfl) (by kernel_rfl) (fun _ _ _ h => h) (Or.inl ⟨by rfl, by intro w hSw; (try dsimp only at hSw); go_simp; try with_reducible rfl⟩) hHeld ?_
          try simp only [Act.put, List.setIfInBounds_toArray, List.set_cons_zero, List.set_cons_succ]
          refine wpAnyH_take (i := 2) (oi := ⟨some 27, _, _, _, _, _⟩) (v := undef) rfl (by kernel_rfl) (by kernel_rfl) (by kernel_rfl) (fun _ _ _ h => h) (Or.inr ⟨by rfl, rfl⟩) hHeld ?_
          try simp only [Act.put, List.setIfInBounds_toArray, List.set_cons_zero, List.set_cons_succ]
          refine wpAnyH_take (i := 3) (oi := ⟨some 28, _, _, _, _, _⟩) (v := undef) rfl (by kernel_rfl) (by kernel_rfl) (by kernel_rfl) (fun _ _ _ h => h) (Or.inr ⟨by rfl, rfl⟩) hHeld ?_
          try simp only [Act.put, List.setIfInBounds_toArray, List.set_cons_zero, List.set_cons_succ]
          refine wpAnyH_take (i := 4) (oi := ⟨some 29, _, _, _, _, _⟩) (v := undef) rfl (by kernel_rfl) (by kernel_rfl) (by kernel_rfl) (fun _ _ _ h => h) (Or.inr ⟨by rfl, rfl⟩) hHeld ?_
          try simp only [Act.put, List.setIfInBounds_toArray, List.set_cons_zero, List.set_cons_succ]
          refine wpAnyH_take (i := 5) (oi := ⟨some 30, _, _, _, _, _⟩) (v := undef) rfl (by kernel_rfl) (by kernel_rfl) (by kernel_rfl) (fun _ _ _ h => h) (Or.inr ⟨by rfl, rfl⟩) hHeld ?_
          try simp only [Act.put, List.setIfInBounds_toArray, List.set_cons_zero, List.set_cons_succ]
          refine wpAnyH_take (i := 6) (oi := ⟨some 31, _, _, _, _, _⟩) (v := undef) rfl (by kernel_rfl) (by kernel_rfl) (by kernel_rfl) (fun _ _ _ h => h) (Or.inr ⟨by rfl, rfl⟩) hHeld ?_
          try simp only [Act.put, List.setIfInBounds_toArray, List.set_cons_zero, List.set_cons_succ]
          refine wpAnyH_take (i := 7) (oi := ⟨some 32, _, _, _, _, _⟩) (v := undef) rfl (by kernel_rfl) (by kernel_rfl) (by kernel_rfl) (fun _ _ _ h => h) (Or.inr ⟨by rfl, rfl⟩) hHeld ?_
          try simp only [Act.put, List.setIfInBounds_toArray, List.set_cons_zero, List.set_cons_succ]
          refine wpAnyH_take (i := 8) (oi := ⟨some 33, _, _, _, _, _⟩) (v := undef) rfl (by kernel_rfl) (by kernel_rfl) (by kernel_rfl) (fun _ _ _ h => h) (Or.inr ⟨by rfl, rfl⟩) hHeld ?_
          try simp only [Act.put, List.setIfInBounds_toArray, List.set_cons_zero, List.set_cons_succ]
          refine wpAnyH_take (i := 9) (oi := ⟨some 34, _, _, _, _, _⟩) (v := undef) rfl (by kernel_rfl) (by kernel_rfl) (by kernel_rfl) (fun _ _ _ h => h) (Or.inr ⟨by rfl, rfl⟩) hHeld ?_
          try simp only [Act.put, List.setIfInBounds_toArray, List.set_cons_zero, List.set_cons_succ]
          refine wpAnyH_take (i := 10) (oi := ⟨some 35, _, _, _, _, _⟩) (v := undef) rfl (by kernel_rfl) (by kernel_rfl) (by kernel_rfl) (fun _ _ _ h => h) (Or.inr ⟨by rfl, rfl⟩) hHeld ?_
          try simp only [Act.put, List.setIfInBounds_toArray, List.set_cons_zero, List.set_cons_succ]
          refine wpAnyH_take (i := 11) (oi := ⟨some 36, _, _, _, _, _⟩) (v := undef) rfl (by kernel_rfl) (by kernel_rfl) (by kernel_rfl) (fun _ _ _ h => h) (Or.inr ⟨by rfl, rfl⟩) hHeld ?_
          try simp only [Act.put, List.setIfInBounds_toArray, List.set_cons_zero, List.set_cons_succ]
          refine wpAnyH_take (i := 12) (oi := ⟨some 37, _, _, _, _, _⟩) (v := undef) rfl (by kernel_rfl) (by kernel_rfl) (by kernel_rfl) (fun _ _ _ h => h) (Or.inr ⟨by rfl, rfl⟩) hHeld ?_
          try simp only [Act.put, List.setIfInBounds_toArray, List.set_cons_zero, List.set_cons_succ]
          refine wpAnyH_take (i := 13) (oi := ⟨some 38, _, _, _, _, _⟩) (v := undef) rfl (by kernel_rfl) (by kernel_rfl) (by kernel_rfl) (fun _ _ _ h => h) (Or.inr ⟨by rfl, rfl⟩) hHeld ?_
          try simp only [Act.put, List.setIfInBounds_toArray, List.set_cons_zero, List.set_cons_succ]
          refine wpAnyH_take (i := 14) (oi := ⟨some 39, _, _, _, _, _⟩) (v := undef) rfl (by kernel_rfl) (by kernel_rfl) (by kernel_rfl) (fun _ _ _ h => h) (Or.inr ⟨by rfl, rfl⟩) hHeld ?_
          try simp only [Act.put, List.setIfInBounds_toArray, List.set_cons_zero, List.set_cons_succ]
          refine wpAnyH_take (i := 15) (oi := ⟨some 40, _, _, _, _, _⟩) (v := undef) rfl (by kernel_rfl) (by kernel_rfl) (by kernel_rfl) (fun _ _ _ h => h) (Or.inr ⟨by rfl, rfl⟩) hHeld ?_
          try simp only [Act.put, List.setIfInBounds_toArray, List.set_cons_zero, List.set_cons_succ]
          refine wpAnyH_take (i := 16) (oi := ⟨some 41, _, _, _, _, _⟩) (v := ?_) rfl (by kernel_rfl) (by kernel_rfl) (by kernel_rfl) (fun _ _ _ h => h) (Or.inl ⟨by rfl, by intro w hSw; (try dsimp only at hSw); go_simp; try with_reducible rfl⟩) hHeld ?_
          try simp only [Act.put, List.setIfInBounds_toArray, List.set_cons_zero, List.set_cons_succ]
          refine wpAnyH_take (i := 17) (oi := ⟨some 6, _, _, _, _, _⟩) (v := ?_) rfl (by kernel_rfl) (by kernel_rfl) (by kernel_rfl) (fun _ _ _ h => h) (Or.inl ⟨by rfl, by intro w hSw; (try dsimp only at hSw); go_simp; try with_reducible rfl⟩) hHeld ?_
          try simp only [Act.put, List.setIfInBounds_toArray, List.set_cons_zero, List.set_cons_succ]
          refine wpAnyH_done (by kernel_rfl) ?_ _
          go_wp2
          go_roundw
          case rel => exact ⟨i + 1, by omega, by go_num, ⟨false, rfl, by first | exact HR | exact ⟨by simpa using HR.out⟩⟩, ⟨below_drew HBr.out⟩⟩
          case measure => simp only [intOf]; omega
        | true =>
          obtain ⟨v, hv⟩ : ∃ v, (x == y) = v := ⟨_, rfl⟩
          have HR : Off (s = s0 → v = true) := ⟨fun e => by rw [← hv, HE.out e]; simp⟩
          clear HE HBb
          go_wp2
          refine wp_region_held_drew (S := (fun w' => w'.cell? (ad.add i) = some (.int .i64 x) ∧ w'.cell? (bd.add j) = some (.int .i64 y))) (by kernel_rfl) ⟨x0, y0⟩ (fun hHeld => ?_)
          refine wpAnyH_take (i := 0) (oi := ⟨some 25, _, _, _, _, _⟩) (v := ?_) rfl (by kernel_rfl) (by kernel_rfl) (by kernel_rfl) (fun _ _ _ h => h) (Or.inl ⟨by rfl, by intro w hSw; (try dsimp only at hSw); go_simp; try with_reducible rfl⟩) hHeld ?_
          try simp only [Act.put, List.setIfInBounds_toArray, List.set_cons_zero, List.set_cons_succ]
          refine wpAnyH_take (i := 1) (oi := ⟨some 26, _, _, _, _, _⟩) (v := ?_) rfl (by kernel_rfl) (by kernel_rfl) (by kernel_rfl) (fun _ _ _ h => h) (Or.inl ⟨by rfl, by intro w hSw; (try dsimp only at hSw); go_simp; try with_reducible rfl⟩) hHeld ?_
          try simp only [Act.put, List.setIfInBounds_toArray, List.set_cons_zero, List.set_cons_succ]
          refine wpAnyH_take (i := 2) (oi := ⟨some 27, _, _, _, _, _⟩) (v := ?_) rfl (by kernel_rfl) (by kernel_rfl) (by kernel_rfl) (fun _ _ _ h => h) (Or.inl ⟨by rfl, by intro w hSw; (try dsimp only at hSw); go_simp; try with_reducible rfl⟩) hHeld ?_
          try simp only [Act.put, List.setIfInBounds_toArray, List.set_cons_zero, List.set_cons_succ]
          refine wpAnyH_take (i := 3) (oi := ⟨some 28, _, _, _, _, _⟩) (v := ?_) rfl (by kernel_rfl) (by kernel_rfl) (by kernel_rfl) (fun _ _ _ h => h) (Or.inl ⟨by rfl, by intro w hSw; (try dsimp only at hSw); go_simp; try with_reducible rfl⟩) hHeld ?_
          try simp only [Act.put, List.setIfInBounds_toArray, List.set_cons_zero, List.set_cons_succ]
          refine wpAnyH_take (i := 4) (oi := ⟨some 29, _, _, _, _, _⟩) (v := ?_) rfl (by kernel_rfl) (by kernel_rfl) (by kernel_rfl) (fun _ _ _ h => h) (Or.inl ⟨by rfl, by intro w hSw; (try dsimp only at hSw); go_simp; try with_reducible rfl⟩) hHeld ?_
          try simp only [Act.put, List.setIfInBounds_toArray, List.set_cons_zero, List.set_cons_succ]
          refine wpAnyH_take (i := 5) (oi := ⟨some 30, _, _, _, _, _⟩) (v := ?_) rfl (by kernel_rfl) (by kernel_rfl) (by kernel_rfl) (fun _ _ _ h => h) (Or.inl ⟨by rfl, by intro w hSw; (try dsimp only at hSw); go_simp; try with_reducible rfl⟩) hHeld ?_
          try simp only [Act.put, List.setIfInBounds_toArray, List.set_cons_zero, List.set_cons_succ]
          refine wpAnyH_take (i := 6) (oi := ⟨some 31, _, _, _, _, _⟩) (v := ?_) rfl (by kernel_rfl) (by kernel_rfl) (by kernel_rfl) (fun _ _ _ h => h) (Or.inl ⟨by rfl, by intro w hSw; (try dsimp only at hSw); go_simp; try with_reducible rfl⟩) hHeld ?_
          try simp only [Act.put, List.setIfInBounds_toArray, List.set_cons_zero, List.set_cons_succ]
          refine wpAnyH_take (i := 7) (oi := ⟨some 32, _, _, _, _, _⟩) (v := ?_) rfl (by kernel_rfl) (by kernel_rfl) (by kernel_rfl) (fun _ _ _ h => h) (Or.inl ⟨by rfl, by intro w hSw; (try dsimp only at hSw); go_simp; try with_reducible rfl⟩) hHeld ?_
          try simp only [Act.put, List.setIfInBounds_toArray, List.set_cons_zero, List.set_cons_succ]
          refine wpAnyH_take (i := 8) (oi := ⟨some 33, _, _, _, _, _⟩) (v := ?_) rfl (by kernel_rfl) (by kernel_rfl) (by kernel_rfl) (fun _ _ _ h => h) (Or.inl ⟨by rfl, by intro w hSw; (try dsimp only at hSw); go_simp; try with_reducible rfl⟩) hHeld ?_
          try simp only [Act.put, List.setIfInBounds_toArray, List.set_cons_zero, List.set_cons_succ]
          refine wpAnyH_take (i := 9) (oi := ⟨some 34, _, _, _, _, _⟩) (v := ?_) rfl (by kernel_rfl) (by kernel_rfl) (by kernel_rfl) (fun _ _ _ h => h) (Or.inl ⟨by rfl, by intro w hSw; (try dsimp only at hSw); go_simp; try with_reducible rfl⟩) hHeld ?_
          try simp only [Act.put, List.setIfInBounds_toArray, List.set_cons_zero, List.set_cons_succ]
          refine wpAnyH_take (i := 10) (oi := ⟨some 35, _, _, _, _, _⟩) (v := ?_) rfl (by kernel_rfl) (by kernel_rfl) (by kernel_rfl) (fun _ _ _ h => h) (Or.inl ⟨by rfl, by intro w hSw; (try dsimp only at hSw); go_simp; try with_reducible rfl⟩) hHeld ?_
          try simp only [Act.put, List.setIfInBounds_toArray, List.set_cons_zero, List.set_cons_succ]
          refine wpAnyH_take (i := 11) (oi := ⟨some 36, _, _, _, _, _⟩) (v := ?_) rfl (by kernel_rfl) (by kernel_rfl) (by kernel_rfl) (fun _ _ _ h => h) (Or.inl ⟨by rfl, by intro w hSw; (try dsimp only at hSw); go_simp; try with_reducible rfl⟩) hHeld ?_
          try simp only [Act.put, List.setIfInBounds_toArray, List.set_cons_zero, List.set_cons_succ]
          refine wpAnyH_take (i := 12) (oi := ⟨some 37, _, _, _, _, _⟩) (v := ?_) rfl (by kernel_rfl) (by kernel_rfl) (by kernel_rfl) (fun _ _ _ h => h) (Or.inl ⟨by rfl, by intro w hSw; (try dsimp only at hSw); go_simp; try with_reducible rfl⟩) hHeld ?_
          try simp only [Act.put, List.setIfInBounds_toArray, List.set_cons_zero, List.set_cons_succ]
          refine wpAnyH_take (i := 13) (oi := ⟨some 38, _, _, _, _, _⟩) (v := ?_) rfl (by kernel_rfl) (by kernel_rfl) (by kernel_rfl) (fun _ _ _ h => h) (Or.inl ⟨by rfl, by intro w hSw; (try dsimp only at hSw); go_simp; try with_reducible rfl⟩) hHeld ?_
          try simp only [Act.put, List.setIfInBounds_toArray, List.set_cons_zero, List.set_cons_succ]
          refine wpAnyH_take (i := 14) (oi := ⟨some 39, _, _, _, _, _⟩) (v := ?_) rfl (by kernel_rfl) (by kernel_rfl) (by kernel_rfl) (fun _ _ _ h => h) (Or.inl ⟨by rfl, by intro w hSw; (try dsimp only at hSw); go_simp; try with_reducible rfl⟩) hHeld ?_
          try simp only [Act.put, List.setIfInBounds_toArray, List.set_cons_zero, List.set_cons_succ]
          refine wpAnyH_take (i := 15) (oi := ⟨some 40, _, _, _, _, _⟩) (v := ?_) rfl (by kernel_rfl) (by kernel_rfl) (by kernel_rfl) (fun _ _ _ h => h) (Or.inl ⟨by rfl, by intro w hSw; (try dsimp only at hSw); go_simp; try with_reducible rfl⟩) hHeld ?_
          try simp only [Act.put, List.setIfInBounds_toArray, List.set_cons_zero, List.set_cons_succ]
          refine wpAnyH_take (i := 16) (oi := ⟨some 41, _, _, _, _, _⟩) (v := ?_) rfl (by kernel_rfl) (by kernel_rfl) (by kernel_rfl) (fun _ _ _ h => h) (Or.inl ⟨by rfl, by intro w hSw; (try dsimp only at hSw); go_simp; try with_reducible rfl⟩) hHeld ?_
          try simp only [Act.put, List.setIfInBounds_toArray, List.set_cons_zero, List.set_cons_succ]
          refine wpAnyH_take (i := 17) (oi := ⟨some 6, _, _, _, _, _⟩) (v := ?_) rfl (by kernel_rfl) (by kernel_rfl) (by kernel_rfl) (fun _ _ _ h => h) (Or.inl ⟨by rfl, by intro w hSw; (try dsimp only at hSw); go_simp; try with_reducible rfl⟩) hHeld ?_
          try simp only [Act.put, List.setIfInBounds_toArray, List.set_cons_zero, List.set_cons_succ]
          refine wpAnyH_done (by kernel_rfl) ?_ _
          go_wp2
          go_roundw
          case rel => exact ⟨i + 1, by omega, by go_num, ⟨v, rfl, by first | exact HR | exact ⟨by simpa using HR.out⟩⟩, ⟨below_drew HBr.out⟩⟩
          case measure => simp only [intOf]; omega
      · obtain rfl : i = n := by omega
        cases b with
        | true =>
          go_wp2
          go_ret
          exact ⟨rfl, HBr.out⟩
        | false =>
          have hlt : s < s0 := by
            have h1 : s ≠ s0 := fun e => by have := HBb.out e; cases this
            omega
          clear HBb
          go_wp2
          go_roundw
          case rel => exact ⟨s + 1, by omega, by go_num, HBr⟩
          case measure => simp only [intOf]; omega
set_option maxRecDepth 100000 in
theorem ears_many (n : Int) (l : List (Int × Int)) (A : Option Addr) (c : Nat) (w : World) (h60 : 60 < l.length) :
    Calls Try.prog 16 #[.int .i64 n, .slice A l.length c] w fun e w' => e = .returned (.bool true) ∧ Below w.heap.size w w' := by
  go_enter Try.func16, Try.ntmps16
  go_wp2_with (go_at_call 17; refine (alive_any _).mono ?_; rintro e w2 ⟨rfl, hb2⟩)
  go_ret
  exact ⟨rfl, hb2⟩
set_option maxRecDepth 100000 in
theorem ears_small (n : Int) (l : List (Int × Int)) (A : Option Addr) (c : Nat) (w : World) (h60 : l.length ≤ 60) (hn : n ≤ 3) :
    Calls Try.prog 16 #[.int .i64 n, .slice A l.length c] w fun e w' => e = .returned (.bool true) ∧ Below w.heap.size w w' := by
  have hf : decide ((60 : Int) < (l.length : Int)) = false := by rw [decide_eq_false_iff_not]; omega
  have hg : decide (n ≤ 3) = true := by rw [decide_eq_true_iff]; exact hn
  go_enter Try.func16, Try.ntmps16
  go_wp2_with (go_at_call 17; refine (alive_any _).mono ?_; rintro e w2 ⟨rfl, hb2⟩)
  go_ret
  exact ⟨rfl, hb2⟩
set_option maxRecDepth 100000 in
theorem ears_no (n : Int) (l : List (Int × Int)) (A : Option Addr) (c : Nat) (w : World) (h60 : l.length ≤ 60) (hn : ¬ n ≤ 3) (hv : rbrandB n l = false) (hx : PairsI w A l) :
    Calls Try.prog 16 #[.int .i64 n, .slice A l.length c] w fun e w' => e = .returned (.bool true) ∧ Below w.heap.size w w' := by
  have hf : decide ((60 : Int) < (l.length : Int)) = false := by rw [decide_eq_false_iff_not]; omega
  have hg : decide (n ≤ 3) = false := by rw [decide_eq_false_iff_not]; exact hn
  have CR := Off.mk (rbrand_any n l A c false hv w hx)
  clear hv hx
  go_enter Try.func16, Try.ntmps16
  go_wp2_with fail
  refine CR.out.mono ?_
  rintro e w1 ⟨rfl, hb1⟩
  have HB1 := Off.mk hb1
  clear hb1
  go_wp2_with (go_at_call 17; refine (alive_any _).mono ?_; rintro e w2 ⟨rfl, hb2⟩)
  go_ret
  exact ⟨rfl, belowC HB1.out hb2⟩
theorem brandLe {n : Int} {l : List (Int × Int)} (h : brandB n l = true) : BrandL n l := (brandL_iff n l).1 ((brand_iff n l).1 h)
theorem round_rB {n : Nat} {l : List (Int × Int)} (h : BrandL n l) : roundB (roundOf n l) = true := by
  have hs := h.size
  have hR := rd_round h
  have hl : (roundOf n l).length = n := by rw [roundOf, roundTo_len]
  rw [roundB_iff, hl]
  refine ⟨by omega, fun j hj => ?_⟩
  have := hR.get j (by rw [natsI_len]; exact hj)
  have hc : cnt l ((natsI n).getD j 0) ≤ l.length := List.countP_le_length
  omega
theorem round_at (n : Nat) (l : List (Int × Int)) (hv : brandB n l = true) (A : Option Addr) (c : Nat) (w : World) (hx : PairsI w A l) (hlc : l.length ≤ c) :
    Calls Try.prog 30 #[.int .i64 (n : Int), .slice A l.length c] w fun e w' => ∃ A' c', e = .returned (.tuple #[.slice A' n c', .int .i64 0]) ∧ IntsAt w' A' (roundOf n l) ∧ n ≤ c' ∧ (A' = none → c' = 0) ∧ Below w.heap.size w w' := by
  have hr := brand_range hv
  have hl : (roundOf n l).length = n := by rw [roundOf, roundTo_len]
  refine (Round_yes n l A c hv w hx hlc).mono ?_
  rintro e w' ⟨v, rfl, hO, hb⟩
  obtain ⟨A', c', rfl, h1, h2, h3⟩ := own_ints' hO (by rw [hl]; omega)
  rw [hl] at h2
  exact ⟨A', c', by rw [hl], h1, h2, h3, hb⟩
theorem cut_at (r x : List Int) (n k : Nat) (hn : r.length = n) (hv : roundB r = true) (hk : k < n) (hx : cutO r k = some x) (A : Option Addr) (c : Nat) (w : World) (hl : IntsAt w A r) (hlc : n ≤ c) (hA : A = none → c = 0) :
    Calls Try.prog 43 #[.slice A n c, .int .i64 (k : Int)] w fun e w' => ∃ A' c', e = .returned (.tuple #[.slice A' x.length c', .int .i64 0]) ∧ IntsAt w' A' x ∧ x.length ≤ c' ∧ (A' = none → c' = 0) ∧ Below w.heap.size w w' := by
  subst hn
  refine (cut_cap r A c k hv hk w hl hlc hA).mono ?_
  intro e w' h
  rw [hx] at h
  obtain ⟨hb, A', c', h1, h2, h3, h4⟩ := h
  exact ⟨A', c', h1, h2, h3, h4, hb⟩
theorem glue_at (x y : List Int) (k : Nat) (hv : roundB x = true) (hk : k < x.length) (hy : glueO x k = some y) (A : Option Addr) (c : Nat) (w : World) (hl : IntsAt w A x) (hlc : x.length ≤ c) (hA : A = none → c = 0) :
    Calls Try.prog 45 #[.slice A x.length c, .int .i64 (k : Int)] w fun e w' => ∃ A' c', e = .returned (.tuple #[.slice A' y.length c', .int .i64 0]) ∧ IntsAt w' A' y ∧ Below w.heap.size w w' := by
  refine (glue_any x A c k hv hk w hl hlc hA).mono ?_
  intro e w' h
  rw [hy] at h
  obtain ⟨hb, A', c', h1, h2⟩ := h
  exact ⟨A', c', h1, h2, hb⟩
theorem of_some (x : List Int) (hv : roundB x = true) (hs : (ofL x).isSome = true) (A : Option Addr) (c : Nat) (w : World) (hl : IntsAt w A x) (hlc : x.length ≤ c) (hA : A = none → c = 0) :
    Calls Try.prog 36 #[.slice A x.length c] w fun e w' => ∃ v, e = .returned (.tuple #[v, .int .i64 0]) ∧ Below w.heap.size w w' := by
  obtain ⟨m, hm⟩ := Option.isSome_iff_exists.1 hs
  refine (of_any x A c hv w hl hlc hA).mono ?_
  intro e w' h
  rw [hm] at h
  obtain ⟨hb, v, h1, _⟩ := h
  exact ⟨v, h1, hb⟩
set_option linter.unusedSimpArgs false in
set_option maxHeartbeats 8000000 in
set_option maxRecDepth 100000 in
theorem ears_yes (n : Nat) (l : List (Int × Int)) (A : Option Addr) (c : Nat) (w : World) (hn : 3 < n) (hv : brandB n l = true) (hx : PairsI w A l) (hlc : l.length ≤ c) :
    Calls Try.prog 16 #[.int .i64 (n : Int), .slice A l.length c] w fun e w' => e = .returned (.bool true) ∧ Below w.heap.size w w' := by
  have hr := brand_range hv
  have hbl := brandLe hv
  have h60 : l.length ≤ 60 := by omega
  have hn12 : n ≤ 12 := by omega
  have hf : decide ((60 : Int) < (l.length : Int)) = false := by rw [decide_eq_false_iff_not]; omega
  have hg : decide ((n : Int) ≤ 3) = false := by rw [decide_eq_false_iff_not]; omega
  have CR := Off.mk (rbrand_any n l A c true (by rw [← brand_eq]; exact hv) w hx)
  have C1 := Off.mk (fun W (hW : Below w.heap.size w W) => round_at n l hv A c W (hx.below hW) hlc)
  have HEAR := Off.mk (fun k (hk : k < n) (h1 : (roundOf n l).getD k 0 = 1) => ear_at hbl (by omega) hk h1)
  have HTWO := Off.mk (rounds_two hbl (by omega))
  have HRB := Off.mk (round_rB hbl)
  have HRL : Off ((roundOf n l).length = n) := ⟨by rw [roundOf, roundTo_len]⟩
  have hnb : ((n : Int) != (n : Int)) = false := by simp
  obtain ⟨r, hre⟩ : ∃ r, r = roundOf n l := ⟨_, rfl⟩
  rw [← hre] at C1 HEAR HTWO HRB HRL
  clear hr hbl hv hx hlc hre
  go_enter Try.func16, Try.ntmps16
  go_wp2_with fail
  refine CR.out.mono ?_
  rintro e w1 ⟨rfl, hb1⟩
  have HB1 := Off.mk hb1
  clear hb1 CR
  go_wp2_with fail
  refine (C1.out _ HB1.out).mono ?_
  rintro e w2 ⟨B, d, rfl, hI2, hd, hN, hb2⟩
  have HI2 := Off.mk hI2
  have HD := Off.mk hd
  have HN := Off.mk hN
  have HB2 := Off.mk (belowC HB1.out hb2)
  clear hI2 hb2 hd hN C1
  go_wp2
  go_loopw [7, 8] (fun ev kv wr => ∃ k : Nat, k ≤ n ∧ kv = .int .i64 k ∧ ev = .int .i64 ((earTo r k : Nat) : Int) ∧ Off (Below w2.heap.size w2 wr)) (fun _ kv _ => n - (intOf kv).toNat)
  case atStart => exact ⟨0, by omega, rfl, rfl, ⟨Below.refl _ _⟩⟩
  case round =>
    obtain ⟨k, hk, rfl, rfl, HB⟩ := hrel
    by_cases hkn : k < n
    · have hkI : (k : Int) < (n : Int) := by omega
      have hIr := HI2.out.below HB.out
      have HIr := Off.mk hIr
      obtain ⟨ad, rfl, x0⟩ := hIr.cell k (by rw [HRL.out]; exact hkn)
      have HS : Off (earTo r (k + 1) = earTo r k + if r.getD k 0 = 1 then 1 else 0) := ⟨rfl⟩
      have hle := earTo_le r k
      by_cases h1 : r.getD k 0 = 1
      · obtain ⟨x, y, hE⟩ := HEAR.out k hkn h1
        rw [h1] at x0
        rw [if_pos h1] at HS
        obtain ⟨m, hm⟩ : ∃ m, m = (k + 1) % n := ⟨_, rfl⟩
        have hmn : m < n := by rw [hm]; exact Nat.mod_lt _ (by omega)
        obtain ⟨_, ee, y0⟩ := hIr.cell m (by rw [HRL.out]; exact hmn)
        cases ee
        have hne := hE.next
        rw [← hm] at hne
        obtain ⟨z, hz⟩ : ∃ z, z = r.getD m 0 := ⟨_, rfl⟩
        rw [← hz] at y0 hne
        have hzb : (z == 1) = false := by rw [beq_eq_false_iff_ne]; exact hne
        have e5 : ((k : Int) + 1) % (n : Int) = (m : Int) := by
          rw [hm, show (k : Int) + 1 = ((k + 1 : Nat) : Int) by omega]
          exact (Int.natCast_emod _ _).symm
        have e7 : ((k : Int) + 1).tmod (n : Int) = (m : Int) := by rw [Int.tmod_eq_emod_of_nonneg (by omega)]; exact e5
        have w5 : IntKind.i64.wrap ((k : Int) + 1) = (k : Int) + 1 := by rw [IntKind.wrap_i64]; omega
        have hn0 : ¬ n = 0 := by omega
        have hm0 : (0 : Int) ≤ (m : Int) := by omega
        have hmI : (m : Int) < (n : Int) := by omega
        obtain ⟨E, hEe⟩ : ∃ E, E = earTo r k := ⟨_, rfl⟩
        rw [← hEe] at HS hle ⊢
        have w6 : IntKind.i64.wrap ((E : Int) + 1) = (E : Int) + 1 := by rw [IntKind.wrap_i64]; omega
        obtain ⟨p, hp⟩ : ∃ p, p = (k + n - 2) % (n - 1) := ⟨_, rfl⟩
        obtain ⟨q, hq⟩ : ∃ q, q = n - 1 := ⟨_, rfl⟩
        have hpq : p < q := by rw [hp, hq]; exact Nat.mod_lt _ (by omega)
        have w7 : IntKind.i64.wrap ((n : Int) - 1) = (q : Int) := by rw [IntKind.wrap_i64]; omega
        have w8 : IntKind.i64.wrap ((k : Int) + (n : Int)) = (k : Int) + (n : Int) := by rw [IntKind.wrap_i64]; omega
        have w9 : IntKind.i64.wrap ((k : Int) + (n : Int) - 2) = (k : Int) + (n : Int) - 2 := by rw [IntKind.wrap_i64]; omega
        have e8 : ((k : Int) + (n : Int) - 2) % (q : Int) = (p : Int) := by
          rw [hp, hq, show (k : Int) + (n : Int) - 2 = ((k + n - 2 : Nat) : Int) by omega]
          exact (Int.natCast_emod _ _).symm
        have e9 : ((k : Int) + (n : Int) - 2).tmod (q : Int) = (p : Int) := by rw [Int.tmod_eq_emod_of_nonneg (by omega)]; exact e8
        have hq0 : ¬ q = 0 := by omega
        have hqb : ((q : Int) != (q : Int)) = false := by simp
        have hlx := hE.len
        have hxq : x.length = q := by omega
        have hgl := hE.glue
        rw [← hp] at hgl
        obtain ⟨hyl, s, hsn, hturn⟩ := hE.turn
        have D1 := Off.mk (cut_at r x n k HRL.out HRB.out hkn hE.cut _ d wr hIr HD.out HN.out)
        have D2 := Off.mk (fun A' c' W (hW : IntsAt W A' x) (h1 : x.length ≤ c') (h2 : A' = none → c' = 0) => of_some x hE.round hE.of A' c' W hW h1 h2)
        have D3 := Off.mk (fun A' c' W (hW : IntsAt W A' x) (h1 : x.length ≤ c') (h2 : A' = none → c' = 0) => glue_at x y p hE.round (by omega) hgl A' c' W hW h1 h2)
        rw [hxq] at D1 D2 D3
        rw [hyl] at D3
        have D4 := Off.mk (fun W A' c' (hW : Below wr.heap.size wr W) (hy : IntsAt W A' y) => turned_yes r y _ A' d c' n s HRL.out hyl hsn hturn (by omega) W (hIr.below hW) hy)
        clear hE hm hmn hz hne hp hq hlx hxq hgl hyl hsn hturn hIr hEe h1 HIr
        go_wp2_with fail
        refine D1.out.mono ?_
        rintro e w4 ⟨A4, c4, rfl, hI4, hc4, hA4, hb4⟩
        have HI4 := Off.mk hI4
        have HC4 := Off.mk hc4
        have HA4 := Off.mk hA4
        have HB4 := Off.mk hb4
        clear hI4 hc4 hA4 hb4 D1
        go_wp2_with fail
        refine (D2.out _ _ _ HI4.out HC4.out HA4.out).mono ?_
        rintro e w5 ⟨v5, rfl, hb5⟩
        have HI5 := Off.mk (HI4.out.below hb5)
        have HB5 := Off.mk (belowC HB4.out hb5)
        clear hb5 D2
        go_wp2_with fail
        refine (D3.out _ _ _ HI5.out HC4.out HA4.out).mono ?_
        rintro e w6 ⟨A6, c6, rfl, hI6, hb6⟩
        have HI6 := Off.mk hI6
        have HB6 := Off.mk (belowC HB5.out hb6)
        clear hI6 hb6 D3
        go_wp2_with fail
        refine (D4.out _ _ _ HB6.out HI6.out).mono ?_
        rintro e w7 ⟨rfl, hb7⟩
        have HB7 := Off.mk (belowC HB.out (belowC HB6.out hb7))
        clear hb7 D4
        go_wp2
        go_roundw
        case rel => exact ⟨k + 1, by omega, by go_num, by rw [HS.out]; go_num, HB7⟩
        case measure => simp only [intOf]; omega
      · have hb : (r.getD k 0 != 1) = true := by rw [bne_iff_ne]; exact h1
        obtain ⟨z, hz⟩ : ∃ z, z = r.getD k 0 := ⟨_, rfl⟩
        rw [if_neg h1] at HS
        rw [← hz] at x0 hb
        clear hz h1 hIr HIr
        go_wp2
        go_roundw
        case rel => exact ⟨k + 1, by omega, by go_num, by rw [HS.out]; rfl, HB⟩
        case measure => simp only [intOf]; omega
    · obtain rfl : k = n := by omega
      have h2 := HTWO.out
      obtain ⟨E, hEe⟩ : ∃ E, E = earTo r k := ⟨_, rfl⟩
      rw [← hEe] at h2 ⊢
      have hge : (2 : Int) ≤ (E : Int) := by omega
      clear hEe
      go_wp2_with (go_at_call 17; refine (alive_any _).mono ?_; rintro e w8 ⟨rfl, hb8⟩)
      go_ret
      exact ⟨rfl, belowC HB2.out (belowC HB.out hb8)⟩
theorem ears_walk (n : Int) (l : List (Int × Int)) (A : Option Addr) (c : Nat) (w : World) (hx : l.length ≤ 140737488351232 → PairsI w A l) (hlc : l.length ≤ c) (_ : A = none → c = 0) :
    Calls Try.prog 16 #[.int .i64 n, .slice A l.length c] w fun e w' => e = .returned (.bool true) ∧ Below w.heap.size w w' := by
  by_cases h60 : l.length ≤ 60
  · by_cases hn : n ≤ 3
    · exact ears_small n l A c w h60 hn
    · cases hv : brandB n l with
      | false => exact ears_no n l A c w h60 hn (by rw [← brand_eq]; exact hv) (hx (by omega))
      | true =>
        have hr := brand_range hv
        obtain ⟨m, rfl⟩ : ∃ m : Nat, n = (m : Int) := ⟨n.toNat, by omega⟩
        exact ears_yes m l A c w (by omega) hv (hx (by omega)) hlc
  · exact ears_many n l A c w (by omega)
end Go.Proofs.Ytddcdopimpfhcaa
