/- Contract: before. -/
import Derived.Test.YtnhbkopgbibcgaaGe
namespace Go.Proofs.Ytnhbkopgbibcgaa
open Go.RowKit Go.Shelf

/-- The first k rows are grazed as far as x. -/
def fillTo (x : Int) (n : Nat) : Nat → List Int
  | 0 => List.replicate n 0
  | k + 1 => (fillTo x n k).set k x
/-- k rows from a plot's own on are grazed no further than ahead of it. -/
def befRow (x : Nat × Nat) : Nat → List Int → List Int
  | 0, o => o
  | k + 1, o => (befRow x k o).set (x.1 + k) (min ((befRow x k o).getD (x.1 + k) 0) (x.2 : Int))
def befOf (xs : List (Nat × Nat)) (b n : Nat) : Nat → List Int
  | 0 => fillTo b n n
  | k + 1 => befRow (xs.getD k (0, 0)) (n - (xs.getD k (0, 0)).1) (befOf xs b n k)
/-- The state ahead of a day. -/
def backP (b : Nat) (l : List Int) : List Int := befOf (endPlots b l) b l.length (endPlots b l).length

set_option maxHeartbeats 4000000 in
set_option maxRecDepth 100000 in
theorem before_any (l : List Int) (A : Option Addr) (c b : Nat) (w : World) (hl : IntsAt w A l) (h6 : l.length ≤ 6) (hb6 : b ≤ 6) :
    Calls Try.prog 60 #[.agg #[.int .i64 (l.length : Int), .int .i64 (b : Int)], .slice A l.length c] w fun e w' => ∃ v, e = .returned v ∧ Own w' w.heap.size v (backP b l) ∧ Below w.heap.size w w' := by
  have hlen := hl.len
  have HB : Off (∀ o, Below w.heap.size w (w.alloc o)) := ⟨fun o => (Below.refl _ _).alloc (Nat.le_refl _) _⟩
  obtain ⟨i0, hi, hz0, hz1, hz2⟩ := info_parts info3
  go_enter Try.func60, Try.ntmps60
  go_wp2_with (first
    | (at_make; refine wpList_make_full _ rfl _ _ 67 rfl w.heap.size 3 i0 (.int .i64 0) 1 Try.underlying67 hi hz0 hz1 .i64 .i64 l.length l.length l.length rfl rfl rfl rfl (by rw [hz2]; omega) (by unfold maxLen; omega) (by simp) ?_; intro w2 hown2 hg2; rw [made_ints] at hown2; have hlt2 : w.heap.size < w2.heap.size := (by have := hg2.size; simp at *; omega); have hq2 := hg2.cell (a := ⟨w.heap.size, 0, none⟩) (v := .int .i64 l.length) (by go_simp) (by simp); have hs2 := hg2.cell (a := ⟨w.heap.size, 1, none⟩) (v := .int .i64 b) (by go_simp) (by simp)))
  have hw2 : Below w.heap.size w w2 := (HB.out _).grown hg2 (HB.out (.cells #[.int .i64 l.length, .int .i64 b] 62)).size (fun _ e => by cases e)
  have hR2 : RowAt w2 w.heap.size (w.heap.size + 1) l.length (List.replicate l.length 0) := ⟨by simp, by rw [nums_replicate]; simpa using hown2⟩
  have HL2 := Off.mk (hl.below hw2)
  have HL := Off.mk hl
  have hrlt := hR2.lt
  have HR2 := Off.mk hR2
  have Hw2 := Off.mk hw2
  obtain ⟨n, hn⟩ : ∃ n, n = l.length := ⟨_, rfl⟩
  have HN := Off.mk hn
  rw [← hn] at HR2 h6 hlen hq2 ⊢
  obtain ⟨r, hr⟩ : ∃ r, r = w.heap.size + 1 := ⟨_, rfl⟩
  have HR := Off.mk hr
  have hwr : w.heap.size ≠ r := by omega
  rw [← hr] at HR2 hrlt ⊢
  have hclr : Clear A r ∨ l.length = 0 := by
    rcases Nat.eq_zero_or_pos l.length with h | h
    · exact .inr h
    · left
      obtain ⟨ad, rfl, hc⟩ := hl.cell 0 h
      have := World.block_lt_of_cell? w _ hc
      rw [add_block] at this
      intro a e
      cases e
      omega
  have HCl := Off.mk hclr
  have CP : Off (∀ W, IntsAt W A l → Calls Try.prog 68 #[.slice A n c, .int .i64 (b : Int), .func (.func 69) #[] #[]] W fun e w' => ∃ v, e = .returned v ∧ OwnP w' W.heap.size v (endPlots b l) ∧ Below W.heap.size W w') := ⟨fun W hW => by
    rw [HN.out]
    exact plots_any 69 _ l A c b W hW (by rw [← HN.out]; exact h6) hb6 ⟨end_plots A l c b hb6⟩⟩
  have hmem := rowsTo_mem (fun i j => endB l i j) b l.length
  have hxl : (endPlots b l).length ≤ 36 := by
    have h1 := rowsTo_len (fun i j => endB l i j) b l.length
    have h2 : l.length * b ≤ 36 := Nat.mul_le_mul (show l.length ≤ 6 by rw [← HN.out]; exact h6) hb6
    unfold endPlots; omega
  obtain ⟨xs, hxs⟩ : ∃ xs, xs = endPlots b l := ⟨_, rfl⟩
  have HXS := Off.mk hxs
  rw [show rowsTo (fun i j => endB l i j) b l.length = xs from hxs.symm, ← HN.out] at hmem
  rw [← hxs] at CP hxl
  have HM := Off.mk hmem
  clear hn hr hR2 hown2 hg2 hw2 hl hclr hmem hxs
  go_loopw [15] (fun iv wr => ∃ i : Nat, i ≤ n ∧ iv = .int .i64 i ∧ Off (RowAt wr w.heap.size r n (fillTo b n i)) ∧ Keeps r w2 wr) (fun iv _ => n - (intOf iv).toNat)
  case atStart => exact ⟨0, by omega, rfl, HR2, Keeps.refl _ _⟩
  case round =>
    obtain ⟨i, hi2, rfl, hR, hK⟩ := hrel
    obtain ⟨wq, rfl⟩ : ∃ wo : World, wo = wr := ⟨_, rfl⟩
    have q2 := hK.cell hq2 hwr
    have s2 := hK.cell hs2 hwr
    have hrw := hR.out.lt
    by_cases hin : i < n
    · have hc := hR.out.cell hin
      have hf := hR.out.frozen i
      have hi0 : (0 : Int) ≤ (i : Int) := by omega
      have hi1 : (i : Int) < (n : Int) := by omega
      go_wp2
      obtain ⟨hR', hK'⟩ := hR.out.stored i (b : Int)
      refine ⟨⟨i + 1, by omega, by go_num, ⟨?_⟩, (hK.trans hK')⟩, by simp only [intOf]; omega⟩
      exact hR'
    · obtain rfl : n = i := by omega
      have hKL : IntsAt wq A l := by
        rcases HCl.out with h | h
        · exact HL2.out.keeps hK h
        · exact ⟨HL2.out.len, fun j hj => by omega⟩
      have HKL := Off.mk hKL
      have hw3 := hK.below Hw2.out Hw2.out.size (by have := HR.out; omega)
      have HW3 := Off.mk hw3
      have HR3 := hR
      have HK3 := Off.mk hK
      clear hKL hR hw3 hK
      go_wp2_with fail
      refine (CP.out _ HKL.out).mono ?_
      rintro e w4 ⟨v4, rfl, hO4, hb4⟩
      have q4 := cellB hb4 q2
      have s4 := cellB hb4 s2
      have hw4 := belowC HW3.out hb4
      have HR4 := Off.mk (HR3.out.below hb4)
      have hr4 : r < w4.heap.size := HR4.out.lt
      clear HR3 HK3 HW3 hb4 q2 s2 HKL
      obtain ⟨B4, c4, rfl, _, _⟩ := ownP_pairs hO4
      go_wp2
      go_loopw [29] (fun iv wr => ∃ k : Nat, k ≤ xs.length ∧ iv = .int .i64 k ∧ Off (RowAt wr w.heap.size r n (befOf xs b n k)) ∧ Keeps r w4 wr) (fun iv _ => xs.length - (intOf iv).toNat)
      case atStart => exact ⟨0, by omega, rfl, HR4, Keeps.refl _ _⟩
      case round =>
        obtain ⟨k, hk, rfl, hR, hK⟩ := hrel
        obtain ⟨wo, rfl⟩ : ∃ wo : World, wo = wr := ⟨_, rfl⟩
        have hOk := ownP_keeps hO4 hK hrw
        have hrw := hR.out.lt
        by_cases hkl : k < xs.length
        · obtain ⟨B4', c4', e4, hP, _⟩ := ownP_pairs hOk
          cases e4
          obtain ⟨ad, rfl, cA, cB⟩ := hP.cell k hkl
          have hm := HM.out (xs.getD k (0, 0)) (by rw [List.getD_eq_getElem?_getD, List.getElem?_eq_getElem hkl]; exact List.getElem_mem _)
          have HS : Off (befOf xs b n (k + 1) = befRow (xs.getD k (0, 0)) (n - (xs.getD k (0, 0)).1) (befOf xs b n k)) := ⟨rfl⟩
          obtain ⟨x, hx⟩ : ∃ x, x = xs.getD k (0, 0) := ⟨_, rfl⟩
          rw [← hx] at cA cB hm HS
          have hki : (k : Int) < (xs.length : Int) := by omega
          clear hx hP hOk
          have q5 := hK.cell q4 hwr
          go_wp2
          obtain ⟨⟨g0, g1⟩, _, _⟩ := two_facts (block_new wo (.cells #[.int .i64 (x.1 : Int), .int .i64 (x.2 : Int)] 43))
          have hKa : Keeps r w4 (wo.alloc (.cells #[.int .i64 (x.1 : Int), .int .i64 (x.2 : Int)] 43)) := hK.alloc _
          have hRa : Off (RowAt (wo.alloc (.cells #[.int .i64 (x.1 : Int), .int .i64 (x.2 : Int)] 43)) w.heap.size r n (befRow x 0 (befOf xs b n k))) := ⟨hR.out.below ((Below.refl _ _).alloc (Nat.le_refl _) _)⟩
          have q6 := cellB ((Below.refl _ _).alloc (Nat.le_refl _) (.cells #[.int .i64 (x.1 : Int), .int .i64 (x.2 : Int)] 43)) q5
          obtain ⟨wA, hwA⟩ : ∃ wA, wA = wo.alloc (.cells #[.int .i64 (x.1 : Int), .int .i64 (x.2 : Int)] 43) := ⟨_, rfl⟩
          rw [← hwA] at hKa hRa g0 g1 q6 ⊢
          clear hwA hR hK cA cB q5
          go_loopw [9] (fun iv wr => ∃ i : Nat, x.1 + i ≤ n ∧ iv = .int .i64 (x.1 + i : Nat) ∧ Off (RowAt wr w.heap.size r n (befRow x i (befOf xs b n k))) ∧ Keeps r wA wr) (fun iv _ => n - (intOf iv).toNat)
          case atStart => exact ⟨0, by omega, rfl, hRa, Keeps.refl _ _⟩
          case round =>
            obtain ⟨i, hi2, rfl, hR, hK⟩ := hrel
            obtain ⟨wq, rfl⟩ : ∃ wo : World, wo = wr := ⟨_, rfl⟩
            have q7 := hK.cell q6 hwr
            by_cases hix : x.1 + i < n
            · have x1 := hK.cell g1 (by show wo.heap.size ≠ r; omega)
              have hc := hR.out.cell hix
              have hf := hR.out.frozen (x.1 + i)
              have HT : Off (befRow x (i + 1) (befOf xs b n k) = (befRow x i (befOf xs b n k)).set (x.1 + i) (min ((befRow x i (befOf xs b n k)).getD (x.1 + i) 0) (x.2 : Int))) := ⟨rfl⟩
              obtain ⟨y, hy⟩ : ∃ y, y = (befRow x i (befOf xs b n k)).getD (x.1 + i) 0 := ⟨_, rfl⟩
              rw [← hy] at hc HT
              have HI : Off (x.1 + (i + 1) = x.1 + i + 1) := ⟨rfl⟩
              obtain ⟨m, hm2⟩ : ∃ m, m = x.1 + i := ⟨_, rfl⟩
              rw [← hm2] at hc hf HT hix HI hi2 ⊢
              have hi0 : (0 : Int) ≤ (m : Int) := by omega
              have hi1 : (m : Int) < (n : Int) := by omega
              clear hy hm2
              go_wp2_with fail
              refine wp_region_still_tail 10 (by kernel_rfl) (by kernel_rfl) ?_
              simp only [List.take_succ_cons, List.take_zero, List.drop_succ_cons, List.drop_zero]
              repeat still_step
              refine wpStill_nil ?_
              change wpList _ _ _ _ _ wq.drew
              go_wp2
              obtain ⟨hR', hK'⟩ := hR.out.stored m (if (x.2 : Int) < y then (x.2 : Int) else y)
              refine ⟨⟨i + 1, by have := HI.out; omega, by rw [HI.out]; go_num, ⟨?_⟩, (hK.trans hK').drew⟩, by simp only [intOf]; omega⟩
              rw [HT.out, show min y (x.2 : Int) = if (x.2 : Int) < y then (x.2 : Int) else y by split <;> omega]
              exact hR'.drewN 1
            · have HI : Off (i = n - x.1) := ⟨by omega⟩
              have hRR := hR.out
              rw [HI.out] at hRR
              have HRR := Off.mk hRR
              clear hRR hR
              obtain ⟨m, hm2⟩ : ∃ m, m = x.1 + i := ⟨_, rfl⟩
              rw [← hm2] at hix hi2 ⊢
              obtain rfl : n = m := by omega
              clear hm2
              go_wp2
              go_roundw
              case rel => exact ⟨k + 1, by omega, by go_num, by rw [HS.out]; exact HRR, hKa.trans hK⟩
              case measure => simp only [intOf]; omega
        · obtain rfl : k = xs.length := by omega
          have hRR := hR.out
          clear hR
          have HF : Off (backP b l = befOf xs b n xs.length) := ⟨by rw [HXS.out, HN.out]; rfl⟩
          go_wp2
          go_ret
          exact ⟨_, rfl, by rw [HF.out]; exact hRR.own_of, hK.below hw4 hw4.size (by have := HR.out; omega)⟩
end Go.Proofs.Ytnhbkopgbibcgaa
