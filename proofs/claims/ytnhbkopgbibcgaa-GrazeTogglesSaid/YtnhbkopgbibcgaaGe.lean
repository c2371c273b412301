/- Contract: day. -/
import Derived.Test.YtnhbkopgbibcgaaGd
namespace Go.Proofs.Ytnhbkopgbibcgaa
open Go.RowKit Go.Shelf

/-- A call changes no memory but its own and block r. -/
structure Keeps (r : Nat) (w w' : World) : Prop where
  out : w.grownBy w' (some r)
theorem Keeps.refl (r : Nat) (w : World) : Keeps r w w := ⟨World.grownBy.refl _ _⟩
theorem Keeps.trans {r : Nat} {a b c : World} (h : Keeps r a b) (k : Keeps r b c) : Keeps r a c :=
  ⟨⟨k.out.os.trans h.out.os, k.out.tape.trans h.out.tape, k.out.output.trans h.out.output, Nat.le_trans h.out.size k.out.size, fun i hi hne => (k.out.block i (Nat.lt_of_lt_of_le hi h.out.size) hne).trans (h.out.block i hi hne)⟩⟩
theorem Keeps.of_below {r : Nat} {w w' : World} (h : Below w.heap.size w w') : Keeps r w w' := ⟨⟨h.os, h.tape, h.output, h.size, fun i hi _ => h.block i hi⟩⟩
theorem Keeps.below {r B : Nat} {w0 w w' : World} (h : Below B w0 w) (k : Keeps r w w') (hB : B ≤ w.heap.size) (hr : B ≤ r) : Below B w0 w' :=
  h.grown k.out hB (fun j e => by cases e; exact hr)
theorem Keeps.cell {r : Nat} {w w1 : World} (h : Keeps r w w1) {a : Addr} {v : Value} (hc : w.cell? a = some v) (hne : a.block ≠ r) : w1.cell? a = some v :=
  h.out.cell hc (fun e => hne (Option.some.inj e))
theorem Keeps.alloc {r : Nat} {w w' : World} (h : Keeps r w w') (o : Obj) : Keeps r w (w'.alloc o) := h.trans (Keeps.of_below ((Below.refl _ _).alloc (Nat.le_refl _) o))
theorem Keeps.drewN {r : Nat} {w w' : World} (h : Keeps r w w') (q : Nat) : Keeps r w (w'.drewN q) := h.trans (Keeps.of_below (below_drewN' (Below.refl _ _) q))
theorem Keeps.drew {r : Nat} {w w' : World} (h : Keeps r w w') : Keeps r w w'.drew := h.trans (Keeps.of_below (Below.refl _ _).drew)
/-- A slice's memory is not block r. -/
def Clear (A : Option Addr) (r : Nat) : Prop := ∀ ad, A = some ad → ad.block ≠ r
theorem add_block (ad : Addr) (j : Nat) : (ad.add j).block = ad.block := by unfold Addr.add; split <;> rfl
theorem IntsAt.keeps {r : Nat} {w w1 : World} {A : Option Addr} {l : List Int} (h : IntsAt w A l) (k : Keeps r w w1) (hA : Clear A r) : IntsAt w1 A l :=
  ⟨h.len, fun j hj => by
    obtain ⟨ad, e, hc⟩ := h.cell j hj
    exact ⟨ad, e, k.cell hc (by rw [add_block]; exact hA ad e)⟩⟩
theorem ownP_keeps {r base : Nat} {w w1 : World} {v : Value} {xs : List (Nat × Nat)} (h : OwnP w base v xs) (k : Keeps r w w1) (hr : r < base) : OwnP w1 base v xs := by
  refine ⟨h.out.kept k.out ?_⟩
  cases hv : v.ownBlock with
  | none => exact .inl rfl
  | some g => right; intro e; cases e; have := ownP_base h hv; omega
theorem nums_set (xs : List Int) (i : Nat) (x : Int) : nums (xs.set i x) = (nums xs).set i (.int .i64 x) := by
  simp [nums, List.map_set]
theorem nums_replicate (n : Nat) (x : Int) : nums (List.replicate n x) = List.replicate n (.int .i64 x) := by simp [nums]
theorem made_ints (n : Nat) : (madeCells (Value.int .i64 0).cells (n * 1)).toList = List.replicate n (.int .i64 0) := by
  rw [Nat.mul_one]
  exact toList_madeCells_one _ n
theorem owns_lt {w : World} {base n g k c : Nat} {e : TypeId} {size : Nat} {xs : List Value} (h : w.ownsRow base e size (.slice (some ⟨g, 0, none⟩) k c) n xs) : g < w.heap.size := by
  rcases h.2 with ⟨h', _⟩ | ⟨g', cap, cur, h', hb, hh, _⟩
  · cases h'
  · cases h'
    exact (Array.getElem?_eq_some_iff.1 hh).1

/-- A row of numbers of length n that the call owns, at block r. -/
structure RowAt (w : World) (base r n : Nat) (xs : List Int) : Prop where
  len : xs.length = n
  own : w.ownsRow base 3 1 (.slice (some ⟨r, 0, none⟩) n n) n (nums xs)
theorem RowAt.cell {w : World} {base r n : Nat} {xs : List Int} (h : RowAt w base r n xs) {i : Nat} (hi : i < n) : w.cell? ⟨r, i, none⟩ = some (.int .i64 (xs.getD i 0)) := by
  rw [h.own.cellAt i (by omega)]
  exact nums_at _ _ (by rw [h.len]; exact hi)
theorem RowAt.frozen {w : World} {base r n : Nat} {xs : List Int} (h : RowAt w base r n xs) (i : Nat) : w.frozen? ⟨r, i, none⟩ = false := h.own.frozenAt i
theorem RowAt.below {w w1 : World} {base r n : Nat} {xs : List Int} (h : RowAt w base r n xs) (hb : Below w.heap.size w w1) : RowAt w1 base r n xs := ⟨h.len, owns_below h.own hb⟩
theorem RowAt.stored {w : World} {base r n : Nat} {xs : List Int} (h : RowAt w base r n xs) (i : Nat) (x : Int) : RowAt (w.setCell ⟨r, i, none⟩ (.int .i64 x)) base r n (xs.set i x) ∧ Keeps r w (w.setCell ⟨r, i, none⟩ (.int .i64 x)) := by
  obtain ⟨ho, hg⟩ := h.own.stored i (.int .i64 x)
  exact ⟨⟨by simpa using h.len, by rw [nums_set]; exact ho⟩, ⟨hg⟩⟩
theorem RowAt.drewN {w : World} {base r n : Nat} {xs : List Int} (h : RowAt w base r n xs) (q : Nat) : RowAt (w.drewN q) base r n xs := h.below (below_drewN' (Below.refl _ _) q)
theorem RowAt.own_of {w : World} {base r n : Nat} {xs : List Int} (h : RowAt w base r n xs) : Own w base (.slice (some ⟨r, 0, none⟩) n n) xs := ⟨by rw [h.len]; exact h.own⟩
theorem RowAt.lt {w : World} {base r n : Nat} {xs : List Int} (h : RowAt w base r n xs) : r < w.heap.size := owns_lt h.own

/-- The first k rows up to a plot are grazed up to its column. -/
def dayRow (x : Nat × Nat) : Nat → List Int → List Int
  | 0, o => o
  | k + 1, o => (dayRow x k o).set k (max ((dayRow x k o).getD k 0) ((x.2 : Int) + 1))
/-- The first k plots of a list are grazed, with all that lies ahead of them. -/
def dayOf (xs : List (Nat × Nat)) (n : Nat) : Nat → List Int
  | 0 => List.replicate n 0
  | k + 1 => dayRow (xs.getD k (0, 0)) ((xs.getD k (0, 0)).1 + 1) (dayOf xs n k)
theorem dayRow_length (x : Nat × Nat) (k : Nat) (o : List Int) : (dayRow x k o).length = o.length := by
  induction k with
  | zero => rfl
  | succ k ih => simp [dayRow, ih]
theorem dayOf_length (xs : List (Nat × Nat)) (n k : Nat) : (dayOf xs n k).length = n := by
  induction k with
  | zero => simp [dayOf]
  | succ k ih => rw [dayOf, dayRow_length, ih]
def nextPlots (b : Nat) (l : List Int) : List (Nat × Nat) := rowsTo (fun i j => nextB l i j) b l.length
def endPlots (b : Nat) (l : List Int) : List (Nat × Nat) := rowsTo (fun i j => endB l i j) b l.length
/-- The state after a day. -/
def dayP (b : Nat) (l : List Int) : List Int := dayOf (nextPlots b l) l.length (nextPlots b l).length

set_option maxHeartbeats 4000000 in
set_option maxRecDepth 100000 in
theorem day_any (l : List Int) (A : Option Addr) (c b : Nat) (w : World) (hl : IntsAt w A l) (h6 : l.length ≤ 6) (hb6 : b ≤ 6) :
    Calls Try.prog 57 #[.agg #[.int .i64 (l.length : Int), .int .i64 (b : Int)], .slice A l.length c] w fun e w' => ∃ v, e = .returned v ∧ Own w' w.heap.size v (dayP b l) ∧ Below w.heap.size w w' := by
  have hlen := hl.len
  have HB : Off (∀ o, Below w.heap.size w (w.alloc o)) := ⟨fun o => (Below.refl _ _).alloc (Nat.le_refl _) _⟩
  obtain ⟨i0, hi, hz0, hz1, hz2⟩ := info_parts info3
  go_enter Try.func57, Try.ntmps57
  go_wp2_with (first
    | (at_make; refine wpList_make_full _ rfl _ _ 67 rfl w.heap.size 3 i0 (.int .i64 0) 1 Try.underlying67 hi hz0 hz1 .i64 .i64 l.length l.length l.length rfl rfl rfl rfl (by rw [hz2]; omega) (by unfold maxLen; omega) (by simp) ?_; intro w2 hown2 hg2; rw [made_ints] at hown2; have hlt2 : w.heap.size < w2.heap.size := (by have := hg2.size; simp at *; omega); have hq2 := hg2.cell (a := ⟨w.heap.size, 0, none⟩) (v := .int .i64 l.length) (by go_simp) (by simp); have hs2 := hg2.cell (a := ⟨w.heap.size, 1, none⟩) (v := .int .i64 b) (by go_simp) (by simp)))
  have hw2 : Below w.heap.size w w2 := (HB.out _).grown hg2 (HB.out (.cells #[.int .i64 l.length, .int .i64 b] 62)).size (fun _ e => by cases e)
  have hR2 : RowAt w2 w.heap.size (w.heap.size + 1) l.length (List.replicate l.length 0) := ⟨by simp, by rw [nums_replicate]; simpa using hown2⟩
  refine (plots_any 70 _ l A c b w2 (hl.below hw2) h6 hb6 ⟨next_plots A l c b⟩).mono ?_
  rintro e w3 ⟨v3, rfl, hO3, hb3⟩
  have hw3 : Below w.heap.size w w3 := belowC hw2 hb3
  have hR3 := Off.mk (hR2.below hb3)
  have hrlt := hR2.lt
  have hmem := rowsTo_mem (fun i j => nextB l i j) b l.length
  obtain ⟨xs, hxs⟩ : ∃ xs, xs = nextPlots b l := ⟨_, rfl⟩
  have HXS := Off.mk hxs
  rw [show rowsTo (fun i j => nextB l i j) b l.length = xs from hxs.symm] at hO3 hmem
  have HM := Off.mk hmem
  have hxl : xs.length ≤ 36 := by
    have h1 := rowsTo_len (fun i j => nextB l i j) b l.length
    have h2 : l.length * b ≤ 36 := Nat.mul_le_mul h6 hb6
    rw [hxs]; unfold nextPlots; omega
  clear hmem hR2 hown2 hg2 hxs hw2 hb3
  obtain ⟨B3, c3, rfl, _, _⟩ := ownP_pairs hO3
  have hr3 : w.heap.size + 1 < w2.heap.size := hrlt
  obtain ⟨n, hn⟩ : ∃ n, n = l.length := ⟨_, rfl⟩
  have HN := Off.mk hn
  rw [← hn] at hR3 HM h6 hlen ⊢
  obtain ⟨r, hr⟩ : ∃ r, r = w.heap.size + 1 := ⟨_, rfl⟩
  have HR := Off.mk hr
  rw [← hr] at hR3 hr3 ⊢
  clear hn hr hlt2 hq2 hs2 hrlt
  go_wp2
  go_loopw [17] (fun iv wr => ∃ k : Nat, k ≤ xs.length ∧ iv = .int .i64 k ∧ Off (RowAt wr w.heap.size r n (dayOf xs n k)) ∧ Keeps r w3 wr) (fun iv _ => xs.length - (intOf iv).toNat)
  case atStart => exact ⟨0, by omega, rfl, hR3, Keeps.refl _ _⟩
  case round =>
    obtain ⟨k, hk, rfl, hR, hK⟩ := hrel
    obtain ⟨wo, rfl⟩ : ∃ wo : World, wo = wr := ⟨_, rfl⟩
    have hOk := ownP_keeps hO3 hK hr3
    have hrw := hR.out.lt
    by_cases hkl : k < xs.length
    · obtain ⟨B3', c3', e3, hP, _⟩ := ownP_pairs hOk
      cases e3
      obtain ⟨ad, rfl, cA, cB⟩ := hP.cell k hkl
      have hm := HM.out (xs.getD k (0, 0)) (by rw [List.getD_eq_getElem?_getD, List.getElem?_eq_getElem hkl]; exact List.getElem_mem _)
      have HS : Off (dayOf xs n (k + 1) = dayRow (xs.getD k (0, 0)) ((xs.getD k (0, 0)).1 + 1) (dayOf xs n k)) := ⟨rfl⟩
      obtain ⟨x, hx⟩ : ∃ x, x = xs.getD k (0, 0) := ⟨_, rfl⟩
      rw [← hx] at cA cB hm HS
      have hki : (k : Int) < (xs.length : Int) := by omega
      clear hx hP hOk
      go_wp2
      obtain ⟨⟨g0, g1⟩, _, _⟩ := two_facts (block_new wo (.cells #[.int .i64 (x.1 : Int), .int .i64 (x.2 : Int)] 43))
      have hKa : Keeps r w3 (wo.alloc (.cells #[.int .i64 (x.1 : Int), .int .i64 (x.2 : Int)] 43)) := hK.alloc _
      have hRa : Off (RowAt (wo.alloc (.cells #[.int .i64 (x.1 : Int), .int .i64 (x.2 : Int)] 43)) w.heap.size r n (dayRow x 0 (dayOf xs n k))) := ⟨hR.out.below ((Below.refl _ _).alloc (Nat.le_refl _) _)⟩
      obtain ⟨wA, hwA⟩ : ∃ wA, wA = wo.alloc (.cells #[.int .i64 (x.1 : Int), .int .i64 (x.2 : Int)] 43) := ⟨_, rfl⟩
      rw [← hwA] at hKa hRa g0 g1 ⊢
      clear hwA hR hK cA cB
      go_loopw [24] (fun iv wr => ∃ i : Nat, i ≤ x.1 + 1 ∧ iv = .int .i64 i ∧ Off (RowAt wr w.heap.size r n (dayRow x i (dayOf xs n k))) ∧ Keeps r wA wr) (fun iv _ => x.1 + 1 - (intOf iv).toNat)
      case atStart => exact ⟨0, by omega, rfl, hRa, Keeps.refl _ _⟩
      case round =>
        obtain ⟨i, hi2, rfl, hR, hK⟩ := hrel
        obtain ⟨wq, rfl⟩ : ∃ wo : World, wo = wr := ⟨_, rfl⟩
        by_cases hix : i < x.1 + 1
        · have x1 := hK.cell g1 (by show wo.heap.size ≠ r; omega)
          have hc := hR.out.cell (show i < n by omega)
          have hf := hR.out.frozen i
          have HT : Off (dayRow x (i + 1) (dayOf xs n k) = (dayRow x i (dayOf xs n k)).set i (max ((dayRow x i (dayOf xs n k)).getD i 0) ((x.2 : Int) + 1))) := ⟨rfl⟩
          obtain ⟨y, hy⟩ : ∃ y, y = (dayRow x i (dayOf xs n k)).getD i 0 := ⟨_, rfl⟩
          rw [← hy] at hc HT
          have hi0 : (0 : Int) ≤ (i : Int) := by omega
          have hi1 : (i : Int) < (n : Int) := by omega
          have hi3 : (i : Int) < (x.1 : Int) + 1 := by omega
          have hx6 : x.2 < 6 := by omega
          have W1 : IntKind.i64.wrap ((x.2 : Int) + 1) = (x.2 : Int) + 1 := by rw [IntKind.wrap_i64]; omega
          clear hy
          go_wp2_with fail
          refine wp_region_still_tail 11 (by kernel_rfl) (by kernel_rfl) ?_
          simp only [List.take_succ_cons, List.take_zero, List.drop_succ_cons, List.drop_zero]
          repeat still_step
          refine wpStill_nil ?_
          change wpList _ _ _ _ _ wq.drew
          go_wp2
          obtain ⟨hR', hK'⟩ := hR.out.stored i (if y < (x.2 : Int) + 1 then (x.2 : Int) + 1 else y)
          refine ⟨⟨i + 1, by omega, by go_num, ⟨?_⟩, (hK.trans hK').drew⟩, by simp only [intOf]; omega⟩
          rw [HT.out, show max y ((x.2 : Int) + 1) = if y < (x.2 : Int) + 1 then (x.2 : Int) + 1 else y by split <;> omega]
          exact hR'.drewN 1
        · obtain rfl : i = x.1 + 1 := by omega
          go_wp2
          go_roundw
          case rel => exact ⟨k + 1, by omega, by go_num, by rw [HS.out]; exact hR, hKa.trans hK⟩
          case measure => simp only [intOf]; omega
    · obtain rfl : k = xs.length := by omega
      have hRR := hR.out
      clear hR
      have HF : Off (dayP b l = dayOf xs n xs.length) := ⟨by rw [HXS.out, HN.out]; rfl⟩
      go_wp2
      go_ret
      exact ⟨_, rfl, by rw [HF.out]; exact hRR.own_of, hK.below hw3 hw3.size (by have := HR.out; omega)⟩
end Go.Proofs.Ytnhbkopgbibcgaa
