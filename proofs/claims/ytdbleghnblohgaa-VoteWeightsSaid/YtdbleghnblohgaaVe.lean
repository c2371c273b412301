/- Contracts: Turns. -/
import Derived.Test.YtdbleghnblohgaaVd
import Derived.OneCell
namespace Go.Proofs.Ytdbleghnblohgaa
open Go.RowKit Go.Shelf

def bump (f : Nat → Nat → Int) (xs : List Int) (x : Nat × Nat) : List Int := xs.set x.1 (xs.getD x.1 0 + f x.1 x.2)
def tally (n : Nat) (f : Nat → Nat → Int) (acc : List (Nat × Nat)) : List Int := acc.foldl (bump f) (List.replicate n 0)
theorem bump_length (f : Nat → Nat → Int) (xs : List Int) (x : Nat × Nat) : (bump f xs x).length = xs.length := by simp [bump]
theorem tally_snoc (n : Nat) (f : Nat → Nat → Int) (acc : List (Nat × Nat)) (x : Nat × Nat) : tally n f (acc ++ [x]) = bump f (tally n f acc) x := by simp [tally]
theorem foldl_bump_length (f : Nat → Nat → Int) (acc : List (Nat × Nat)) : ∀ xs : List Int, (acc.foldl (bump f) xs).length = xs.length := by
  induction acc with
  | nil => intro xs; rfl
  | cons x acc ih => intro xs; rw [List.foldl_cons, ih, bump_length]
theorem tally_length (n : Nat) (f : Nat → Nat → Int) (acc : List (Nat × Nat)) : (tally n f acc).length = n := by
  rw [tally, foldl_bump_length]; simp
/-- With steps from 0 to M the tallies stay from 0 to M for each step. -/
theorem foldl_bump_range (f : Nat → Nat → Int) (M : Int) (hM : 0 ≤ M) (hf : ∀ i s, 0 ≤ f i s ∧ f i s ≤ M) (acc : List (Nat × Nat)) :
    ∀ (xs : List Int) (C : Int), (∀ j, 0 ≤ xs.getD j 0 ∧ xs.getD j 0 ≤ C) → ∀ j, 0 ≤ (acc.foldl (bump f) xs).getD j 0 ∧ (acc.foldl (bump f) xs).getD j 0 ≤ C + M * acc.length := by
  induction acc with
  | nil => intro xs C h j; simpa using h j
  | cons x acc ih =>
    intro xs C h j
    rw [List.foldl_cons]
    have := ih (bump f xs x) (C + M) (fun j => by
      have h1 := h j
      have h2 := h x.1
      have h3 := hf x.1 x.2
      unfold bump
      rw [List.getD_eq_getElem?_getD, List.getElem?_set]
      by_cases e : x.1 = j
      · rw [if_pos e]
        split
        · simp only [Option.getD_some]; omega
        · simp only [Option.getD_none]; omega
      · rw [if_neg e, ← List.getD_eq_getElem?_getD]; omega) j
    refine ⟨this.1, ?_⟩
    rw [List.length_cons, Int.natCast_add, Int.mul_add]
    simp only [Int.cast_ofNat_Int]
    omega
theorem tally_range (n : Nat) (f : Nat → Nat → Int) (M : Int) (hM : 0 ≤ M) (hf : ∀ i s, 0 ≤ f i s ∧ f i s ≤ M) (acc : List (Nat × Nat)) (j : Nat) :
    0 ≤ (tally n f acc).getD j 0 ∧ (tally n f acc).getD j 0 ≤ M * acc.length := by
  have := foldl_bump_range f M hM hf acc (List.replicate n 0) 0 (fun j => by
    rw [List.getD_eq_getElem?_getD, List.getElem?_replicate]
    split <;> simp) j
  simpa [tally] using this

/-- The tally that a captured variable at Bo holds: a row at block r. -/
structure TallyAt (base Bo r n : Nat) (f : Nat → Nat → Int) (acc : List (Nat × Nat)) (W : World) : Prop where
  var : W.cell? ⟨Bo, 0, none⟩ = some (.slice (some ⟨r, 0, none⟩) n n)
  row : Own W base (.slice (some ⟨r, 0, none⟩) n n) (tally n f acc)
theorem TallyAt.later {base Bo r n : Nat} {f : Nat → Nat → Int} {acc : List (Nat × Nat)} {W W' : World} (h : TallyAt base Bo r n f acc W) (hb : Below W.heap.size W W') : TallyAt base Bo r n f acc W' :=
  ⟨cellB hb h.var, own_below h.row hb⟩

theorem nums_at (xs : List Int) (i : Nat) (h : i < xs.length) : (nums xs)[i]? = some (.int .i64 (xs.getD i 0)) := by
  simp [nums, List.getElem?_eq_getElem h, List.getD_eq_getElem?_getD]
theorem nums_set (xs : List Int) (i : Nat) (x : Int) : nums (xs.set i x) = (nums xs).set i (.int .i64 x) := by
  simp [nums, List.map_set]

set_option maxHeartbeats 1000000 in
theorem turns1 (base Bo r n : Nat) (hne : Bo ≠ r) (acc : List (Nat × Nat)) (W : World) (i s : Nat) (h : TallyAt base Bo r n (fun _ _ => 1) acc W) (hacc : acc.length < 2048) (hi : i < n) :
    Calls Try.prog 45 #[.int .i64 i, .int .i64 s, .pointer (some ⟨Bo, 0, none⟩)] W fun e w' => e = .returned (.tuple #[]) ∧ TallyAt base Bo r n (fun _ _ => 1) (acc ++ [(i, s)]) w' ∧ Keeps r W w' := by
  have hv := h.var
  have hlen := tally_length n (fun _ _ => 1) acc
  have hrow := h.row
  have hown := hrow.out
  rw [hlen] at hown
  have hr := tally_range n (fun _ _ => 1) 1 (by omega) (fun _ _ => ⟨by omega, by omega⟩) acc i
  have hc : W.cell? ⟨r, i, none⟩ = some (.int .i64 ((tally n (fun _ _ => 1) acc).getD i 0)) := by
    rw [hown.cellAt i (by omega)]
    exact nums_at _ i (by omega)
  have hfz := hown.frozenAt i
  have HT : Off (tally n (fun _ _ => 1) (acc ++ [(i, s)]) = (tally n (fun _ _ => 1) acc).set i ((tally n (fun _ _ => 1) acc).getD i 0 + 1)) := ⟨by rw [tally_snoc]; rfl⟩
  have HO := Off.mk hown
  have HL := Off.mk hlen
  obtain ⟨x, hx⟩ : ∃ x, x = (tally n (fun _ _ => 1) acc).getD i 0 := ⟨_, rfl⟩
  rw [← hx] at hc hr HT
  clear hx hown hlen hrow h
  go_enter Try.func45, Try.ntmps45
  go_wp2
  go_end0
  obtain ⟨ho, hg⟩ := HO.out.stored i (.int .i64 (x + 1))
  refine ⟨rfl, ⟨hg.cell hv (fun e => hne (Option.some.inj e)), ⟨?_⟩⟩, ⟨hg⟩⟩
  rw [tally_length, HT.out, nums_set]
  exact ho

theorem nums_replicate (n : Nat) : nums (List.replicate n 0) = List.replicate n (.int .i64 0) := by simp [nums]
theorem tally_nil (n : Nat) (f : Nat → Nat → Int) : nums (tally n f []) = List.replicate n (.int .i64 0) := nums_replicate n
theorem IntsAt.clear {w : World} {A : Option Addr} {l : List Int} (h : IntsAt w A l) (h1 : 0 < l.length) {r : Nat} (hr : w.heap.size ≤ r) : Clear A r := by
  intro ad e
  obtain ⟨ad', e', hc⟩ := h.cell 0 h1
  have := World.block_lt_of_cell? w _ hc
  rw [add_block] at this
  rw [e] at e'
  cases e'
  omega

theorem made_ints (n : Nat) : (madeCells (Value.int .i64 0).cells (n * 1)).toList = List.replicate n (.int .i64 0) := by
  rw [Nat.mul_one]
  exact toList_madeCells_one _ n
theorem owns_lt {w : World} {base n g k c : Nat} {e : TypeId} {size : Nat} {xs : List Value} (h : w.ownsRow base e size (.slice (some ⟨g, 0, none⟩) k c) n xs) : g < w.heap.size := by
  rcases h.2 with ⟨h', _⟩ | ⟨g', cap, cur, h', hb, hh, _⟩
  · cases h'
  · cases h'
    exact (Array.getElem?_eq_some_iff.1 hh).1
theorem turns1_finds (base Bo r n : Nat) (hne : Bo ≠ r) : Finds Try.prog 45 #[.pointer (some ⟨Bo, 0, none⟩)] n r (TallyAt base Bo r n (fun _ _ => 1)) :=
  ⟨fun _ _ _ h hb => h.later hb, fun acc W i s h hacc hi _ _ => turns1 base Bo r n hne acc W i s h hacc hi⟩

set_option maxHeartbeats 1000000 in
theorem Turns_no (q : Int) (l : List Int) (A : Option Addr) (c : Nat) (w : World) (hl : IntsAt w A l) (hbody : bodyB q l = false) :
    Calls Try.prog 17 #[.agg #[.int .i64 q, .slice A l.length c]] w fun e w' => e = .returned (.tuple #[.slice none 0 0, .int .i64 2]) ∧ Below w.heap.size w w' := by
  have HB : Off (∀ o, Below w.heap.size w (w.alloc o)) := ⟨fun o => (Below.refl _ _).alloc (Nat.le_refl _) _⟩
  go_enter Try.func17, Try.ntmps17
  go_wp2_with (go_at_call 43; refine (read_any q l A c _ (hl.below (HB.out _))).mono ?_; rintro e w1 ⟨rfl, hb1⟩)
  go_ret2
  exact ⟨rfl, (HB.out _).trans (hb1.mono (HB.out _).size)⟩

set_option maxHeartbeats 1000000 in
theorem Turns_yes (q : Int) (l : List Int) (A : Option Addr) (c : Nat) (w : World) (hl : IntsAt w A l) (hbody : bodyB q l = true) :
    Calls Try.prog 17 #[.agg #[.int .i64 q, .slice A l.length c]] w fun e w' => ∃ v, e = .returned (.tuple #[v, .int .i64 0]) ∧ Own w' w.heap.size v (tally l.length (fun _ _ => 1) (turnsTo (winB q l) l.length l.length)) ∧ Below w.heap.size w w' := by
  have HB : Off (∀ o, Below w.heap.size w (w.alloc o)) := ⟨fun o => (Below.refl _ _).alloc (Nat.le_refl _) _⟩
  obtain ⟨h8, hw⟩ := Body.weights hbody
  obtain ⟨i0, hi, hz0, hz1, hz2⟩ := info_parts info3
  have eg := enters_of Try.func45 (by kernel_rfl) rfl
  have hlen := hl.len
  go_enter Try.func17, Try.ntmps17
  go_wp2_with (first
    | (go_at_call 43; refine (read_any q l A c _ (hl.below (HB.out _))).mono ?_; rintro e w1 ⟨rfl, hb1⟩; have hB := (box_body w q A l.length c).below hb1; have hq := hB.quota; have hs := hB.weights)
    | (at_make; refine wpList_make_full _ rfl _ _ 22 rfl w.heap.size 3 i0 (.int .i64 0) 1 Try.underlying22 hi hz0 hz1 .i64 .i64 l.length l.length l.length rfl rfl rfl rfl (by rw [hz2]; omega) (by unfold maxLen; omega) (by have := hb1.size; simp at this; omega) ?_; intro w2 hown2 hg2; rw [made_ints] at hown2; have hlt2 : w.heap.size < w2.heap.size := (by have := hb1.size; have := hg2.size; simp at *; omega); have hq2 := hg2.cell hq (by simp); have hs2 := hg2.cell hs (by simp)))
  have hw1 : Below w.heap.size w w1 := (HB.out _).trans (hb1.mono (HB.out _).size)
  have hw2 : Below w.heap.size w w2 := hw1.grown hg2 hw1.size (fun _ e => by cases e)
  have hw3 := hw2.alloc hw2.size (Obj.cells #[Value.slice (some { block := w1.heap.size, off := 0 }) l.length l.length] 22)
  have hw12 : w1.heap.size < w2.heap.size := owns_lt hown2
  refine (turned_any 45 _ w1.heap.size _ q l A c _ eg (hl.below hw3) (hl.clear (by have := (of_decide_eq_true hbody).1; omega) hw1.size) (by simp; omega) h8 hw
    (turns1_finds w.heap.size w2.heap.size w1.heap.size l.length (by omega)) ⟨by go_simp, ⟨?_⟩⟩).mono ?_
  · rw [tally_length, tally_nil]
    exact hown2.alloc _
  · rintro e w4 ⟨rfl, hJ, hk⟩
    have hv := hJ.var
    have hbe := hk.below hw3 (by have := hw3.size; simpa using this) hw1.size
    go_wp2
    go_ret2
    exact ⟨_, rfl, hJ.row, hbe⟩
end Go.Proofs.Ytdbleghnblohgaa
