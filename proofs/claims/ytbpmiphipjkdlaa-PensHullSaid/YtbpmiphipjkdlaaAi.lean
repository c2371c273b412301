/- Contracts: read. -/
import Derived.Test.YtbpmiphipjkdlaaAe
import Derived.Test.YtbpmiphipjkdlaaAf
import Derived.Test.YtbpmiphipjkdlaaAg
import Derived.ChangeKeysEq
namespace Go.Proofs.Ytbpmiphipjkdlaa
open Go.RowKit Go.Shelf
attribute [local go_sem] Oper.semAt_some

/-- Two sides of a pen that may not be. -/
def pairBad (xs : PtL) (i k : Nat) : Bool :=
  if k = i then false else if k = (i + 1) % xs.length then crossP (subP (sideAt xs i).1 (sideAt xs i).2) (subP (sideAt xs k).2 (sideAt xs k).1) == 0 && decide (0 < dotP (subP (sideAt xs i).1 (sideAt xs i).2) (subP (sideAt xs k).2 (sideAt xs k).1))
  else if i = (k + 1) % xs.length then false else meetS (sideAt xs i) (sideAt xs k)
def sideBad (xs : PtL) (i : Nat) : Bool := (sideAt xs i).1 == (sideAt xs i).2 || (List.finRange xs.length).any fun k => pairBad xs i k.val
def readP (xs : PtL) : Bool := decide (3 ≤ xs.length) && decide (xs.length ≤ 10) && !(xs.any farP) && !((List.finRange xs.length).any fun i => sideBad xs i.val)

theorem eq_at (x y z u : Int) (v : Bool) (hv : (x == z && y == u) = v) (w : World) : Sem.run Try.prog (Op.equalIn 10000 70 (.agg #[.int .i64 x, .int .i64 y]) (.agg #[.int .i64 z, .int .i64 u])) w = .ok v w := by
  obtain ⟨i0, hi, _⟩ := info_parts info3
  have hc : Try.prog.cellsOf 3 = 1 := by kernel_rfl
  refine (run_equalIn_array (P := Try.prog) w 9999 (t := 70) (e := 3) (n := 2) (i := i0) _ _ Try.underlying70 hi).trans ?_
  rw [hc, show List.range 2 = [0, 1] from rfl]
  have he : Try.prog.plainKey 3 = true := by kernel_rfl
  have h0 : (part 3 #[.int .i64 x, .int .i64 y] 0).run Try.prog w = .ok (.int .i64 x) w := run_part_plain w he rfl
  have h1 : (part 3 #[.int .i64 x, .int .i64 y] 1).run Try.prog w = .ok (.int .i64 y) w := run_part_plain w he rfl
  have h2 : (part 3 #[.int .i64 z, .int .i64 u] 0).run Try.prog w = .ok (.int .i64 z) w := run_part_plain w he rfl
  have h3 : (part 3 #[.int .i64 z, .int .i64 u] 1).run Try.prog w = .ok (.int .i64 u) w := run_part_plain w he rfl
  have hq : ∀ a b : Int, (Op.equalIn 9999 3 (.int .i64 a) (.int .i64 b)).run Try.prog w = .ok (a == b) w := fun a b => (run_equalIn_int w 9998 3 .i64 .i64 a b Try.underlying3).trans (by simp)
  subst hv
  cases e1 : (x == z) <;> cases e2 : (y == u) <;> simp [Op.eqItems, Sem.run_bind, h0, h1, h2, h3, hq, e1, e2]
theorem four_new (W : World) (x : Value) (s : (Int × Int) × (Int × Int)) : ((W.alloc (.cells #[x] 3)).alloc (.cells #[.int .i64 s.1.1, .int .i64 s.1.2, .int .i64 s.2.1, .int .i64 s.2.2] 75)).heap[W.heap.size + 1]? = some (.cells #[.int .i64 s.1.1, .int .i64 s.1.2, .int .i64 s.2.1, .int .i64 s.2.2] 75 (0, 0)) := by
  have := block_new (W.alloc (.cells #[x] 3)) (.cells #[.int .i64 s.1.1, .int .i64 s.1.2, .int .i64 s.2.1, .int .i64 s.2.2] 75)
  rwa [World.size_alloc] at this
theorem read_few (xs : PtL) (A : Option Addr) (c : Nat) (w : World) (h : xs.length < 3) : Calls Try.prog 46 #[.slice A xs.length c] w fun e w' => e = .returned (.tuple #[.slice none 0 0, .bool false]) ∧ Below w.heap.size w w' := by
  have h1 : ((xs.length : Int) < 3) := by omega
  go_enter Try.func46, Try.ntmps46
  go_wp2
  refine bodyPost_ret (v := .tuple #[.slice none 0 0, .bool false]) (by simp [results, Try.results46, go_sem]) rfl ⟨rfl, ?_⟩
  exact belowA (belowA (Below.refl _ w) _) _

theorem read_many (xs : PtL) (A : Option Addr) (c : Nat) (w : World) (h : 10 < xs.length) : Calls Try.prog 46 #[.slice A xs.length c] w fun e w' => e = .returned (.tuple #[.slice none 0 0, .bool false]) ∧ Below w.heap.size w w' := by
  have h1 : ¬ ((xs.length : Int) < 3) := by omega
  have h2 : (10 < (xs.length : Int)) := by omega
  go_enter Try.func46, Try.ntmps46
  go_wp2
  refine bodyPost_ret (v := .tuple #[.slice none 0 0, .bool false]) (by simp [results, Try.results46, go_sem]) rfl ⟨rfl, ?_⟩
  exact belowA (belowA (Below.refl _ w) _) _

theorem keepsFrom_below {b : Nat} {w w1 : World} (h : Below w.heap.size w w1) : KeepsFrom b w w1 := ⟨h.size, fun i _ _ hi _ => (h.block i (Array.getElem?_eq_some_iff.1 hi).1).trans hi⟩
theorem two_new (w : World) : Boxed ((w.alloc (.cells #[.slice none 0 0] 58)).alloc (.cells #[.bool false] 4)) w.heap.size 58 (.slice none 0 0) ∧ Boxed ((w.alloc (.cells #[.slice none 0 0] 58)).alloc (.cells #[.bool false] 4)) (w.heap.size + 1) 4 (.bool false) := by
  refine ⟨(Boxed.new w 58 (.slice none 0 0)).alloc (.cells #[.bool false] 4), ?_⟩
  have := Boxed.new (w.alloc (.cells #[.slice none 0 0] 58)) 4 (.bool false)
  rwa [World.size_alloc] at this
theorem ownQ_block {e : TypeId} {w : World} {base : Nat} {v : Value} {xs : List (Int × Int)} (h : OwnQ e w base v xs) (hx : 1 ≤ xs.length) : ∃ g c, v = .slice (some ⟨g, 0, none⟩) xs.length c ∧ base ≤ g ∧ g < w.heap.size ∧
    ∀ j, j < xs.length → w.cell? ⟨g, j * 2, none⟩ = some (.int .i64 (xs.getD j (0, 0)).1) ∧ w.cell? ⟨g, j * 2 + 1, none⟩ = some (.int .i64 (xs.getD j (0, 0)).2) := by
  rcases h.out.2 with ⟨rfl, h1⟩ | ⟨g, cap, cur, rfl, hb, hh, hc, _⟩
  · have : xs = [] := List.length_eq_zero_iff.1 h1
    rw [this] at hx; simp at hx
  · refine ⟨g, cap, rfl, hb, (Array.getElem?_eq_some_iff.1 hh).1, fun j hj => ⟨?_, ?_⟩⟩
    · rw [h.out.cellAt (j * 2) (by omega)]
      exact (pairCells_at xs j hj).1
    · rw [h.out.cellAt (j * 2 + 1) (by omega)]
      exact (pairCells_at xs j hj).2
theorem boxedB {w w1 : World} (h : Below w.heap.size w w1) {b : Nat} {t : TypeId} {v : Value} (hc : Boxed w b t v) : Boxed w1 b t v := blockB h hc
theorem setB {w : World} {p : Nat} {a b : Value} (h1 : Boxed w p 58 a) (h2 : Boxed w (p + 1) 4 b) (a' b' : Value) : Boxed ((w.setCell ⟨p, 0, none⟩ a').setCell ⟨p + 1, 0, none⟩ b') p 58 a' ∧ Boxed ((w.setCell ⟨p, 0, none⟩ a').setCell ⟨p + 1, 0, none⟩ b') (p + 1) 4 b' :=
  ⟨(h1.set a').other (by omega) b', (h2.other (by omega) a').set b'⟩
theorem block_kept {X Y : World} {row : Option Nat} {B : Nat} {c : Array Value} {t : TypeId} (h : X.heap[B]? = some (.cells c t (0, 0))) (hg : X.grownBy Y row) (hr : ∀ r, row = some r → ∃ o : Obj, X.heap[r]? = some o ∧ o.isCells = false) : Y.heap[B]? = some (.cells c t (0, 0)) :=
  (hg.block B (Array.getElem?_eq_some_iff.1 h).1 (fun e => by obtain ⟨o, ho, hc⟩ := hr B e.symm; rw [h] at ho; cases ho; simp [Obj.isCells] at hc)).trans h
theorem boxedL {n₀ : Nat} {w w1 : World} (h : Below n₀ w w1) {b : Nat} {t : TypeId} {v : Value} (hc : Boxed w b t v) (hb : b < n₀) : Boxed w1 b t v := (h.block b hb).trans hc
theorem ownQ_below' {e : TypeId} {w w1 : World} {base : Nat} {v : Value} {xs : List (Int × Int)} (h : OwnQ e w base v xs) (hb : Below w.heap.size w w1) : OwnQ e w1 base v xs := ownQ_below h hb
theorem next_tmod (n i : Nat) (h : i < n) : ∃ m : Nat, ((i : Int) + 1).tmod (n : Int) = (m : Int) ∧ m < n ∧ m = (i + 1) % n := by
  refine ⟨(i + 1) % n, ?_, Nat.mod_lt _ (by omega), rfl⟩
  rw [Int.tmod_eq_emod_of_nonneg (by omega), show (i : Int) + 1 = ((i + 1 : Nat) : Int) by omega]
  exact (Int.natCast_emod _ _).symm
theorem good_more {xs : PtL} {i : Nat} {pre : List (Fin xs.length)} {y : Fin xs.length} (h : ∀ y ∈ pre, pairBad xs i y.val = false) (hy : pairBad xs i y.val = false) : ∀ z ∈ pre ++ [y], pairBad xs i z.val = false := by
  intro z hz
  rcases List.mem_append.1 hz with hz | hz
  · exact h z hz
  · obtain rfl := List.mem_singleton.1 hz
    exact hy
theorem near_of_far {xs : PtL} (hf : xs.any farP = false) (i : Nat) : inB 2097152 (xs.getD i (0, 0)) := by
  by_cases h : i < xs.length
  · have := List.any_eq_false.1 hf xs[i] (List.getElem_mem h)
    rw [List.getD_eq_getElem?_getD, List.getElem?_eq_getElem h]
    simp only [Option.getD_some]
    simp only [farP, farB, Bool.or_eq_true, decide_eq_true_eq, not_or] at this
    unfold inB
    omega
  · rw [List.getD_eq_getElem?_getD, List.getElem?_eq_none (by omega)]
    simp [inB]
theorem ret_bad {w Wi W' W5 : World} {n₀ : Nat} {p : Prop} (hbn : Below W'.heap.size W' W5) (hBw : Below w.heap.size w W') (hK : KeepsFrom n₀ Wi W')
    (e5 : Boxed ((W5.setCell ⟨w.heap.size, 0, none⟩ (.slice none 0 0)).setCell ⟨w.heap.size + 1, 0, none⟩ (.bool false)) w.heap.size 58 (.slice none 0 0) ∧ Boxed ((W5.setCell ⟨w.heap.size, 0, none⟩ (.slice none 0 0)).setCell ⟨w.heap.size + 1, 0, none⟩ (.bool false)) (w.heap.size + 1) 4 (.bool false)) (hp : p) :
    KeepsFrom Wi.heap.size W' ((W5.setCell ⟨w.heap.size, 0, none⟩ (.slice none 0 0)).setCell ⟨w.heap.size + 1, 0, none⟩ (.bool false)) ∧ (((Code.ret = Code.ret ∧ p) ∧ Boxed ((W5.setCell ⟨w.heap.size, 0, none⟩ (.slice none 0 0)).setCell ⟨w.heap.size + 1, 0, none⟩ (.bool false)) w.heap.size 58 (.slice none 0 0)) ∧ Boxed ((W5.setCell ⟨w.heap.size, 0, none⟩ (.slice none 0 0)).setCell ⟨w.heap.size + 1, 0, none⟩ (.bool false)) (w.heap.size + 1) 4 (.bool false)) ∧
      (Below w.heap.size w ((W5.setCell ⟨w.heap.size, 0, none⟩ (.slice none 0 0)).setCell ⟨w.heap.size + 1, 0, none⟩ (.bool false)) ∧ KeepsFrom n₀ Wi ((W5.setCell ⟨w.heap.size, 0, none⟩ (.slice none 0 0)).setCell ⟨w.heap.size + 1, 0, none⟩ (.bool false))) := by
  have hk : ∀ b, KeepsFrom b W' ((W5.setCell ⟨w.heap.size, 0, none⟩ (.slice none 0 0)).setCell ⟨w.heap.size + 1, 0, none⟩ (.bool false)) := fun b => (keepsFrom_below hbn).trans (((KeepsOthers.setCell _ _ _).trans (KeepsOthers.setCell _ _ _)).from _)
  exact ⟨hk _, ⟨⟨⟨rfl, hp⟩, e5.1⟩, e5.2⟩, ((hBw.trans (hbn.mono hBw.size)).setCell (p := ⟨w.heap.size, 0, none⟩) (by simp) _).setCell (p := ⟨w.heap.size + 1, 0, none⟩) (by simp) _, hK.trans (hk _)⟩
section
variable {F : Fence} {n : Nat} {P : Program} {ops : Array Oper} {Q : Exit → Act → World → Prop} {md : Region.Mode} {S : World → Prop} {c : Nat}
abbrev StepAt (F : Fence) (n : Nat) (P : Program) (md : Region.Mode) (ops : Array Oper) (Q : Exit → Act → World → Prop) (S : World → Prop) (c k : Nat) (done : Array Bool) (a : Act) (w : World) (i : Nat) (o : Oper) : Prop :=
  ∀ K : Act → World → Prop, Off' (∀ b u, ((done.setIfInBounds i true).getD c false = false → S u) → (Inv md ops (done.setIfInBounds i true) → ((done.setIfInBounds i true).getD c false = false → S u) → anyS F n P md ops Q S c k (done.setIfInBounds i true) b u) → K b u) → if Region.wanted o (yielded ops a.tmps) = true then Oper.wpIn F n P o a w K Q else (∀ f, o.about P w a.eval = some f → F.fn f) ∧ K (a.put o.dst undef) w
theorem anyS_step {j : Nat} {o : Oper} {k : Nat} {done : Array Bool} {a : Act} {w : World} (hj : j ∈ Region.ready md ops done) (ho : ops[j]? = some o) (hI : Inv md ops done) (h : StepAt F n P md ops Q S c k done a w j o) :
    wpOpIn F n P ops Q j (fun b u => ((done.setIfInBounds j true).getD c false = false → S u) ∧ anyS F n P md ops Q S c k (done.setIfInBounds j true) b u) a w := by
  have hI2 := inv_step hI hj
  unfold wpOpIn
  simp only [ho]
  exact h _ ⟨fun b u hS hK => ⟨hS, hK hI2 hS⟩⟩
theorem anyS_two {i j : Nat} {o p : Oper} {k : Nat} {done : Array Bool} {a : Act} {w : World} (hr : Region.ready md ops done = [i, j]) (ho : ops[i]? = some o) (hp : ops[j]? = some p) (hI : Inv md ops done)
    (h1 : StepAt F n P md ops Q S c k done a w i o) (h2 : StepAt F n P md ops Q S c k done a w j p) : anyS F n P md ops Q S c (k + 1) done a w :=
  ⟨fun e => (by rw [hr] at e; cases e), fun m hm => by
    have hm' := hm
    rw [hr] at hm'
    simp only [List.mem_cons, List.not_mem_nil, or_false] at hm'
    rcases hm' with rfl | rfl
    · exact anyS_step hm ho hI h1
    · exact anyS_step hm hp hI h2⟩
theorem anyS_three {i j l : Nat} {o p q : Oper} {k : Nat} {done : Array Bool} {a : Act} {w : World} (hr : Region.ready md ops done = [i, j, l]) (ho : ops[i]? = some o) (hp : ops[j]? = some p) (hq : ops[l]? = some q) (hI : Inv md ops done)
    (h1 : StepAt F n P md ops Q S c k done a w i o) (h2 : StepAt F n P md ops Q S c k done a w j p) (h3 : StepAt F n P md ops Q S c k done a w l q) : anyS F n P md ops Q S c (k + 1) done a w :=
  ⟨fun e => (by rw [hr] at e; cases e), fun m hm => by
    have hm' := hm
    rw [hr] at hm'
    simp only [List.mem_cons, List.not_mem_nil, or_false] at hm'
    rcases hm' with rfl | rfl | rfl
    · exact anyS_step hm ho hI h1
    · exact anyS_step hm hp hI h2
    · exact anyS_step hm hq hI h3⟩
end
theorem two_stored {w0 w : World} {A B : Nat} {x y z u : Value} (p q : Int × Int) (hb : Below w0.heap.size w0 w) (hA : w0.heap.size ≤ A) (hB : w0.heap.size ≤ B) (hne : A ≠ B) (bA : w.heap[A]? = some (.cells #[x, y] 70 (0, 0))) (bB : w.heap[B]? = some (.cells #[z, u] 70 (0, 0))) :
    (Box2 ((((w.setCell ⟨A, 0, none⟩ (.int .i64 p.1)).setCell ⟨A, 1, none⟩ (.int .i64 p.2)).setCell ⟨B, 0, none⟩ (.int .i64 q.1)).setCell ⟨B, 1, none⟩ (.int .i64 q.2)) A p ∧
    Box2 ((((w.setCell ⟨A, 0, none⟩ (.int .i64 p.1)).setCell ⟨A, 1, none⟩ (.int .i64 p.2)).setCell ⟨B, 0, none⟩ (.int .i64 q.1)).setCell ⟨B, 1, none⟩ (.int .i64 q.2)) B q) ∧
    Below w0.heap.size w0 ((((w.setCell ⟨A, 0, none⟩ (.int .i64 p.1)).setCell ⟨A, 1, none⟩ (.int .i64 p.2)).setCell ⟨B, 0, none⟩ (.int .i64 q.1)).setCell ⟨B, 1, none⟩ (.int .i64 q.2)) := by
  obtain ⟨⟨x0, x1⟩, _⟩ := two_facts bA
  obtain ⟨⟨y0, y1⟩, _⟩ := two_facts bB
  have nb : ∀ i j : Nat, (⟨A, i, none⟩ : Addr) ≠ ⟨B, j, none⟩ := fun i j e => by injection e with e1; omega
  have no : ∀ C : Nat, (⟨C, 0, none⟩ : Addr) ≠ ⟨C, 1, none⟩ := fun C e => by injection e with _ e2; omega
  refine ⟨⟨⟨?_, ?_⟩, ⟨?_, ?_⟩⟩, ?_⟩
  · rw [World.cell?_setCell_other _ _ _ _ (nb 0 1).symm, World.cell?_setCell_other _ _ _ _ (nb 0 0).symm, World.cell?_setCell_other _ _ _ _ (no A).symm, World.cell?_setCell_same _ _ _ x0]
  · rw [World.cell?_setCell_other _ _ _ _ (nb 1 1).symm, World.cell?_setCell_other _ _ _ _ (nb 1 0).symm]
    exact World.cell?_setCell_same _ _ _ ((World.cell?_setCell_other _ _ _ _ (no A)).trans x1)
  · rw [World.cell?_setCell_other _ _ _ _ (no B).symm]
    exact World.cell?_setCell_same _ _ _ (((World.cell?_setCell_other _ _ _ _ (nb 1 0)).trans (World.cell?_setCell_other _ _ _ _ (nb 0 0))).trans y0)
  · exact World.cell?_setCell_same _ _ _ ((((World.cell?_setCell_other _ _ _ _ (no B)).trans (World.cell?_setCell_other _ _ _ _ (nb 1 1))).trans (World.cell?_setCell_other _ _ _ _ (nb 0 1))).trans y1)
  · exact (((hb.setCell (p := ⟨A, 0, none⟩) hA _).setCell (p := ⟨A, 1, none⟩) hA _).setCell (p := ⟨B, 0, none⟩) hB _).setCell (p := ⟨B, 1, none⟩) hB _
theorem read_far (xs : PtL) (A : Option Addr) (c : Nat) (w : World) (hx : PairsI w A xs) (h : 3 ≤ xs.length ∧ xs.length ≤ 10) (hf : xs.any farP = true) : Calls Try.prog 46 #[.slice A xs.length c] w fun e w' => e = .returned (.tuple #[.slice none 0 0, .bool false]) ∧ Below w.heap.size w w' := by
  have h1 : ¬ ((xs.length : Int) < 3) := by omega
  have h2 : ¬ (10 < (xs.length : Int)) := by omega
  have CF : Off (∀ W, Below w.heap.size w W → Calls Try.prog 63 #[.slice A xs.length c, .func (.func 83) #[] #[]] W fun e w' => e = .returned (.bool true) ∧ Below W.heap.size W w') := ⟨fun W hb => contains63_any xs A c true hf W (hx.below hb)⟩
  clear hf hx
  obtain ⟨b1, b2⟩ := two_new w
  go_enter Try.func46, Try.ntmps46
  go_wp2_with fail
  refine (CF.out _ (belowA (belowA (Below.refl _ w) _) _)).mono ?_
  rintro e w1 ⟨rfl, hb1⟩
  have c1 := (boxedB hb1 b1).cell
  have c2 := (boxedB hb1 b2).cell
  have f1 := (boxedB hb1 b1).frozen
  have f2 := (boxedB hb1 b2).frozen
  go_wp2
  refine bodyPost_ret (v := .tuple #[.slice none 0 0, .bool false]) ?_ rfl ⟨rfl, ?_⟩
  · obtain ⟨d1, d2⟩ := setB (boxedB hb1 b1) (boxedB hb1 b2) (.slice none 0 0) (.bool false)
    have e1 := d1.cell
    have e2 := d2.cell
    simp [results, Try.results46, go_sem, e1, e2]
  · exact ((belowC (belowA (belowA (Below.refl _ w) _) _) hb1).setCell (by simp) _).setCell (by simp) _

set_option maxRecDepth 100000 in
set_option maxHeartbeats 4000000 in
theorem read_long (xs : PtL) (A : Option Addr) (c : Nat) (w : World) (hx : PairsI w A xs) (h : 3 ≤ xs.length ∧ xs.length ≤ 10) (hf : xs.any farP = false) : Calls Try.prog 46 #[.slice A xs.length c] w fun e w' => (∃ v b, e = .returned (.tuple #[v, .bool b]) ∧ (!((List.finRange xs.length).any fun i => sideBad xs i.val)) = b ∧ (b = true → OwnQ 70 w' w.heap.size v xs) ∧ (b = false → v = .slice none 0 0)) ∧ Below w.heap.size w w' := by
  have h1 : ¬ ((xs.length : Int) < 3) := by omega
  have h2 : ¬ (10 < (xs.length : Int)) := by omega
  have CF : Off (∀ W, Below w.heap.size w W → Calls Try.prog 63 #[.slice A xs.length c, .func (.func 83) #[] #[]] W fun e w' => e = .returned (.bool false) ∧ Below W.heap.size W w') := ⟨fun W hb => contains63_any xs A c false hf W (hx.below hb)⟩
  have CA : Off (∀ W, Below w.heap.size w W → Calls Try.prog 65 #[.slice A xs.length c] W fun e w' => ∃ v, e = .returned v ∧ OwnQ 70 w' W.heap.size v xs ∧ Below W.heap.size W w') := ⟨fun W hb => as_any xs A c W (by omega) (hx.below hb)⟩
  have HIn : Off (∀ i, inB 2097152 (sideAt xs i).1 ∧ inB 2097152 (sideAt xs i).2) := ⟨fun i => ⟨near_of_far hf i, near_of_far hf _⟩⟩
  have CS : Off (∀ B k c W, Calls Try.prog 56 #[.slice B k c] W fun e w' => e = .returned (.func (.func 94) #[] #[.pointer (some ⟨W.heap.size, 0, none⟩)]) ∧ w' = W.alloc (.cells #[.slice B k c] 58)) := ⟨fun B k c W => (callsIn_wide (n := 5)).1 (sides_in Fence.wide 5 trivial rfl B k c W)⟩
  clear hf hx
  refine (callsIn_wide (n := 9)).1 ?_
  refine callsIn_of_wp_marks Try.func46 rfl trivial ?_
  refine wpIn_wide.2 ?_
  simp only [Try.ntmps46, List.size_toArray, List.length_cons, List.length_nil, Nat.reduceAdd, Nat.reduceSub, Array.replicate_succ, Array.replicate_zero, List.push_toArray, List.append_toArray, List.nil_append, List.cons_append]
  obtain ⟨b1, b2⟩ := two_new w
  go_wp2_with fail
  refine (CF.out _ (belowA (belowA (Below.refl _ w) _) _)).mono ?_
  rintro e w1 ⟨rfl, hb1⟩
  have b1 := boxedB hb1 b1
  have b2 := boxedB hb1 b2
  have hB1 := belowC (belowA (belowA (Below.refl _ w) _) _) hb1
  clear hb1
  go_wp2_with fail
  refine (CA.out _ hB1).mono ?_
  rintro e w2 ⟨v, rfl, hO2, hb2⟩
  have b2o := b2
  have b1 := boxedB hb2 b1
  have b2 := boxedB hb2 b2
  have hB2 := belowC hB1 hb2
  obtain ⟨g, cg, rfl, hg0, hgl, hL2⟩ := ownQ_block hO2 (by omega)
  have hg1 : w1.heap.size ≤ g := hg0
  have hw1 : w.heap.size + 1 < w1.heap.size := (Array.getElem?_eq_some_iff.1 b2o).1
  clear hb2 hB1 hg0
  go_wp2_with fail
  refine (CS.out _ _ _ _).mono ?_
  rintro e w3 ⟨rfl, hw3⟩
  have hba : Below w2.heap.size w2 w3 := by rw [hw3]; exact ((Below.refl _ w2).alloc (Nat.le_refl _) _).alloc (by simp) _
  have hsz : w3.heap.size = w2.heap.size + 2 := by rw [hw3]; simp
  have hwb : w.heap.size + 1 < w2.heap.size := (Array.getElem?_eq_some_iff.1 b2).1
  have b1 := boxedB hba b1
  have b2 := boxedB hba b2
  have bC : Boxed w3 (w2.heap.size + 1) 58 (.slice (some ⟨g, 0, none⟩) xs.length cg) := by
    rw [hw3]
    have := Boxed.new (w2.alloc (.cells #[.slice (some ⟨g, 0, none⟩) xs.length cg] 58)) 58 (.slice (some ⟨g, 0, none⟩) xs.length cg)
    rwa [World.size_alloc] at this
  have bP : Boxed w3 w2.heap.size 58 (.slice (some ⟨g, 0, none⟩) xs.length cg) := by
    rw [hw3]
    exact (Boxed.new w2 58 (.slice (some ⟨g, 0, none⟩) xs.length cg)).alloc _
  have HL : Off (∀ j, j < xs.length → w3.cell? ⟨g, j * 2, none⟩ = some (.int .i64 (xs.getD j (0, 0)).1) ∧ w3.cell? ⟨g, j * 2 + 1, none⟩ = some (.int .i64 (xs.getD j (0, 0)).2)) :=
    ⟨fun j hj => ⟨cellB hba (hL2 j hj).1, cellB hba (hL2 j hj).2⟩⟩
  have HO := Off.mk (ownQ_below hO2 hba)
  have hB3 := belowC hB2 hba
  clear hba hw3 hL2 hO2 hB2
  go_wp2_with fail
  obtain ⟨b, hb⟩ : ∃ b, b = w2.heap.size := ⟨_, rfl⟩
  rw [← hb] at bC bP hsz hgl hwb ⊢
  clear hb
  refine (wpIn_wide (n := 9)).1 ?_
  refine wpIn_rangeFunc_ownH (F := Fence.wide) (n := 9) rfl (by omega) (gf := 94) (lb := #[.pointer (some ⟨b + 1, 0, none⟩)]) rfl trivial (enters_of Try.func94 (by kernel_rfl) rfl)
    (sides_stops Fence.wide 8 trivial rfl (by omega) (b + 1) w3.heap.size g cg xs (by omega) w3 (by omega) (by omega) (Nat.le_refl _) bC.cell HL.out) belowK_t (belowK_b (Nat.le_refl _)) (Below.refl _ _) (fun _ => rfl)
    (fun pre W => (∀ x ∈ pre, sideBad xs x.val = false) ∧ Below w3.heap.size w3 W)
    (fun c pre W => (((c = .ret ∧ ∃ x ∈ pre, sideBad xs x.val = true) ∧ Boxed W w.heap.size 58 (.slice none 0 0)) ∧ Boxed W (w.heap.size + 1) 4 (.bool false)) ∧ Below w.heap.size w W)
    (OwnFrom.and (ownFrom_pure _ _) (ownFrom_below (Nat.le_refl _) (Nat.le_refl _)))
    (fun c => OwnFrom.and (OwnFrom.and (OwnFrom.and (ownFrom_pure _ _) (Own.from (boxed_own _ _ _) _)) (Own.from (boxed_own _ _ _) _)) (ownFrom_below (Nat.le_refl _) (by omega)))
    ⟨by simp, Below.refl _ _⟩
    (fun x a' W => ∃ Bi, w3.heap.size ≤ Bi ∧ Boxed W Bi 3 (.int .i64 (x.val : Int)) ∧ W.heap[Bi + 1]? = some (.cells #[Value.int IntKind.i64 (sideAt xs x.val).1.1, Value.int IntKind.i64 (sideAt xs x.val).1.2, Value.int IntKind.i64 (sideAt xs x.val).2.1, Value.int IntKind.i64 (sideAt xs x.val).2.2] 75 (0, 0)) ∧ a' = { tmps := #[Value.slice A xs.length c, undef, Value.pointer (some ⟨w.heap.size, 0, none⟩), Value.pointer (some ⟨w.heap.size + 1, 0, none⟩), Value.pointer (some ⟨b, 0, none⟩), Value.pointer (some ⟨Bi, 0, none⟩), Value.pointer (some ⟨Bi + 1, 0, none⟩), undef, undef, undef, undef, Value.slice A xs.length c, Value.int IntKind.i64 ↑xs.length, Value.bool false, Value.bool false, Value.slice A xs.length c, Value.int IntKind.i64 ↑xs.length, Value.bool false, Value.bool false, Value.bool false, Value.slice A xs.length c, Value.bool false, Value.bool false, Value.slice A xs.length c, Value.slice (some ⟨g, 0, none⟩) xs.length cg, Value.slice (some ⟨g, 0, none⟩) xs.length cg, Value.func (Fn.func 94) #[] #[Value.pointer (some ⟨b + 1, 0, none⟩)], Value.int IntKind.i64 ↑x.val, sdV (sideAt xs x.val), undef, undef, undef, undef, undef, undef, undef, undef, undef, undef, undef, undef, undef, undef, undef, undef, undef, undef, undef, undef, undef, undef, undef, undef, undef, undef, undef, undef, undef, undef, undef, undef, undef, undef, undef, undef, undef, undef, undef, undef, undef, undef, undef, undef, undef, undef, undef, undef, undef, undef, undef, undef, undef, undef], defers := [] })
    (fun x a' _ X Y row hs hg hr => by obtain ⟨Bi, e1, e2, e3, e4⟩ := hs; exact ⟨Bi, e1, block_kept e2 hg (fun r e => (hr r e).2), block_kept e3 hg (fun r e => (hr r e).2), e4⟩)
    ?assign ?body ?done ?stop
  case assign =>
    rintro l pre x W K ⟨hp, hB⟩ hK
    simp only [sideEnc]
    gi_wp2
    exact hK _ _ (((KeepsOthers.alloc _ _).trans (KeepsOthers.alloc _ _)).from _) (((Below.refl _ W).alloc hB.size _).alloc (by have := hB.size; simp; omega) _) ⟨hp, (hB.alloc hB.size _).alloc (by have := hB.size; simp; omega) _⟩
      ⟨W.heap.size, hB.size, (Boxed.new W 3 _).alloc _, four_new W _ (sideAt xs x.val), rfl⟩
  case body =>
    rintro l pre x a' W hl ⟨r, hr⟩ ⟨hp, hB⟩ ⟨Bi, hBi, bI, bS, rfl⟩ hlt
    obtain ⟨s, hs⟩ : ∃ s, s = sideAt xs x.val := ⟨_, rfl⟩
    rw [← hs] at bS ⊢
    have HS := Off.mk hs
    clear hs
    have d1 := boxedL hB b1 (by omega)
    have d2 := boxedL hB b2 (by omega)
    have dP := boxedL hB bP (by omega)
    have cP := dP.cell
    have cI := bI.cell
    obtain ⟨⟨s0, s1, s2, s3⟩, _⟩ := four_facts bS
    have hwW := hB.size
    have hBw := hB3.trans (hB.mono (by omega))
    by_cases hsame : s.1 = s.2
    · have E1 := eq_at s.1.1 s.1.2 s.2.1 s.2.2 true (by rw [hsame]; simp)
      have HSame := Off.mk hsame
      clear hsame
      have c1 := d1.cell
      have c2 := d2.cell
      have f1 := d1.frozen
      have f2 := d2.frozen
      gi_wp2
      have e := setB d1 d2 (.slice none 0 0) (.bool false)
      exact ⟨((KeepsOthers.setCell _ _ _).trans (KeepsOthers.setCell _ _ _)).from _, ⟨⟨⟨rfl, x, by simp, by unfold sideBad; rw [← HS.out, HSame.out]; simp⟩, e.1⟩, e.2⟩, (hBw.setCell (p := ⟨w.heap.size, 0, none⟩) (by simp) _).setCell (p := ⟨w.heap.size + 1, 0, none⟩) (by simp) _⟩
    · have E1 := eq_at s.1.1 s.1.2 s.2.1 s.2.2 false (by simpa [Prod.ext_iff] using hsame)
      have HSame := Off.mk hsame
      clear hsame
      gi_wp2_with fail
      refine ⟨trivial, ?_⟩
      refine (CallsIn.inRound l (callsIn_wide.2 (CS.out _ _ _ _))).mono ?_
      rintro e Wi ⟨rfl, hWi⟩
      have hr' : Wi.heap[l]? = some (.loop r) := by rw [hWi]; exact (Below.heap_alloc W _ l (Array.getElem?_eq_some_iff.1 hr).1).trans hr
      have hbi : Below W.heap.size W Wi := by rw [hWi]; exact (Below.refl _ W).alloc (Nat.le_refl _) _
      have hKi : KeepsFrom w3.heap.size W Wi := by rw [hWi]; exact (KeepsOthers.alloc _ _).from _
      have hszi : Wi.heap.size = W.heap.size + 1 := by rw [hWi]; simp
      have dC : Boxed Wi W.heap.size 58 (.slice (some ⟨g, 0, none⟩) xs.length cg) := by rw [hWi]; exact Boxed.new W 58 _
      have hBiL : Bi + 1 < W.heap.size := (Array.getElem?_eq_some_iff.1 bS).1
      have bI := boxedB hbi bI
      have bS := blockB hbi bS
      have d1 := boxedB hbi d1
      have d2 := boxedB hbi d2
      have dP := boxedB hbi dP
      have hBi3 : Below w3.heap.size w3 Wi := hB.trans (hbi.mono hwW)
      have HLi : Off (∀ j, j < xs.length → Wi.cell? ⟨g, j * 2, none⟩ = some (.int .i64 (xs.getD j (0, 0)).1) ∧ Wi.cell? ⟨g, j * 2 + 1, none⟩ = some (.int .i64 (xs.getD j (0, 0)).2)) :=
        ⟨fun j hj => ⟨(hBi3.cell (p := ⟨g, j * 2, none⟩) (by simp only; omega)).trans (HL.out j hj).1, (hBi3.cell (p := ⟨g, j * 2 + 1, none⟩) (by simp only; omega)).trans (HL.out j hj).2⟩⟩
      have hbi3 : Below w3.heap.size W Wi := hbi.mono hwW
      have hBwi : Below w.heap.size w Wi := hBw.trans (hbi.mono (by omega))
      clear hWi hbi cP cI s0 s1 s2 s3
      gi_wp2_with fail
      obtain ⟨Bc, hBc⟩ : ∃ Bc, Bc = W.heap.size := ⟨_, rfl⟩
      rw [← hBc] at dC hszi hBiL ⊢
      clear hBc
      refine wpIn_rangeFunc_ownN (F := Fence.wide.inRound l) (l₀ := l) (r₀ := r) rfl hr' (by omega) (gf := 94) (lb := #[.pointer (some ⟨Bc, 0, none⟩)]) rfl trivial (enters_of Try.func94 (by kernel_rfl) rfl)
        ((sides_stops Fence.wide _ trivial rfl (by omega) Bc Wi.heap.size g cg xs (by omega) Wi (by omega) (by omega) (Nat.le_refl _) dC.cell HLi.out).inRound l) belowK_t (belowK_b (Nat.le_refl _)) (Below.refl _ _) (fun _ => rfl)
        (fun pre' W' => (∀ y ∈ pre', pairBad xs x.val y.val = false) ∧ Below Wi.heap.size Wi W')
        (fun c pre' W' => (((c = .ret ∧ ∃ y ∈ pre', pairBad xs x.val y.val = true) ∧ Boxed W' w.heap.size 58 (.slice none 0 0)) ∧ Boxed W' (w.heap.size + 1) 4 (.bool false)) ∧ (Below w.heap.size w W' ∧ KeepsFrom w3.heap.size Wi W'))
        (OwnFrom.and (ownFrom_pure _ _) (ownFrom_below (Nat.le_refl _) (Nat.le_refl _)))
        (fun c => OwnFrom.and (OwnFrom.and (OwnFrom.and (ownFrom_pure _ _) (Own.from (boxed_own _ _ _) _)) (Own.from (boxed_own _ _ _) _)) (OwnFrom.and (ownFrom_below (Nat.le_refl _) (by omega)) (ownFrom_keepsFrom (Nat.le_refl _))))
        ⟨by simp, Below.refl _ _⟩
        (fun y a'' W' => ∃ Bo, Wi.heap.size ≤ Bo ∧ W'.heap[Bo]? = some (.cells #[Value.int IntKind.i64 (sideAt xs y.val).1.1, Value.int IntKind.i64 (sideAt xs y.val).1.2, Value.int IntKind.i64 (sideAt xs y.val).2.1, Value.int IntKind.i64 (sideAt xs y.val).2.2] 75 (0, 0)) ∧ a'' = { tmps := #[Value.slice A xs.length c, undef, Value.pointer (some ⟨w.heap.size, 0, none⟩), Value.pointer (some ⟨w.heap.size + 1, 0, none⟩), Value.pointer (some ⟨b, 0, none⟩), Value.pointer (some ⟨Bi, 0, none⟩), Value.pointer (some ⟨Bi + 1, 0, none⟩), Value.int IntKind.i64 ↑y.val, Value.pointer (some ⟨Bo, 0, none⟩), undef, undef, Value.slice A xs.length c, Value.int IntKind.i64 ↑xs.length, Value.bool false, Value.bool false, Value.slice A xs.length c, Value.int IntKind.i64 ↑xs.length, Value.bool false, Value.bool false, Value.bool false, Value.slice A xs.length c, Value.bool false, Value.bool false, Value.slice A xs.length c, Value.slice (some ⟨g, 0, none⟩) xs.length cg, Value.slice (some ⟨g, 0, none⟩) xs.length cg, Value.func (Fn.func 94) #[] #[Value.pointer (some ⟨b + 1, 0, none⟩)], Value.int IntKind.i64 ↑x.val, sdV s, Value.pointer (some ⟨Bi + 1, 0, none⟩), Value.agg #[Value.int IntKind.i64 s.1.1, Value.int IntKind.i64 s.1.2], Value.pointer (some ⟨Bi + 1, 2, none⟩), Value.agg #[Value.int IntKind.i64 s.2.1, Value.int IntKind.i64 s.2.2], Value.bool false, Value.slice (some ⟨g, 0, none⟩) xs.length cg, Value.func (Fn.func 94) #[] #[Value.pointer (some ⟨Bc, 0, none⟩)], Value.int IntKind.i64 ↑y.val, sdV (sideAt xs y.val), undef, undef, undef, undef, undef, undef, undef, undef, undef, undef, undef, undef, undef, undef, undef, undef, undef, undef, undef, undef, undef, undef, undef, undef, undef, undef, undef, undef, undef, undef, undef, undef, undef, undef, undef, undef, undef, undef, undef, undef, undef, undef, undef, undef, undef], defers := [] })
        (fun y a'' _ X Y row hs hg hr => by obtain ⟨Bo, e1, e3, e4⟩ := hs; exact ⟨Bo, e1, block_kept e3 hg (fun r e => (hr r e).2), e4⟩)
        ?assign2 ?body2 ?done2 ?stop2
      case assign2 =>
        rintro l2 pre' y W' K ⟨hq, hBW⟩ hK
        simp only [sideEnc]
        gi_wp2
        exact hK _ _ ((KeepsOthers.alloc _ _).from _) ((Below.refl _ W').alloc hBW.size _) ⟨hq, hBW.alloc hBW.size _⟩ ⟨W'.heap.size, hBW.size, block_new W' (.cells #[Value.int IntKind.i64 (sideAt xs y.val).1.1, Value.int IntKind.i64 (sideAt xs y.val).1.2, Value.int IntKind.i64 (sideAt xs y.val).2.1, Value.int IntKind.i64 (sideAt xs y.val).2.2] 75), rfl⟩
      case body2 =>
        rintro l2 pre' y a'' W' hl2 ⟨r2, hr2⟩ ⟨hq, hBW⟩ ⟨Bo, hBo, bO, rfl⟩ _
        obtain ⟨o, ho⟩ : ∃ o, o = sideAt xs y.val := ⟨_, rfl⟩
        rw [← ho] at bO ⊢
        have HO2 := Off.mk ho
        clear ho
        have bI := boxedL hBW bI (by omega)
        have bS : W'.heap[Bi + 1]? = some (.cells #[.int .i64 s.1.1, .int .i64 s.1.2, .int .i64 s.2.1, .int .i64 s.2.2] 75 (0, 0)) := (hBW.block (Bi + 1) (by omega)).trans bS
        have d1 := boxedL hBW d1 (by omega)
        have d2 := boxedL hBW d2 (by omega)
        have dP := boxedL hBW dP (by omega)
        have hBw' : Below w.heap.size w W' := hBwi.trans (hBW.mono (by omega))
        have hszW := hBW.size
        have hKW : KeepsFrom w3.heap.size Wi W' := keepsFrom_below hBW
        have cP := dP.cell
        have cI := bI.cell
        have f1 := d1.frozen
        have f2 := d2.frozen
        obtain ⟨⟨s0, s1, s2, s3⟩, _⟩ := four_facts bS
        obtain ⟨⟨o0, o1, o2, o3⟩, _⟩ := four_facts bO
        have hxl := x.isLt
        have hyl := y.isLt
        by_cases hk : y.val = x.val
        · have hkI : (y.val : Int) = (x.val : Int) := by omega
          have HPB : Off (pairBad xs x.val y.val = false) := ⟨by unfold pairBad; rw [if_pos hk]⟩
          clear hk
          gi_wp2
          exact ⟨KeepsFrom.refl _ _, Below.refl _ _, good_more hq HPB.out, hBW⟩
        have hkI : ¬ ((y.val : Int) = (x.val : Int)) := by omega
        obtain ⟨m, e7, hml, hm⟩ := next_tmod xs.length x.val hxl
        have w5 : IntKind.i64.wrap ((x.val : Int) + 1) = (x.val : Int) + 1 := by rw [IntKind.wrap_i64]; omega
        have hn0 : ¬ xs.length = 0 := by omega
        have HM := Off.mk hm
        have HK := Off.mk hk
        clear hm hk
        by_cases hym : y.val = m
        · have hymI : (y.val : Int) = (m : Int) := by omega
          have HNb : Off (pairBad xs x.val y.val = (crossP (subP s.1 s.2) (subP o.2 o.1) == 0 && decide (0 < dotP (subP s.1 s.2) (subP o.2 o.1)))) := ⟨by unfold pairBad; rw [if_neg HK.out, if_pos (by rw [← HM.out]; exact hym), HS.out, HO2.out]⟩
          clear hym
          have hi1 := HIn.out x.val
          have hi2 := HIn.out y.val
          rw [← HS.out] at hi1
          rw [← HO2.out] at hi2
          have C1 : Off (∀ W, Calls Try.prog 84 #[ptV s.1, ptV s.2] W fun e w' => e = .returned (ptV (subP s.1 s.2)) ∧ Below W.heap.size W w') := ⟨fun W => minus_any s.1 s.2 (inB_mono hi1.1 (by decide)) (inB_mono hi1.2 (by decide)) W⟩
          have C2 : Off (∀ W, Calls Try.prog 84 #[ptV o.2, ptV o.1] W fun e w' => e = .returned (ptV (subP o.2 o.1)) ∧ Below W.heap.size W w') := ⟨fun W => minus_any o.2 o.1 (inB_mono hi2.2 (by decide)) (inB_mono hi2.1 (by decide)) W⟩
          have HA1 := Off.mk (subP_in hi1.1 hi1.2)
          have HA2 := Off.mk (subP_in hi2.2 hi2.1)
          clear hi1 hi2
          gi_wp2_with fail
          refine wpIn_mono (Q := (fun e a'' W5 => e = .normal ∧ ∃ Ba Bb, ((Box2 W5 Ba (subP s.1 s.2) ∧ Box2 W5 Bb (subP o.2 o.1)) ∧ Below W'.heap.size W' W5) ∧ a'' = { tmps := #[Value.slice A xs.length c, undef, Value.pointer (some ⟨w.heap.size, 0, none⟩), Value.pointer (some ⟨w.heap.size + 1, 0, none⟩), Value.pointer (some ⟨b, 0, none⟩), Value.pointer (some ⟨Bi, 0, none⟩), Value.pointer (some ⟨Bi + 1, 0, none⟩), Value.int IntKind.i64 ↑m, Value.pointer (some ⟨Bo, 0, none⟩), Value.pointer (some ⟨Ba, 0, none⟩), Value.pointer (some ⟨Bb, 0, none⟩), Value.slice A xs.length c, Value.int IntKind.i64 ↑xs.length, Value.bool false, Value.bool false, Value.slice A xs.length c, Value.int IntKind.i64 ↑xs.length, Value.bool false, Value.bool false, Value.bool false, Value.slice A xs.length c, Value.bool false, Value.bool false, Value.slice A xs.length c, Value.slice (some ⟨g, 0, none⟩) xs.length cg, Value.slice (some ⟨g, 0, none⟩) xs.length cg, Value.func (Fn.func 94) #[] #[Value.pointer (some ⟨b + 1, 0, none⟩)], Value.int IntKind.i64 ↑x.val, sdV s, Value.pointer (some ⟨Bi + 1, 0, none⟩), Value.agg #[Value.int IntKind.i64 s.1.1, Value.int IntKind.i64 s.1.2], Value.pointer (some ⟨Bi + 1, 2, none⟩), Value.agg #[Value.int IntKind.i64 s.2.1, Value.int IntKind.i64 s.2.2], Value.bool false, Value.slice (some ⟨g, 0, none⟩) xs.length cg, Value.func (Fn.func 94) #[] #[Value.pointer (some ⟨Bc, 0, none⟩)], Value.int IntKind.i64 ↑m, sdV o, Value.bool false, Value.int IntKind.i64 ↑m, Value.int IntKind.i64 ↑x.val, Value.bool false, Value.bool true, Value.int IntKind.i64 ↑m, Value.int IntKind.i64 ↑x.val, Value.int IntKind.i64 (↑x.val + 1), Value.slice (some ⟨g, 0, none⟩) xs.length cg, Value.int IntKind.i64 ↑xs.length, Value.int IntKind.i64 ↑m, Value.bool true, Value.pointer (some ⟨Bi + 1, 0, none⟩), ptV s.1, Value.pointer (some ⟨Bi + 1, 2, none⟩), ptV s.2, ptV (subP s.1 s.2), Value.pointer (some ⟨Bo, 2, none⟩), ptV o.2, Value.pointer (some ⟨Bo, 0, none⟩), ptV o.1, ptV (subP o.2 o.1), undef, undef, undef, undef, undef, undef, undef, undef, undef, undef, undef, undef, undef, undef, undef, undef, undef, undef, undef, undef, undef, undef, undef], defers := [] })) ?region ?join
          case region =>
            have SS : (fun w' => ((w'.cell? ⟨Bi + 1, 0, none⟩ = some (.int .i64 s.1.1) ∧ w'.cell? ⟨Bi + 1, 1, none⟩ = some (.int .i64 s.1.2)) ∧ (w'.cell? ⟨Bi + 1, 2, none⟩ = some (.int .i64 s.2.1) ∧ w'.cell? ⟨Bi + 1, 3, none⟩ = some (.int .i64 s.2.2))) ∧ (w'.cell? ⟨Bo, 0, none⟩ = some (.int .i64 o.1.1) ∧ w'.cell? ⟨Bo, 1, none⟩ = some (.int .i64 o.1.2)) ∧ (w'.cell? ⟨Bo, 2, none⟩ = some (.int .i64 o.2.1) ∧ w'.cell? ⟨Bo, 3, none⟩ = some (.int .i64 o.2.2))) W' := ⟨⟨⟨s0, s1⟩, s2, s3⟩, ⟨o0, o1⟩, o2, o3⟩
            have keepS : ∀ {v : World}, Below W'.heap.size W' v → (fun w' => ((w'.cell? ⟨Bi + 1, 0, none⟩ = some (.int .i64 s.1.1) ∧ w'.cell? ⟨Bi + 1, 1, none⟩ = some (.int .i64 s.1.2)) ∧ (w'.cell? ⟨Bi + 1, 2, none⟩ = some (.int .i64 s.2.1) ∧ w'.cell? ⟨Bi + 1, 3, none⟩ = some (.int .i64 s.2.2))) ∧ (w'.cell? ⟨Bo, 0, none⟩ = some (.int .i64 o.1.1) ∧ w'.cell? ⟨Bo, 1, none⟩ = some (.int .i64 o.1.2)) ∧ (w'.cell? ⟨Bo, 2, none⟩ = some (.int .i64 o.2.1) ∧ w'.cell? ⟨Bo, 3, none⟩ = some (.int .i64 o.2.2))) W' → (fun w' => ((w'.cell? ⟨Bi + 1, 0, none⟩ = some (.int .i64 s.1.1) ∧ w'.cell? ⟨Bi + 1, 1, none⟩ = some (.int .i64 s.1.2)) ∧ (w'.cell? ⟨Bi + 1, 2, none⟩ = some (.int .i64 s.2.1) ∧ w'.cell? ⟨Bi + 1, 3, none⟩ = some (.int .i64 s.2.2))) ∧ (w'.cell? ⟨Bo, 0, none⟩ = some (.int .i64 o.1.1) ∧ w'.cell? ⟨Bo, 1, none⟩ = some (.int .i64 o.1.2)) ∧ (w'.cell? ⟨Bo, 2, none⟩ = some (.int .i64 o.2.1) ∧ w'.cell? ⟨Bo, 3, none⟩ = some (.int .i64 o.2.2))) v := fun hb ⟨⟨⟨s0, s1⟩, s2, s3⟩, ⟨o0, o1⟩, o2, o3⟩ => ⟨⟨⟨cellB hb s0, cellB hb s1⟩, cellB hb s2, cellB hb s3⟩, ⟨cellB hb o0, cellB hb o1⟩, cellB hb o2, cellB hb o3⟩
            refine region_anyS' (S := (fun w' => ((w'.cell? ⟨Bi + 1, 0, none⟩ = some (.int .i64 s.1.1) ∧ w'.cell? ⟨Bi + 1, 1, none⟩ = some (.int .i64 s.1.2)) ∧ (w'.cell? ⟨Bi + 1, 2, none⟩ = some (.int .i64 s.2.1) ∧ w'.cell? ⟨Bi + 1, 3, none⟩ = some (.int .i64 s.2.2))) ∧ (w'.cell? ⟨Bo, 0, none⟩ = some (.int .i64 o.1.1) ∧ w'.cell? ⟨Bo, 1, none⟩ = some (.int .i64 o.1.2)) ∧ (w'.cell? ⟨Bo, 2, none⟩ = some (.int .i64 o.2.1) ∧ w'.cell? ⟨Bo, 3, none⟩ = some (.int .i64 o.2.2)))) 9 (by kernel_rfl) SS (fun hInv hHeld => ?_)
            refine anyS_take (i := 0) (oi := ⟨some 50, _, _, _, _, _⟩) (v := ?_) (by kernel_rfl) rfl (by kernel_rfl) (by kernel_rfl) (by kernel_rfl) (by kernel_rfl) (fun _ _ _ h => by cases h.1) (Or.inl ⟨by rfl, by intro w hSw; (try dsimp only at hSw); go_simp; try with_reducible rfl⟩) (fun _ => by first | rfl | simp [Oper.about, resolve, go_sem]) hInv hHeld (fun hInv hHeld => ?_)
            try simp only [Act.put, List.setIfInBounds_toArray, List.set_cons_zero, List.set_cons_succ]
            refine anyS_take (i := 1) (oi := ⟨some 51, _, _, _, _, _⟩) (v := ?_) (by kernel_rfl) rfl (by kernel_rfl) (by kernel_rfl) (by kernel_rfl) (by kernel_rfl) (fun _ _ _ h => by cases h.1) (Or.inl ⟨by rfl, by intro w hSw; (try dsimp only at hSw); go_simp; try with_reducible rfl⟩) (fun _ => by first | rfl | simp [Oper.about, resolve, go_sem]) hInv hHeld (fun hInv hHeld => ?_)
            try simp only [Act.put, List.setIfInBounds_toArray, List.set_cons_zero, List.set_cons_succ]
            refine anyS_take (i := 2) (oi := ⟨some 52, _, _, _, _, _⟩) (v := ?_) (by kernel_rfl) rfl (by kernel_rfl) (by kernel_rfl) (by kernel_rfl) (by kernel_rfl) (fun _ _ _ h => by cases h.1) (Or.inl ⟨by rfl, by intro w hSw; (try dsimp only at hSw); go_simp; try with_reducible rfl⟩) (fun _ => by first | rfl | simp [Oper.about, resolve, go_sem]) hInv hHeld (fun hInv hHeld => ?_)
            try simp only [Act.put, List.setIfInBounds_toArray, List.set_cons_zero, List.set_cons_succ]
            refine anyS_take (i := 3) (oi := ⟨some 53, _, _, _, _, _⟩) (v := ?_) (by kernel_rfl) rfl (by kernel_rfl) (by kernel_rfl) (by kernel_rfl) (by kernel_rfl) (fun _ _ _ h => by cases h.1) (Or.inl ⟨by rfl, by intro w hSw; (try dsimp only at hSw); go_simp; try with_reducible rfl⟩) (fun _ => by first | rfl | simp [Oper.about, resolve, go_sem]) hInv hHeld (fun hInv hHeld => ?_)
            try simp only [Act.put, List.setIfInBounds_toArray, List.set_cons_zero, List.set_cons_succ]
            refine anyS_take (i := 5) (oi := ⟨some 55, _, _, _, _, _⟩) (v := ?_) (by kernel_rfl) rfl (by kernel_rfl) (by kernel_rfl) (by kernel_rfl) (by kernel_rfl) (fun _ _ _ h => by cases h.1) (Or.inl ⟨by rfl, by intro w hSw; (try dsimp only at hSw); go_simp; try with_reducible rfl⟩) (fun _ => by first | rfl | simp [Oper.about, resolve, go_sem]) hInv hHeld (fun hInv hHeld => ?_)
            try simp only [Act.put, List.setIfInBounds_toArray, List.set_cons_zero, List.set_cons_succ]
            refine anyS_take (i := 6) (oi := ⟨some 56, _, _, _, _, _⟩) (v := ?_) (by kernel_rfl) rfl (by kernel_rfl) (by kernel_rfl) (by kernel_rfl) (by kernel_rfl) (fun _ _ _ h => by cases h.1) (Or.inl ⟨by rfl, by intro w hSw; (try dsimp only at hSw); go_simp; try with_reducible rfl⟩) (fun _ => by first | rfl | simp [Oper.about, resolve, go_sem]) hInv hHeld (fun hInv hHeld => ?_)
            try simp only [Act.put, List.setIfInBounds_toArray, List.set_cons_zero, List.set_cons_succ]
            refine anyS_take (i := 7) (oi := ⟨some 57, _, _, _, _, _⟩) (v := ?_) (by kernel_rfl) rfl (by kernel_rfl) (by kernel_rfl) (by kernel_rfl) (by kernel_rfl) (fun _ _ _ h => by cases h.1) (Or.inl ⟨by rfl, by intro w hSw; (try dsimp only at hSw); go_simp; try with_reducible rfl⟩) (fun _ => by first | rfl | simp [Oper.about, resolve, go_sem]) hInv hHeld (fun hInv hHeld => ?_)
            try simp only [Act.put, List.setIfInBounds_toArray, List.set_cons_zero, List.set_cons_succ]
            refine anyS_take (i := 8) (oi := ⟨some 58, _, _, _, _, _⟩) (v := ?_) (by kernel_rfl) rfl (by kernel_rfl) (by kernel_rfl) (by kernel_rfl) (by kernel_rfl) (fun _ _ _ h => by cases h.1) (Or.inl ⟨by rfl, by intro w hSw; (try dsimp only at hSw); go_simp; try with_reducible rfl⟩) (fun _ => by first | rfl | simp [Oper.about, resolve, go_sem]) hInv hHeld (fun hInv hHeld => ?_)
            try simp only [Act.put, List.setIfInBounds_toArray, List.set_cons_zero, List.set_cons_succ]
            obtain ⟨V0, hV0⟩ : ∃ V, W'.drew = V := ⟨_, rfl⟩
            have hb0 : Below W'.heap.size W' V0 := by rw [← hV0]; exact (Below.refl _ W').drew
            rw [hV0] at hHeld ⊢
            clear hV0
            refine anyS_three (i := 4) (o := ⟨some 54, _, _, _, _, _⟩) (j := 10) (p := ⟨some 9, _, _, _, _, _⟩) (l := 11) (q := ⟨some 10, _, _, _, _, _⟩) (by kernel_rfl) rfl rfl rfl hInv (fun K hK => ?_) (fun K hK => ?_) (fun K hK => ?_)
            · go_simp
              refine ⟨trivial, ?_⟩
              refine (CallsIn.inRound l2 (CallsIn.inRound l (callsIn_wide.2 (C1.out _)))).mono ?_
              rintro e V1 ⟨rfl, hv1⟩
              have hb1 := belowC hb0 hv1
              refine hK.out _ _ (fun _ => keepS hb1 SS) (fun hInv hHeld => ?_)
              clear hK K
              try simp only [Act.put, List.setIfInBounds_toArray, List.set_cons_zero, List.set_cons_succ]
              refine anyS_three (i := 9) (o := ⟨some 59, _, _, _, _, _⟩) (j := 10) (p := ⟨some 9, _, _, _, _, _⟩) (l := 11) (q := ⟨some 10, _, _, _, _, _⟩) (by kernel_rfl) rfl rfl rfl hInv (fun K hK => ?_) (fun K hK => ?_) (fun K hK => ?_)
              · go_simp
                refine ⟨trivial, ?_⟩
                refine (CallsIn.inRound l2 (CallsIn.inRound l (callsIn_wide.2 (C2.out _)))).mono ?_
                rintro e V2 ⟨rfl, hv2⟩
                have hb2 := belowC hb1 hv2
                refine hK.out _ _ (fun e => absurd (show true = false from e) (by decide)) (fun hInv hHeld => ?_)
                clear hK K
                try simp only [Act.put, List.setIfInBounds_toArray, List.set_cons_zero, List.set_cons_succ]
                refine anyS_two (i := 10) (o := ⟨some 9, _, _, _, _, _⟩) (j := 11) (p := ⟨some 10, _, _, _, _, _⟩) (by kernel_rfl) rfl rfl hInv (fun K hK => ?_) (fun K hK => ?_)
                · go_simp
                  have hb3 := belowA hb2 (.cells #[.int .i64 0, .int .i64 0] 70)
                  refine hK.out _ _ (fun e => absurd (show true = false from e) (by decide)) (fun hInv hHeld => ?_)
                  clear hK K
                  try simp only [Act.put, List.setIfInBounds_toArray, List.set_cons_zero, List.set_cons_succ]
                  have bA := block_new V2 (.cells #[.int .i64 0, .int .i64 0] 70)
                  have szA := hb2.size
                  obtain ⟨U3, hU⟩ : ∃ U, (V2.alloc (.cells #[.int .i64 0, .int .i64 0] 70)) = U := ⟨_, rfl⟩
                  rw [hU] at hb3 bA ⊢
                  rw [hU] at hHeld
                  clear hU
                  refine anyS_one (i := 11) (o := ⟨some 10, _, _, _, _, _⟩) (by kernel_rfl) rfl hInv (fun K hK => ?_)
                  go_simp
                  have hb4 := belowA hb3 (.cells #[.int .i64 0, .int .i64 0] 70)
                  refine hK.out _ _ (fun e => absurd (show true = false from e) (by decide)) (fun hInv hHeld => ?_)
                  clear hK K
                  try simp only [Act.put, List.setIfInBounds_toArray, List.set_cons_zero, List.set_cons_succ]
                  have hlt4 := (Array.getElem?_eq_some_iff.1 bA).1
                  have bA := alloc_old (o' := (.cells #[.int .i64 0, .int .i64 0] 70)) bA
                  have bB := block_new U3 (.cells #[.int .i64 0, .int .i64 0] 70)
                  have szB := hb3.size
                  obtain ⟨U4, hU⟩ : ∃ U, (U3.alloc (.cells #[.int .i64 0, .int .i64 0] 70)) = U := ⟨_, rfl⟩
                  rw [hU] at hb4 bB bA ⊢
                  rw [hU] at hHeld
                  clear hU
                  have hne : V2.heap.size ≠ U3.heap.size := by omega
                  obtain ⟨⟨x0, x1⟩, y0, y1⟩ := two_facts bA
                  obtain ⟨⟨z0, z1⟩, u0, u1⟩ := two_facts bB
                  have hne' := Ne.symm hne
                  refine anyS_one (i := 12) (o := ⟨none, _, _, _, _, _⟩) (by kernel_rfl) rfl hInv (fun K hK => ?_)
                  go_simp
                  refine hK.out _ _ (fun e => absurd (show true = false from e) (by decide)) (fun hInv hHeld => ?_)
                  clear hK K
                  try simp only [Act.put, List.setIfInBounds_toArray, List.set_cons_zero, List.set_cons_succ]
                  refine anyS_one (i := 13) (o := ⟨none, _, _, _, _, _⟩) (by kernel_rfl) rfl hInv (fun K hK => ?_)
                  go_simp
                  refine hK.out _ _ (fun e => absurd (show true = false from e) (by decide)) (fun hInv hHeld => ?_)
                  clear hK K
                  try simp only [Act.put, List.setIfInBounds_toArray, List.set_cons_zero, List.set_cons_succ]
                  refine anyS_done (by kernel_rfl) ?_ _
                  exact ⟨rfl, V2.heap.size, U3.heap.size, two_stored _ _ hb4 szA szB hne bA bB, rfl⟩
                · go_simp
                  have hb3 := belowA hb2 (.cells #[.int .i64 0, .int .i64 0] 70)
                  refine hK.out _ _ (fun e => absurd (show true = false from e) (by decide)) (fun hInv hHeld => ?_)
                  clear hK K
                  try simp only [Act.put, List.setIfInBounds_toArray, List.set_cons_zero, List.set_cons_succ]
                  have bB := block_new V2 (.cells #[.int .i64 0, .int .i64 0] 70)
                  have szB := hb2.size
                  obtain ⟨U3, hU⟩ : ∃ U, (V2.alloc (.cells #[.int .i64 0, .int .i64 0] 70)) = U := ⟨_, rfl⟩
                  rw [hU] at hb3 bB ⊢
                  rw [hU] at hHeld
                  clear hU
                  refine anyS_one (i := 10) (o := ⟨some 9, _, _, _, _, _⟩) (by kernel_rfl) rfl hInv (fun K hK => ?_)
                  go_simp
                  have hb4 := belowA hb3 (.cells #[.int .i64 0, .int .i64 0] 70)
                  refine hK.out _ _ (fun e => absurd (show true = false from e) (by decide)) (fun hInv hHeld => ?_)
                  clear hK K
                  try simp only [Act.put, List.setIfInBounds_toArray, List.set_cons_zero, List.set_cons_succ]
                  have hlt4 := (Array.getElem?_eq_some_iff.1 bB).1
                  have bB := alloc_old (o' := (.cells #[.int .i64 0, .int .i64 0] 70)) bB
                  have bA := block_new U3 (.cells #[.int .i64 0, .int .i64 0] 70)
                  have szA := hb3.size
                  obtain ⟨U4, hU⟩ : ∃ U, (U3.alloc (.cells #[.int .i64 0, .int .i64 0] 70)) = U := ⟨_, rfl⟩
                  rw [hU] at hb4 bA bB ⊢
                  rw [hU] at hHeld
                  clear hU
                  have hne : U3.heap.size ≠ V2.heap.size := by omega
                  obtain ⟨⟨x0, x1⟩, y0, y1⟩ := two_facts bA
                  obtain ⟨⟨z0, z1⟩, u0, u1⟩ := two_facts bB
                  have hne' := Ne.symm hne
                  refine anyS_one (i := 12) (o := ⟨none, _, _, _, _, _⟩) (by kernel_rfl) rfl hInv (fun K hK => ?_)
                  go_simp
                  refine hK.out _ _ (fun e => absurd (show true = false from e) (by decide)) (fun hInv hHeld => ?_)
                  clear hK K
                  try simp only [Act.put, List.setIfInBounds_toArray, List.set_cons_zero, List.set_cons_succ]
                  refine anyS_one (i := 13) (o := ⟨none, _, _, _, _, _⟩) (by kernel_rfl) rfl hInv (fun K hK => ?_)
                  go_simp
                  refine hK.out _ _ (fun e => absurd (show true = false from e) (by decide)) (fun hInv hHeld => ?_)
                  clear hK K
                  try simp only [Act.put, List.setIfInBounds_toArray, List.set_cons_zero, List.set_cons_succ]
                  refine anyS_done (by kernel_rfl) ?_ _
                  exact ⟨rfl, U3.heap.size, V2.heap.size, two_stored _ _ hb4 szA szB hne bA bB, rfl⟩
              · go_simp
                have hb2 := belowA hb1 (.cells #[.int .i64 0, .int .i64 0] 70)
                refine hK.out _ _ (fun _ => keepS hb2 SS) (fun hInv hHeld => ?_)
                clear hK K
                try simp only [Act.put, List.setIfInBounds_toArray, List.set_cons_zero, List.set_cons_succ]
                have bA := block_new V1 (.cells #[.int .i64 0, .int .i64 0] 70)
                have szA := hb1.size
                obtain ⟨U2, hU⟩ : ∃ U, (V1.alloc (.cells #[.int .i64 0, .int .i64 0] 70)) = U := ⟨_, rfl⟩
                rw [hU] at hb2 bA ⊢
                rw [hU] at hHeld
                clear hU
                refine anyS_two (i := 9) (o := ⟨some 59, _, _, _, _, _⟩) (j := 11) (p := ⟨some 10, _, _, _, _, _⟩) (by kernel_rfl) rfl rfl hInv (fun K hK => ?_) (fun K hK => ?_)
                · go_simp
                  refine ⟨trivial, ?_⟩
                  refine (CallsIn.inRound l2 (CallsIn.inRound l (callsIn_wide.2 (C2.out _)))).mono ?_
                  rintro e V3 ⟨rfl, hv3⟩
                  have hb3 := belowC hb2 hv3
                  refine hK.out _ _ (fun e => absurd (show true = false from e) (by decide)) (fun hInv hHeld => ?_)
                  clear hK K
                  try simp only [Act.put, List.setIfInBounds_toArray, List.set_cons_zero, List.set_cons_succ]
                  have bA := blockB hv3 bA
                  refine anyS_one (i := 11) (o := ⟨some 10, _, _, _, _, _⟩) (by kernel_rfl) rfl hInv (fun K hK => ?_)
                  go_simp
                  have hb4 := belowA hb3 (.cells #[.int .i64 0, .int .i64 0] 70)
                  refine hK.out _ _ (fun e => absurd (show true = false from e) (by decide)) (fun hInv hHeld => ?_)
                  clear hK K
                  try simp only [Act.put, List.setIfInBounds_toArray, List.set_cons_zero, List.set_cons_succ]
                  have hlt4 := (Array.getElem?_eq_some_iff.1 bA).1
                  have bA := alloc_old (o' := (.cells #[.int .i64 0, .int .i64 0] 70)) bA
                  have bB := block_new V3 (.cells #[.int .i64 0, .int .i64 0] 70)
                  have szB := hb3.size
                  obtain ⟨U4, hU⟩ : ∃ U, (V3.alloc (.cells #[.int .i64 0, .int .i64 0] 70)) = U := ⟨_, rfl⟩
                  rw [hU] at hb4 bB bA ⊢
                  rw [hU] at hHeld
                  clear hU
                  have hne : V1.heap.size ≠ V3.heap.size := by omega
                  obtain ⟨⟨x0, x1⟩, y0, y1⟩ := two_facts bA
                  obtain ⟨⟨z0, z1⟩, u0, u1⟩ := two_facts bB
                  have hne' := Ne.symm hne
                  refine anyS_one (i := 12) (o := ⟨none, _, _, _, _, _⟩) (by kernel_rfl) rfl hInv (fun K hK => ?_)
                  go_simp
                  refine hK.out _ _ (fun e => absurd (show true = false from e) (by decide)) (fun hInv hHeld => ?_)
                  clear hK K
                  try simp only [Act.put, List.setIfInBounds_toArray, List.set_cons_zero, List.set_cons_succ]
                  refine anyS_one (i := 13) (o := ⟨none, _, _, _, _, _⟩) (by kernel_rfl) rfl hInv (fun K hK => ?_)
                  go_simp
                  refine hK.out _ _ (fun e => absurd (show true = false from e) (by decide)) (fun hInv hHeld => ?_)
                  clear hK K
                  try simp only [Act.put, List.setIfInBounds_toArray, List.set_cons_zero, List.set_cons_succ]
                  refine anyS_done (by kernel_rfl) ?_ _
                  exact ⟨rfl, V1.heap.size, V3.heap.size, two_stored _ _ hb4 szA szB hne bA bB, rfl⟩
                · go_simp
                  have hb3 := belowA hb2 (.cells #[.int .i64 0, .int .i64 0] 70)
                  refine hK.out _ _ (fun _ => keepS hb3 SS) (fun hInv hHeld => ?_)
                  clear hK K
                  try simp only [Act.put, List.setIfInBounds_toArray, List.set_cons_zero, List.set_cons_succ]
                  have hlt3 := (Array.getElem?_eq_some_iff.1 bA).1
                  have bA := alloc_old (o' := (.cells #[.int .i64 0, .int .i64 0] 70)) bA
                  have bB := block_new U2 (.cells #[.int .i64 0, .int .i64 0] 70)
                  have szB := hb2.size
                  obtain ⟨U3, hU⟩ : ∃ U, (U2.alloc (.cells #[.int .i64 0, .int .i64 0] 70)) = U := ⟨_, rfl⟩
                  rw [hU] at hb3 bB bA ⊢
                  rw [hU] at hHeld
                  clear hU
                  have hne : V1.heap.size ≠ U2.heap.size := by omega
                  refine anyS_one (i := 9) (o := ⟨some 59, _, _, _, _, _⟩) (by kernel_rfl) rfl hInv (fun K hK => ?_)
                  go_simp
                  refine ⟨trivial, ?_⟩
                  refine (CallsIn.inRound l2 (CallsIn.inRound l (callsIn_wide.2 (C2.out _)))).mono ?_
                  rintro e V4 ⟨rfl, hv4⟩
                  have hb4 := belowC hb3 hv4
                  refine hK.out _ _ (fun e => absurd (show true = false from e) (by decide)) (fun hInv hHeld => ?_)
                  clear hK K
                  try simp only [Act.put, List.setIfInBounds_toArray, List.set_cons_zero, List.set_cons_succ]
                  have bA := blockB hv4 bA
                  have bB := blockB hv4 bB
                  obtain ⟨⟨x0, x1⟩, y0, y1⟩ := two_facts bA
                  obtain ⟨⟨z0, z1⟩, u0, u1⟩ := two_facts bB
                  have hne' := Ne.symm hne
                  refine anyS_one (i := 12) (o := ⟨none, _, _, _, _, _⟩) (by kernel_rfl) rfl hInv (fun K hK => ?_)
                  go_simp
                  refine hK.out _ _ (fun e => absurd (show true = false from e) (by decide)) (fun hInv hHeld => ?_)
                  clear hK K
                  try simp only [Act.put, List.setIfInBounds_toArray, List.set_cons_zero, List.set_cons_succ]
                  refine anyS_one (i := 13) (o := ⟨none, _, _, _, _, _⟩) (by kernel_rfl) rfl hInv (fun K hK => ?_)
                  go_simp
                  refine hK.out _ _ (fun e => absurd (show true = false from e) (by decide)) (fun hInv hHeld => ?_)
                  clear hK K
                  try simp only [Act.put, List.setIfInBounds_toArray, List.set_cons_zero, List.set_cons_succ]
                  refine anyS_done (by kernel_rfl) ?_ _
                  exact ⟨rfl, V1.heap.size, U2.heap.size, two_stored _ _ hb4 szA szB hne bA bB, rfl⟩
              · go_simp
                have hb2 := belowA hb1 (.cells #[.int .i64 0, .int .i64 0] 70)
                refine hK.out _ _ (fun _ => keepS hb2 SS) (fun hInv hHeld => ?_)
                clear hK K
                try simp only [Act.put, List.setIfInBounds_toArray, List.set_cons_zero, List.set_cons_succ]
                have bB := block_new V1 (.cells #[.int .i64 0, .int .i64 0] 70)
                have szB := hb1.size
                obtain ⟨U2, hU⟩ : ∃ U, (V1.alloc (.cells #[.int .i64 0, .int .i64 0] 70)) = U := ⟨_, rfl⟩
                rw [hU] at hb2 bB ⊢
                rw [hU] at hHeld
                clear hU
                refine anyS_two (i := 9) (o := ⟨some 59, _, _, _, _, _⟩) (j := 10) (p := ⟨some 9, _, _, _, _, _⟩) (by kernel_rfl) rfl rfl hInv (fun K hK => ?_) (fun K hK => ?_)
                · go_simp
                  refine ⟨trivial, ?_⟩
                  refine (CallsIn.inRound l2 (CallsIn.inRound l (callsIn_wide.2 (C2.out _)))).mono ?_
                  rintro e V3 ⟨rfl, hv3⟩
                  have hb3 := belowC hb2 hv3
                  refine hK.out _ _ (fun e => absurd (show true = false from e) (by decide)) (fun hInv hHeld => ?_)
                  clear hK K
                  try simp only [Act.put, List.setIfInBounds_toArray, List.set_cons_zero, List.set_cons_succ]
                  have bB := blockB hv3 bB
                  refine anyS_one (i := 10) (o := ⟨some 9, _, _, _, _, _⟩) (by kernel_rfl) rfl hInv (fun K hK => ?_)
                  go_simp
                  have hb4 := belowA hb3 (.cells #[.int .i64 0, .int .i64 0] 70)
                  refine hK.out _ _ (fun e => absurd (show true = false from e) (by decide)) (fun hInv hHeld => ?_)
                  clear hK K
                  try simp only [Act.put, List.setIfInBounds_toArray, List.set_cons_zero, List.set_cons_succ]
                  have hlt4 := (Array.getElem?_eq_some_iff.1 bB).1
                  have bB := alloc_old (o' := (.cells #[.int .i64 0, .int .i64 0] 70)) bB
                  have bA := block_new V3 (.cells #[.int .i64 0, .int .i64 0] 70)
                  have szA := hb3.size
                  obtain ⟨U4, hU⟩ : ∃ U, (V3.alloc (.cells #[.int .i64 0, .int .i64 0] 70)) = U := ⟨_, rfl⟩
                  rw [hU] at hb4 bA bB ⊢
                  rw [hU] at hHeld
                  clear hU
                  have hne : V3.heap.size ≠ V1.heap.size := by omega
                  obtain ⟨⟨x0, x1⟩, y0, y1⟩ := two_facts bA
                  obtain ⟨⟨z0, z1⟩, u0, u1⟩ := two_facts bB
                  have hne' := Ne.symm hne
                  refine anyS_one (i := 12) (o := ⟨none, _, _, _, _, _⟩) (by kernel_rfl) rfl hInv (fun K hK => ?_)
                  go_simp
                  refine hK.out _ _ (fun e => absurd (show true = false from e) (by decide)) (fun hInv hHeld => ?_)
                  clear hK K
                  try simp only [Act.put, List.setIfInBounds_toArray, List.set_cons_zero, List.set_cons_succ]
                  refine anyS_one (i := 13) (o := ⟨none, _, _, _, _, _⟩) (by kernel_rfl) rfl hInv (fun K hK => ?_)
                  go_simp
                  refine hK.out _ _ (fun e => absurd (show true = false from e) (by decide)) (fun hInv hHeld => ?_)
                  clear hK K
                  try simp only [Act.put, List.setIfInBounds_toArray, List.set_cons_zero, List.set_cons_succ]
                  refine anyS_done (by kernel_rfl) ?_ _
                  exact ⟨rfl, V3.heap.size, V1.heap.size, two_stored _ _ hb4 szA szB hne bA bB, rfl⟩
                · go_simp
                  have hb3 := belowA hb2 (.cells #[.int .i64 0, .int .i64 0] 70)
                  refine hK.out _ _ (fun _ => keepS hb3 SS) (fun hInv hHeld => ?_)
                  clear hK K
                  try simp only [Act.put, List.setIfInBounds_toArray, List.set_cons_zero, List.set_cons_succ]
                  have hlt3 := (Array.getElem?_eq_some_iff.1 bB).1
                  have bB := alloc_old (o' := (.cells #[.int .i64 0, .int .i64 0] 70)) bB
                  have bA := block_new U2 (.cells #[.int .i64 0, .int .i64 0] 70)
                  have szA := hb2.size
                  obtain ⟨U3, hU⟩ : ∃ U, (U2.alloc (.cells #[.int .i64 0, .int .i64 0] 70)) = U := ⟨_, rfl⟩
                  rw [hU] at hb3 bA bB ⊢
                  rw [hU] at hHeld
                  clear hU
                  have hne : U2.heap.size ≠ V1.heap.size := by omega
                  refine anyS_one (i := 9) (o := ⟨some 59, _, _, _, _, _⟩) (by kernel_rfl) rfl hInv (fun K hK => ?_)
                  go_simp
                  refine ⟨trivial, ?_⟩
                  refine (CallsIn.inRound l2 (CallsIn.inRound l (callsIn_wide.2 (C2.out _)))).mono ?_
                  rintro e V4 ⟨rfl, hv4⟩
                  have hb4 := belowC hb3 hv4
                  refine hK.out _ _ (fun e => absurd (show true = false from e) (by decide)) (fun hInv hHeld => ?_)
                  clear hK K
                  try simp only [Act.put, List.setIfInBounds_toArray, List.set_cons_zero, List.set_cons_succ]
                  have bA := blockB hv4 bA
                  have bB := blockB hv4 bB
                  obtain ⟨⟨x0, x1⟩, y0, y1⟩ := two_facts bA
                  obtain ⟨⟨z0, z1⟩, u0, u1⟩ := two_facts bB
                  have hne' := Ne.symm hne
                  refine anyS_one (i := 12) (o := ⟨none, _, _, _, _, _⟩) (by kernel_rfl) rfl hInv (fun K hK => ?_)
                  go_simp
                  refine hK.out _ _ (fun e => absurd (show true = false from e) (by decide)) (fun hInv hHeld => ?_)
                  clear hK K
                  try simp only [Act.put, List.setIfInBounds_toArray, List.set_cons_zero, List.set_cons_succ]
                  refine anyS_one (i := 13) (o := ⟨none, _, _, _, _, _⟩) (by kernel_rfl) rfl hInv (fun K hK => ?_)
                  go_simp
                  refine hK.out _ _ (fun e => absurd (show true = false from e) (by decide)) (fun hInv hHeld => ?_)
                  clear hK K
                  try simp only [Act.put, List.setIfInBounds_toArray, List.set_cons_zero, List.set_cons_succ]
                  refine anyS_done (by kernel_rfl) ?_ _
                  exact ⟨rfl, U2.heap.size, V1.heap.size, two_stored _ _ hb4 szA szB hne bA bB, rfl⟩
            · go_simp
              have hb1 := belowA hb0 (.cells #[.int .i64 0, .int .i64 0] 70)
              refine hK.out _ _ (fun _ => keepS hb1 SS) (fun hInv hHeld => ?_)
              clear hK K
              try simp only [Act.put, List.setIfInBounds_toArray, List.set_cons_zero, List.set_cons_succ]
              have bA := block_new V0 (.cells #[.int .i64 0, .int .i64 0] 70)
              have szA := hb0.size
              obtain ⟨U1, hU⟩ : ∃ U, (V0.alloc (.cells #[.int .i64 0, .int .i64 0] 70)) = U := ⟨_, rfl⟩
              rw [hU] at hb1 bA ⊢
              rw [hU] at hHeld
              clear hU
              refine anyS_two (i := 4) (o := ⟨some 54, _, _, _, _, _⟩) (j := 11) (p := ⟨some 10, _, _, _, _, _⟩) (by kernel_rfl) rfl rfl hInv (fun K hK => ?_) (fun K hK => ?_)
              · go_simp
                refine ⟨trivial, ?_⟩
                refine (CallsIn.inRound l2 (CallsIn.inRound l (callsIn_wide.2 (C1.out _)))).mono ?_
                rintro e V2 ⟨rfl, hv2⟩
                have hb2 := belowC hb1 hv2
                refine hK.out _ _ (fun _ => keepS hb2 SS) (fun hInv hHeld => ?_)
                clear hK K
                try simp only [Act.put, List.setIfInBounds_toArray, List.set_cons_zero, List.set_cons_succ]
                have bA := blockB hv2 bA
                refine anyS_two (i := 9) (o := ⟨some 59, _, _, _, _, _⟩) (j := 11) (p := ⟨some 10, _, _, _, _, _⟩) (by kernel_rfl) rfl rfl hInv (fun K hK => ?_) (fun K hK => ?_)
                · go_simp
                  refine ⟨trivial, ?_⟩
                  refine (CallsIn.inRound l2 (CallsIn.inRound l (callsIn_wide.2 (C2.out _)))).mono ?_
                  rintro e V3 ⟨rfl, hv3⟩
                  have hb3 := belowC hb2 hv3
                  refine hK.out _ _ (fun e => absurd (show true = false from e) (by decide)) (fun hInv hHeld => ?_)
                  clear hK K
                  try simp only [Act.put, List.setIfInBounds_toArray, List.set_cons_zero, List.set_cons_succ]
                  have bA := blockB hv3 bA
                  refine anyS_one (i := 11) (o := ⟨some 10, _, _, _, _, _⟩) (by kernel_rfl) rfl hInv (fun K hK => ?_)
                  go_simp
                  have hb4 := belowA hb3 (.cells #[.int .i64 0, .int .i64 0] 70)
                  refine hK.out _ _ (fun e => absurd (show true = false from e) (by decide)) (fun hInv hHeld => ?_)
                  clear hK K
                  try simp only [Act.put, List.setIfInBounds_toArray, List.set_cons_zero, List.set_cons_succ]
                  have hlt4 := (Array.getElem?_eq_some_iff.1 bA).1
                  have bA := alloc_old (o' := (.cells #[.int .i64 0, .int .i64 0] 70)) bA
                  have bB := block_new V3 (.cells #[.int .i64 0, .int .i64 0] 70)
                  have szB := hb3.size
                  obtain ⟨U4, hU⟩ : ∃ U, (V3.alloc (.cells #[.int .i64 0, .int .i64 0] 70)) = U := ⟨_, rfl⟩
                  rw [hU] at hb4 bB bA ⊢
                  rw [hU] at hHeld
                  clear hU
                  have hne : V0.heap.size ≠ V3.heap.size := by omega
                  obtain ⟨⟨x0, x1⟩, y0, y1⟩ := two_facts bA
                  obtain ⟨⟨z0, z1⟩, u0, u1⟩ := two_facts bB
                  have hne' := Ne.symm hne
                  refine anyS_one (i := 12) (o := ⟨none, _, _, _, _, _⟩) (by kernel_rfl) rfl hInv (fun K hK => ?_)
                  go_simp
                  refine hK.out _ _ (fun e => absurd (show true = false from e) (by decide)) (fun hInv hHeld => ?_)
                  clear hK K
                  try simp only [Act.put, List.setIfInBounds_toArray, List.set_cons_zero, List.set_cons_succ]
                  refine anyS_one (i := 13) (o := ⟨none, _, _, _, _, _⟩) (by kernel_rfl) rfl hInv (fun K hK => ?_)
                  go_simp
                  refine hK.out _ _ (fun e => absurd (show true = false from e) (by decide)) (fun hInv hHeld => ?_)
                  clear hK K
                  try simp only [Act.put, List.setIfInBounds_toArray, List.set_cons_zero, List.set_cons_succ]
                  refine anyS_done (by kernel_rfl) ?_ _
                  exact ⟨rfl, V0.heap.size, V3.heap.size, two_stored _ _ hb4 szA szB hne bA bB, rfl⟩
                · go_simp
                  have hb3 := belowA hb2 (.cells #[.int .i64 0, .int .i64 0] 70)
                  refine hK.out _ _ (fun _ => keepS hb3 SS) (fun hInv hHeld => ?_)
                  clear hK K
                  try simp only [Act.put, List.setIfInBounds_toArray, List.set_cons_zero, List.set_cons_succ]
                  have hlt3 := (Array.getElem?_eq_some_iff.1 bA).1
                  have bA := alloc_old (o' := (.cells #[.int .i64 0, .int .i64 0] 70)) bA
                  have bB := block_new V2 (.cells #[.int .i64 0, .int .i64 0] 70)
                  have szB := hb2.size
                  obtain ⟨U3, hU⟩ : ∃ U, (V2.alloc (.cells #[.int .i64 0, .int .i64 0] 70)) = U := ⟨_, rfl⟩
                  rw [hU] at hb3 bB bA ⊢
                  rw [hU] at hHeld
                  clear hU
                  have hne : V0.heap.size ≠ V2.heap.size := by omega
                  refine anyS_one (i := 9) (o := ⟨some 59, _, _, _, _, _⟩) (by kernel_rfl) rfl hInv (fun K hK => ?_)
                  go_simp
                  refine ⟨trivial, ?_⟩
                  refine (CallsIn.inRound l2 (CallsIn.inRound l (callsIn_wide.2 (C2.out _)))).mono ?_
                  rintro e V4 ⟨rfl, hv4⟩
                  have hb4 := belowC hb3 hv4
                  refine hK.out _ _ (fun e => absurd (show true = false from e) (by decide)) (fun hInv hHeld => ?_)
                  clear hK K
                  try simp only [Act.put, List.setIfInBounds_toArray, List.set_cons_zero, List.set_cons_succ]
                  have bA := blockB hv4 bA
                  have bB := blockB hv4 bB
                  obtain ⟨⟨x0, x1⟩, y0, y1⟩ := two_facts bA
                  obtain ⟨⟨z0, z1⟩, u0, u1⟩ := two_facts bB
                  have hne' := Ne.symm hne
                  refine anyS_one (i := 12) (o := ⟨none, _, _, _, _, _⟩) (by kernel_rfl) rfl hInv (fun K hK => ?_)
                  go_simp
                  refine hK.out _ _ (fun e => absurd (show true = false from e) (by decide)) (fun hInv hHeld => ?_)
                  clear hK K
                  try simp only [Act.put, List.setIfInBounds_toArray, List.set_cons_zero, List.set_cons_succ]
                  refine anyS_one (i := 13) (o := ⟨none, _, _, _, _, _⟩) (by kernel_rfl) rfl hInv (fun K hK => ?_)
                  go_simp
                  refine hK.out _ _ (fun e => absurd (show true = false from e) (by decide)) (fun hInv hHeld => ?_)
                  clear hK K
                  try simp only [Act.put, List.setIfInBounds_toArray, List.set_cons_zero, List.set_cons_succ]
                  refine anyS_done (by kernel_rfl) ?_ _
                  exact ⟨rfl, V0.heap.size, V2.heap.size, two_stored _ _ hb4 szA szB hne bA bB, rfl⟩
              · go_simp
                have hb2 := belowA hb1 (.cells #[.int .i64 0, .int .i64 0] 70)
                refine hK.out _ _ (fun _ => keepS hb2 SS) (fun hInv hHeld => ?_)
                clear hK K
                try simp only [Act.put, List.setIfInBounds_toArray, List.set_cons_zero, List.set_cons_succ]
                have hlt2 := (Array.getElem?_eq_some_iff.1 bA).1
                have bA := alloc_old (o' := (.cells #[.int .i64 0, .int .i64 0] 70)) bA
                have bB := block_new U1 (.cells #[.int .i64 0, .int .i64 0] 70)
                have szB := hb1.size
                obtain ⟨U2, hU⟩ : ∃ U, (U1.alloc (.cells #[.int .i64 0, .int .i64 0] 70)) = U := ⟨_, rfl⟩
                rw [hU] at hb2 bB bA ⊢
                rw [hU] at hHeld
                clear hU
                have hne : V0.heap.size ≠ U1.heap.size := by omega
                refine anyS_one (i := 4) (o := ⟨some 54, _, _, _, _, _⟩) (by kernel_rfl) rfl hInv (fun K hK => ?_)
                go_simp
                refine ⟨trivial, ?_⟩
                refine (CallsIn.inRound l2 (CallsIn.inRound l (callsIn_wide.2 (C1.out _)))).mono ?_
                rintro e V3 ⟨rfl, hv3⟩
                have hb3 := belowC hb2 hv3
                refine hK.out _ _ (fun _ => keepS hb3 SS) (fun hInv hHeld => ?_)
                clear hK K
                try simp only [Act.put, List.setIfInBounds_toArray, List.set_cons_zero, List.set_cons_succ]
                have bA := blockB hv3 bA
                have bB := blockB hv3 bB
                refine anyS_one (i := 9) (o := ⟨some 59, _, _, _, _, _⟩) (by kernel_rfl) rfl hInv (fun K hK => ?_)
                go_simp
                refine ⟨trivial, ?_⟩
                refine (CallsIn.inRound l2 (CallsIn.inRound l (callsIn_wide.2 (C2.out _)))).mono ?_
                rintro e V4 ⟨rfl, hv4⟩
                have hb4 := belowC hb3 hv4
                refine hK.out _ _ (fun e => absurd (show true = false from e) (by decide)) (fun hInv hHeld => ?_)
                clear hK K
                try simp only [Act.put, List.setIfInBounds_toArray, List.set_cons_zero, List.set_cons_succ]
                have bA := blockB hv4 bA
                have bB := blockB hv4 bB
                obtain ⟨⟨x0, x1⟩, y0, y1⟩ := two_facts bA
                obtain ⟨⟨z0, z1⟩, u0, u1⟩ := two_facts bB
                have hne' := Ne.symm hne
                refine anyS_one (i := 12) (o := ⟨none, _, _, _, _, _⟩) (by kernel_rfl) rfl hInv (fun K hK => ?_)
                go_simp
                refine hK.out _ _ (fun e => absurd (show true = false from e) (by decide)) (fun hInv hHeld => ?_)
                clear hK K
                try simp only [Act.put, List.setIfInBounds_toArray, List.set_cons_zero, List.set_cons_succ]
                refine anyS_one (i := 13) (o := ⟨none, _, _, _, _, _⟩) (by kernel_rfl) rfl hInv (fun K hK => ?_)
                go_simp
                refine hK.out _ _ (fun e => absurd (show true = false from e) (by decide)) (fun hInv hHeld => ?_)
                clear hK K
                try simp only [Act.put, List.setIfInBounds_toArray, List.set_cons_zero, List.set_cons_succ]
                refine anyS_done (by kernel_rfl) ?_ _
                exact ⟨rfl, V0.heap.size, U1.heap.size, two_stored _ _ hb4 szA szB hne bA bB, rfl⟩
            · go_simp
              have hb1 := belowA hb0 (.cells #[.int .i64 0, .int .i64 0] 70)
              refine hK.out _ _ (fun _ => keepS hb1 SS) (fun hInv hHeld => ?_)
              clear hK K
              try simp only [Act.put, List.setIfInBounds_toArray, List.set_cons_zero, List.set_cons_succ]
              have bB := block_new V0 (.cells #[.int .i64 0, .int .i64 0] 70)
              have szB := hb0.size
              obtain ⟨U1, hU⟩ : ∃ U, (V0.alloc (.cells #[.int .i64 0, .int .i64 0] 70)) = U := ⟨_, rfl⟩
              rw [hU] at hb1 bB ⊢
              rw [hU] at hHeld
              clear hU
              refine anyS_two (i := 4) (o := ⟨some 54, _, _, _, _, _⟩) (j := 10) (p := ⟨some 9, _, _, _, _, _⟩) (by kernel_rfl) rfl rfl hInv (fun K hK => ?_) (fun K hK => ?_)
              · go_simp
                refine ⟨trivial, ?_⟩
                refine (CallsIn.inRound l2 (CallsIn.inRound l (callsIn_wide.2 (C1.out _)))).mono ?_
                rintro e V2 ⟨rfl, hv2⟩
                have hb2 := belowC hb1 hv2
                refine hK.out _ _ (fun _ => keepS hb2 SS) (fun hInv hHeld => ?_)
                clear hK K
                try simp only [Act.put, List.setIfInBounds_toArray, List.set_cons_zero, List.set_cons_succ]
                have bB := blockB hv2 bB
                refine anyS_two (i := 9) (o := ⟨some 59, _, _, _, _, _⟩) (j := 10) (p := ⟨some 9, _, _, _, _, _⟩) (by kernel_rfl) rfl rfl hInv (fun K hK => ?_) (fun K hK => ?_)
                · go_simp
                  refine ⟨trivial, ?_⟩
                  refine (CallsIn.inRound l2 (CallsIn.inRound l (callsIn_wide.2 (C2.out _)))).mono ?_
                  rintro e V3 ⟨rfl, hv3⟩
                  have hb3 := belowC hb2 hv3
                  refine hK.out _ _ (fun e => absurd (show true = false from e) (by decide)) (fun hInv hHeld => ?_)
                  clear hK K
                  try simp only [Act.put, List.setIfInBounds_toArray, List.set_cons_zero, List.set_cons_succ]
                  have bB := blockB hv3 bB
                  refine anyS_one (i := 10) (o := ⟨some 9, _, _, _, _, _⟩) (by kernel_rfl) rfl hInv (fun K hK => ?_)
                  go_simp
                  have hb4 := belowA hb3 (.cells #[.int .i64 0, .int .i64 0] 70)
                  refine hK.out _ _ (fun e => absurd (show true = false from e) (by decide)) (fun hInv hHeld => ?_)
                  clear hK K
                  try simp only [Act.put, List.setIfInBounds_toArray, List.set_cons_zero, List.set_cons_succ]
                  have hlt4 := (Array.getElem?_eq_some_iff.1 bB).1
                  have bB := alloc_old (o' := (.cells #[.int .i64 0, .int .i64 0] 70)) bB
                  have bA := block_new V3 (.cells #[.int .i64 0, .int .i64 0] 70)
                  have szA := hb3.size
                  obtain ⟨U4, hU⟩ : ∃ U, (V3.alloc (.cells #[.int .i64 0, .int .i64 0] 70)) = U := ⟨_, rfl⟩
                  rw [hU] at hb4 bA bB ⊢
                  rw [hU] at hHeld
                  clear hU
                  have hne : V3.heap.size ≠ V0.heap.size := by omega
                  obtain ⟨⟨x0, x1⟩, y0, y1⟩ := two_facts bA
                  obtain ⟨⟨z0, z1⟩, u0, u1⟩ := two_facts bB
                  have hne' := Ne.symm hne
                  refine anyS_one (i := 12) (o := ⟨none, _, _, _, _, _⟩) (by kernel_rfl) rfl hInv (fun K hK => ?_)
                  go_simp
                  refine hK.out _ _ (fun e => absurd (show true = false from e) (by decide)) (fun hInv hHeld => ?_)
                  clear hK K
                  try simp only [Act.put, List.setIfInBounds_toArray, List.set_cons_zero, List.set_cons_succ]
                  refine anyS_one (i := 13) (o := ⟨none, _, _, _, _, _⟩) (by kernel_rfl) rfl hInv (fun K hK => ?_)
                  go_simp
                  refine hK.out _ _ (fun e => absurd (show true = false from e) (by decide)) (fun hInv hHeld => ?_)
                  clear hK K
                  try simp only [Act.put, List.setIfInBounds_toArray, List.set_cons_zero, List.set_cons_succ]
                  refine anyS_done (by kernel_rfl) ?_ _
                  exact ⟨rfl, V3.heap.size, V0.heap.size, two_stored _ _ hb4 szA szB hne bA bB, rfl⟩
                · go_simp
                  have hb3 := belowA hb2 (.cells #[.int .i64 0, .int .i64 0] 70)
                  refine hK.out _ _ (fun _ => keepS hb3 SS) (fun hInv hHeld => ?_)
                  clear hK K
                  try simp only [Act.put, List.setIfInBounds_toArray, List.set_cons_zero, List.set_cons_succ]
                  have hlt3 := (Array.getElem?_eq_some_iff.1 bB).1
                  have bB := alloc_old (o' := (.cells #[.int .i64 0, .int .i64 0] 70)) bB
                  have bA := block_new V2 (.cells #[.int .i64 0, .int .i64 0] 70)
                  have szA := hb2.size
                  obtain ⟨U3, hU⟩ : ∃ U, (V2.alloc (.cells #[.int .i64 0, .int .i64 0] 70)) = U := ⟨_, rfl⟩
                  rw [hU] at hb3 bA bB ⊢
                  rw [hU] at hHeld
                  clear hU
                  have hne : V2.heap.size ≠ V0.heap.size := by omega
                  refine anyS_one (i := 9) (o := ⟨some 59, _, _, _, _, _⟩) (by kernel_rfl) rfl hInv (fun K hK => ?_)
                  go_simp
                  refine ⟨trivial, ?_⟩
                  refine (CallsIn.inRound l2 (CallsIn.inRound l (callsIn_wide.2 (C2.out _)))).mono ?_
                  rintro e V4 ⟨rfl, hv4⟩
                  have hb4 := belowC hb3 hv4
                  refine hK.out _ _ (fun e => absurd (show true = false from e) (by decide)) (fun hInv hHeld => ?_)
                  clear hK K
                  try simp only [Act.put, List.setIfInBounds_toArray, List.set_cons_zero, List.set_cons_succ]
                  have bA := blockB hv4 bA
                  have bB := blockB hv4 bB
                  obtain ⟨⟨x0, x1⟩, y0, y1⟩ := two_facts bA
                  obtain ⟨⟨z0, z1⟩, u0, u1⟩ := two_facts bB
                  have hne' := Ne.symm hne
                  refine anyS_one (i := 12) (o := ⟨none, _, _, _, _, _⟩) (by kernel_rfl) rfl hInv (fun K hK => ?_)
                  go_simp
                  refine hK.out _ _ (fun e => absurd (show true = false from e) (by decide)) (fun hInv hHeld => ?_)
                  clear hK K
                  try simp only [Act.put, List.setIfInBounds_toArray, List.set_cons_zero, List.set_cons_succ]
                  refine anyS_one (i := 13) (o := ⟨none, _, _, _, _, _⟩) (by kernel_rfl) rfl hInv (fun K hK => ?_)
                  go_simp
                  refine hK.out _ _ (fun e => absurd (show true = false from e) (by decide)) (fun hInv hHeld => ?_)
                  clear hK K
                  try simp only [Act.put, List.setIfInBounds_toArray, List.set_cons_zero, List.set_cons_succ]
                  refine anyS_done (by kernel_rfl) ?_ _
                  exact ⟨rfl, V2.heap.size, V0.heap.size, two_stored _ _ hb4 szA szB hne bA bB, rfl⟩
              · go_simp
                have hb2 := belowA hb1 (.cells #[.int .i64 0, .int .i64 0] 70)
                refine hK.out _ _ (fun _ => keepS hb2 SS) (fun hInv hHeld => ?_)
                clear hK K
                try simp only [Act.put, List.setIfInBounds_toArray, List.set_cons_zero, List.set_cons_succ]
                have hlt2 := (Array.getElem?_eq_some_iff.1 bB).1
                have bB := alloc_old (o' := (.cells #[.int .i64 0, .int .i64 0] 70)) bB
                have bA := block_new U1 (.cells #[.int .i64 0, .int .i64 0] 70)
                have szA := hb1.size
                obtain ⟨U2, hU⟩ : ∃ U, (U1.alloc (.cells #[.int .i64 0, .int .i64 0] 70)) = U := ⟨_, rfl⟩
                rw [hU] at hb2 bA bB ⊢
                rw [hU] at hHeld
                clear hU
                have hne : U1.heap.size ≠ V0.heap.size := by omega
                refine anyS_one (i := 4) (o := ⟨some 54, _, _, _, _, _⟩) (by kernel_rfl) rfl hInv (fun K hK => ?_)
                go_simp
                refine ⟨trivial, ?_⟩
                refine (CallsIn.inRound l2 (CallsIn.inRound l (callsIn_wide.2 (C1.out _)))).mono ?_
                rintro e V3 ⟨rfl, hv3⟩
                have hb3 := belowC hb2 hv3
                refine hK.out _ _ (fun _ => keepS hb3 SS) (fun hInv hHeld => ?_)
                clear hK K
                try simp only [Act.put, List.setIfInBounds_toArray, List.set_cons_zero, List.set_cons_succ]
                have bA := blockB hv3 bA
                have bB := blockB hv3 bB
                refine anyS_one (i := 9) (o := ⟨some 59, _, _, _, _, _⟩) (by kernel_rfl) rfl hInv (fun K hK => ?_)
                go_simp
                refine ⟨trivial, ?_⟩
                refine (CallsIn.inRound l2 (CallsIn.inRound l (callsIn_wide.2 (C2.out _)))).mono ?_
                rintro e V4 ⟨rfl, hv4⟩
                have hb4 := belowC hb3 hv4
                refine hK.out _ _ (fun e => absurd (show true = false from e) (by decide)) (fun hInv hHeld => ?_)
                clear hK K
                try simp only [Act.put, List.setIfInBounds_toArray, List.set_cons_zero, List.set_cons_succ]
                have bA := blockB hv4 bA
                have bB := blockB hv4 bB
                obtain ⟨⟨x0, x1⟩, y0, y1⟩ := two_facts bA
                obtain ⟨⟨z0, z1⟩, u0, u1⟩ := two_facts bB
                have hne' := Ne.symm hne
                refine anyS_one (i := 12) (o := ⟨none, _, _, _, _, _⟩) (by kernel_rfl) rfl hInv (fun K hK => ?_)
                go_simp
                refine hK.out _ _ (fun e => absurd (show true = false from e) (by decide)) (fun hInv hHeld => ?_)
                clear hK K
                try simp only [Act.put, List.setIfInBounds_toArray, List.set_cons_zero, List.set_cons_succ]
                refine anyS_one (i := 13) (o := ⟨none, _, _, _, _, _⟩) (by kernel_rfl) rfl hInv (fun K hK => ?_)
                go_simp
                refine hK.out _ _ (fun e => absurd (show true = false from e) (by decide)) (fun hInv hHeld => ?_)
                clear hK K
                try simp only [Act.put, List.setIfInBounds_toArray, List.set_cons_zero, List.set_cons_succ]
                refine anyS_done (by kernel_rfl) ?_ _
                exact ⟨rfl, U1.heap.size, V0.heap.size, two_stored _ _ hb4 szA szB hne bA bB, rfl⟩
          case join =>
            rintro e a'' W5 ⟨rfl, Ba, Bb, ⟨⟨⟨x0, x1⟩, y0, y1⟩, hb5⟩, rfl⟩
            obtain ⟨a, ha⟩ : ∃ a, a = subP s.1 s.2 := ⟨_, rfl⟩
            obtain ⟨bb, hbb⟩ : ∃ bb, bb = subP o.2 o.1 := ⟨_, rfl⟩
            rw [← ha] at x0 x1 HNb HA1 ⊢
            rw [← hbb] at y0 y1 HNb HA2 ⊢
            clear ha hbb C1 C2
            have CC : Off (∀ W, Calls Try.prog 57 #[ptV a, ptV bb] W fun e w' => e = .returned (.int .i64 (crossP a bb)) ∧ Below W.heap.size W w') := ⟨fun W => cross_any a bb (inB_mono HA1.out (by decide)) (inB_mono HA2.out (by decide)) W⟩
            have CD : Off (∀ W, Calls Try.prog 85 #[ptV a, ptV bb] W fun e w' => e = .returned (.int .i64 (dotP a bb)) ∧ Below W.heap.size W w') := ⟨fun W => dot_any a bb (inB_mono HA1.out (by decide)) (inB_mono HA2.out (by decide)) W⟩
            obtain ⟨cr, hcr⟩ : ∃ v, v = crossP a bb := ⟨_, rfl⟩
            obtain ⟨d, hd⟩ : ∃ v, v = dotP a bb := ⟨_, rfl⟩
            rw [← hcr] at CC HNb
            rw [← hd] at CD HNb
            clear hcr hd
            by_cases h0 : cr = 0
            · subst h0
              by_cases h1 : 0 < d
              · have HPB : Off (pairBad xs x.val y.val = true) := ⟨by rw [HNb.out]; simp [h1]⟩
                clear HNb
                gi_wp2_with fail
                refine ⟨trivial, ?_⟩
                refine (CallsIn.inRound l2 (CallsIn.inRound l (callsIn_wide.2 (CC.out _)))).mono ?_
                rintro e W6 ⟨rfl, hb6⟩
                have x0 := cellB hb6 x0
                have x1 := cellB hb6 x1
                have y0 := cellB hb6 y0
                have y1 := cellB hb6 y1
                have hb6' := belowC hb5 hb6
                gi_wp2_with fail
                refine ⟨trivial, ?_⟩
                refine (CallsIn.inRound l2 (CallsIn.inRound l (callsIn_wide.2 (CD.out _)))).mono ?_
                rintro e W7 ⟨rfl, hb7⟩
                have hbn := belowC hb6' hb7
                have d1 := boxedB hbn d1
                have d2 := boxedB hbn d2
                have f1 := d1.frozen
                have f2 := d2.frozen
                have c1 := d1.cell
                have c2 := d2.cell
                have e5 := setB d1 d2 (.slice none 0 0) (.bool false)
                gi_wp2
                exact ret_bad hbn hBw' hKW e5 ⟨y, by simp, HPB.out⟩
              · have HPB : Off (pairBad xs x.val y.val = false) := ⟨by rw [HNb.out]; simp [h1]⟩
                clear HNb
                gi_wp2_with fail
                refine ⟨trivial, ?_⟩
                refine (CallsIn.inRound l2 (CallsIn.inRound l (callsIn_wide.2 (CC.out _)))).mono ?_
                rintro e W6 ⟨rfl, hb6⟩
                have x0 := cellB hb6 x0
                have x1 := cellB hb6 x1
                have y0 := cellB hb6 y0
                have y1 := cellB hb6 y1
                have hb6' := belowC hb5 hb6
                gi_wp2_with fail
                refine ⟨trivial, ?_⟩
                refine (CallsIn.inRound l2 (CallsIn.inRound l (callsIn_wide.2 (CD.out _)))).mono ?_
                rintro e W7 ⟨rfl, hb7⟩
                have hbn := belowC hb6' hb7
                gi_wp2
                exact ⟨keepsFrom_below hbn, hbn.mono hszW, good_more hq HPB.out, hBW.trans (hbn.mono hszW)⟩
            · have HPB : Off (pairBad xs x.val y.val = false) := ⟨by rw [HNb.out]; simp [h0]⟩
              have h0b : (cr == 0) = false := by simpa using h0
              have h0d : decide (cr = 0) = false := by simpa using h0
              clear HNb
              gi_wp2_with fail
              refine ⟨trivial, ?_⟩
              refine (CallsIn.inRound l2 (CallsIn.inRound l (callsIn_wide.2 (CC.out _)))).mono ?_
              rintro e W6 ⟨rfl, hb6⟩
              have hbn := belowC hb5 hb6
              gi_wp2
              refine ⟨trivial, ?_⟩
              gi_wp2
              exact ⟨keepsFrom_below hbn, hbn.mono hszW, good_more hq HPB.out, hBW.trans (hbn.mono hszW)⟩
        have hymI : ¬ ((y.val : Int) = (m : Int)) := by omega
        have HYM := Off.mk hym
        clear hym
        obtain ⟨m2, e8, hml2, hm2⟩ := next_tmod xs.length y.val hyl
        have w6 : IntKind.i64.wrap ((y.val : Int) + 1) = (y.val : Int) + 1 := by rw [IntKind.wrap_i64]; omega
        have HM2 := Off.mk hm2
        clear hm2
        have HNb : Off (pairBad xs x.val y.val = if x.val = m2 then false else meetS s o) := ⟨by unfold pairBad; rw [if_neg HK.out, if_neg (by rw [← HM.out]; exact HYM.out), HS.out, HO2.out, HM2.out]⟩
        by_cases hxm : x.val = m2
        · have HX : Off ((x.val : Int) = (m2 : Int)) := ⟨by omega⟩
          have HPB : Off (pairBad xs x.val y.val = false) := ⟨by rw [HNb.out, if_pos hxm]⟩
          clear hxm
          gi_wp2_with fail
          have hxmI := HX.out
          refine region_anyS' (S := (fun w' => w'.cell? ⟨Bi, 0, none⟩ = some (.int .i64 (x.val : Int)) ∧ w'.cell? ⟨b, 0, none⟩ = some (.slice (some ⟨g, 0, none⟩) xs.length cg))) 7 (by kernel_rfl) ⟨cI, cP⟩ (fun hInv hHeld => ?_)
          refine anyS_take (i := 0) (oi := ⟨some 71, _, _, _, _, _⟩) (v := ?_) (by kernel_rfl) rfl (by kernel_rfl) (by kernel_rfl) (by kernel_rfl) (by kernel_rfl) (fun _ _ _ h => h) (Or.inl ⟨by rfl, by intro w hSw; (try dsimp only at hSw); go_simp; try with_reducible rfl⟩) (fun _ => by first | rfl | simp [Oper.about, resolve, go_sem]) hInv hHeld (fun hInv hHeld => ?_)
          try simp only [Act.put, List.setIfInBounds_toArray, List.set_cons_zero, List.set_cons_succ]
          refine anyS_take (i := 1) (oi := ⟨some 72, _, _, _, _, _⟩) (v := ?_) (by kernel_rfl) rfl (by kernel_rfl) (by kernel_rfl) (by kernel_rfl) (by kernel_rfl) (fun _ _ _ h => h) (Or.inl ⟨by rfl, by intro w hSw; (try dsimp only at hSw); go_simp; try with_reducible rfl⟩) (fun _ => by first | rfl | simp [Oper.about, resolve, go_sem]) hInv hHeld (fun hInv hHeld => ?_)
          try simp only [Act.put, List.setIfInBounds_toArray, List.set_cons_zero, List.set_cons_succ]
          refine anyS_take (i := 2) (oi := ⟨some 73, _, _, _, _, _⟩) (v := ?_) (by kernel_rfl) rfl (by kernel_rfl) (by kernel_rfl) (by kernel_rfl) (by kernel_rfl) (fun _ _ _ h => h) (Or.inl ⟨by rfl, by intro w hSw; (try dsimp only at hSw); go_simp; try with_reducible rfl⟩) (fun _ => by first | rfl | simp [Oper.about, resolve, go_sem]) hInv hHeld (fun hInv hHeld => ?_)
          try simp only [Act.put, List.setIfInBounds_toArray, List.set_cons_zero, List.set_cons_succ]
          refine anyS_take (i := 3) (oi := ⟨some 74, _, _, _, _, _⟩) (v := ?_) (by kernel_rfl) rfl (by kernel_rfl) (by kernel_rfl) (by kernel_rfl) (by kernel_rfl) (fun _ _ _ h => h) (Or.inl ⟨by rfl, by intro w hSw; (try dsimp only at hSw); go_simp; try with_reducible rfl⟩) (fun _ => by first | rfl | simp [Oper.about, resolve, go_sem]) hInv hHeld (fun hInv hHeld => ?_)
          try simp only [Act.put, List.setIfInBounds_toArray, List.set_cons_zero, List.set_cons_succ]
          refine anyS_take (i := 4) (oi := ⟨some 75, _, _, _, _, _⟩) (v := ?_) (by kernel_rfl) rfl (by kernel_rfl) (by kernel_rfl) (by kernel_rfl) (by kernel_rfl) (fun _ _ _ h => h) (Or.inl ⟨by rfl, by intro w hSw; (try dsimp only at hSw); go_simp; try with_reducible rfl⟩) (fun _ => by first | rfl | simp [Oper.about, resolve, go_sem]) hInv hHeld (fun hInv hHeld => ?_)
          try simp only [Act.put, List.setIfInBounds_toArray, List.set_cons_zero, List.set_cons_succ]
          refine anyS_take (i := 5) (oi := ⟨some 76, _, _, _, _, _⟩) (v := ?_) (by kernel_rfl) rfl (by kernel_rfl) (by kernel_rfl) (by kernel_rfl) (by kernel_rfl) (fun _ _ _ h => h) (Or.inl ⟨by rfl, by intro w hSw; (try dsimp only at hSw); go_simp; try with_reducible rfl⟩) (fun _ => by first | rfl | simp [Oper.about, resolve, go_sem]) hInv hHeld (fun hInv hHeld => ?_)
          try simp only [Act.put, List.setIfInBounds_toArray, List.set_cons_zero, List.set_cons_succ]
          refine anyS_take (i := 6) (oi := ⟨some 77, _, _, _, _, _⟩) (v := ?_) (by kernel_rfl) rfl (by kernel_rfl) (by kernel_rfl) (by kernel_rfl) (by kernel_rfl) (fun _ _ _ h => h) (Or.inl ⟨by rfl, by intro w hSw; (try dsimp only at hSw); go_simp; try with_reducible rfl⟩) (fun _ => by first | rfl | simp [Oper.about, resolve, go_sem]) hInv hHeld (fun hInv hHeld => ?_)
          try simp only [Act.put, List.setIfInBounds_toArray, List.set_cons_zero, List.set_cons_succ]
          refine anyS_one (i := 7) (o := ⟨some 70, _, _, _, _, _⟩) (by kernel_rfl) rfl hInv (fun K hK => ?_)
          go_simp
          refine hK.out _ _ (fun e => absurd (show true = false from e) (by decide)) (fun hInv hHeld => ?_)
          clear hK K
          try simp only [Act.put, List.setIfInBounds_toArray, List.set_cons_zero, List.set_cons_succ]
          refine anyS_done (by kernel_rfl) ?_ _
          gi_wp2
          exact ⟨keepsFrom_below ((Below.refl _ W').drew), (Below.refl _ W').drew, good_more hq HPB.out, hBW.drew⟩
        have hxmI : ¬ ((x.val : Int) = (m2 : Int)) := by omega
        rw [if_neg hxm] at HNb
        clear hxm
        have hi1 := HIn.out x.val
        have hi2 := HIn.out y.val
        rw [← HS.out] at hi1
        rw [← HO2.out] at hi2
        cases hv : meetS s o with
        | false =>
          have CM : Off (∀ W, Calls Try.prog 86 #[sdV s, sdV o] W fun e w' => e = .returned (.bool false) ∧ Below W.heap.size W w') := ⟨fun W => meets_any s o false hv hi1.1 hi1.2 hi2.1 hi2.2 W⟩
          have HPB : Off (pairBad xs x.val y.val = false) := ⟨by rw [HNb.out, hv]⟩
          clear hv hi1 hi2 HNb
          gi_wp2_with fail
          refine region_anyS' (S := (fun w' => w'.cell? ⟨Bi, 0, none⟩ = some (.int .i64 (x.val : Int)) ∧ w'.cell? ⟨b, 0, none⟩ = some (.slice (some ⟨g, 0, none⟩) xs.length cg))) 7 (by kernel_rfl) ⟨cI, cP⟩ (fun hInv hHeld => ?_)
          refine anyS_take (i := 0) (oi := ⟨some 71, _, _, _, _, _⟩) (v := ?_) (by kernel_rfl) rfl (by kernel_rfl) (by kernel_rfl) (by kernel_rfl) (by kernel_rfl) (fun _ _ _ h => h) (Or.inl ⟨by rfl, by intro w hSw; (try dsimp only at hSw); go_simp; try with_reducible rfl⟩) (fun _ => by first | rfl | simp [Oper.about, resolve, go_sem]) hInv hHeld (fun hInv hHeld => ?_)
          try simp only [Act.put, List.setIfInBounds_toArray, List.set_cons_zero, List.set_cons_succ]
          refine anyS_take (i := 1) (oi := ⟨some 72, _, _, _, _, _⟩) (v := ?_) (by kernel_rfl) rfl (by kernel_rfl) (by kernel_rfl) (by kernel_rfl) (by kernel_rfl) (fun _ _ _ h => h) (Or.inl ⟨by rfl, by intro w hSw; (try dsimp only at hSw); go_simp; try with_reducible rfl⟩) (fun _ => by first | rfl | simp [Oper.about, resolve, go_sem]) hInv hHeld (fun hInv hHeld => ?_)
          try simp only [Act.put, List.setIfInBounds_toArray, List.set_cons_zero, List.set_cons_succ]
          refine anyS_take (i := 2) (oi := ⟨some 73, _, _, _, _, _⟩) (v := ?_) (by kernel_rfl) rfl (by kernel_rfl) (by kernel_rfl) (by kernel_rfl) (by kernel_rfl) (fun _ _ _ h => h) (Or.inl ⟨by rfl, by intro w hSw; (try dsimp only at hSw); go_simp; try with_reducible rfl⟩) (fun _ => by first | rfl | simp [Oper.about, resolve, go_sem]) hInv hHeld (fun hInv hHeld => ?_)
          try simp only [Act.put, List.setIfInBounds_toArray, List.set_cons_zero, List.set_cons_succ]
          refine anyS_take (i := 3) (oi := ⟨some 74, _, _, _, _, _⟩) (v := ?_) (by kernel_rfl) rfl (by kernel_rfl) (by kernel_rfl) (by kernel_rfl) (by kernel_rfl) (fun _ _ _ h => h) (Or.inl ⟨by rfl, by intro w hSw; (try dsimp only at hSw); go_simp; try with_reducible rfl⟩) (fun _ => by first | rfl | simp [Oper.about, resolve, go_sem]) hInv hHeld (fun hInv hHeld => ?_)
          try simp only [Act.put, List.setIfInBounds_toArray, List.set_cons_zero, List.set_cons_succ]
          refine anyS_take (i := 4) (oi := ⟨some 75, _, _, _, _, _⟩) (v := ?_) (by kernel_rfl) rfl (by kernel_rfl) (by kernel_rfl) (by kernel_rfl) (by kernel_rfl) (fun _ _ _ h => h) (Or.inl ⟨by rfl, by intro w hSw; (try dsimp only at hSw); go_simp; try with_reducible rfl⟩) (fun _ => by first | rfl | simp [Oper.about, resolve, go_sem]) hInv hHeld (fun hInv hHeld => ?_)
          try simp only [Act.put, List.setIfInBounds_toArray, List.set_cons_zero, List.set_cons_succ]
          refine anyS_take (i := 5) (oi := ⟨some 76, _, _, _, _, _⟩) (v := ?_) (by kernel_rfl) rfl (by kernel_rfl) (by kernel_rfl) (by kernel_rfl) (by kernel_rfl) (fun _ _ _ h => h) (Or.inl ⟨by rfl, by intro w hSw; (try dsimp only at hSw); go_simp; try with_reducible rfl⟩) (fun _ => by first | rfl | simp [Oper.about, resolve, go_sem]) hInv hHeld (fun hInv hHeld => ?_)
          try simp only [Act.put, List.setIfInBounds_toArray, List.set_cons_zero, List.set_cons_succ]
          refine anyS_take (i := 6) (oi := ⟨some 77, _, _, _, _, _⟩) (v := ?_) (by kernel_rfl) rfl (by kernel_rfl) (by kernel_rfl) (by kernel_rfl) (by kernel_rfl) (fun _ _ _ h => h) (Or.inl ⟨by rfl, by intro w hSw; (try dsimp only at hSw); go_simp; try with_reducible rfl⟩) (fun _ => by first | rfl | simp [Oper.about, resolve, go_sem]) hInv hHeld (fun hInv hHeld => ?_)
          try simp only [Act.put, List.setIfInBounds_toArray, List.set_cons_zero, List.set_cons_succ]
          refine anyS_one (i := 7) (o := ⟨some 70, _, _, _, _, _⟩) (by kernel_rfl) rfl hInv (fun K hK => ?_)
          go_simp
          refine hK.out _ _ (fun e => absurd (show true = false from e) (by decide)) (fun hInv hHeld => ?_)
          clear hK K
          try simp only [Act.put, List.setIfInBounds_toArray, List.set_cons_zero, List.set_cons_succ]
          refine anyS_done (by kernel_rfl) ?_ _
          gi_wp2_with fail
          refine ⟨trivial, ?_⟩
          refine (CallsIn.inRound l2 (CallsIn.inRound l (callsIn_wide.2 (CM.out _)))).mono ?_
          rintro e W5 ⟨rfl, hb5⟩
          have hbn : Below W'.heap.size W' W5 := ((Below.refl _ W').drew).trans hb5
          gi_wp2
          exact ⟨keepsFrom_below hbn, hbn.mono hszW, good_more hq HPB.out, hBW.trans (hbn.mono hszW)⟩
        | true =>
          have CM : Off (∀ W, Calls Try.prog 86 #[sdV s, sdV o] W fun e w' => e = .returned (.bool true) ∧ Below W.heap.size W w') := ⟨fun W => meets_any s o true hv hi1.1 hi1.2 hi2.1 hi2.2 W⟩
          have HPB : Off (pairBad xs x.val y.val = true) := ⟨by rw [HNb.out, hv]⟩
          clear hv hi1 hi2 HNb
          gi_wp2_with fail
          refine region_anyS' (S := (fun w' => w'.cell? ⟨Bi, 0, none⟩ = some (.int .i64 (x.val : Int)) ∧ w'.cell? ⟨b, 0, none⟩ = some (.slice (some ⟨g, 0, none⟩) xs.length cg))) 7 (by kernel_rfl) ⟨cI, cP⟩ (fun hInv hHeld => ?_)
          refine anyS_take (i := 0) (oi := ⟨some 71, _, _, _, _, _⟩) (v := ?_) (by kernel_rfl) rfl (by kernel_rfl) (by kernel_rfl) (by kernel_rfl) (by kernel_rfl) (fun _ _ _ h => h) (Or.inl ⟨by rfl, by intro w hSw; (try dsimp only at hSw); go_simp; try with_reducible rfl⟩) (fun _ => by first | rfl | simp [Oper.about, resolve, go_sem]) hInv hHeld (fun hInv hHeld => ?_)
          try simp only [Act.put, List.setIfInBounds_toArray, List.set_cons_zero, List.set_cons_succ]
          refine anyS_take (i := 1) (oi := ⟨some 72, _, _, _, _, _⟩) (v := ?_) (by kernel_rfl) rfl (by kernel_rfl) (by kernel_rfl) (by kernel_rfl) (by kernel_rfl) (fun _ _ _ h => h) (Or.inl ⟨by rfl, by intro w hSw; (try dsimp only at hSw); go_simp; try with_reducible rfl⟩) (fun _ => by first | rfl | simp [Oper.about, resolve, go_sem]) hInv hHeld (fun hInv hHeld => ?_)
          try simp only [Act.put, List.setIfInBounds_toArray, List.set_cons_zero, List.set_cons_succ]
          refine anyS_take (i := 2) (oi := ⟨some 73, _, _, _, _, _⟩) (v := ?_) (by kernel_rfl) rfl (by kernel_rfl) (by kernel_rfl) (by kernel_rfl) (by kernel_rfl) (fun _ _ _ h => h) (Or.inl ⟨by rfl, by intro w hSw; (try dsimp only at hSw); go_simp; try with_reducible rfl⟩) (fun _ => by first | rfl | simp [Oper.about, resolve, go_sem]) hInv hHeld (fun hInv hHeld => ?_)
          try simp only [Act.put, List.setIfInBounds_toArray, List.set_cons_zero, List.set_cons_succ]
          refine anyS_take (i := 3) (oi := ⟨some 74, _, _, _, _, _⟩) (v := ?_) (by kernel_rfl) rfl (by kernel_rfl) (by kernel_rfl) (by kernel_rfl) (by kernel_rfl) (fun _ _ _ h => h) (Or.inl ⟨by rfl, by intro w hSw; (try dsimp only at hSw); go_simp; try with_reducible rfl⟩) (fun _ => by first | rfl | simp [Oper.about, resolve, go_sem]) hInv hHeld (fun hInv hHeld => ?_)
          try simp only [Act.put, List.setIfInBounds_toArray, List.set_cons_zero, List.set_cons_succ]
          refine anyS_take (i := 4) (oi := ⟨some 75, _, _, _, _, _⟩) (v := ?_) (by kernel_rfl) rfl (by kernel_rfl) (by kernel_rfl) (by kernel_rfl) (by kernel_rfl) (fun _ _ _ h => h) (Or.inl ⟨by rfl, by intro w hSw; (try dsimp only at hSw); go_simp; try with_reducible rfl⟩) (fun _ => by first | rfl | simp [Oper.about, resolve, go_sem]) hInv hHeld (fun hInv hHeld => ?_)
          try simp only [Act.put, List.setIfInBounds_toArray, List.set_cons_zero, List.set_cons_succ]
          refine anyS_take (i := 5) (oi := ⟨some 76, _, _, _, _, _⟩) (v := ?_) (by kernel_rfl) rfl (by kernel_rfl) (by kernel_rfl) (by kernel_rfl) (by kernel_rfl) (fun _ _ _ h => h) (Or.inl ⟨by rfl, by intro w hSw; (try dsimp only at hSw); go_simp; try with_reducible rfl⟩) (fun _ => by first | rfl | simp [Oper.about, resolve, go_sem]) hInv hHeld (fun hInv hHeld => ?_)
          try simp only [Act.put, List.setIfInBounds_toArray, List.set_cons_zero, List.set_cons_succ]
          refine anyS_take (i := 6) (oi := ⟨some 77, _, _, _, _, _⟩) (v := ?_) (by kernel_rfl) rfl (by kernel_rfl) (by kernel_rfl) (by kernel_rfl) (by kernel_rfl) (fun _ _ _ h => h) (Or.inl ⟨by rfl, by intro w hSw; (try dsimp only at hSw); go_simp; try with_reducible rfl⟩) (fun _ => by first | rfl | simp [Oper.about, resolve, go_sem]) hInv hHeld (fun hInv hHeld => ?_)
          try simp only [Act.put, List.setIfInBounds_toArray, List.set_cons_zero, List.set_cons_succ]
          refine anyS_one (i := 7) (o := ⟨some 70, _, _, _, _, _⟩) (by kernel_rfl) rfl hInv (fun K hK => ?_)
          go_simp
          refine hK.out _ _ (fun e => absurd (show true = false from e) (by decide)) (fun hInv hHeld => ?_)
          clear hK K
          try simp only [Act.put, List.setIfInBounds_toArray, List.set_cons_zero, List.set_cons_succ]
          refine anyS_done (by kernel_rfl) ?_ _
          gi_wp2_with fail
          refine ⟨trivial, ?_⟩
          refine (CallsIn.inRound l2 (CallsIn.inRound l (callsIn_wide.2 (CM.out _)))).mono ?_
          rintro e W5 ⟨rfl, hb5⟩
          have hbn : Below W'.heap.size W' W5 := ((Below.refl _ W').drew).trans hb5
          have d1 := boxedB hbn d1
          have d2 := boxedB hbn d2
          have f1 := d1.frozen
          have f2 := d2.frozen
          have c1 := d1.cell
          have c2 := d2.cell
          have e5 := setB d1 d2 (.slice none 0 0) (.bool false)
          gi_wp2
          exact ret_bad hbn hBw' hKW e5 ⟨y, by simp, HPB.out⟩
      case done2 =>
        rintro ys' W' rfl ⟨hq, hBW⟩
        gi_wp2
        refine ⟨hKi.trans (keepsFrom_below hBW), hbi3.trans (hBW.mono (by omega)), ?_, hBi3.trans (hBW.mono (by omega))⟩
        intro x' hx'
        rcases List.mem_append.1 hx' with hx' | hx'
        · exact hp x' hx'
        · obtain rfl := List.mem_singleton.1 hx'
          unfold sideBad
          rw [← HS.out, beq_eq_false_iff_ne.2 HSame.out, Bool.false_or, List.any_eq_false]
          intro y hy
          simp [hq y hy]
      case stop2 =>
        rintro c pre' W' hpre ⟨⟨⟨⟨rfl, y, hy, hbad⟩, e1⟩, e2⟩, hBW, hKF⟩
        gi_wp2
        exact ⟨hKi.trans hKF, ⟨⟨⟨rfl, x, by simp, by unfold sideBad; rw [Bool.or_eq_true, List.any_eq_true]; exact Or.inr ⟨y, List.mem_finRange y, hbad⟩⟩, e1⟩, e2⟩, hBW⟩
  case done =>
    rintro D zs W hD rfl ⟨hp, hB⟩ hK
    have cP := (boxedL hB bP (by omega)).cell
    have d1 := boxedL hB b1 (by omega)
    have d2 := boxedL hB b2 (by omega)
    have c1 := d1.cell
    have c2 := d2.cell
    have f1 := d1.frozen
    have f2 := d2.frozen
    have HOW := Off.mk (ownQ_below HO.out hB)
    have hBw := hB3.trans (hB.mono (by omega))
    gi_wp2
    go_wp2
    have hK' := (KeepsOthers.setCell (W.setCell ⟨w.heap.size, 0, none⟩ (.slice (some ⟨g, 0, none⟩) xs.length cg)) ⟨w.heap.size + 1, 0, none⟩ (.bool true)).same D _ ((KeepsOthers.setCell W ⟨w.heap.size, 0, none⟩ (.slice (some ⟨g, 0, none⟩) xs.length cg)).same D _ hK rfl) rfl
    obtain ⟨d1, d2⟩ := setB d1 d2 (.slice (some ⟨g, 0, none⟩) xs.length cg) (.bool true)
    refine ⟨by simp, .inl ⟨_, _, rfl, run_takeDeferred hK', ?_⟩⟩
    have hc5 := cell_kept d1.cell (grownBy_putObj' _ D (.deferred none)) (fun r e => by cases e; exact ⟨_, hK', rfl⟩)
    have hc6 := cell_kept d2.cell (grownBy_putObj' _ D (.deferred none)) (fun r e => by cases e; exact ⟨_, hK', rfl⟩)
    refine ⟨.tuple #[.slice (some ⟨g, 0, none⟩) xs.length cg, .bool true], ?_, ⟨_, true, rfl, ?_, fun _ => ?_, fun e => by cases e⟩, ?_⟩
    · simp [results, Try.results46, go_sem, hc5, hc6]
    · simpa using hp
    · refine ownQ_mono (base := w1.heap.size) ⟨?_⟩ (by omega)
      have h1 := ownsRow_setCell_below HOW.out.out (a := ⟨w.heap.size, 0, none⟩) (by simp only; omega) (.slice (some ⟨g, 0, none⟩) xs.length cg)
      have h2 := ownsRow_setCell_below h1 (a := ⟨w.heap.size + 1, 0, none⟩) (by simp only; omega) (.bool true)
      exact h2.kept (row := some D) (grownBy_putObj' _ D (.deferred none)) (by simp [Value.ownBlock]; omega)
    · exact ((hBw.setCell (p := ⟨w.heap.size, 0, none⟩) (by simp) _).setCell (p := ⟨w.heap.size + 1, 0, none⟩) (by simp) _).trans (belowK_b (w := w) (Nat.le_refl _) _ D _ _ (by omega) hK' rfl rfl)
  case stop =>
    rintro D c pre W hD hpre ⟨⟨⟨⟨rfl, x, hx, hbad⟩, d1⟩, d2⟩, hB⟩ hK
    gi_wp2
    refine ⟨by simp, .inl ⟨_, _, rfl, run_takeDeferred hK, ?_⟩⟩
    have hc5 := cell_kept d1.cell (grownBy_putObj' _ D (.deferred none)) (fun r e => by cases e; exact ⟨_, hK, rfl⟩)
    have hc6 := cell_kept d2.cell (grownBy_putObj' _ D (.deferred none)) (fun r e => by cases e; exact ⟨_, hK, rfl⟩)
    refine ⟨.tuple #[.slice none 0 0, .bool false], ?_, ⟨_, false, rfl, ?_, (fun e => by cases e), fun _ => rfl⟩, hB.trans (belowK_b (w := w) (Nat.le_refl _) _ D _ _ (by omega) hK rfl rfl)⟩
    · simp [results, Try.results46, go_sem, hc5, hc6]
    · rw [Bool.not_eq_false', List.any_eq_true]
      exact ⟨x, hpre.subset hx, hbad⟩
end Go.Proofs.Ytbpmiphipjkdlaa
