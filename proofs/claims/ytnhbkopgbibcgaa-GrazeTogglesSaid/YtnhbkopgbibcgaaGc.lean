/- Contracts: Clone, read. -/
import Derived.Test.YtnhbkopgbibcgaaGb
import Derived.Deep.RegionHeld3
import Derived.RegionTactic
import Derived.Deep.RegionLaw
import Derived.Deep.AppendLies
import Derived.StillTailTactics
import Derived.ChangeAlike
import Derived.ChangeOld
import Derived.OneCell
import Derived.Laws.StructEq
namespace Go.Proofs.Ytnhbkopgbibcgaa
open Go.RowKit Go.Shelf

/-- A copy of a list begins in a new, empty row. -/
theorem own_empty (w : World) (b : Nat) (h : b ≤ w.heap.size) : (w.alloc (.cells #[] 3)).ownsRow b 3 1 (.slice (some ⟨w.heap.size, 0, none⟩) 0 0) 0 [] := by
  refine ⟨rfl, .inr ⟨w.heap.size, 0, #[], rfl, h, ?_, Nat.le_refl _, by simp [maxLen], rfl, rfl⟩⟩
  change (w.heap.push (Obj.cells #[] 3))[w.heap.size]? = _
  simp
theorem wpList_copy {w : World} {ops : Array Oper} {rest : List Oper} {o : Oper} {a : Act} {Q : Exit → Act → World → Prop} (hgd : o.guard = none) (s x : Operand)
    (ho : o.op = .call { callee := .builtin .append, args := #[s, x], argTypes := #[32, 32] }) (A : Option Addr) (l : List Int) (c : Nat) (hl : IntsAt w A l) (hlc : l.length ≤ c) (h60 : l.length ≤ 60) (hA : A = none → c = 0)
    (hs : a.eval s = .slice (some ⟨w.heap.size, 0, none⟩) 0 0) (hx : a.eval x = .slice A l.length c)
    (h : ∀ v' w', Own w' w.heap.size v' l → Below w.heap.size w w' → wpList Try.prog ops Q rest (a.put o.dst v') w') : wpList Try.prog ops Q (o :: rest) a (w.alloc (.cells #[] 3)) := by
  obtain ⟨i0, hi, hz0, hz1, hz2⟩ := info_parts info3
  have hB : Below w.heap.size w (w.alloc (.cells #[] 3)) := (Below.refl _ _).alloc (Nat.le_refl _) _
  have hsz := hB.size
  cases A with
  | none =>
    obtain rfl := hA rfl
    obtain rfl : l = [] := List.length_eq_zero_iff.1 (by omega)
    exact wpList_append_own_none hgd s x 32 ho w.heap.size 3 i0 1 Try.underlying32 hi _ 0 [] hs (own_empty w _ (Nat.le_refl _)) hx (h _ _ ⟨own_empty w _ (Nat.le_refl _)⟩ hB)
  | some ad =>
    refine wpList_append_own _ hgd s x 32 ho w.heap.size 3 i0 (.int .i64 0) 1 8 Try.underlying32 hi hz0 hz1 hz2 rfl (by decide) _ 0 [] hs (own_empty _ _ (Nat.le_refl _)) ad l.length c (nums l) hx ?c1 ?c2 ?c3 ?c4 ?c5 ?c6 ?_
    case c1 => simp [nums]
    case c2 =>
      intro j u hj
      have hjl : j < l.length := by
        have := (List.getElem?_eq_some_iff.1 hj).1
        simpa [nums] using this
      obtain ⟨ad', e, hc⟩ := hl.cell j hjl
      cases e
      rw [cellB hB hc]
      simp only [nums, List.getElem?_map, List.getElem?_eq_getElem hjl, Option.map_some, Option.some.injEq] at hj
      rw [← hj, getD_get hjl]
    case c3 =>
      intro u hu
      simp only [nums, List.mem_map] at hu
      obtain ⟨y, _, rfl⟩ := hu
      rfl
    case c4 => unfold maxLen; omega
    case c5 => omega
    case c6 => exact hsz
    intro v' w' hown hgrow _
    refine h v' w' ⟨by simpa using hown⟩ (hB.grown hgrow hsz (fun k e => ?_))
    simp only [Value.ownBlock, Option.some.injEq] at e
    omega

theorem eql_nil (a : Option Addr) (l c : Nat) (w : World) : Sem.run Try.prog (binOp .eql 32 (.slice a l c) (.slice none 0 0)) w = .ok (.bool a.isNone) w := by
  have h := run_equal_slice_nil (P := Try.prog) w 32 3 a l c Try.underlying32
  simp [binOp, h]

set_option maxHeartbeats 1000000 in
set_option maxRecDepth 100000 in
theorem clone_any (l : List Int) (A : Option Addr) (c : Nat) (w : World) (hl : IntsAt w A l) (hlc : l.length ≤ c) (h60 : l.length ≤ 60) (hA : A = none → c = 0) :
    Calls Try.prog 77 #[.slice A l.length c] w fun e w' => ∃ v, e = .returned v ∧ Own w' w.heap.size v l ∧ Below w.heap.size w w' := by
  cases A with
  | none =>
    obtain rfl := hA rfl
    obtain rfl : l = [] := List.length_eq_zero_iff.1 (by omega)
    have heq := eql_nil none 0 0
    go_enter Try.func77, Try.ntmps77
    go_wp2
    go_ret
    exact ⟨_, rfl, ⟨World.ownsRow_nil _ _ _ _⟩, Below.refl _ _⟩
  | some ad =>
    have heq := eql_nil (some ad) l.length c
    go_enter Try.func77, Try.ntmps77
    go_wp2_with (at_builtin; refine wpList_copy rfl _ _ rfl (some ad) l c hl hlc h60 (fun e => by cases e) rfl rfl ?_)
    intro v1 w1 hO1 B1
    obtain ⟨A1, c1, rfl, hI1, hc1⟩ := own_ints hO1 (by omega)
    go_wp2
    go_ret
    exact ⟨_, rfl, hO1, B1⟩

theorem field_len {a b : Int} (h : fieldB a b = true) : 1 ≤ a ∧ a ≤ 6 ∧ 1 ≤ b ∧ b ≤ 6 := by
  have := of_decide_eq_true h
  omega

/-- What read hands back. -/
def ReadPost (a b : Int) (l : List Int) (w : World) (e : Ending) (w' : World) : Prop :=
  ∃ v, e = .returned (.tuple #[.agg #[.int .i64 a, .int .i64 b], v, .bool (askedB a b l)]) ∧ (askedB a b l = true → Own w' w.heap.size v l) ∧ (askedB a b l = false → v = .slice none 0 0) ∧ Below w.heap.size w w'

set_option maxHeartbeats 4000000 in
set_option maxRecDepth 100000 in
theorem read_any (a b : Int) (l : List Int) (A : Option Addr) (c : Nat) (w : World) (hl : IntsAt w A l) (hlc : l.length ≤ c) (hA : A = none → c = 0) :
    Calls Try.prog 51 #[.int .i64 a, .int .i64 b, .slice A l.length c] w fun e w' => ReadPost a b l w e w' := by
  have HB : Off (∀ o, Below w.heap.size w (w.alloc o)) := ⟨fun o => (Below.refl _ _).alloc (Nat.le_refl _) _⟩
  have hlen := hl.len
  have HA := Off.mk hA
  have HQ : Off (askedB a b l = (fieldB a b && stateB a b l)) := ⟨rfl⟩
  clear hA
  go_enter Try.func51, Try.ntmps51
  go_wp2_with fail
  refine (field_any a b _).mono ?_
  rintro e w1 ⟨rfl, hb1⟩
  have B1 := belowC (HB.out _) hb1
  have hx1 := blockB hb1 (block_new w (.cells #[.int .i64 0, .int .i64 0] 62))
  have hlt1 : w.heap.size < w1.heap.size := (Array.getElem?_eq_some_iff.1 hx1).1
  obtain ⟨⟨c0, c1⟩, f0, f1⟩ := two_facts hx1
  have B1' := belowA ((B1.setCell (p := ⟨w.heap.size, 0, none⟩) (Nat.le_refl _) (.int .i64 a)).setCell (p := ⟨w.heap.size, 1, none⟩) (Nat.le_refl _) (.int .i64 b)) (.cells #[.int .i64 a, .int .i64 b] 62)
  have hI1 := Off.mk (hl.below (belowA B1 (.cells #[.int .i64 a, .int .i64 b] 62)))
  have HX1 := Off.mk hx1
  clear hb1 hx1
  cases hf : fieldB a b
  · have HF : Off (askedB a b l = false) := ⟨by rw [HQ.out, hf]; rfl⟩
    clear hf
    go_wp2
    refine bodyPost_ret (v := .tuple #[.agg #[.int .i64 a, .int .i64 b], .slice none 0 0, .bool false]) ?_ rfl ⟨_, by rw [HF.out], fun e => (by rw [HF.out] at e; cases e), fun _ => rfl, ?_⟩
    · simp [results, Try.results51, go_sem, c0, c1, hlt1]
    · exact B1'
  · obtain ⟨ha1, ha6, hb1', hb6⟩ := field_len hf
    by_cases hla : (l.length : Int) = a
    · have hla' : ((l.length : Int) != a) = false := by rw [bne_eq_false_iff_eq]; exact hla
      have HLA := Off.mk hla
      have hl1 : 1 ≤ l.length := by omega
      have hl6 : l.length ≤ 6 := by omega
      obtain ⟨ad, rfl, _⟩ := hl.cell 0 (by omega)
      clear hla
      obtain ⟨m, hm⟩ : ∃ m, l.length = m + 1 := ⟨l.length - 1, by omega⟩
      have HM := Off.mk hm
      clear hm
      have HST : Off (∀ P : Prop, (stateB a b l = true → P) → ¬ P → askedB a b l = false) := ⟨fun P h hn => by
        rw [HQ.out, hf, Bool.true_and]
        cases e : stateB a b l
        · rfl
        · exact absurd (h e) hn⟩
      obtain ⟨u, hu⟩ : ∃ u, minTo l m = u := ⟨_, rfl⟩
      obtain ⟨v, hv⟩ : ∃ v, maxTo l m = v := ⟨_, rfl⟩
      have H4 : Off (∀ W, IntsAt W (some ad) l → Calls Try.prog 75 #[.slice (some ad) l.length c] W fun e w' => e = .returned (.int .i64 u) ∧ w' = W) := ⟨fun W hW => hu ▸ min_any l (some ad) c m W hW HM.out⟩
      have H5 : Off (∀ W, IntsAt W (some ad) l → Calls Try.prog 76 #[.slice (some ad) l.length c] W fun e w' => e = .returned (.int .i64 v) ∧ w' = W) := ⟨fun W hW => hv ▸ max_any l (some ad) c m W hW HM.out⟩
      by_cases h0 : u < 0
      · have HF : Off (askedB a b l = false) := ⟨HST.out (0 ≤ u) (fun e => by
          obtain ⟨j, hj, ej⟩ := minTo_mem l m
          have := ((of_decide_eq_true e).2 j (by have := HM.out; omega)).1.1
          omega) (by omega)⟩
        clear hu hv
        go_wp2_with (go_at_call 75; refine (H4.out _ hI1.out).mono ?_; rintro e w2 ⟨rfl, rfl⟩)
        refine bodyPost_ret (v := .tuple #[.agg #[.int .i64 a, .int .i64 b], .slice none 0 0, .bool false]) ?_ rfl ⟨_, by rw [HF.out], fun e => (by rw [HF.out] at e; cases e), fun _ => rfl, ?_⟩
        · simp [results, Try.results51, go_sem, c0, c1, hlt1]
        · exact B1'
      · by_cases h1 : b < v
        · have HF : Off (askedB a b l = false) := ⟨HST.out (v ≤ b) (fun e => by
            obtain ⟨j, hj, ej⟩ := maxTo_mem l m
            have := ((of_decide_eq_true e).2 j (by have := HM.out; omega)).1.2
            omega) (by omega)⟩
          clear hu hv
          go_wp2_with (first | (go_at_call 75; refine (H4.out _ hI1.out).mono ?_; rintro e w2 ⟨rfl, rfl⟩) | (go_at_call 76; refine (H5.out _ hI1.out).mono ?_; rintro e w3 ⟨rfl, rfl⟩))
          refine bodyPost_ret (v := .tuple #[.agg #[.int .i64 a, .int .i64 b], .slice none 0 0, .bool false]) ?_ rfl ⟨_, by rw [HF.out], fun e => (by rw [HF.out] at e; cases e), fun _ => rfl, ?_⟩
          · simp [results, Try.results51, go_sem, c0, c1, hlt1]
          · exact B1'
        · have HRng : Off (∀ j, j < l.length → 0 ≤ l.getD j 0 ∧ l.getD j 0 ≤ b) := ⟨fun j hj => by
            have h2 := minTo_le l m j (by have := HM.out; omega)
            have h3 := le_maxTo l m j (by have := HM.out; omega)
            omega⟩
          clear hu hv
          go_wp2_with (first | (go_at_call 75; refine (H4.out _ hI1.out).mono ?_; rintro e w2 ⟨rfl, rfl⟩) | (go_at_call 76; refine (H5.out _ hI1.out).mono ?_; rintro e w3 ⟨rfl, rfl⟩))
          all_goals
            go_loopw [41] (fun i wr => ∃ k : Nat, k + 1 ≤ l.length ∧ i = .int .i64 k ∧ (∃ q, wr = (w1.alloc (Obj.cells #[Value.int IntKind.i64 a, Value.int IntKind.i64 b] 62)).drewN q) ∧ Off (∀ j, 0 < j → j ≤ k → l.getD j 0 ≤ l.getD (j - 1) 0)) (fun i _ => l.length - (intOf i).toNat)
            case atStart => exact ⟨0, by omega, rfl, ⟨0, rfl⟩, ⟨fun j h1 h2 => by omega⟩⟩
            case round =>
              obtain ⟨k, hk, rfl, ⟨q, rfl⟩, hs⟩ := hrel
              by_cases hlt : k + 1 < l.length
              · first
                | (exfalso; omega)
                | (skip
                   obtain ⟨ad1, e1, hc⟩ := hI1.out.cell k (by omega)
                   cases e1
                   obtain ⟨ad2, e2, hd⟩ := hI1.out.cell (k + 1) hlt
                   cases e2
                   obtain ⟨x, hx⟩ : ∃ x, x = l.getD k 0 := ⟨_, rfl⟩
                   obtain ⟨y, hy⟩ : ∃ y, y = l.getD (k + 1) 0 := ⟨_, rfl⟩
                   rw [← hx] at hc
                   rw [← hy, Addr.add_succ'] at hd
                   have HX := Off.mk hx
                   have HY := Off.mk hy
                   have hk0 : (0 : Int) ≤ (k : Int) := by omega
                   have hk1 : (k : Int) < (l.length : Int) := by omega
                   have hk2 : (k : Int) + 1 < (l.length : Int) := by omega
                   have hk3 : (k : Int) < ((l.length - 1 : Nat) : Int) := by omega
                   have hk4 : (0 : Int) ≤ (k : Int) + 1 := by omega
                   have hk5 : IntKind.i64.wrap ((k : Int) + 1) = (k : Int) + 1 := by rw [IntKind.wrap_i64]; omega
                   clear hx hy
                   by_cases hxy : x < y
                   · have hxy' : decide (x < y) = true := decide_eq_true hxy
                     have HF : Off (askedB a b l = false) := ⟨HST.out (y ≤ x) (fun e => by
                       have := ((of_decide_eq_true e).2 (k + 1) hlt).2 (by omega)
                       rw [HX.out, HY.out]
                       exact this) (by omega)⟩
                     clear hxy
                     go_wp2
                     go_quiet (fail)
                     go_wp2
                     refine bodyPost_ret (v := .tuple #[.agg #[.int .i64 a, .int .i64 b], .slice none 0 0, .bool false]) ?_ rfl ⟨_, by rw [HF.out], fun e => (by rw [HF.out] at e; cases e), fun _ => rfl, ?_⟩
                     · simp [results, Try.results51, go_sem, c0, c1, hlt1]
                     · exact (((below_drewN' (belowA B1 _) _).setCell (p := ⟨w.heap.size, 0, none⟩) (Nat.le_refl _) _).setCell (p := ⟨w.heap.size, 1, none⟩) (Nat.le_refl _) _)
                   · have hxy' : decide (x < y) = false := decide_eq_false hxy
                     have HE := Off.mk hxy
                     clear hxy
                     go_wp2
                     go_quiet (fail)
                     go_wp2
                     go_roundw
                     case rel => exact ⟨k + 1, by omega, by go_num, ⟨_, rfl⟩, ⟨fun j h1 h2 => by
                       by_cases e : j = k + 1
                       · subst e; rw [Nat.add_sub_cancel, ← HX.out, ← HY.out]; have := HE.out; omega
                       · exact hs.out j h1 (by omega)⟩⟩
                     case measure => simp only [intOf]; omega)
              · have HT : Off (askedB a b l = true) := ⟨by
                  rw [HQ.out, hf, Bool.true_and]
                  refine decide_eq_true ⟨HLA.out, fun j hj => ⟨HRng.out j hj, fun h0 => hs.out j h0 (by omega)⟩⟩⟩
                have hk3 : ¬ ((k : Int) < ((l.length - 1 : Nat) : Int)) := by omega
                clear hs
                obtain ⟨⟨g0, g1⟩, _, _⟩ := two_facts (block_new w1 (.cells #[.int .i64 a, .int .i64 b] 62))
                have hIq := hI1.out.below (below_drewN' (Below.refl _ _) (q + 1))
                have BQ : Below w.heap.size w (((w1.alloc (Obj.cells #[Value.int IntKind.i64 a, Value.int IntKind.i64 b] 62))).drewN (q + 1)) := below_drewN' (belowA B1 _) _
                go_wp2
                have hG : Off ((((w1.alloc (Obj.cells #[Value.int IntKind.i64 a, Value.int IntKind.i64 b] 62))).drewN (q + 1)).heap[w1.heap.size]? = some (.cells #[.int .i64 a, .int .i64 b] 62)) := ⟨block_new w1 _⟩
                have hC : Off ((((w1.alloc (Obj.cells #[Value.int IntKind.i64 a, Value.int IntKind.i64 b] 62))).drewN (q + 1)).heap[w.heap.size]? = some (.cells #[.int .i64 0, .int .i64 0] 62)) := ⟨alloc_old HX1.out⟩
                go_region_held3 (fun w' => w'.cell? ⟨w1.heap.size, 0, none⟩ = some (.int .i64 a) ∧ w'.cell? ⟨w1.heap.size, 1, none⟩ = some (.int .i64 b))
                  (first | go_keep | exact ⟨g0, g1⟩ | exact ⟨(World.cell?_setCell_far _ _ _ _ (by simpa using Nat.ne_of_lt hlt1)).trans ((World.cell?_setCell_far _ _ _ _ (by simpa using Nat.ne_of_lt hlt1)).trans g0), (World.cell?_setCell_far _ _ _ _ (by simpa using Nat.ne_of_lt hlt1)).trans ((World.cell?_setCell_far _ _ _ _ (by simpa using Nat.ne_of_lt hlt1)).trans g1)⟩)
                  (first | (go_at_call 77; refine (clone_any l (some ad) _ _ hIq (by omega) (by omega) (fun e => by cases e)).mono ?_; rintro e w2 ⟨v2, rfl, hO2, hb2⟩; obtain ⟨⟨g0, g1⟩, _, _⟩ := two_facts (blockB hb2 hG.out); obtain ⟨⟨c0, c1⟩, f0, f1⟩ := two_facts (blockB hb2 hC.out)))
                go_wp2
                have hBE : Below w.heap.size w ((w2.setCell ⟨w.heap.size, 0, none⟩ (.int .i64 a)).setCell ⟨w.heap.size, 1, none⟩ (.int .i64 b)) := ((belowC BQ hb2).setCell (p := ⟨w.heap.size, 0, none⟩) (Nat.le_refl _) _).setCell (p := ⟨w.heap.size, 1, none⟩) (Nat.le_refl _) _
                refine bodyPost_ret (v := .tuple #[.agg #[.int .i64 a, .int .i64 b], v2, .bool true]) ?_ rfl ⟨_, by rw [HT.out], fun _ => ?_, fun e => (by rw [HT.out] at e; cases e), hBE⟩
                · simp [results, Try.results51, go_sem, c0, c1]
                · have hsz : w.heap.size < ((w1.alloc (Obj.cells #[Value.int IntKind.i64 a, Value.int IntKind.i64 b] 62)).drewN (q + 1)).heap.size := (Array.getElem?_eq_some_iff.1 hC.out).1
                  exact own_mono ⟨ownsRow_setCell_below (ownsRow_setCell_below hO2.out hsz _) hsz _⟩ (Nat.le_of_lt hsz)
    · have hla' : ((l.length : Int) != a) = true := by rw [bne_iff_ne]; exact hla
      have HF : Off (askedB a b l = false) := ⟨by rw [HQ.out, hf, Bool.true_and]; exact decide_eq_false (fun h => hla h.1)⟩
      clear hf hla
      go_wp2
      refine bodyPost_ret (v := .tuple #[.agg #[.int .i64 a, .int .i64 b], .slice none 0 0, .bool false]) ?_ rfl ⟨_, by rw [HF.out], fun e => (by rw [HF.out] at e; cases e), fun _ => rfl, ?_⟩
      · simp [results, Try.results51, go_sem, c0, c1, hlt1]
      · exact B1'
end Go.Proofs.Ytnhbkopgbibcgaa
