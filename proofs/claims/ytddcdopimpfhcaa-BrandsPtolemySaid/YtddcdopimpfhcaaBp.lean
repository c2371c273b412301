/- Contracts: Clone, Index, isRound. -/
import Derived.Test.YtddcdopimpfhcaaBo
import Derived.Laws.AppendOwnNone
namespace Go.Proofs.Ytddcdopimpfhcaa
open Go.RowKit Go.Shelf

theorem empty_row (w : World) (e : TypeId) (size b : Nat) (h : b ≤ w.heap.size) : (w.alloc (.cells #[] e)).ownsRow b e size (.slice (some ⟨w.heap.size, 0, none⟩) 0 0) 0 [] := by
  refine ⟨by simp, .inr ⟨w.heap.size, 0, #[], rfl, h, ?_, Nat.le_refl _, by simp [maxLen], by simp, by simp⟩⟩
  change (w.heap.push (Obj.cells #[] e))[w.heap.size]? = _
  simp
theorem ints_cells {w : World} {A : Option Addr} {l : List Int} (hl : IntsAt w A l) {ad : Addr} (hA : A = some ad) (j : Nat) (u : Value) (hj : (nums l)[j]? = some u) : w.cell? (ad.add j) = some u := by
  have hjl : j < l.length := by
    have := (List.getElem?_eq_some_iff.1 hj).1
    simpa [nums] using this
  obtain ⟨ad', e, hc⟩ := hl.cell j hjl
  subst hA
  cases e
  rw [hc, ← hj, nums_at l j hjl]
theorem pairs_cells {w : World} {A : Option Addr} {l : List (Int × Int)} (hl : PairsI w A l) {ad : Addr} (hA : A = some ad) (j : Nat) (u : Value) (hj : (pairCells l)[j]? = some u) : w.cell? (ad.add j) = some u := by
  have hjl : j < l.length * 2 := by
    have := (List.getElem?_eq_some_iff.1 hj).1
    rwa [pairCells_len] at this
  obtain ⟨ad', e, hc, hd⟩ := hl.cell (j / 2) (by omega)
  subst hA
  cases e
  have hp := pairCells_at l (j / 2) (by omega)
  by_cases h : j % 2 = 0
  · have e : j / 2 * 2 = j := by omega
    rw [e] at hc hp
    rw [hc, ← hj, hp.1]
  · have e : j / 2 * 2 + 1 = j := by omega
    have e2 : ad.add j = ⟨(ad.add (j / 2 * 2)).block, (ad.add (j / 2 * 2)).off + 1, none⟩ := by
      by_cases h0 : j / 2 * 2 = 0
      · rw [h0, Addr.add_zero']
        obtain rfl : j = 1 := by omega
        rfl
      · unfold Addr.add
        rw [if_neg (by omega), if_neg h0]
        simp
        omega
    rw [e] at hp
    rw [e2, hd, ← hj, hp.2]
theorem wpList_copyI {w : World} {ops : Array Oper} {rest : List Oper} {o : Oper} {a : Act} {Q : Exit → Act → World → Prop} (hgd : o.guard = none) (s x : Operand)
    (ho : o.op = .call { callee := .builtin .append, args := #[s, x], argTypes := #[45, 45] }) (A : Option Addr) (l : List Int) (c : Nat) (hl : IntsAt w A l) (hlc : l.length ≤ c) (h60 : l.length ≤ 60) (hA : A = none → c = 0)
    (hs : a.eval s = .slice (some ⟨w.heap.size, 0, none⟩) 0 0) (hx : a.eval x = .slice A l.length c)
    (h : ∀ v' w', Own w' w.heap.size v' l → Below w.heap.size w w' → wpList Try.prog ops Q rest (a.put o.dst v') w') : wpList Try.prog ops Q (o :: rest) a (w.alloc (.cells #[] 3)) := by
  obtain ⟨i0, hi, hz0, hz1, hz2⟩ := info_parts info3
  have hB : Below w.heap.size w (w.alloc (.cells #[] 3)) := (Below.refl _ _).alloc (Nat.le_refl _) _
  have hsz := hB.size
  cases A with
  | none =>
    obtain rfl := hA rfl
    obtain rfl : l = [] := List.length_eq_zero_iff.1 (by omega)
    exact wpList_append_own_none hgd s x 45 ho w.heap.size 3 i0 1 Try.underlying45 hi _ 0 [] hs (empty_row w _ _ _ (Nat.le_refl _)) hx (h _ _ ⟨empty_row w _ _ _ (Nat.le_refl _)⟩ hB)
  | some ad =>
    refine wpList_append_own _ hgd s x 45 ho w.heap.size 3 i0 (.int .i64 0) 1 8 Try.underlying45 hi hz0 hz1 hz2 rfl (by decide) _ 0 [] hs (empty_row _ _ _ _ (Nat.le_refl _)) ad l.length c (nums l) hx (by rw [nums_length]) (fun j u hj => cellB hB (ints_cells hl rfl j u hj)) (fun u hu => nums_one l u hu) (by unfold maxLen; omega) (by omega) hsz ?_
    intro v' w' hown hgrow _
    refine h v' w' ⟨by simpa using hown⟩ (hB.grown hgrow hsz (fun k e => ?_))
    simp only [Value.ownBlock, Option.some.injEq] at e
    omega
theorem eql_nilI (a : Option Addr) (l c : Nat) (w : World) : Sem.run Try.prog (binOp .eql 45 (.slice a l c) (.slice none 0 0)) w = .ok (.bool a.isNone) w := by
  have h := run_equal_slice_nil (P := Try.prog) w 45 3 a l c Try.underlying45
  simp [binOp, h]
set_option maxHeartbeats 1000000 in
set_option maxRecDepth 100000 in
theorem cloneI_any (l : List Int) (A : Option Addr) (c : Nat) (w : World) (hl : IntsAt w A l) (hlc : l.length ≤ c) (h60 : l.length ≤ 60) (hA : A = none → c = 0) :
    Calls Try.prog 65 #[.slice A l.length c] w fun e w' => ∃ v, e = .returned v ∧ Own w' w.heap.size v l ∧ Below w.heap.size w w' := by
  cases A with
  | none =>
    obtain rfl := hA rfl
    obtain rfl : l = [] := List.length_eq_zero_iff.1 (by omega)
    have heq := eql_nilI none 0 0
    go_enter Try.func65, Try.ntmps65
    go_wp2
    go_ret
    exact ⟨_, rfl, ⟨World.ownsRow_nil _ _ _ _⟩, Below.refl _ _⟩
  | some ad =>
    have heq := eql_nilI (some ad) l.length c
    go_enter Try.func65, Try.ntmps65
    go_wp2_with (at_builtin; refine wpList_copyI rfl _ _ rfl (some ad) l c hl hlc h60 (fun e => by cases e) rfl rfl ?_)
    intro v1 w1 hO1 B1
    obtain ⟨A1, c1, rfl, hI1, hc1⟩ := own_ints' hO1 (by omega)
    go_wp2
    go_ret
    exact ⟨_, rfl, hO1, B1⟩
theorem wpList_copyQ {w : World} {ops : Array Oper} {rest : List Oper} {o : Oper} {a : Act} {Q : Exit → Act → World → Prop} (hgd : o.guard = none) (s x : Operand)
    (ho : o.op = .call { callee := .builtin .append, args := #[s, x], argTypes := #[22, 22] }) (A : Option Addr) (l : List (Int × Int)) (c : Nat) (hl : PairsI w A l) (hlc : l.length ≤ c) (h60 : l.length ≤ 60) (hA : A = none → c = 0)
    (hs : a.eval s = .slice (some ⟨w.heap.size, 0, none⟩) 0 0) (hx : a.eval x = .slice A l.length c)
    (h : ∀ v' w', OwnQ w' w.heap.size v' l → Below w.heap.size w w' → wpList Try.prog ops Q rest (a.put o.dst v') w') : wpList Try.prog ops Q (o :: rest) a (w.alloc (.cells #[] 36)) := by
  obtain ⟨i0, hi, hz0, hz1, hz2⟩ := info_parts info36
  have hB : Below w.heap.size w (w.alloc (.cells #[] 36)) := (Below.refl _ _).alloc (Nat.le_refl _) _
  have hsz := hB.size
  cases A with
  | none =>
    obtain rfl := hA rfl
    obtain rfl : l = [] := List.length_eq_zero_iff.1 (by omega)
    exact wpList_append_own_none hgd s x 22 ho w.heap.size 36 i0 2 Try.underlying22 hi _ 0 [] hs (empty_row w _ _ _ (Nat.le_refl _)) hx (h _ _ ⟨empty_row w _ _ _ (Nat.le_refl _)⟩ hB)
  | some ad =>
    refine wpList_append_own _ hgd s x 22 ho w.heap.size 36 i0 (.agg #[.int .i64 0, .int .i64 0]) 2 16 Try.underlying22 hi hz0 hz1 hz2 rfl (by decide) _ 0 [] hs (empty_row _ _ _ _ (Nat.le_refl _)) ad l.length c (pairCells l) hx (by rw [pairCells_length]) (fun j u hj => cellB hB (pairs_cells hl rfl j u hj)) (fun u hu => pairCells_one l u hu) (by unfold maxLen; omega) (by omega) hsz ?_
    intro v' w' hown hgrow _
    refine h v' w' ⟨by simpa using hown⟩ (hB.grown hgrow hsz (fun k e => ?_))
    simp only [Value.ownBlock, Option.some.injEq] at e
    omega
theorem eql_nilQ (a : Option Addr) (l c : Nat) (w : World) : Sem.run Try.prog (binOp .eql 22 (.slice a l c) (.slice none 0 0)) w = .ok (.bool a.isNone) w := by
  have h := run_equal_slice_nil (P := Try.prog) w 22 36 a l c Try.underlying22
  simp [binOp, h]
set_option maxHeartbeats 1000000 in
set_option maxRecDepth 100000 in
theorem cloneQ_any (l : List (Int × Int)) (A : Option Addr) (c : Nat) (w : World) (hl : PairsI w A l) (hlc : l.length ≤ c) (h60 : l.length ≤ 60) (hA : A = none → c = 0) :
    Calls Try.prog 54 #[.slice A l.length c] w fun e w' => ∃ v, e = .returned v ∧ OwnQ w' w.heap.size v l ∧ Below w.heap.size w w' := by
  cases A with
  | none =>
    obtain rfl := hA rfl
    obtain rfl : l = [] := List.length_eq_zero_iff.1 (by omega)
    have heq := eql_nilQ none 0 0
    go_enter Try.func54, Try.ntmps54
    go_wp2
    go_ret
    exact ⟨_, rfl, ⟨World.ownsRow_nil _ _ _ _⟩, Below.refl _ _⟩
  | some ad =>
    have heq := eql_nilQ (some ad) l.length c
    go_enter Try.func54, Try.ntmps54
    go_wp2_with (at_builtin; refine wpList_copyQ rfl _ _ rfl (some ad) l c hl hlc h60 (fun e => by cases e) rfl rfl ?_)
    intro v1 w1 hO1 B1
    obtain ⟨A1, c1, rfl, hI1, hc1⟩ := ownQ_pairs hO1 (by omega)
    go_wp2
    go_ret
    exact ⟨_, rfl, hO1, B1⟩
/-- The first place of a number. -/
def idxI (x : Int) : List Int → Nat
  | [] => 0
  | y :: l => if y = x then 0 else idxI x l + 1
theorem idxI_le (x : Int) : ∀ l, idxI x l ≤ l.length
  | [] => Nat.le_refl _
  | y :: l => by
    rw [idxI]
    split
    · exact Nat.zero_le _
    · have := idxI_le x l
      simp; omega
theorem idxI_eq (x : Int) : ∀ (l : List Int) (k : Nat), k < l.length → l.getD k 0 = x → (∀ j, j < k → l.getD j 0 ≠ x) → idxI x l = k
  | [], k, h, _, _ => by simp at h
  | y :: l, 0, _, e, _ => by simp at e; rw [idxI, if_pos e]
  | y :: l, k + 1, h, e, hn => by
    have h0 := hn 0 (by omega)
    simp at h0
    rw [idxI, if_neg h0, idxI_eq x l k (by simpa using h) (by simpa using e) (fun j hj => by simpa using hn (j + 1) (by omega))]
theorem idxI_none (x : Int) : ∀ (l : List Int), (∀ j, j < l.length → l.getD j 0 ≠ x) → idxI x l = l.length
  | [], _ => rfl
  | y :: l, hn => by
    have h0 := hn 0 (by simp)
    simp at h0
    rw [idxI, if_neg h0, idxI_none x l (fun j hj => by simpa using hn (j + 1) (by simpa using hj))]
    rfl
/-- What slices.Index returns. -/
def indexI (x : Int) (l : List Int) : Int := if idxI x l < l.length then (idxI x l : Int) else -1
set_option maxHeartbeats 1000000 in
theorem index_int (x : Int) (l : List Int) (A : Option Addr) (c : Nat) (w : World) (hl : IntsAt w A l) :
    Calls Try.prog 66 #[.slice A l.length c, .int .i64 x] w fun e w' => e = .returned (.int .i64 (indexI x l)) ∧ w' = w := by
  have hlen := hl.len
  go_enter Try.func66, Try.ntmps66
  go_wp2
  go_loop [8] (fun iv => ∃ k : Nat, k ≤ l.length ∧ iv = .int .i64 k ∧ Off (∀ j, j < k → l.getD j 0 ≠ x)) (fun iv => l.length - (intOf iv).toNat)
  case atStart => exact ⟨0, by omega, rfl, ⟨fun j hj => by omega⟩⟩
  case round =>
    obtain ⟨k, hk, rfl, hno⟩ := hrel
    by_cases hlt : k < l.length
    · obtain ⟨ad, rfl, x0⟩ := hl.cell k hlt
      have HT : Off (l.getD k 0 = x → indexI x l = (k : Int)) := ⟨fun e => by
        rw [indexI, idxI_eq x l k hlt e hno.out, if_pos hlt]⟩
      have HN : Off (l.getD k 0 ≠ x → ∀ j, j < k + 1 → l.getD j 0 ≠ x) := ⟨fun h j hj => by
        by_cases e : j = k
        · rw [e]; exact h
        · exact hno.out j (by omega)⟩
      obtain ⟨y, hy⟩ : ∃ y, y = l.getD k 0 := ⟨_, rfl⟩
      rw [← hy] at x0 HT HN
      clear hy hl hno
      by_cases hxy : x = y
      · have HV := Off.mk (HT.out hxy.symm)
        subst hxy
        clear HT HN
        go_wp2
        go_ret
        exact ⟨by rw [HV.out]; rfl, rfl⟩
      · have HV := Off.mk (HN.out (fun e => hxy e.symm))
        have hb : (x == y) = false := beq_eq_false_iff_ne.2 hxy
        clear HT HN
        go_wp2
        go_round
        case rel => exact ⟨k + 1, by omega, by go_num, HV⟩
        case measure => simp only [intOf]; omega
    · obtain rfl : k = l.length := by omega
      have HV : Off (indexI x l = -1) := ⟨by rw [indexI, idxI_none x l hno.out, if_neg (by omega)]⟩
      go_wp2
      go_ret
      exact ⟨by rw [HV.out]; rfl, rfl⟩
def roundB (l : List Int) : Bool := decide (3 ≤ l.length ∧ l.length ≤ 12) && l.all fun x => decide (1 ≤ x ∧ x ≤ 12)
theorem roundB_iff {l : List Int} : roundB l = true ↔ (3 ≤ l.length ∧ l.length ≤ 12) ∧ ∀ j, j < l.length → 1 ≤ l.getD j 0 ∧ l.getD j 0 ≤ 12 := by
  rw [roundB, Bool.and_eq_true, decide_eq_true_iff, List.all_eq_true]
  refine and_congr Iff.rfl ⟨fun h j hj => ?_, fun h x hx => ?_⟩
  · rw [getD_get hj]
    exact of_decide_eq_true (h _ (List.getElem_mem hj))
  · obtain ⟨j, hj, rfl⟩ := List.getElem_of_mem hx
    have := h j hj
    rw [getD_get hj] at this
    exact decide_eq_true this
set_option maxHeartbeats 1000000 in
theorem isRound_any (l : List Int) (A : Option Addr) (c : Nat) (v : Bool) (hv : roundB l = v) (w : World) (hl : IntsAt w A l) :
    Calls Try.prog 63 #[.slice A l.length c] w fun e w' => e = .returned (.bool v) ∧ w' = w := by
  have hlen := hl.len
  by_cases h3 : 3 ≤ l.length
  · by_cases h12 : l.length ≤ 12
    · obtain ⟨m, hm⟩ : ∃ m, l.length = m + 1 := ⟨l.length - 1, by omega⟩
      have CMin := Off.mk (min_any l A c m w hl hm)
      have CMax := Off.mk (max_any l A c m w hl hm)
      have hmin : v = (decide (1 ≤ minTo l m) && decide (maxTo l m ≤ 12)) := by
        rw [← hv, Bool.eq_iff_iff, roundB_iff, Bool.and_eq_true, decide_eq_true_iff, decide_eq_true_iff]
        constructor
        · rintro ⟨_, h⟩
          obtain ⟨j, hj, e⟩ := minTo_mem l m
          obtain ⟨i, hi, e'⟩ := maxTo_mem l m
          have h1 := h j (by omega)
          have h2 := h i (by omega)
          omega
        · rintro ⟨h1, h2⟩
          refine ⟨⟨h3, h12⟩, fun j hj => ?_⟩
          have a := minTo_le l m j (by omega)
          have b := le_maxTo l m j (by omega)
          omega
      obtain ⟨a, ha⟩ : ∃ a, a = minTo l m := ⟨_, rfl⟩
      obtain ⟨b, hb⟩ : ∃ b, b = maxTo l m := ⟨_, rfl⟩
      rw [← ha] at CMin hmin
      rw [← hb] at CMax hmin
      have HL := Off.mk hm
      clear hv hl ha hb hm
      have g3 : (3 : Int) ≤ (l.length : Int) := by omega
      have g12 : (l.length : Int) ≤ 12 := by omega
      by_cases h1 : 1 ≤ a
      · have HV : Off (v = decide (b ≤ 12)) := ⟨by rw [hmin, decide_eq_true h1, Bool.true_and]⟩
        clear hmin
        go_enter Try.func63, Try.ntmps63
        go_wp2_with (first
          | (go_at_call 82; refine CMin.out.mono ?_; rintro e w1 ⟨rfl, hw⟩; subst w1)
          | (go_at_call 68; refine CMax.out.mono ?_; rintro e w1 ⟨rfl, hw⟩; subst w1))
        go_ret
        exact ⟨ret_bool (by rw [HV.out]), rfl⟩
      · have HV : Off (v = false) := ⟨by rw [hmin, decide_eq_false h1, Bool.false_and]⟩
        clear hmin
        go_enter Try.func63, Try.ntmps63
        go_wp2_with (first
          | (go_at_call 82; refine CMin.out.mono ?_; rintro e w1 ⟨rfl, hw⟩; subst w1))
        go_ret
        exact ⟨ret_bool (by rw [HV.out]), rfl⟩
    · have HV : Off (v = false) := ⟨by rw [← hv, roundB, decide_eq_false (by omega), Bool.false_and]⟩
      clear hv hl
      go_enter Try.func63, Try.ntmps63
      go_wp2
      go_ret
      exact ⟨ret_bool (by rw [HV.out]), rfl⟩
  · have HV : Off (v = false) := ⟨by rw [← hv, roundB, decide_eq_false (by omega), Bool.false_and]⟩
    clear hv hl
    go_enter Try.func63, Try.ntmps63
    go_wp2
    go_ret
    exact ⟨ret_bool (by rw [HV.out]), rfl⟩
theorem insertion_nil (P : Nat) (w : World) : Calls Try.prog 95 #[.slice none 0 0, .int .i64 0, .int .i64 0, byFn P] w fun e w' => e = .returned (.tuple #[]) ∧ w' = w := by
  go_enter Try.func95, Try.ntmps95
  go_wp2
  refine wp_loop_rounds 1 ?_
  rw [rounds_succ]
  go_wp2
  go_end0
  exact ⟨rfl, rfl⟩
theorem pdq_nil (P : Nat) (lim : Int) (w : World) : Calls Try.prog 90 #[.slice none 0 0, .int .i64 0, .int .i64 0, .int .i64 lim, byFn P] w fun e w' => e = .returned (.tuple #[]) ∧ w' = w := by
  go_enter Try.func90, Try.ntmps90
  go_wp2
  refine wp_loop_rounds 1 ?_
  rw [rounds_succ]
  go_wp2_with (go_at_call 95; refine (insertion_nil P _).mono ?_; rintro e w1 ⟨rfl, hw⟩; subst w1)
  exact bodyPost_ret (v := .tuple #[]) (by simp [results, Try.results90, go_sem]) rfl ⟨rfl, rfl⟩
theorem sortFunc_nil (P : Nat) (w : World) : Calls Try.prog 79 #[.slice none 0 0, byFn P] w fun e w' => e = .returned (.tuple #[]) ∧ w' = w := by
  have CL := Off.mk (fun W => len_any 0 (by omega) W)
  go_enter Try.func79, Try.ntmps79
  go_wp2_with (first
    | (go_at_call 91; refine (CL.out _).mono ?_; rintro e w1 ⟨⟨k, rfl⟩, hw⟩; subst w1)
    | (go_at_call 90; refine (pdq_nil P _ _).mono ?_; rintro e w1 ⟨rfl, hw⟩; subst w1))
  go_end0
  exact ⟨rfl, rfl⟩
theorem sorted_nil (w : World) : Calls Try.prog 56 #[.slice none 0 0, .func (.func 57) #[] #[]] w fun e w' => e = .returned (.slice none 0 0) ∧ Below w.heap.size w w' := by
  have HB : Off (Below w.heap.size w (w.alloc (.cells #[.func (.func 57) #[] #[]] 73))) := ⟨(Below.refl _ _).alloc (Nat.le_refl _) _⟩
  go_enter Try.func56, Try.ntmps56
  go_wp2_with (go_at_call 79; refine (sortFunc_nil _ _).mono ?_; rintro e w1 ⟨rfl, hw⟩; subst w1)
  go_ret
  exact ⟨rfl, HB.out⟩
end Go.Proofs.Ytddcdopimpfhcaa
