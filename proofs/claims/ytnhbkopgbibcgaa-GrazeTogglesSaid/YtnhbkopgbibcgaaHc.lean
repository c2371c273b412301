/- Contracts: the specification's turn, day. -/
import Derived.Test.YtnhbkopgbibcgaaGl
import Derived.Test.YtnhbkopgbibcgaaGm
import Derived.Test.YtnhbkopgbibcgaaHb
namespace Go.Proofs.Ytnhbkopgbibcgaa
open Go.RowKit Go.Shelf

theorem wpList_copy_nil {w : World} {ops : Array Oper} {rest : List Oper} {o : Oper} {a : Act} {Q : Exit → Act → World → Prop} (hgd : o.guard = none) (s x : Operand)
    (ho : o.op = .call { callee := .builtin .append, args := #[s, x], argTypes := #[32, 32] }) (ad : Addr) (l : List Int) (c : Nat) (hl : IntsAt w (some ad) l) (_hlc : l.length ≤ c) (h60 : l.length ≤ 60)
    (hs : a.eval s = .slice none 0 0) (hx : a.eval x = .slice (some ad) l.length c)
    (h : ∀ v' w', Own w' w.heap.size v' l → Below w.heap.size w w' → wpList Try.prog ops Q rest (a.put o.dst v') w') : wpList Try.prog ops Q (o :: rest) a w := by
  obtain ⟨i0, hi, hz0, hz1, hz2⟩ := info_parts info3
  refine wpList_append_own _ hgd s x 32 ho w.heap.size 3 i0 (.int .i64 0) 1 8 Try.underlying32 hi hz0 hz1 hz2 rfl (by decide) _ 0 [] hs (World.ownsRow_nil _ _ _ _) ad l.length c (nums l) hx ?c1 ?c2 ?c3 ?c4 ?c5 ?c6 ?_
  case c1 => simp [nums]
  case c2 =>
    intro j u hj
    have hjl : j < l.length := by
      have := (List.getElem?_eq_some_iff.1 hj).1
      simpa [nums] using this
    obtain ⟨ad', e, hc⟩ := hl.cell j hjl
    cases e
    rw [hc]
    simp only [nums, List.getElem?_map, List.getElem?_eq_getElem hjl, Option.map_some, Option.some.injEq] at hj
    rw [← hj, getD_get hjl]
  case c3 =>
    intro u hu
    simp only [nums, List.mem_map] at hu
    obtain ⟨y, _, rfl⟩ := hu
    rfl
  case c4 => unfold maxLen; omega
  case c5 => omega
  case c6 => exact Nat.le_refl _
  intro v' w' hown hgrow _
  refine h v' w' ⟨by simpa using hown⟩ ((Below.refl _ _).grown hgrow (Nat.le_refl _) (fun k e => ?_))
  simp [Value.ownBlock] at e

set_option maxHeartbeats 2000000 in
theorem rturn_any (l : List Int) (A : Option Addr) (c i : Nat) (j : Int) (w : World) (hl : IntsAt w A l) (hlc : l.length ≤ c) (hi : i < l.length) (hj : 0 ≤ j) (hj6 : j ≤ 100) (hr : 0 ≤ l.getD i 0 ∧ l.getD i 0 ≤ 100) (hl6 : l.length ≤ 60) :
    Calls Try.prog 66 #[.slice A l.length c, .int .i64 (i : Int), .int .i64 j] w fun e w' => ∃ v, e = .returned v ∧ Own w' w.heap.size v (turnS l i j) ∧ Below w.heap.size w w' := by
  obtain ⟨ad, rfl, _⟩ := hl.cell i hi
  have HT : Off (turnS l i j = if nextB l i j then l.set i (l.getD i 0 + 1) else if endB l i j then l.set i (l.getD i 0 - 1) else l) := ⟨rfl⟩
  have C1 : Off (∀ W, Below w.heap.size w W → Calls Try.prog 71 #[.slice (some ad) l.length c, .int .i64 (i : Int), .int .i64 j] W fun e w' => e = .returned (.bool (nextB l i j)) ∧ w' = W) := ⟨fun W hW => rnext_any l _ c i j W (hl.below hW) hi⟩
  have C2 : Off (∀ W, Below w.heap.size w W → Calls Try.prog 61 #[.slice (some ad) l.length c, .int .i64 (i : Int), .int .i64 j] W fun e w' => e = .returned (.bool (endB l i j)) ∧ w' = W) := ⟨fun W hW => rend_any l _ c i j W (hl.below hW) hi hj hj6⟩
  have hi0 : (0 : Int) ≤ (i : Int) := by omega
  have hi1 : (i : Int) < (l.length : Int) := by omega
  go_enter Try.func66, Try.ntmps66
  go_wp2_with (at_builtin; refine wpList_copy_nil rfl _ _ rfl ad l c hl hlc hl6 rfl rfl ?_)
  intro v1 w1 hO1 B1
  obtain ⟨r, c1, rfl, hr1, hR1⟩ := own_row hO1 (by omega)
  have hc := hR1.cell hi
  have hf := hR1.frozen i
  have H := Off.mk hR1
  obtain ⟨x, hx⟩ : ∃ x, x = l.getD i 0 := ⟨_, rfl⟩
  rw [← hx] at hc HT hr
  clear hO1 hR1 hx
  cases hn : nextB l i j
  · rw [hn] at HT C1
    cases he : endB l i j
    · rw [he] at HT C2
      have HT' : Off (turnS l i j = l) := ⟨by rw [HT.out]; rfl⟩
      clear hn he
      go_wp2_with (first
        | (go_at_call 71; refine (C1.out _ B1).mono ?_; rintro e w2 ⟨rfl, hw⟩; subst w2)
        | (go_at_call 61; refine (C2.out _ B1).mono ?_; rintro e w2 ⟨rfl, hw⟩; subst w2))
      go_ret
      exact ⟨_, rfl, by rw [HT'.out]; exact H.out.own_of, B1⟩
    · rw [he] at HT C2
      have HT' : Off (turnS l i j = l.set i (x - 1)) := ⟨by rw [HT.out]; rfl⟩
      clear hn he
      go_wp2_with (first
        | (go_at_call 71; refine (C1.out _ B1).mono ?_; rintro e w2 ⟨rfl, hw⟩; subst w2)
        | (go_at_call 61; refine (C2.out _ B1).mono ?_; rintro e w2 ⟨rfl, hw⟩; subst w2))
      go_ret
      obtain ⟨h1, h2⟩ := H.out.stored i (x - 1)
      exact ⟨_, rfl, by rw [HT'.out]; exact h1.own_of, h2.below B1 B1.size hr1⟩
  · rw [hn] at HT C1
    have HT' : Off (turnS l i j = l.set i (x + 1)) := ⟨by rw [HT.out]; rfl⟩
    clear hn
    go_wp2_with (go_at_call 71; refine (C1.out _ B1).mono ?_; rintro e w2 ⟨rfl, hw⟩; subst w2)
    go_ret
    obtain ⟨h1, h2⟩ := H.out.stored i (x + 1)
    exact ⟨_, rfl, by rw [HT'.out]; exact h1.own_of, h2.below B1 B1.size hr1⟩

/-- All plots of a list are grazed. -/
def dayAll (xs : List (Nat × Nat)) (n : Nat) : List Int := dayOf xs n xs.length
theorem dayOf_app (xs ys : List (Nat × Nat)) (n k : Nat) (hk : k ≤ xs.length) : dayOf (xs ++ ys) n k = dayOf xs n k := by
  induction k with
  | zero => rfl
  | succ k ih =>
    simp only [dayOf]
    rw [ih (by omega), show (xs ++ ys).getD k (0, 0) = xs.getD k (0, 0) by rw [List.getD_eq_getElem?_getD, List.getD_eq_getElem?_getD, List.getElem?_append_left (by omega)]]
theorem dayAll_snoc (xs : List (Nat × Nat)) (x : Nat × Nat) (n : Nat) : dayAll (xs ++ [x]) n = dayRow x (x.1 + 1) (dayAll xs n) := by
  unfold dayAll
  rw [List.length_append]
  show dayRow _ _ (dayOf (xs ++ [x]) n xs.length) = _
  rw [dayOf_app _ _ _ _ (Nat.le_refl _), show (xs ++ [x]).getD xs.length (0, 0) = x by rw [List.getD_eq_getElem?_getD, List.getElem?_append_right (Nat.le_refl _), Nat.sub_self]; rfl]

set_option maxHeartbeats 4000000 in
set_option maxRecDepth 100000 in
theorem rday_any (l : List Int) (A : Option Addr) (c b : Nat) (w : World) (hl : IntsAt w A l) (h6 : l.length ≤ 6) (hb6 : b ≤ 6) :
    Calls Try.prog 59 #[.int .i64 (l.length : Int), .int .i64 (b : Int), .slice A l.length c] w fun e w' => ∃ v, e = .returned v ∧ Own w' w.heap.size v (dayP b l) ∧ Below w.heap.size w w' := by
  have hlen := hl.len
  obtain ⟨i0, hi, hz0, hz1, hz2⟩ := info_parts info3
  go_enter Try.func59, Try.ntmps59
  go_wp2_with (first
    | (at_make; refine wpList_make_full _ rfl _ _ 32 rfl w.heap.size 3 i0 (.int .i64 0) 1 Try.underlying32 hi hz0 hz1 .i64 .i64 l.length l.length l.length rfl rfl rfl rfl (by rw [hz2]; omega) (by unfold maxLen; omega) (by simp) ?_; intro w2 hown2 hg2; rw [made_ints] at hown2))
  have hw2 : Below w.heap.size w w2 := (Below.refl _ _).grown hg2 (Nat.le_refl _) (fun _ e => by cases e)
  have hR2 : RowAt w2 w.heap.size w.heap.size l.length (List.replicate l.length 0) := ⟨by simp, by rw [nums_replicate]; simpa using hown2⟩
  have HW := Off.mk hl
  have HW2 := Off.mk hw2
  have hsz := hw2.size
  have HF : Off (dayP b l = dayAll (rowsTo (fun i j => nextB l i j) b l.length) l.length) := ⟨rfl⟩
  obtain ⟨p, hp⟩ : ∃ p : Nat → Nat → Bool, p = fun (i j : Nat) => nextB l i j := ⟨_, rfl⟩
  have CN : Off (∀ W, Below w.heap.size w W → ∀ i j : Nat, i < l.length → Calls Try.prog 71 #[.slice A l.length c, .int .i64 (i : Int), .int .i64 (j : Int)] W fun e w' => e = .returned (.bool (p i j)) ∧ w' = W) := ⟨fun W hW i j hi => by rw [hp]; exact rnext_any l _ c i j W (hl.below hW) hi⟩
  rw [← hp] at HF
  obtain ⟨n, hn⟩ : ∃ n, n = l.length := ⟨_, rfl⟩
  rw [← hn] at hR2 h6 hlen HF CN ⊢
  obtain ⟨r, hr⟩ : ∃ r, r = w.heap.size := ⟨_, rfl⟩
  have hrw : w.heap.size ≤ r := by omega
  have HR2 : Off (RowAt w2 w.heap.size r n (dayAll (rowsTo p b 0) n)) := ⟨by rw [hr]; exact hR2⟩
  rw [← hr]
  clear hown2 hg2 hp hn hr hR2 hl hw2
  go_wp2
  go_loopw [8] (fun iv wr => ∃ i : Nat, i ≤ n ∧ iv = .int .i64 i ∧ Off (RowAt wr w.heap.size r n (dayAll (rowsTo p b i) n)) ∧ Keeps r w2 wr) (fun iv _ => n - (intOf iv).toNat)
  case atStart => exact ⟨0, by omega, rfl, HR2, Keeps.refl _ _⟩
  case round =>
    obtain ⟨i, hi2, rfl, hR, hK⟩ := hrel
    obtain ⟨wo, rfl⟩ : ∃ wo : World, wo = wr := ⟨_, rfl⟩
    by_cases hin : i < n
    · have hR1 : Off (RowAt wo w.heap.size r n (dayAll (rowsTo p b i ++ rowIn p i 0) n)) := ⟨by rw [show rowIn p i 0 = [] from rfl, List.append_nil]; exact hR.out⟩
      have HE : Off (rowsTo p b (i + 1) = rowsTo p b i ++ rowIn p i b) := ⟨rfl⟩
      clear hR
      go_wp2
      go_loopw [9] (fun jv wr => ∃ j : Nat, j ≤ b ∧ jv = .int .i64 j ∧ Off (RowAt wr w.heap.size r n (dayAll (rowsTo p b i ++ rowIn p i j) n)) ∧ Keeps r w2 wr) (fun jv _ => b - (intOf jv).toNat)
      case atStart => exact ⟨0, by omega, rfl, hR1, hK⟩
      case round =>
        clear hR1 hK
        obtain ⟨j, hj2, rfl, hR, hK⟩ := hrel
        obtain ⟨wq, rfl⟩ : ∃ wo : World, wo = wr := ⟨_, rfl⟩
        by_cases hjb : j < b
        · have hB := hK.below HW2.out hsz hrw
          have CNq := Off.mk (CN.out _ hB i j hin)
          cases hpij : p i j
          · have HS : Off (rowIn p i (j + 1) = rowIn p i j) := ⟨by rw [rowIn, hpij]; simp⟩
            rw [hpij] at CNq
            have hi0 : (0 : Int) ≤ (i : Int) := by omega
            clear hB
            go_wp2_with fail
            go_loopw [10] (fun kv wr => kv = .int .i64 0 ∧ wr = wq) (fun _ _ => 0)
            case atStart => exact ⟨rfl, rfl⟩
            case round =>
              obtain ⟨rfl, rfl⟩ := hrel
              go_wp2_with (go_at_call 71; refine CNq.out.mono ?_; rintro e w1 ⟨rfl, hw⟩; subst w1)
              go_roundw
              case rel => exact ⟨j + 1, by omega, by go_num, by rw [HS.out]; exact hR, hK⟩
              case measure => simp only [intOf]; omega
          · have HS : Off (dayAll (rowsTo p b i ++ rowIn p i (j + 1)) n = dayRow (i, j) (i + 1) (dayAll (rowsTo p b i ++ rowIn p i j) n)) := ⟨by
              rw [rowIn, hpij, if_pos rfl, ← List.append_assoc, dayAll_snoc]⟩
            obtain ⟨o, ho⟩ : ∃ o, o = dayAll (rowsTo p b i ++ rowIn p i j) n := ⟨_, rfl⟩
            rw [← ho] at HS hR
            have hR0 : Off (RowAt wq w.heap.size r n (dayRow (i, j) 0 o)) := hR
            clear hR ho hB CNq
            go_wp2_with fail
            go_loopw [10] (fun kv wr => ∃ k : Nat, k ≤ i + 1 ∧ kv = .int .i64 k ∧ Off (RowAt wr w.heap.size r n (dayRow (i, j) k o)) ∧ Keeps r w2 wr) (fun kv _ => i + 1 - (intOf kv).toNat)
            case atStart => exact ⟨0, by omega, rfl, hR0, hK⟩
            case round =>
              clear hR0 hK
              obtain ⟨k, hk2, rfl, hR, hK⟩ := hrel
              obtain ⟨wz, rfl⟩ : ∃ wo : World, wo = wr := ⟨_, rfl⟩
              by_cases hki : k ≤ i
              · have hB := hK.below HW2.out hsz hrw
                have CNz := Off.mk (CN.out _ hB i j hin)
                rw [hpij] at CNz
                have hc := hR.out.cell (show k < n by omega)
                have hf := hR.out.frozen k
                have HT : Off (dayRow (i, j) (k + 1) o = (dayRow (i, j) k o).set k (max ((dayRow (i, j) k o).getD k 0) ((j : Int) + 1))) := ⟨rfl⟩
                obtain ⟨y, hy⟩ : ∃ y, y = (dayRow (i, j) k o).getD k 0 := ⟨_, rfl⟩
                rw [← hy] at hc HT
                have hi0 : (0 : Int) ≤ (k : Int) := by omega
                have hi1 : (k : Int) < (n : Int) := by omega
                have hi3 : (k : Int) ≤ (i : Int) := by omega
                clear hy hB
                go_wp2_with (go_at_call 71; refine CNz.out.mono ?_; rintro e w1 ⟨rfl, hw⟩; subst w1)
                obtain ⟨hR', hK'⟩ := hR.out.stored k (if y < (j : Int) + 1 then (j : Int) + 1 else y)
                refine ⟨⟨k + 1, by omega, by go_num, ⟨?_⟩, (hK.trans hK')⟩, by simp only [intOf]; omega⟩
                rw [HT.out, show max y ((j : Int) + 1) = if y < (j : Int) + 1 then (j : Int) + 1 else y by split <;> omega]
                exact hR'
              · obtain rfl : k = i + 1 := by omega
                go_wp2
                go_roundw
                case rel => exact ⟨j + 1, by omega, by go_num, by rw [HS.out]; exact hR, hK⟩
                case measure => simp only [intOf]; omega
        · obtain rfl : j = b := by omega
          go_wp2
          go_roundw
          case rel => exact ⟨i + 1, by omega, by go_num, by rw [HE.out]; exact hR, hK⟩
          case measure => simp only [intOf]; omega
    · obtain rfl : i = n := by omega
      go_wp2
      go_ret
      exact ⟨_, rfl, by rw [HF.out]; exact hR.out.own_of, hK.below HW2.out hsz hrw⟩
end Go.Proofs.Ytnhbkopgbibcgaa
