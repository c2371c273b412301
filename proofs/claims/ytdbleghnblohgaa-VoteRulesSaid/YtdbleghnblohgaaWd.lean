/- The law VoteRules: its walk. -/
import Derived.Test.YtdbleghnblohgaaVv
import Derived.Test.YtdbleghnblohgaaWc
import Derived.Laws.AppendOwnNone
namespace Go.Proofs.Ytdbleghnblohgaa
open Go.RowKit Go.Shelf

set_option maxHeartbeats 2000000 in
theorem vrules_many (n : Int) (l : List Int) (A : Option Addr) (c : Nat) (s : Int) (w : World) (h60 : 60 < l.length) :
    Calls Try.prog 10 #[.int .i64 n, .slice A l.length c, .int .i64 s] w fun e w' => e = .returned (.bool true) ∧ Below w.heap.size w w' := by
  go_enter Try.func10, Try.ntmps10
  go_wp2_with (go_at_call 16; refine (alive_any _).mono ?_; rintro e w2 ⟨rfl, hb2⟩)
  go_ret
  exact ⟨rfl, hb2⟩
/-- A copy of a list begins in a new, empty row. -/
theorem own_empty (w : World) (b : Nat) (h : b ≤ w.heap.size) : (w.alloc (.cells #[] 3)).ownsRow b 3 1 (.slice (some ⟨w.heap.size, 0, none⟩) 0 0) 0 [] := by
  refine ⟨rfl, .inr ⟨w.heap.size, 0, #[], rfl, h, ?_, Nat.le_refl _, by simp [maxLen], rfl, rfl⟩⟩
  change (w.heap.push (Obj.cells #[] 3))[w.heap.size]? = _
  simp
theorem wpList_copy {w : World} {ops : Array Oper} {rest : List Oper} {o : Oper} {a : Act} {Q : Exit → Act → World → Prop} (hgd : o.guard = none) (s x : Operand)
    (ho : o.op = .call { callee := .builtin .append, args := #[s, x], argTypes := #[22, 22] }) (A : Option Addr) (l : List Int) (c : Nat) (hl : IntsAt w A l) (hlc : l.length ≤ c) (h60 : l.length ≤ 60) (hA : A = none → c = 0)
    (hs : a.eval s = .slice (some ⟨w.heap.size, 0, none⟩) 0 0) (hx : a.eval x = .slice A l.length c)
    (h : ∀ v' w', Own w' w.heap.size v' l → Below w.heap.size w w' → wpList Try.prog ops Q rest (a.put o.dst v') w') : wpList Try.prog ops Q (o :: rest) a (w.alloc (.cells #[] 3)) := by
  obtain ⟨i0, hi, hz0, hz1, hz2⟩ := info_parts info3
  have hB : Below w.heap.size w (w.alloc (.cells #[] 3)) := (Below.refl _ _).alloc (Nat.le_refl _) _
  have hsz := hB.size
  cases A with
  | none =>
    obtain rfl := hA rfl
    obtain rfl : l = [] := List.length_eq_zero_iff.1 (by omega)
    exact wpList_append_own_none hgd s x 22 ho w.heap.size 3 i0 1 Try.underlying22 hi _ 0 [] hs (own_empty w _ (Nat.le_refl _)) hx (h _ _ ⟨own_empty w _ (Nat.le_refl _)⟩ hB)
  | some ad =>
    refine wpList_append_own _ hgd s x 22 ho w.heap.size 3 i0 (.int .i64 0) 1 8 Try.underlying22 hi hz0 hz1 hz2 rfl (by decide) _ 0 [] hs (own_empty _ _ (Nat.le_refl _)) ad l.length c (nums l) hx ?c1 ?c2 ?c3 ?c4 ?c5 ?c6 ?_
    case c1 => simp [nums]
    case c2 =>
      intro j u hj
      have hjl : j < l.length := by
        have := (List.getElem?_eq_some_iff.1 hj).1
        simpa [nums] using this
      obtain ⟨ad', e, hc⟩ := hl.cell j hjl
      cases e
      rw [cellB hB hc]
      simp only [nums, List.getElem?_map, List.getElem?_eq_getElem hjl, Option.map_some, Option.some.injEq] at hj
      rw [← hj, getD_get hjl]
    case c3 =>
      intro u hu
      simp only [nums, List.mem_map] at hu
      obtain ⟨y, _, rfl⟩ := hu
      rfl
    case c4 => unfold maxLen; omega
    case c5 => omega
    case c6 => exact hsz
    intro v' w' hown hgrow _
    refine h v' w' ⟨by simpa using hown⟩ (hB.grown hgrow hsz (fun k e => ?_))
    simp only [Value.ownBlock, Option.some.injEq] at e
    omega

set_option maxHeartbeats 4000000 in
theorem vrules_few (n : Int) (l : List Int) (A : Option Addr) (c : Nat) (s : Int) (w : World) (hl : IntsAt w A l) (hlc : l.length ≤ c) (h60 : l.length ≤ 60) (hA : A = none → c = 0) :
    Calls Try.prog 10 #[.int .i64 n, .slice A l.length c, .int .i64 s] w fun e w' => e = .returned (.bool true) ∧ Below w.heap.size w w' := by
  go_enter Try.func10, Try.ntmps10
  go_wp2_with (at_builtin; refine wpList_copy rfl _ _ rfl A l c hl hlc h60 hA rfl rfl ?_)
  intro v1 w1 hO1 B1
  obtain ⟨A1, c1, rfl, hI1, hc1⟩ := own_ints hO1 (by omega)
  clear hO1
  have hl1 := hl.below B1
  by_cases hyes : isRule n l = true ∧ 0 ≤ s ∧ s < 2 ^ n.toNat
  · obtain ⟨hr, h0, h1⟩ := hyes
    obtain ⟨⟨m, rfl, hm1, hm⟩, _⟩ := isRule_range hr
    rw [Int.toNat_natCast] at h1
    have hol : (otherOf m l).length ≤ 256 := by
      have h1 := leastTo_length (otherB l m) m (2 ^ m)
      have h2 := pow_256 (show m ≤ 8 by omega)
      unfold otherOf
      omega
    go_wp2_with fail
    refine (Rules_yes m s l A1 c1 _ hI1 hc1 hr h0 h1).mono ?_
    rintro e w2 ⟨rfl, hb2⟩
    have B2 := belowC B1 hb2
    go_wp2_with fail
    refine (rRules_yes m s l A c _ (hl.below B2) hlc hr h0 h1).mono ?_
    rintro e w3 ⟨rfl, hb3⟩
    have B3 := belowC B2 hb3
    have hI3 := (hI1.below hb2).below hb3
    go_wp2_with fail
    refine (Other_yes m l A1 c1 _ hI3 hc1 hr).mono ?_
    rintro e w4 ⟨v4, rfl, hO4, hb4⟩
    change Own w4 w3.heap.size v4 (otherOf m l) at hO4
    have B4 := belowC B3 hb4
    obtain ⟨A4, c4, rfl, hI4, _⟩ := own_ints hO4 (by omega)
    clear hO4
    go_wp2_with fail
    refine (rOther_yes m l A c _ (hl.below B4) hlc hr).mono ?_
    rintro e w5 ⟨v5, rfl, hO5, hb5⟩
    have B5 := belowC B4 hb5
    obtain ⟨A5, c5, rfl, hI5, _⟩ := own_ints hO5 (by omega)
    clear hO5
    go_wp2_with fail
    refine (same_any (otherOf m l) (otherOf m l) A4 A5 c4 c5 _ (hI4.below hb5) hI5).mono ?_
    rw [decide_eq_true rfl]
    rintro e w6 ⟨rfl, hb6⟩
    have B6 := belowC B5 hb6
    go_wp2_with fail
    refine (same_any l l A1 A c1 c _ (((hI3.below hb4).below hb5).below hb6) (hl.below B6)).mono ?_
    rw [decide_eq_true rfl]
    rintro e w7 ⟨rfl, hb7⟩
    have B7 := belowC B6 hb7
    go_wp2_with (go_at_call 16; refine (alive_any _).mono ?_; rintro e w8 ⟨rfl, hb8⟩)
    go_ret
    exact ⟨rfl, belowC B7 hb8⟩
  · go_wp2_with fail
    refine (Rules_no n s l A1 c1 _ hI1 hc1 hyes).mono ?_
    rintro e w2 ⟨rfl, hb2⟩
    have B2 := belowC B1 hb2
    go_wp2_with fail
    refine (rRules_no n s l A c _ (hl.below B2) hlc hyes).mono ?_
    rintro e w3 ⟨rfl, hb3⟩
    have B3 := belowC B2 hb3
    have hI3 := (hI1.below hb2).below hb3
    clear hyes
    cases hr : isRule n l
    · go_wp2_with fail
      refine (Other_no n l A1 c1 _ hI3 hc1 hr).mono ?_
      rintro e w4 ⟨rfl, hb4⟩
      have B4 := belowC B3 hb4
      go_wp2_with fail
      refine (rOther_no n l A c _ (hl.below B4) hlc hr).mono ?_
      rintro e w5 ⟨rfl, hb5⟩
      have B5 := belowC B4 hb5
      go_wp2_with fail
      refine (same_any [] [] none none 0 0 _ ⟨by simp, fun j hj => by simp at hj⟩ ⟨by simp, fun j hj => by simp at hj⟩).mono ?_
      rw [decide_eq_true rfl]
      rintro e w6 ⟨rfl, hb6⟩
      have B6 := belowC B5 hb6
      go_wp2_with fail
      refine (same_any l l A1 A c1 c _ (((hI3.below hb4).below hb5).below hb6) (hl.below B6)).mono ?_
      rw [decide_eq_true rfl]
      rintro e w7 ⟨rfl, hb7⟩
      have B7 := belowC B6 hb7
      go_wp2_with (go_at_call 16; refine (alive_any _).mono ?_; rintro e w8 ⟨rfl, hb8⟩)
      go_ret
      exact ⟨rfl, belowC B7 hb8⟩
    · obtain ⟨⟨m, rfl, hm1, hm⟩, _⟩ := isRule_range hr
      have hol : (otherOf m l).length ≤ 256 := by
        have h1 := leastTo_length (otherB l m) m (2 ^ m)
        have h2 := pow_256 (show m ≤ 8 by omega)
        unfold otherOf
        omega
      go_wp2_with fail
      refine (Other_yes m l A1 c1 _ hI3 hc1 hr).mono ?_
      rintro e w4 ⟨v4, rfl, hO4, hb4⟩
      change Own w4 w3.heap.size v4 (otherOf m l) at hO4
      have B4 := belowC B3 hb4
      obtain ⟨A4, c4, rfl, hI4, _⟩ := own_ints hO4 (by omega)
      clear hO4
      go_wp2_with fail
      refine (rOther_yes m l A c _ (hl.below B4) hlc hr).mono ?_
      rintro e w5 ⟨v5, rfl, hO5, hb5⟩
      have B5 := belowC B4 hb5
      obtain ⟨A5, c5, rfl, hI5, _⟩ := own_ints hO5 (by omega)
      clear hO5
      go_wp2_with fail
      refine (same_any (otherOf m l) (otherOf m l) A4 A5 c4 c5 _ (hI4.below hb5) hI5).mono ?_
      rw [decide_eq_true rfl]
      rintro e w6 ⟨rfl, hb6⟩
      have B6 := belowC B5 hb6
      go_wp2_with fail
      refine (same_any l l A1 A c1 c _ (((hI3.below hb4).below hb5).below hb6) (hl.below B6)).mono ?_
      rw [decide_eq_true rfl]
      rintro e w7 ⟨rfl, hb7⟩
      have B7 := belowC B6 hb7
      go_wp2_with (go_at_call 16; refine (alive_any _).mono ?_; rintro e w8 ⟨rfl, hb8⟩)
      go_ret
      exact ⟨rfl, belowC B7 hb8⟩
end Go.Proofs.Ytdbleghnblohgaa
