/- Contract: the specification's weights. -/
import Derived.Test.YtdbleghnblohgaaWt
namespace Go.Proofs.Ytdbleghnblohgaa
open Go.RowKit Go.Shelf

/-- What a search for weights hands back. -/
def RPost (r : Int × List Int) (n base : Nat) (w : World) (e : Ending) (w' : World) : Prop :=
  ∃ v, e = .returned (.tuple #[v, .int .i64 r.1]) ∧ (0 < r.1 → ∃ A c, v = .slice A n c ∧ IntsAt w' A r.2 ∧ r.2.length = n ∧ ∀ ad, A = some ad → base ≤ ad.block) ∧ Below w.heap.size w w'

/-- One more number behind a list, in new memory: the list has no room. -/
theorem wpList_snoc {w : World} {ops : Array Oper} {rest : List Oper} {o : Oper} {a : Act} {Q : Exit → Act → World → Prop} (hgd : o.guard = none) (s x : Operand)
    (ho : o.op = .call { callee := .builtin .append, args := #[s, x], argTypes := #[22, 22] }) (B : Option Addr) (now : List Int) (y : Int) (hN : IntsAt w B now) (hB : B = none → now = []) (hl : now.length ≤ 100)
    (hs : a.eval s = .slice B now.length now.length) (hx : a.eval x = .slice (some ⟨w.heap.size, 0, none⟩) 1 1)
    (h : ∀ v' w', Own w' w.heap.size v' (now ++ [y]) → Below w.heap.size w w' → wpList Try.prog ops Q rest (a.put o.dst v') w') : wpList Try.prog ops Q (o :: rest) a (w.alloc (.cells #[.int .i64 y] 3)) := by
  obtain ⟨i0, hi, hz0, hz1, hz2⟩ := info_parts info3
  have hBl : Below w.heap.size w (w.alloc (.cells #[.int .i64 y] 3)) := (Below.refl _ _).alloc (Nat.le_refl _) _
  refine wpList_append_grows _ hgd s x 22 ho 3 i0 (.int .i64 0) 1 8 Try.underlying22 hi hz0 hz1 hz2 rfl (by decide) B now.length now.length (nums now) hs ?e1 ?e2 ?e3 ⟨w.heap.size, 0, none⟩ 1 1 [.int .i64 y] hx rfl ?e4 ?e5 ?e6 ?e7 ?e8 ?_
  case e1 => intro e; rw [hB e]; exact ⟨rfl, rfl⟩
  case e2 => simp [nums]
  case e3 =>
    intro b hbb j u hj
    have hjl : j < now.length := by
      have := (List.getElem?_eq_some_iff.1 hj).1
      simpa [nums] using this
    obtain ⟨ad', e, hc⟩ := (hN.below hBl).cell j hjl
    rw [hbb] at e
    cases e
    rw [hc]
    simp only [nums, List.getElem?_map, List.getElem?_eq_getElem hjl, Option.map_some, Option.some.injEq] at hj
    rw [← hj, getD_get hjl]
  case e4 =>
    intro j u hj
    match j, hj with
    | 0, hj =>
      simp at hj
      subst hj
      have e : (⟨w.heap.size, 0, none⟩ : Addr).add 0 = ⟨w.heap.size, 0, none⟩ := rfl
      rw [e]
      go_simp
  case e5 => intro u hu; simp at hu; subst hu; rfl
  case e6 => omega
  case e7 => unfold maxLen; omega
  case e8 => omega
  intro v' w' hown hgrow
  have hsz := hBl.size
  exact h v' w' (own_mono ⟨by simpa [nums] using hown⟩ hsz) (hBl.grown hgrow hsz (fun k e => by cases e))

set_option maxHeartbeats 4000000 in
theorem rweights (n : Nat) (l : List Int) (A : Option Addr) (c : Nat) (hr : isRule n l = true) (hlc : l.length ≤ c) (base d : Nat) : ∀ (now : List Int) (left : Nat) (B : Option Addr) (cb : Nat) (w : World), now.length + d = n → LightTo now now.length → left ≤ 45 →
    IntsAt w A l → IntsAt w B now → (B = none → cb = 0 ∧ now = []) → now.length ≤ cb → base ≤ w.heap.size → (∀ ad, B = some ad → base ≤ ad.block) →
    Calls Try.prog 58 #[.int .i64 n, .slice A l.length c, .slice B now.length cb, .int .i64 (left : Int)] w fun e w' => RPost (wR (ruleB l) n d now left) n base w e w' := by
  obtain ⟨h1, h5, _, _, _⟩ := rule_bounds hr
  obtain ⟨i0, hi, hz0, hz1, hz2⟩ := info_parts info3
  induction d with
  | zero =>
    intro now left B cb w hd hlt hleft hI hN hB hcb hbase hBb
    obtain rfl : now.length = n := by omega
    by_cases hl0 : 0 < left
    · have HW : Off (wR (ruleB l) now.length 0 now left = (0, [])) := ⟨by simp only [wR, hl0, if_true]⟩
      go_enter Try.func58, Try.ntmps58
      go_wp2
      go_ret2
      exact ⟨_, by rw [HW.out]; rfl, fun h => by rw [HW.out] at h; exact absurd h (by decide), Below.refl _ _⟩
    · obtain rfl : left = 0 := by omega
      have HW : Off (wR (ruleB l) now.length 0 now 0 = (fitsI (ruleB l) now.length now, now)) := ⟨by simp only [wR, Nat.lt_irrefl, if_false]⟩
      have hF := rfits now.length l now A B c cb w hI hlc hN hr rfl hlt
      obtain ⟨q, hq⟩ : ∃ q, q = fitsI (ruleB l) now.length now := ⟨_, rfl⟩
      rw [← hq] at hF HW
      clear hq hl0
      by_cases hq0 : q = 0
      · subst hq0
        go_enter Try.func58, Try.ntmps58
        go_wp2_with fail
        refine hF.mono ?_
        rintro e w1 ⟨rfl, hb1⟩
        go_wp2
        go_ret2
        exact ⟨_, by rw [HW.out]; rfl, fun h => by rw [HW.out] at h; exact absurd h (by simp), hb1⟩
      · have hq0' : (q == 0) = false := beq_eq_false_iff_ne.2 hq0
        clear hq0
        go_enter Try.func58, Try.ntmps58
        go_wp2_with fail
        refine hF.mono ?_
        rintro e w1 ⟨rfl, hb1⟩
        go_wp2
        go_ret2
        exact ⟨_, by rw [HW.out]; rfl, fun _ => ⟨B, cb, rfl, by rw [HW.out]; exact hN.below hb1, by rw [HW.out], hBb⟩, hb1⟩
  | succ d ih =>
    intro now left B cb w hd hlt hleft hI hN hB hcb hbase hBb
    rcases B with _ | bd
    · obtain ⟨rfl, rfl⟩ := hB rfl
      obtain ⟨F, hF⟩ : ∃ F : Nat → Int × List Int, F = fun x => if 9 * d < left - x then (0, []) else wR (ruleB l) n d (([] : List Int) ++ [(x : Int)]) (left - x) := ⟨_, rfl⟩
      have HW : Off (wR (ruleB l) n (d + 1) ([] : List Int) left = wTry F (min left 9 + 1)) := ⟨by rw [hF]; rfl⟩
      have HF : Off (∀ x, F x = if 9 * d < left - x then (0, []) else wR (ruleB l) n d (([] : List Int) ++ [(x : Int)]) (left - x)) := ⟨fun x => by rw [hF]⟩
      have HNN : Off (∀ k, 0 ≤ (wTry F k).1) := ⟨fun k => wTry_nonneg (fun x => by rw [hF]; simp only; split; exact Int.le_refl _; exact wR_nonneg _ _ _ _ _) k⟩
      have hne : ((0 : Int) == (n : Int)) = false := by rw [beq_eq_false_iff_ne]; simp at hd; omega
      have hdi : (n : Int) - 1 = (d : Int) := by simp at hd; omega
      have HI := Off.mk hI
      have HNW := Off.mk hN
      have HLT := Off.mk hlt
      have ih := Off.mk ih
      have HD := Off.mk hd
      have HB := Off.mk hB
      have h9d : 9 * (d : Int) < 100 := by omega
      rw [HW.out]
      clear hF hI hN hlt HW hd hB
      go_enter Try.func58, Try.ntmps58
      go_wp2
      go_loopw [11] (fun xv wr => ∃ x : Nat, x ≤ min left 9 + 1 ∧ xv = .int .i64 (x : Int) ∧ Below w.heap.size w wr ∧ Off ((wTry F x).1 ≤ 0)) (fun xv _ => min left 9 + 1 - (intOf xv).toNat)
      case atStart => exact ⟨0, by omega, rfl, Below.refl _ _, ⟨by simp [wTry]⟩⟩
      case round =>
        obtain ⟨x, hx, rfl, hb, hno⟩ := hrel
        obtain ⟨wo, rfl⟩ : ∃ wo : World, wo = wr := ⟨_, rfl⟩
        by_cases hxl : x < min left 9 + 1
        · have hx9 : x ≤ 9 := by omega
          have hxle : x ≤ left := by omega
          have hS : Off (wTry F (x + 1) = F x) := ⟨wTry_go (by have := hno.out; omega)⟩
          have HSt : Off (0 < (F x).1 → wTry F (min left 9 + 1) = F x) := ⟨fun h => by
            have h1 : 0 < (wTry F (x + 1)).1 := by rw [hS.out]; exact h
            rw [wTry_stop (by omega) h1, hS.out]⟩
          by_cases h9 : 9 * d < left - x
          · have hFx : Off ((F x).1 = 0) := ⟨by rw [HF.out, if_pos h9]⟩
            have h9' : 9 * (d : Int) < (left : Int) - (x : Int) := by omega
            clear h9
            go_wp2
            go_roundw
            case rel => exact ⟨x + 1, by omega, by go_num, hb, ⟨by rw [hS.out, hFx.out]; decide⟩⟩
            case measure => simp only [intOf]; omega
          · have hFx : Off (F x = wR (ruleB l) n d (([] : List Int) ++ [(x : Int)]) (left - x)) := ⟨by rw [HF.out, if_neg h9]⟩
            have h9' : ¬ 9 * (d : Int) < (left : Int) - (x : Int) := by omega
            have hlx : (left : Int) - (x : Int) = ((left - x : Nat) : Int) := by omega
            clear h9
            have hNo := HNW.out.below hb
            have hx1 : LightTo (([] : List Int) ++ [(x : Int)]) (([] : List Int) ++ [(x : Int)]).length := fun j hj => by
              simp only [List.length_append, List.length_singleton] at hj
              simp only [List.getD_eq_getElem?_getD, List.getElem?_append]
              split
              · rename_i h
                have := HLT.out j h
                rwa [List.getD_eq_getElem?_getD] at this
              · obtain rfl : j = ([] : List Int).length := by omega
                simp; omega
            obtain ⟨N, hNN⟩ : ∃ N, N = ([] : List Int) ++ [(x : Int)] := ⟨_, rfl⟩
            rw [← hNN] at hFx hx1
            have hNlen : Off (N.length = 1) := ⟨by rw [hNN]; simp⟩
            have hx1 := Off.mk hx1
            have hNN' : N = [(x : Int)] := hNN
            clear hNN
            go_wp2_with (at_builtin; refine wpList_snoc rfl _ _ rfl none [] (x : Int) hNo (fun _ => rfl) (by simp) rfl rfl ?_)
            intro v3 w3 hO3 hb3
            change Own w3 wo.heap.size v3 [(x : Int)] at hO3
            rw [← hNN'] at hO3
            clear hNN'
            obtain ⟨A3, c3, rfl, hI3, hc3⟩ := own_ints hO3 (by have := hNlen.out; omega)
            have hA3 : ∀ ad, A3 = some ad → base ≤ ad.block := fun ad e => by
              subst e
              have h1 := own_base hO3 (k := ad.block) rfl
              have h2 := hb.size
              omega
            have hs3 : A3 ≠ none := fun e => by
              obtain ⟨ad, e', _⟩ := hI3.cell 0 (by have := hNlen.out; omega)
              rw [e] at e'
              cases e'
            have B3 := belowC hb hb3
            have hcall := ih.out N (left - x) A3 c3 w3 (by have := hNlen.out; have := HD.out; simp at this; omega) hx1.out (by omega) (HI.out.below B3) hI3 (fun e => absurd e hs3) hc3 (by have := B3.size; omega) hA3
            go_wp2_with fail
            refine hcall.mono ?_
            rintro e w4 ⟨v4, rfl, hpos, hb4⟩
            have B4 := belowC B3 hb4
            rw [← hFx.out] at hpos ⊢
            have HP := Off.mk hpos
            clear hcall hpos
            by_cases hq : 0 < (F x).1
            · have HE := Off.mk (HSt.out hq)
              obtain ⟨A5, c5, rfl, hI5, hl5, hA5⟩ := HP.out hq
              obtain ⟨r, hr'⟩ : ∃ r, r = (F x).1 := ⟨_, rfl⟩
              have HRr := Off.mk hr'
              rw [← hr'] at hq ⊢
              clear hr'
              go_wp2
              go_ret2
              exact ⟨_, by rw [HE.out, ← HRr.out]; rfl, fun _ => ⟨A5, c5, rfl, by rw [HE.out]; exact hI5, by rw [HE.out]; exact hl5, hA5⟩, B4⟩
            · have HN2 : Off ((wTry F (x + 1)).1 ≤ 0) := ⟨by rw [hS.out]; omega⟩
              obtain ⟨r, hr'⟩ : ∃ r, r = (F x).1 := ⟨_, rfl⟩
              rw [← hr'] at hq ⊢
              clear hr'
              go_wp2
              go_roundw
              case rel => first | exact ⟨x + 1, by omega, by go_num, B4, HN2⟩ | exact ⟨x + 1, by omega, by go_num, HN2⟩
              case measure => simp only [intOf]; omega
        · obtain rfl : x = min left 9 + 1 := by omega
          have hz : Off ((wTry F (min left 9 + 1)).1 = 0) := ⟨by have := HNN.out (min left 9 + 1); have := hno.out; omega⟩
          by_cases hl9 : left < 9
          · have hmin : min left 9 = left := by omega
            have hz0 := hz
            rw [hmin] at hz ⊢
            clear hmin
            go_wp2
            go_ret2
            exact ⟨_, by rw [hz0.out]; rfl, fun h => by rw [hz0.out] at h; exact absurd h (by decide), hb⟩
          · have hmin : min left 9 = 9 := by omega
            have hz0 := hz
            rw [hmin] at hz ⊢
            clear hmin
            go_wp2
            go_ret2
            exact ⟨_, by rw [hz0.out]; rfl, fun h => by rw [hz0.out] at h; exact absurd h (by decide), hb⟩
    · obtain ⟨F, hF⟩ : ∃ F : Nat → Int × List Int, F = fun x => if 9 * d < left - x then (0, []) else wR (ruleB l) n d (now ++ [(x : Int)]) (left - x) := ⟨_, rfl⟩
      have HW : Off (wR (ruleB l) n (d + 1) now left = wTry F (min left 9 + 1)) := ⟨by rw [hF]; rfl⟩
      have HF : Off (∀ x, F x = if 9 * d < left - x then (0, []) else wR (ruleB l) n d (now ++ [(x : Int)]) (left - x)) := ⟨fun x => by rw [hF]⟩
      have HNN : Off (∀ k, 0 ≤ (wTry F k).1) := ⟨fun k => wTry_nonneg (fun x => by rw [hF]; simp only; split; exact Int.le_refl _; exact wR_nonneg _ _ _ _ _) k⟩
      have hne : ((now.length : Int) == (n : Int)) = false := by rw [beq_eq_false_iff_ne]; omega
      have hdi : (n : Int) - (now.length : Int) - 1 = (d : Int) := by omega
      have HI := Off.mk hI
      have HNW := Off.mk hN
      have HLT := Off.mk hlt
      have ih := Off.mk ih
      have HD := Off.mk hd
      have HB := Off.mk hB
      have h9d : 9 * (d : Int) < 100 := by omega
      have hnl5 : now.length ≤ 5 := by omega
      rw [HW.out]
      clear hF hI hN hlt HW hd hB
      go_enter Try.func58, Try.ntmps58
      go_wp2
      go_loopw [11] (fun xv wr => ∃ x : Nat, x ≤ min left 9 + 1 ∧ xv = .int .i64 (x : Int) ∧ Below w.heap.size w wr ∧ Off ((wTry F x).1 ≤ 0)) (fun xv _ => min left 9 + 1 - (intOf xv).toNat)
      case atStart => exact ⟨0, by omega, rfl, Below.refl _ _, ⟨by simp [wTry]⟩⟩
      case round =>
        obtain ⟨x, hx, rfl, hb, hno⟩ := hrel
        obtain ⟨wo, rfl⟩ : ∃ wo : World, wo = wr := ⟨_, rfl⟩
        by_cases hxl : x < min left 9 + 1
        · have hx9 : x ≤ 9 := by omega
          have hxle : x ≤ left := by omega
          have hS : Off (wTry F (x + 1) = F x) := ⟨wTry_go (by have := hno.out; omega)⟩
          have HSt : Off (0 < (F x).1 → wTry F (min left 9 + 1) = F x) := ⟨fun h => by
            have h1 : 0 < (wTry F (x + 1)).1 := by rw [hS.out]; exact h
            rw [wTry_stop (by omega) h1, hS.out]⟩
          by_cases h9 : 9 * d < left - x
          · have hFx : Off ((F x).1 = 0) := ⟨by rw [HF.out, if_pos h9]⟩
            have h9' : 9 * (d : Int) < (left : Int) - (x : Int) := by omega
            clear h9
            go_wp2
            go_roundw
            case rel => exact ⟨x + 1, by omega, by go_num, hb, ⟨by rw [hS.out, hFx.out]; decide⟩⟩
            case measure => simp only [intOf]; omega
          · have hFx : Off (F x = wR (ruleB l) n d (now ++ [(x : Int)]) (left - x)) := ⟨by rw [HF.out, if_neg h9]⟩
            have h9' : ¬ 9 * (d : Int) < (left : Int) - (x : Int) := by omega
            have hlx : (left : Int) - (x : Int) = ((left - x : Nat) : Int) := by omega
            clear h9
            have hNo := HNW.out.below hb
            have hx1 : LightTo (now ++ [(x : Int)]) (now ++ [(x : Int)]).length := fun j hj => by
              simp only [List.length_append, List.length_singleton] at hj
              simp only [List.getD_eq_getElem?_getD, List.getElem?_append]
              split
              · rename_i h
                have := HLT.out j h
                rwa [List.getD_eq_getElem?_getD] at this
              · obtain rfl : j = now.length := by omega
                simp; omega
            obtain ⟨N, hNN⟩ : ∃ N, N = now ++ [(x : Int)] := ⟨_, rfl⟩
            rw [← hNN] at hFx hx1
            have hNlen : Off (N.length = now.length + 1) := ⟨by rw [hNN]; simp⟩
            have hx1 := Off.mk hx1
            go_wp2_with (at_builtin; refine wpList_snoc rfl _ _ rfl (some bd) now (x : Int) hNo (fun e => by cases e) (by omega) rfl rfl ?_)
            intro v3 w3 hO3 hb3
            rw [← hNN] at hO3
            clear hNN
            obtain ⟨A3, c3, rfl, hI3, hc3⟩ := own_ints hO3 (by have := hNlen.out; omega)
            have hA3 : ∀ ad, A3 = some ad → base ≤ ad.block := fun ad e => by
              subst e
              have h1 := own_base hO3 (k := ad.block) rfl
              have h2 := hb.size
              omega
            have hs3 : A3 ≠ none := fun e => by
              obtain ⟨ad, e', _⟩ := hI3.cell 0 (by have := hNlen.out; omega)
              rw [e] at e'
              cases e'
            have B3 := belowC hb hb3
            have hcall := ih.out N (left - x) A3 c3 w3 (by have := hNlen.out; have := HD.out; omega) hx1.out (by omega) (HI.out.below B3) hI3 (fun e => absurd e hs3) hc3 (by have := B3.size; omega) hA3
            go_wp2_with fail
            refine hcall.mono ?_
            rintro e w4 ⟨v4, rfl, hpos, hb4⟩
            have B4 := belowC B3 hb4
            rw [← hFx.out] at hpos ⊢
            have HP := Off.mk hpos
            clear hcall hpos
            by_cases hq : 0 < (F x).1
            · have HE := Off.mk (HSt.out hq)
              obtain ⟨A5, c5, rfl, hI5, hl5, hA5⟩ := HP.out hq
              obtain ⟨r, hr'⟩ : ∃ r, r = (F x).1 := ⟨_, rfl⟩
              have HRr := Off.mk hr'
              rw [← hr'] at hq ⊢
              clear hr'
              go_wp2
              go_ret2
              exact ⟨_, by rw [HE.out, ← HRr.out]; rfl, fun _ => ⟨A5, c5, rfl, by rw [HE.out]; exact hI5, by rw [HE.out]; exact hl5, hA5⟩, B4⟩
            · have HN2 : Off ((wTry F (x + 1)).1 ≤ 0) := ⟨by rw [hS.out]; omega⟩
              obtain ⟨r, hr'⟩ : ∃ r, r = (F x).1 := ⟨_, rfl⟩
              rw [← hr'] at hq ⊢
              clear hr'
              go_wp2
              go_roundw
              case rel => first | exact ⟨x + 1, by omega, by go_num, B4, HN2⟩ | exact ⟨x + 1, by omega, by go_num, HN2⟩
              case measure => simp only [intOf]; omega
        · obtain rfl : x = min left 9 + 1 := by omega
          have hz : Off ((wTry F (min left 9 + 1)).1 = 0) := ⟨by have := HNN.out (min left 9 + 1); have := hno.out; omega⟩
          by_cases hl9 : left < 9
          · have hmin : min left 9 = left := by omega
            have hz0 := hz
            rw [hmin] at hz ⊢
            clear hmin
            go_wp2
            go_ret2
            exact ⟨_, by rw [hz0.out]; rfl, fun h => by rw [hz0.out] at h; exact absurd h (by decide), hb⟩
          · have hmin : min left 9 = 9 := by omega
            have hz0 := hz
            rw [hmin] at hz ⊢
            clear hmin
            go_wp2
            go_ret2
            exact ⟨_, by rw [hz0.out]; rfl, fun h => by rw [hz0.out] at h; exact absurd h (by decide), hb⟩
end Go.Proofs.Ytdbleghnblohgaa
