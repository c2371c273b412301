/- Contract: the specification's Weights. -/
import Derived.Test.YtdbleghnblohgaaWx
import Derived.Test.YtdbleghnblohgaaWh
namespace Go.Proofs.Ytdbleghnblohgaa
open Go.RowKit Go.Shelf

set_option maxHeartbeats 1000000 in
theorem rWeights_no (n : Int) (l : List Int) (A : Option Addr) (c : Nat) (w : World) (hl : IntsAt w A l) (hlc : l.length ≤ c) (hr : isRule n l = false) :
    Calls Try.prog 23 #[.int .i64 n, .slice A l.length c] w fun e w' => e = .returned (.tuple #[.agg #[.int .i64 0, .slice none 0 0], .int .i64 2]) ∧ Below w.heap.size w w' := by
  have HB : Off (∀ o, Below w.heap.size w (w.alloc o)) := ⟨fun o => (Below.refl _ _).alloc (Nat.le_refl _) _⟩
  go_enter Try.func23, Try.ntmps23
  go_wp2_with (go_at_call 33; refine (hr ▸ rIsRule n l A c _ (hl.below (HB.out _)) hlc).mono ?_; rintro e w1 ⟨rfl, hb1⟩; obtain ⟨⟨c0, c1⟩, f0, f1⟩ := two_facts ((hb1.block _ (by simp)).trans (block_new w _)))
  refine bodyPost_ret (v := .tuple #[.agg #[.int .i64 0, .slice none 0 0], .int .i64 2]) ?_ rfl ⟨rfl, ?_⟩
  · simp [results, Try.results23, go_sem, c0, c1]
  · have h1 := (HB.out _).trans (hb1.mono (HB.out _).size)
    exact (h1.setCell (by simp) _).setCell (by simp) _

theorem tradeVal_form (p : Int → Bool) (n : Nat) : ∃ x y z u k : Int, tradeVal p n = .tuple #[.agg #[.int .i64 x, .int .i64 y, .int .i64 z, .int .i64 u], .int .i64 k] := by
  unfold tradeVal
  cases tradeOf p n with
  | none => exact ⟨_, _, _, _, _, rfl⟩
  | some t => exact ⟨_, _, _, _, _, rfl⟩
/-- What the specification's Weights hands back. -/
def RW (r : Int × List Int) (n : Nat) (w : World) (e : Ending) (w' : World) : Prop :=
  ((0 < r.1 ∧ ∃ A c, e = .returned (.tuple #[.agg #[.int .i64 r.1, .slice A n c], .int .i64 0]) ∧ IntsAt w' A r.2 ∧ r.2.length = n) ∨ (¬ 0 < r.1 ∧ e = .returned (.tuple #[.agg #[.int .i64 0, .slice none 0 0], .int .i64 10]))) ∧ Below w.heap.size w w'
theorem ints_other {w : World} {A : Option Addr} {l : List Int} (h : IntsAt w A l) (b : Nat) (hA : ∀ ad, A = some ad → b < ad.block) (v0 v1 : Value) : IntsAt ((w.setCell ⟨b, 0, none⟩ v0).setCell ⟨b, 1, none⟩ v1) A l :=
  ⟨h.len, fun j hj => by
    obtain ⟨ad, e, hc⟩ := h.cell j hj
    refine ⟨ad, e, ?_⟩
    have h1 := hA ad e
    have h2 : (ad.add j).block = ad.block := by
      simp only [Addr.add]
      split <;> rfl
    rw [World.cell?_setCell_far _ _ _ _ (by rw [h2]; simp only; omega), World.cell?_setCell_far _ _ _ _ (by rw [h2]; simp only; omega)]
    exact hc⟩

set_option maxHeartbeats 4000000 in
theorem rWeights_yes (n : Nat) (l : List Int) (A : Option Addr) (cp : Nat) (w : World) (hl : IntsAt w A l) (hlc : l.length ≤ cp) (hr : isRule n l = true) :
    Calls Try.prog 23 #[.int .i64 n, .slice A l.length cp] w fun e w' => RW (searchTo (ruleB l) n (9 * n)) n w e w' := by
  obtain ⟨h1, h5, hmono, hz, hf⟩ := rule_bounds hr
  have HB : Off (∀ o, Below w.heap.size w (w.alloc o)) := ⟨fun o => (Below.refl _ _).alloc (Nat.le_refl _) _⟩
  have he := either h1 h5 hmono hz hf
  obtain ⟨x, y, z, u, k, hv⟩ := tradeVal_form (ruleB l) n
  have hk : (k = 0 ∧ ¬ 0 < (searchTo (ruleB l) n (9 * n)).1) ∨ k = 10 := by
    unfold tradeVal at hv
    cases e : tradeOf (ruleB l) n with
    | none =>
      rw [e] at hv
      simp only [Value.tuple.injEq, Array.mk.injEq, List.cons.injEq, Value.int.injEq] at hv
      exact Or.inr hv.2.1.2.symm
    | some t =>
      rw [e] at hv
      simp only [Value.tuple.injEq, Array.mk.injEq, List.cons.injEq, Value.int.injEq] at hv
      refine Or.inl ⟨hv.2.1.2.symm, fun h => ?_⟩
      rw [he.1 h] at e
      cases e
  have HTr : Off (∀ W, Below w.heap.size w W → Calls Try.prog 30 #[.int .i64 n, .slice A l.length cp] W fun e w' => e = .returned (.tuple #[.agg #[.int .i64 x, .int .i64 y, .int .i64 z, .int .i64 u], .int .i64 k]) ∧ Below W.heap.size W w') :=
    ⟨fun W hW => hv ▸ rTrade_yes n l A cp W (hl.below hW) hlc hr⟩
  have HLike := Off.mk (fun m => search_like (ruleB l) n h1 m)
  have HWR : Off (∀ (left : Nat) W, left ≤ 45 → Below w.heap.size w W → w.heap.size < W.heap.size → Calls Try.prog 58 #[.int .i64 n, .slice A l.length cp, .slice none 0 0, .int .i64 (left : Int)] W fun e w' => RPost (wR (ruleB l) n n [] left) n (w.heap.size + 1) W e w') :=
    ⟨fun left W hle hW hlt => rweights n l A cp hr hlc (w.heap.size + 1) n [] left none 0 W (by simp) (fun j hj => by simp at hj) hle (hl.below hW) ⟨by simp, fun j hj => by simp at hj⟩ (fun _ => ⟨rfl, rfl⟩) (by simp) hlt (fun ad e => by cases e)⟩
  have HRI := Off.mk (rIsRule n l A cp (w.alloc (.cells #[.int .i64 0, .slice none 0 0] 24)) (hl.below (HB.out _)) hlc)
  rw [hr] at HRI
  obtain ⟨G, hG⟩ : ∃ G : Nat → Int × List Int, G = rSearch (ruleB l) n := ⟨_, rfl⟩
  have HG : Off (∀ m, G (m + 1) = if 0 < (G m).1 then G m else wR (ruleB l) n n [] (m + 1)) := ⟨fun m => by rw [hG]; rfl⟩
  have HG0 : Off (G 0 = (0, [])) := ⟨by rw [hG]; rfl⟩
  have HSt : Off (∀ m, m ≤ 9 * n → 0 < (G m).1 → G (9 * n) = G m) := ⟨fun m hm h => by rw [hG] at h ⊢; exact wTry_stop hm h⟩
  rw [← hG] at HLike
  have HL9 := Off.mk (HLike.out (9 * n))
  obtain ⟨S, hS⟩ : ∃ S, S = searchTo (ruleB l) n (9 * n) := ⟨_, rfl⟩
  rw [← hS] at hk HL9 ⊢
  clear hG hS HLike he hv hr hl hmono hz hf
  go_enter Try.func23, Try.ntmps23
  go_wp2_with fail
  refine HRI.out.mono ?_
  rintro e w1 ⟨rfl, hb1⟩
  have B1 := belowC (HB.out _) hb1
  have hx1 := (hb1.block _ (by simp)).trans (block_new w (.cells #[.int .i64 0, .slice none 0 0] 24))
  go_wp2_with fail
  refine (HTr.out _ B1).mono ?_
  rintro e w2 ⟨rfl, hb2⟩
  have B2 := belowC B1 hb2
  have hlt1 : w.heap.size < w1.heap.size := World.block_lt_of_cell? w1 ⟨w.heap.size, 0, none⟩ (two_facts hx1).1.1
  have hx2 := (hb2.block _ hlt1).trans hx1
  have hA2 : Below w2.heap.size w2 (w2.alloc (.cells #[.int .i64 x, .int .i64 y, .int .i64 z, .int .i64 u] 43)) := (Below.refl _ _).alloc (Nat.le_refl _) _
  have hlt2 : w.heap.size < w2.heap.size := World.block_lt_of_cell? w2 ⟨w.heap.size, 0, none⟩ (two_facts hx2).1.1
  have HX := Off.mk ((hA2.block _ hlt2).trans hx2)
  have HBW := Off.mk (belowC B2 hA2)
  have hlt3 : w.heap.size < (w2.alloc (.cells #[.int .i64 x, .int .i64 y, .int .i64 z, .int .i64 u] 43)).heap.size := by simp; omega
  obtain ⟨w3, hw3⟩ : ∃ w3, w3 = w2.alloc (.cells #[.int .i64 x, .int .i64 y, .int .i64 z, .int .i64 u] 43) := ⟨_, rfl⟩
  rw [← hw3] at HX HBW hlt3
  have HW3 := Off.mk hw3
  clear hx1 hx2 hb1 hb2 hA2 B1 B2
  clear hw3
  rcases hk with ⟨rfl, hk⟩ | rfl
  · have HK := Off.mk hk
    clear hk
    go_wp2
    go_loopw [8] (fun sv wr => sv = .int .i64 1 ∧ Below w3.heap.size w3 wr) (fun _ _ => 0)
    case atStart => exact ⟨rfl, HW3.out ▸ Below.refl _ _⟩
    case round =>
      obtain ⟨rfl, hb⟩ := hrel
      obtain ⟨wo, rfl⟩ : ∃ wo : World, wo = wr := ⟨_, rfl⟩
      obtain ⟨⟨c0, c1⟩, f0, f1⟩ := two_facts ((hb.block _ hlt3).trans HX.out)
      have hbo := belowC HBW.out hb
      have h19 : (1 : Int) ≤ 9 * (n : Int) := by omega
      go_wp2
      refine bodyPost_ret (v := .tuple #[.agg #[.int .i64 0, .slice none 0 0], .int .i64 10]) ?_ rfl ⟨.inr ⟨(by have := HK.out; omega), rfl⟩, ?_⟩
      · simp [results, Try.results23, go_sem, c0, c1]
      · exact (hbo.setCell (by simp) _).setCell (by simp) _
  · go_wp2
    go_loopw [8] (fun sv wr => ∃ m : Nat, m ≤ 9 * n ∧ sv = .int .i64 ((m + 1 : Nat) : Int) ∧ Below w3.heap.size w3 wr ∧ Off ((G m).1 ≤ 0)) (fun sv _ => 9 * n + 1 - (intOf sv).toNat)
    case atStart => exact ⟨0, by omega, rfl, HW3.out ▸ Below.refl _ _, ⟨by rw [HG0.out]; decide⟩⟩
    case round =>
      obtain ⟨m, hm, rfl, hb, hno⟩ := hrel
      obtain ⟨wo, rfl⟩ : ∃ wo : World, wo = wr := ⟨_, rfl⟩
      obtain ⟨⟨c0, c1⟩, f0, f1⟩ := two_facts ((hb.block _ hlt3).trans HX.out)
      have hbo := belowC HBW.out hb
      by_cases hml : m < 9 * n
      · have HGm : Off (G (m + 1) = wR (ruleB l) n n [] (m + 1)) := ⟨by rw [HG.out m, if_neg (by have := hno.out; omega)]⟩
        have hcall := HWR.out (m + 1) wo (by omega) hbo (by have := hb.size; omega)
        rw [← HGm.out] at hcall
        obtain ⟨j, hj⟩ : ∃ j : Int, j = ((m + 1 : Nat) : Int) := ⟨_, rfl⟩
        rw [← hj] at hcall ⊢
        have hj1 : j ≤ 9 * (n : Int) := by omega
        have hj0 : 0 ≤ j := by omega
        have HJ := Off.mk hj
        have HM1 : Off (m + 1 ≤ 9 * n) := ⟨by omega⟩
        clear hj
        go_wp2_with fail
        refine hcall.mono ?_
        rintro e w4 ⟨v4, rfl, hpos, hb4⟩
        have HP := Off.mk hpos
        have hb5 := belowC hb hb4
        obtain ⟨⟨c0, c1⟩, f0, f1⟩ := two_facts ((hb5.block _ hlt3).trans HX.out)
        have hbo5 := belowC HBW.out hb5
        clear hcall hpos
        by_cases hq : 0 < (G (m + 1)).1
        · have HE := Off.mk (HSt.out (m + 1) (by omega) hq)
          obtain ⟨A5, c5, rfl, hI5, hl5, hA5⟩ := HP.out hq
          obtain ⟨r, hr'⟩ : ∃ r, r = (G (m + 1)).1 := ⟨_, rfl⟩
          have HRr := Off.mk hr'
          rw [← hr'] at hq ⊢
          clear hr'
          have HFin : Off (S.1 = r ∧ S.2 = (G (m + 1)).2) := ⟨by
            have h1 := HL9.out.1
            rw [HE.out] at h1
            have h2 : S.1 = r := by rw [h1, HRr.out]
            refine ⟨h2, ?_⟩
            have h3 := HL9.out.2 (by rw [h2]; exact hq)
            rwa [HE.out] at h3⟩
          go_wp2
          refine bodyPost_ret (v := .tuple #[.agg #[.int .i64 r, .slice A5 n c5], .int .i64 0]) ?_ rfl ⟨.inl ⟨by rw [HFin.out.1]; exact hq, A5, c5, by rw [HFin.out.1], ?_, by rw [HFin.out.2]; exact hl5⟩, ?_⟩
          · simp [results, Try.results23, go_sem, c0, c1]
          · rw [HFin.out.2]
            exact ints_other hI5 w.heap.size (fun ad e => hA5 ad e) _ _
          · exact (hbo5.setCell (by simp) _).setCell (by simp) _
        · have HN2 : Off ((G (m + 1)).1 ≤ 0) := ⟨by omega⟩
          obtain ⟨r, hr'⟩ : ∃ r, r = (G (m + 1)).1 := ⟨_, rfl⟩
          rw [← hr'] at hq ⊢
          clear hr'
          go_wp2
          go_roundw
          case rel => exact ⟨m + 1, HM1.out, by rw [HJ.out]; go_num, hb5, HN2⟩
          case measure => have h1 := HJ.out; have h2 := HM1.out; simp only [intOf]; omega
      · obtain rfl : m = 9 * n := by omega
        have HZ : Off (¬ 0 < S.1) := ⟨by rw [HL9.out.1]; have := hno.out; omega⟩
        have hgt : 9 * (n : Int) < ((9 * n + 1 : Nat) : Int) := by omega
        obtain ⟨j, hj⟩ : ∃ j : Int, j = ((9 * n + 1 : Nat) : Int) := ⟨_, rfl⟩
        rw [← hj] at hgt ⊢
        clear hj
        go_wp2
        refine bodyPost_ret (v := .tuple #[.agg #[.int .i64 0, .slice none 0 0], .int .i64 10]) ?_ rfl ⟨.inr ⟨(by have := HZ.out; omega), rfl⟩, ?_⟩
        · simp [results, Try.results23, go_sem, c0, c1]
        · exact (hbo.setCell (by simp) _).setCell (by simp) _
end Go.Proofs.Ytdbleghnblohgaa
