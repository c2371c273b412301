/- Contracts: the specification's Glue. -/
import Derived.Test.YtddcdopimpfhcaaCs
namespace Go.Proofs.Ytddcdopimpfhcaa
open Go.RowKit Go.Shelf

set_option linter.unusedSimpArgs false in
set_option maxHeartbeats 4000000 in
set_option maxRecDepth 100000 in
theorem rglue_any (l : List Int) (A : Option Addr) (c k : Nat) (hv : roundB l = true) (hk : k < l.length) (w : World) (hl : IntsAt w A l) :
    Calls Try.prog 46 #[.slice A l.length c, .int .i64 (k : Int)] w fun e w' => ListPost w (glueO l k) (glueE l) e w' := by
  have CR := Off.mk (risRound_any l A c true hv w hl)
  obtain ⟨⟨h3, h12⟩, hrg⟩ := roundB_iff.1 hv
  obtain ⟨b, hb⟩ : ∃ b, b = nextN k l.length := ⟨_, rfl⟩
  have hbm : b < l.length := by rw [hb]; exact nextN_lt (by omega)
  have hbk := (prev_next hk h3).2.2
  rw [← hb] at hbk
  obtain ⟨ad, rfl, ck⟩ := hl.cell k hk
  obtain ⟨_, e2, cb⟩ := hl.cell b hbm
  cases e2
  have hgk := hrg k hk
  have hgb := hrg b hbm
  obtain ⟨t, ht⟩ : ∃ t, t = l.getD k 0 := ⟨_, rfl⟩
  obtain ⟨y, hy⟩ : ∃ y, y = l.getD b 0 := ⟨_, rfl⟩
  have Ht := Off.mk ht
  have Hy := Off.mk hy
  rw [← ht] at ck hgk
  rw [← hy] at cb hgb
  have k0 : (0 : Int) ≤ (k : Int) := by omega
  have k1 : (k : Int) < (l.length : Int) := by omega
  have b0 : (0 : Int) ≤ (b : Int) := by omega
  have b1 : (b : Int) < (l.length : Int) := by omega
  have w4 : IntKind.i64.wrap ((k : Int) + 1) = (k : Int) + 1 := by rw [IntKind.wrap_i64]; omega
  have hm0 : ¬ l.length = 0 := by omega
  have t2 : ((k : Int) + 1).tmod (l.length : Int) = (b : Int) := by rw [Int.tmod_eq_emod_of_nonneg (by omega), hb]; exact next_int k _
  have t4 : IntKind.i64.wrap (((k : Int) + 1).tmod (l.length : Int)) = (b : Int) := by rw [t2, IntKind.wrap_i64]; omega
  have t6 : ((k : Int) + 1) % (l.length : Int) = (b : Int) := by rw [hb]; exact next_int k _
  have HRG := Off.mk hrg
  have HB0 := Off.mk (Below.refl w.heap.size w)
  have HL := Off.mk hl
  have hdk : decide (l.length ≤ k) = false := decide_eq_false (by omega)
  have hdk0 : decide ((k : Int) < 0) = false := decide_eq_false (by omega)
  have HO : Off (glueO l k = if l.length ≠ 12 ∧ t ≠ 12 ∧ y ≠ 12 then some (glueL l k) else none) := ⟨by rw [glueO, ← hb, ← ht, ← hy]⟩
  have HE : Off (glueE l = if l.length = 12 then 8 else 4) := ⟨rfl⟩
  have HG : Off (∀ j, (incAt l k).getD j 0 = l.getD j 0 + if j = k ∨ j = b then 1 else 0) := ⟨fun j => by rw [incAt_get hk h3, ← hb]⟩
  have Hne := Off.mk hbk
  have HCL : Off ((incAt l k).length = l.length) := ⟨incAt_len l k⟩
  clear hv hl hrg ht hy hb hbk
  by_cases hn : l.length = 12
  · have hnI : ((l.length : Int) == 12) = true := by rw [beq_iff_eq]; omega
    have Hn := Off.mk hn
    clear hn
    go_enter Try.func46, Try.ntmps46
    go_wp2_with (go_at_call 35; refine CR.out.mono ?_; rintro e w1 ⟨rfl, hw⟩; subst w1)
    go_ret2
    rw [HO.out, HE.out, if_neg (fun e => e.1 Hn.out), if_pos Hn.out]
    exact ⟨HB0.out, rfl⟩
  · have hnI : ((l.length : Int) == 12) = false := by rw [beq_eq_false_iff_ne]; omega
    have Hn := Off.mk hn
    clear hn
    by_cases h1 : t = 12
    · subst h1
      go_enter Try.func46, Try.ntmps46
      go_wp2_with (go_at_call 35; refine CR.out.mono ?_; rintro e w1 ⟨rfl, hw⟩; subst w1)
      go_ret2
      rw [HO.out, HE.out, if_neg (fun e => e.2.1 rfl), if_neg Hn.out]
      exact ⟨HB0.out, rfl⟩
    · have h1b : (t == 12) = false := by rw [beq_eq_false_iff_ne]; exact h1
      by_cases h2 : y = 12
      · subst h2
        go_enter Try.func46, Try.ntmps46
        go_wp2_with (go_at_call 35; refine CR.out.mono ?_; rintro e w1 ⟨rfl, hw⟩; subst w1)
        go_ret2
        rw [HO.out, HE.out, if_neg (fun e => e.2.2 rfl), if_neg Hn.out]
        exact ⟨HB0.out, rfl⟩
      · have h2b : (y == 12) = false := by rw [beq_eq_false_iff_ne]; exact h2
        have HO1 : Off (glueO l k = some (gluTo (incAt l k) k l.length)) := ⟨by rw [HO.out, if_pos ⟨Hn.out, h1, h2⟩, gluTo_end l k hk]⟩
        have hO0 : Off (Own w w.heap.size (.slice none 0 0) (gluTo (incAt l k) k 0)) := ⟨by rw [gluTo, if_pos (Nat.zero_le _), List.take_zero]; exact own_nil _ _⟩
        clear HO h1 h2
        go_enter Try.func46, Try.ntmps46
        go_wp2_with (go_at_call 35; refine CR.out.mono ?_; rintro e w1 ⟨rfl, hw⟩; subst w1)
        clear CR
        go_loopw [7, 8] (fun v iv wr => ∃ i : Nat, i ≤ l.length ∧ iv = .int .i64 i ∧ Off (Own wr w.heap.size v (gluTo (incAt l k) k i)) ∧ Off (Below w.heap.size w wr)) (fun _ iv _ => l.length - (intOf iv).toNat)
        case atStart => exact ⟨0, by omega, rfl, hO0, HB0⟩
        case round =>
          clear hO0 HB0 ck cb
          obtain ⟨i, hi, rfl, HOw, HB⟩ := hrel
          by_cases hil : i < l.length
          · obtain ⟨_, e3, ci⟩ := (HL.out.below HB.out).cell i hil
            cases e3
            have hrg := HRG.out i hil
            obtain ⟨z, hz⟩ : ∃ z, z = l.getD i 0 := ⟨_, rfl⟩
            rw [← hz] at ci hrg
            have Hz := Off.mk hz
            clear hz
            have wz : IntKind.i64.wrap (z + 1) = z + 1 := by rw [IntKind.wrap_i64]; omega
            have Hlen : Off ((gluTo (incAt l k) k i).length ≤ 3000) := ⟨by have := gluTo_len (incAt l k) k i (by rw [HCL.out]; omega); omega⟩
            by_cases hik : i = k
            · have e1 : ((i : Int) == (k : Int)) = true := by rw [beq_iff_eq]; omega
              have HS : Off (gluTo (incAt l k) k (i + 1) = gluTo (incAt l k) k i ++ [z + 1] ++ [1]) := ⟨by rw [hik, gluTo_k _ _ (by rw [HCL.out]; exact hk), HG.out, if_pos (.inl rfl), Hz.out, hik]⟩
              have Hlen2 : Off ((gluTo (incAt l k) k i ++ [z + 1]).length ≤ 3000) := ⟨by have := gluTo_len (incAt l k) k i (by rw [HCL.out]; omega); rw [List.length_append, List.length_singleton]; omega⟩
              clear hik
              go_wp2_with (refine wpList_int rfl _ _ rfl w.heap.size _ (gluTo (incAt l k) k i) (z + 1) HOw.out HB.out.size Hlen.out rfl rfl ?_)
              intro v3 w3 hO3 _ hb3
              have HO3 := Off.mk hO3
              have HB3 := Off.mk (HB.out.trans hb3)
              clear hO3 hb3 HOw HB ci
              go_wp2_with (refine wpList_int rfl _ _ rfl w.heap.size _ (gluTo (incAt l k) k i ++ [z + 1]) 1 HO3.out HB3.out.size Hlen2.out rfl rfl ?_; intro v4 w4 hO4 _ hb4; rw [← HS.out] at hO4; have HO4 := Off.mk hO4; have HB4 := Off.mk (HB3.out.trans hb4); clear hO4 hb4)
              go_roundw
              case rel => exact ⟨i + 1, by omega, by go_num, HO4, HB4⟩
              case measure => simp only [intOf]; omega
            · have e1 : ((i : Int) == (k : Int)) = false := by rw [beq_eq_false_iff_ne]; omega
              have HS : Off (gluTo (incAt l k) k (i + 1) = gluTo (incAt l k) k i ++ [z + if i = k ∨ i = b then 1 else 0]) := ⟨by rw [gluTo_add _ _ _ (by rw [HCL.out]; exact hil) hik, HG.out, Hz.out]⟩
              by_cases hib : i = b
              · have e2 : ((i : Int) == (b : Int)) = true := by rw [beq_iff_eq]; omega
                rw [if_pos (.inr hib)] at HS
                clear hib hik
                go_wp2_with (refine wpList_int rfl _ _ rfl w.heap.size _ (gluTo (incAt l k) k i) (z + 1) HOw.out HB.out.size Hlen.out rfl rfl ?_; intro v3 w3 hO3 _ hb3; rw [← HS.out] at hO3; have HO3 := Off.mk hO3; have HB3 := Off.mk (HB.out.trans hb3); clear hO3 hb3)
                go_roundw
                case rel => exact ⟨i + 1, by omega, by go_num, HO3, HB3⟩
                case measure => simp only [intOf]; omega
              · have e2 : ((i : Int) == (b : Int)) = false := by rw [beq_eq_false_iff_ne]; omega
                rw [if_neg (by omega), Int.add_zero] at HS
                clear hib hik
                go_wp2_with (refine wpList_int rfl _ _ rfl w.heap.size _ (gluTo (incAt l k) k i) (z) HOw.out HB.out.size Hlen.out rfl rfl ?_; intro v3 w3 hO3 _ hb3; rw [← HS.out] at hO3; have HO3 := Off.mk hO3; have HB3 := Off.mk (HB.out.trans hb3); clear hO3 hb3)
                go_roundw
                case rel => exact ⟨i + 1, by omega, by go_num, HO3, HB3⟩
                case measure => simp only [intOf]; omega
          · obtain rfl : i = l.length := by omega
            go_wp2
            go_ret2
            rw [HO1.out]
            exact listPost_own (by have := gluTo_len (incAt l k) k l.length (by rw [HCL.out]; exact Nat.le_refl _); omega) HB.out HOw.out
end Go.Proofs.Ytddcdopimpfhcaa
