/- Contracts: the specification's Cut, Glue. -/
import Derived.Test.YtddcdopimpfhcaaCr
namespace Go.Proofs.Ytddcdopimpfhcaa
open Go.RowKit Go.Shelf

def cutTo (t : List Int) (k i : Nat) : List Int := (t.take i).eraseIdx k
theorem take_succ' (t : List Int) (i : Nat) (h : i < t.length) : t.take (i + 1) = t.take i ++ [t.getD i 0] := by
  rw [List.take_succ_eq_append_getElem h, List.getD_eq_getElem?_getD, List.getElem?_eq_getElem h]
  rfl
theorem cutTo_low (t : List Int) (k i : Nat) (h : i ≤ k) : cutTo t k i = t.take i := List.eraseIdx_of_length_le (by rw [List.length_take]; omega)
theorem cutTo_skip (t : List Int) (k : Nat) (h : k < t.length) : cutTo t k (k + 1) = cutTo t k k := by
  rw [cutTo_low t k k (Nat.le_refl _), cutTo, take_succ' t k h, List.eraseIdx_append_of_length_le (by rw [List.length_take]; omega), List.length_take, show k - min k t.length = 0 by omega]
  simp
theorem cutTo_add (t : List Int) (k i : Nat) (h : i < t.length) (hk : i ≠ k) : cutTo t k (i + 1) = cutTo t k i ++ [t.getD i 0] := by
  by_cases h1 : i < k
  · rw [cutTo_low t k (i + 1) (by omega), cutTo_low t k i (by omega), take_succ' t i h]
  · rw [cutTo, take_succ' t i h, List.eraseIdx_append_of_lt_length (by rw [List.length_take]; omega)]
    rfl
theorem cutTo_len (t : List Int) (k i : Nat) : (cutTo t k i).length ≤ i := by
  have := List.length_eraseIdx_le (t.take i) k
  rw [List.length_take] at this
  unfold cutTo
  omega
def gluTo (t : List Int) (k i : Nat) : List Int := if i ≤ k then t.take i else insL (t.take i) (k + 1) 1
theorem gluTo_len (t : List Int) (k i : Nat) (h : i ≤ t.length) : (gluTo t k i).length ≤ i + 1 := by
  unfold gluTo
  split
  · rw [List.length_take]; omega
  · rw [insL_len _ _ _ (by rw [List.length_take]; omega), List.length_take]; omega
theorem gluTo_k (t : List Int) (k : Nat) (h : k < t.length) : gluTo t k (k + 1) = gluTo t k k ++ [t.getD k 0] ++ [1] := by
  rw [gluTo, if_neg (by omega), gluTo, if_pos (Nat.le_refl _), ← take_succ' t k h, insL, List.take_of_length_le (by rw [List.length_take]; omega), List.drop_of_length_le (by rw [List.length_take]; omega)]
theorem gluTo_add (t : List Int) (k i : Nat) (h : i < t.length) (hk : i ≠ k) : gluTo t k (i + 1) = gluTo t k i ++ [t.getD i 0] := by
  by_cases h1 : i < k
  · rw [gluTo, if_pos (by omega), gluTo, if_pos (by omega), take_succ' t i h]
  · rw [gluTo, if_neg (by omega), gluTo, if_neg (by omega), take_succ' t i h, insL, insL, List.take_append_of_le_length (by rw [List.length_take]; omega), List.drop_append_of_le_length (by rw [List.length_take]; omega)]
    simp
theorem gluTo_end (l : List Int) (k : Nat) (h : k < l.length) : gluTo (incAt l k) k l.length = glueL l k := by
  rw [gluTo, if_neg (by omega), List.take_of_length_le (by rw [incAt_len]; omega), glueL]
theorem listPost_own {w w' : World} {er : Int} {m : List Int} {v : Value} (hm : m.length ≤ 60) (hb : Below w.heap.size w w') (hO : Own w' w.heap.size v m) : ListPost w (some m) er (.returned (.tuple #[v, .int .i64 0])) w' := by
  obtain ⟨A, c, rfl, hI, _⟩ := own_ints hO (by omega)
  exact ⟨hb, A, c, rfl, hI⟩
theorem rcut_arg (l : List Int) (A : Option Addr) (c : Nat) (k : Int) (h : ¬ (roundB l = true ∧ 0 ≤ k ∧ k < l.length)) (w : World) (hl : IntsAt w A l) :
    Calls Try.prog 44 #[.slice A l.length c, .int .i64 k] w fun e w' => e = .returned (.tuple #[.slice none 0 0, .int .i64 2]) ∧ w' = w := by
  have CR := Off.mk (fun v hv => risRound_any l A c v hv w hl)
  have hlen := hl.len
  by_cases hb : roundB l = true
  · have CR' := Off.mk (CR.out _ hb)
    clear CR hl
    by_cases h0 : k < 0
    · clear h hb
      go_enter Try.func44, Try.ntmps44
      go_wp2_with (go_at_call 35; refine CR'.out.mono ?_; rintro e w1 ⟨rfl, hw⟩; subst w1)
      go_ret2
      exact ⟨rfl, rfl⟩
    · have h1 : (l.length : Int) ≤ k := by
        by_cases e : k < l.length
        · exact (h ⟨hb, by omega, e⟩).elim
        · omega
      clear h hb
      go_enter Try.func44, Try.ntmps44
      go_wp2_with (go_at_call 35; refine CR'.out.mono ?_; rintro e w1 ⟨rfl, hw⟩; subst w1)
      go_ret2
      exact ⟨rfl, rfl⟩
  · have CR' := Off.mk (CR.out _ (by simpa using hb))
    clear CR hl h hb
    go_enter Try.func44, Try.ntmps44
    go_wp2_with (go_at_call 35; refine CR'.out.mono ?_; rintro e w1 ⟨rfl, hw⟩; subst w1)
    go_ret2
    exact ⟨rfl, rfl⟩
theorem rglue_arg (l : List Int) (A : Option Addr) (c : Nat) (k : Int) (h : ¬ (roundB l = true ∧ 0 ≤ k ∧ k < l.length)) (w : World) (hl : IntsAt w A l) :
    Calls Try.prog 46 #[.slice A l.length c, .int .i64 k] w fun e w' => e = .returned (.tuple #[.slice none 0 0, .int .i64 2]) ∧ w' = w := by
  have CR := Off.mk (fun v hv => risRound_any l A c v hv w hl)
  have hlen := hl.len
  by_cases hb : roundB l = true
  · have CR' := Off.mk (CR.out _ hb)
    clear CR hl
    by_cases h0 : k < 0
    · clear h hb
      go_enter Try.func46, Try.ntmps46
      go_wp2_with (go_at_call 35; refine CR'.out.mono ?_; rintro e w1 ⟨rfl, hw⟩; subst w1)
      go_ret2
      exact ⟨rfl, rfl⟩
    · have h1 : (l.length : Int) ≤ k := by
        by_cases e : k < l.length
        · exact (h ⟨hb, by omega, e⟩).elim
        · omega
      clear h hb
      go_enter Try.func46, Try.ntmps46
      go_wp2_with (go_at_call 35; refine CR'.out.mono ?_; rintro e w1 ⟨rfl, hw⟩; subst w1)
      go_ret2
      exact ⟨rfl, rfl⟩
  · have CR' := Off.mk (CR.out _ (by simpa using hb))
    clear CR hl h hb
    go_enter Try.func46, Try.ntmps46
    go_wp2_with (go_at_call 35; refine CR'.out.mono ?_; rintro e w1 ⟨rfl, hw⟩; subst w1)
    go_ret2
    exact ⟨rfl, rfl⟩
set_option linter.unusedSimpArgs false in
set_option maxHeartbeats 4000000 in
set_option maxRecDepth 100000 in
theorem rcut_any (l : List Int) (A : Option Addr) (c k : Nat) (hv : roundB l = true) (hk : k < l.length) (w : World) (hl : IntsAt w A l) :
    Calls Try.prog 44 #[.slice A l.length c, .int .i64 (k : Int)] w fun e w' => ListPost w (cutO l k) 9 e w' := by
  have CR := Off.mk (risRound_any l A c true hv w hl)
  obtain ⟨⟨h3, h12⟩, hrg⟩ := roundB_iff.1 hv
  obtain ⟨a, ha⟩ : ∃ a, a = prevN k l.length := ⟨_, rfl⟩
  obtain ⟨b, hb⟩ : ∃ b, b = nextN k l.length := ⟨_, rfl⟩
  have ham : a < l.length := by rw [ha]; exact prevN_lt (by omega)
  have hbm : b < l.length := by rw [hb]; exact nextN_lt (by omega)
  obtain ⟨hab, hak, hbk⟩ := prev_next hk h3
  rw [← ha, ← hb] at hab
  rw [← ha] at hak
  rw [← hb] at hbk
  obtain ⟨ad, rfl, ck⟩ := hl.cell k hk
  obtain ⟨_, e1, ca⟩ := hl.cell a ham
  cases e1
  obtain ⟨_, e2, cb⟩ := hl.cell b hbm
  cases e2
  have hgk := hrg k hk
  have hga := hrg a ham
  have hgb := hrg b hbm
  obtain ⟨t, ht⟩ : ∃ t, t = l.getD k 0 := ⟨_, rfl⟩
  obtain ⟨x, hx⟩ : ∃ x, x = l.getD a 0 := ⟨_, rfl⟩
  obtain ⟨y, hy⟩ : ∃ y, y = l.getD b 0 := ⟨_, rfl⟩
  have Ht := Off.mk ht
  have Hx := Off.mk hx
  have Hy := Off.mk hy
  have Hab := Off.mk (And.intro ha hb)
  rw [← ht] at ck hgk
  rw [← hx] at ca hga
  rw [← hy] at cb hgb
  have k0 : (0 : Int) ≤ (k : Int) := by omega
  have k1 : (k : Int) < (l.length : Int) := by omega
  have a0 : (0 : Int) ≤ (a : Int) := by omega
  have a1 : (a : Int) < (l.length : Int) := by omega
  have b0 : (0 : Int) ≤ (b : Int) := by omega
  have b1 : (b : Int) < (l.length : Int) := by omega
  have w1 : IntKind.i64.wrap ((k : Int) + (l.length : Int)) = (k : Int) + (l.length : Int) := by rw [IntKind.wrap_i64]; omega
  have w2' : IntKind.i64.wrap ((k : Int) + (l.length : Int) - 1) = (k : Int) + (l.length : Int) - 1 := by rw [IntKind.wrap_i64]; omega
  have w4 : IntKind.i64.wrap ((k : Int) + 1) = (k : Int) + 1 := by rw [IntKind.wrap_i64]; omega
  have hm0 : ¬ l.length = 0 := by omega
  have t1 : ((k : Int) + (l.length : Int) - 1).tmod (l.length : Int) = (a : Int) := by rw [Int.tmod_eq_emod_of_nonneg (by omega), ha]; exact prev_int k _ (by omega)
  have t2 : ((k : Int) + 1).tmod (l.length : Int) = (b : Int) := by rw [Int.tmod_eq_emod_of_nonneg (by omega), hb]; exact next_int k _
  have t3 : IntKind.i64.wrap (((k : Int) + (l.length : Int) - 1).tmod (l.length : Int)) = (a : Int) := by rw [t1, IntKind.wrap_i64]; omega
  have t4 : IntKind.i64.wrap (((k : Int) + 1).tmod (l.length : Int)) = (b : Int) := by rw [t2, IntKind.wrap_i64]; omega
  have t5 : ((k : Int) + (l.length : Int) - 1) % (l.length : Int) = (a : Int) := by rw [ha]; exact prev_int k _ (by omega)
  have t6 : ((k : Int) + 1) % (l.length : Int) = (b : Int) := by rw [hb]; exact next_int k _
  have HRG := Off.mk hrg
  have HB0 := Off.mk (Below.refl w.heap.size w)
  have HL := Off.mk hl
  have hdk : decide (l.length ≤ k) = false := decide_eq_false (by omega)
  have hdk0 : decide ((k : Int) < 0) = false := decide_eq_false (by omega)
  have HO : Off (cutO l k = if l.length ≠ 3 ∧ t = 1 ∧ x ≠ 1 ∧ y ≠ 1 then some (cutL l k) else none) := ⟨by rw [cutO, ← ha, ← hb, ← ht, ← hx, ← hy]⟩
  have HG : Off (∀ j, (cutAt l k).getD j 0 = l.getD j 0 - if j = a ∨ j = b then 1 else 0) := ⟨fun j => by rw [cutAt_get hk h3, ← ha, ← hb]⟩
  have Hne := Off.mk (And.intro hab (And.intro hak hbk))
  have HCL : Off ((cutAt l k).length = l.length) := ⟨cutAt_len l k⟩
  clear hv hl hrg ht hx hy ha hb hab hak hbk
  by_cases h1 : t = 1
  · subst h1
    by_cases h2 : y = 1
    · subst h2
      go_enter Try.func44, Try.ntmps44
      go_wp2_with (go_at_call 35; refine CR.out.mono ?_; rintro e w1 ⟨rfl, hw⟩; subst w1)
      go_ret2
      rw [HO.out, if_neg (fun e => e.2.2.2 rfl)]
      exact ⟨HB0.out, rfl⟩
    · have h2b : (y == 1) = false := by rw [beq_eq_false_iff_ne]; exact h2
      by_cases h4 : x = 1
      · subst h4
        go_enter Try.func44, Try.ntmps44
        go_wp2_with (go_at_call 35; refine CR.out.mono ?_; rintro e w1 ⟨rfl, hw⟩; subst w1)
        go_ret2
        rw [HO.out, if_neg (fun e => e.2.2.1 rfl)]
        exact ⟨HB0.out, rfl⟩
      · have h4b : (x == 1) = false := by rw [beq_eq_false_iff_ne]; exact h4
        by_cases hn : l.length = 3
        · have hnI : ((l.length : Int) == 3) = true := by rw [beq_iff_eq]; omega
          have Hn := Off.mk hn
          clear hn
          go_enter Try.func44, Try.ntmps44
          go_wp2_with (go_at_call 35; refine CR.out.mono ?_; rintro e w1 ⟨rfl, hw⟩; subst w1)
          go_ret2
          rw [HO.out, if_neg (fun e => e.1 Hn.out)]
          exact ⟨HB0.out, rfl⟩
        · have hnI : ((l.length : Int) == 3) = false := by rw [beq_eq_false_iff_ne]; omega
          have HO1 : Off (cutO l k = some (cutTo (cutAt l k) k l.length)) := ⟨by rw [HO.out, if_pos ⟨hn, rfl, h4, h2⟩, cutTo, List.take_of_length_le (by rw [HCL.out]; exact Nat.le_refl _)]; rfl⟩
          have hO0 : Off (Own w w.heap.size (.slice none 0 0) (cutTo (cutAt l k) k 0)) := ⟨by rw [cutTo, List.take_zero]; exact own_nil _ _⟩
          clear hn HO
          go_enter Try.func44, Try.ntmps44
          go_wp2_with (go_at_call 35; refine CR.out.mono ?_; rintro e w1 ⟨rfl, hw⟩; subst w1)
          clear CR
          go_loopw [7, 8] (fun v iv wr => ∃ i : Nat, i ≤ l.length ∧ iv = .int .i64 i ∧ Off (Own wr w.heap.size v (cutTo (cutAt l k) k i)) ∧ Off (Below w.heap.size w wr)) (fun _ iv _ => l.length - (intOf iv).toNat)
          case atStart => exact ⟨0, by omega, rfl, hO0, HB0⟩
          case round =>
            clear hO0 HB0 ck ca cb
            obtain ⟨i, hi, rfl, HOw, HB⟩ := hrel
            by_cases hil : i < l.length
            · obtain ⟨_, e3, ci⟩ := (HL.out.below HB.out).cell i hil
              cases e3
              have hrg := HRG.out i hil
              obtain ⟨z, hz⟩ : ∃ z, z = l.getD i 0 := ⟨_, rfl⟩
              rw [← hz] at ci hrg
              have Hz := Off.mk hz
              clear hz
              have wz : IntKind.i64.wrap (z - 1) = z - 1 := by rw [IntKind.wrap_i64]; omega
              have hlen : (cutTo (cutAt l k) k i).length ≤ 3000 := by have := cutTo_len (cutAt l k) k i; omega
              have Hlen := Off.mk hlen
              clear hlen
              by_cases hik : i = k
              · have e1 : ((i : Int) == (b : Int)) = false := by rw [beq_eq_false_iff_ne]; have := Hne.out.2.2; omega
                have e2 : ((i : Int) == (a : Int)) = false := by rw [beq_eq_false_iff_ne]; have := Hne.out.2.1; omega
                have e4 : ((i : Int) != (k : Int)) = false := by rw [bne_eq_false_iff_eq]; omega
                have HS : Off (Own wr w.heap.size u7 (cutTo (cutAt l k) k (i + 1))) := ⟨by rw [hik, cutTo_skip _ _ (by rw [HCL.out]; exact hk)]; rw [hik] at HOw; exact HOw.out⟩
                clear hik HOw
                go_wp2
                go_roundw
                case rel => exact ⟨i + 1, by omega, by go_num, HS, HB⟩
                case measure => simp only [intOf]; omega
              · have e4 : ((i : Int) != (k : Int)) = true := by rw [bne_iff_ne]; omega
                have HS : Off (cutTo (cutAt l k) k (i + 1) = cutTo (cutAt l k) k i ++ [z - if i = a ∨ i = b then 1 else 0]) := ⟨by rw [cutTo_add _ _ _ (by rw [HCL.out]; exact hil) hik, HG.out, Hz.out]⟩
                clear hik
                by_cases hib : i = b
                · have e1 : ((i : Int) == (b : Int)) = true := by rw [beq_iff_eq]; omega
                  rw [if_pos (.inr hib)] at HS
                  clear hib
                  go_wp2_with (refine wpList_int rfl _ _ rfl w.heap.size _ (cutTo (cutAt l k) k i) (z - 1) HOw.out HB.out.size Hlen.out rfl rfl ?_; intro v3 w3 hO3 _ hb3; rw [← HS.out] at hO3; have HO3 := Off.mk hO3; have HB3 := Off.mk (HB.out.trans hb3); clear hO3 hb3)
                  go_roundw
                  case rel => exact ⟨i + 1, by omega, by go_num, HO3, HB3⟩
                  case measure => simp only [intOf]; omega
                · have e1 : ((i : Int) == (b : Int)) = false := by rw [beq_eq_false_iff_ne]; omega
                  by_cases hia : i = a
                  · have e2 : ((i : Int) == (a : Int)) = true := by rw [beq_iff_eq]; omega
                    rw [if_pos (.inl hia)] at HS
                    clear hib hia
                    go_wp2_with (refine wpList_int rfl _ _ rfl w.heap.size _ (cutTo (cutAt l k) k i) (z - 1) HOw.out HB.out.size Hlen.out rfl rfl ?_; intro v3 w3 hO3 _ hb3; rw [← HS.out] at hO3; have HO3 := Off.mk hO3; have HB3 := Off.mk (HB.out.trans hb3); clear hO3 hb3)
                    go_roundw
                    case rel => exact ⟨i + 1, by omega, by go_num, HO3, HB3⟩
                    case measure => simp only [intOf]; omega
                  · have e2 : ((i : Int) == (a : Int)) = false := by rw [beq_eq_false_iff_ne]; omega
                    rw [if_neg (by omega), Int.sub_zero] at HS
                    clear hib hia
                    go_wp2_with (refine wpList_int rfl _ _ rfl w.heap.size _ (cutTo (cutAt l k) k i) (z) HOw.out HB.out.size Hlen.out rfl rfl ?_; intro v3 w3 hO3 _ hb3; rw [← HS.out] at hO3; have HO3 := Off.mk hO3; have HB3 := Off.mk (HB.out.trans hb3); clear hO3 hb3)
                    go_roundw
                    case rel => exact ⟨i + 1, by omega, by go_num, HO3, HB3⟩
                    case measure => simp only [intOf]; omega
            · obtain rfl : i = l.length := by omega
              go_wp2
              go_ret2
              rw [HO1.out]
              exact listPost_own (by have := cutTo_len (cutAt l k) k l.length; omega) HB.out HOw.out
  · have h1b : (t != 1) = true := by rw [bne_iff_ne]; exact h1
    go_enter Try.func44, Try.ntmps44
    go_wp2_with (go_at_call 35; refine CR.out.mono ?_; rintro e w1 ⟨rfl, hw⟩; subst w1)
    go_ret2
    rw [HO.out, if_neg (fun e => h1 e.2.1)]
    exact ⟨HB0.out, rfl⟩
end Go.Proofs.Ytddcdopimpfhcaa
