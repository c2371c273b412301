/- Contracts: the closures of Weights. -/
import Derived.Test.YtdbleghnblohgaaVl
import Derived.Test.YtdbleghnblohgaaPo
namespace Go.Proofs.Ytdbleghnblohgaa
open Go.RowKit Go.Shelf

/-- What the closures of Weights see: the weights' row rl (ls now), the row of all sets, the table. -/
structure Env (w : World) (n rl Bl Bh Bt : Nat) (Ah At : Option Addr) (ch ct : Nat) (p : Int → Bool) (ls : List Int) : Prop where
  len : ls.length = n
  var : w.cell? ⟨Bl, 0, none⟩ = some (.slice (some ⟨rl, 0, none⟩) n n)
  row : ∃ base, w.ownsRow base 3 1 (.slice (some ⟨rl, 0, none⟩) n n) n (nums ls)
  have_ : w.cell? ⟨Bh, 0, none⟩ = some (.slice Ah (2 ^ n) ch)
  tvar : w.cell? ⟨Bt, 0, none⟩ = some (.slice At (2 ^ n) ct)
  table : ∀ s, s < 2 ^ n → ∃ ad, At = some ad ∧ w.cell? (ad.add s) = some (.bool (p s))

theorem Env.at_ {w : World} {n rl Bl Bh Bt : Nat} {Ah At : Option Addr} {ch ct : Nat} {p : Int → Bool} {ls : List Int} (h : Env w n rl Bl Bh Bt Ah At ch ct p ls) (i : Nat) (hi : i < n) :
    w.cell? ⟨rl, i, none⟩ = some (.int .i64 (ls.getD i 0)) := by
  obtain ⟨base, hr⟩ := h.row
  rw [hr.cellAt i (by omega)]
  exact nums_at _ i (by rw [h.len]; exact hi)

set_option maxHeartbeats 4000000 in
theorem fits_any (n rl Bl Bh Bt : Nat) (Ah At : Option Addr) (ch ct : Nat) (p : Int → Bool) (ls : List Int) (w : World) (h : Env w n rl Bl Bh Bt Ah At ch ct p ls) (hn : n ≤ 8)
    (hr : Off (∀ j, j < ls.length → 0 ≤ ls.getD j 0 ∧ ls.getD j 0 ≤ 1000)) :
    Calls Try.prog 56 #[.pointer (some ⟨Bh, 0, none⟩), .pointer (some ⟨Bl, 0, none⟩), .pointer (some ⟨Bt, 0, none⟩)] w fun e w' => e = .returned (.int .i64 (fitsI p n ls)) ∧ w' = w := by
  have hp := pow_le n hn
  have hv := h.var
  have hh := h.have_
  have ht := h.tvar
  have HL := Off.mk h.len
  go_enter Try.func56, Try.ntmps56
  go_wp2
  go_loop [4, 5, 12] (fun lo hi i => ∃ s : Nat, (s : Int) ≤ 2 ^ n ∧ i = .int .i64 s ∧ lo = .int .i64 (fitTo p ls s).1 ∧ hi = .int .i64 (fitTo p ls s).2)
    (fun _ _ i => (2 ^ n - intOf i).toNat)
  case atStart => exact ⟨0, by simp only [Int.natCast_zero]; omega, rfl, rfl, rfl⟩
  case round =>
    obtain ⟨s, hs, rfl, rfl, rfl⟩ := hrel
    have hrg := fitTo_range p ls hr.out s
    rw [HL.out] at hrg
    by_cases hlt : (s : Int) < 2 ^ n
    · have hS : Off (fitTo p ls (s + 1) = if p s then ((fitTo p ls s).1, if (fitTo p ls s).2 < 0 ∨ sumTo ls s n < (fitTo p ls s).2 then sumTo ls s n else (fitTo p ls s).2) else (max (fitTo p ls s).1 (sumTo ls s n), (fitTo p ls s).2)) := ⟨by
        simp only [fitTo, HL.out]⟩
      obtain ⟨lo, hlo⟩ : ∃ x, x = (fitTo p ls s).1 := ⟨_, rfl⟩
      obtain ⟨hi, hhi⟩ : ∃ x, x = (fitTo p ls s).2 := ⟨_, rfl⟩
      rw [← hlo, ← hhi] at hS hrg ⊢
      have hx := sumTo_range ls s hr.out n (by rw [HL.out]; exact Nat.le_refl _)
      clear hlo hhi
      go_wp2
      go_loop [7, 17] (fun sm i => ∃ k : Nat, k ≤ n ∧ i = .int .i64 k ∧ sm = .int .i64 (sumTo ls s k)) (fun _ i => n - (intOf i).toNat)
      case atStart => exact ⟨0, by omega, rfl, rfl⟩
      case round =>
        obtain ⟨k, hk, rfl, rfl⟩ := hrel
        by_cases hkn : k < n
        · have hc := h.at_ k hkn
          have hd := div_range s k (by omega)
          have hb := bit_range s k
          have hm := mul_bit (hr.out k (by rw [HL.out]; exact hkn)) hb
          have ha := and_one (s / 2 ^ k) hd.1 (by omega)
          have hy := sumTo_range ls s hr.out k (by rw [HL.out]; omega)
          have hSk : Off (sumTo ls s (k + 1) = sumTo ls s k + ls.getD k 0 * (s / 2 ^ k % 2)) := ⟨rfl⟩
          obtain ⟨x, hxx⟩ : ∃ x, x = ls.getD k 0 := ⟨_, rfl⟩
          obtain ⟨t, htt⟩ : ∃ t, t = sumTo ls s k := ⟨_, rfl⟩
          rw [← hxx] at hc hm hSk
          rw [← htt] at hy hSk ⊢
          clear hxx htt
          go_wp2
          go_round
          case rel => exact ⟨k + 1, by omega, by go_num, by rw [hSk.out]⟩
          case measure => simp only [intOf]; omega
        · obtain rfl : k = n := by omega
          obtain ⟨ad, e, hct⟩ := h.table s (nat_lt_pow hlt)
          cases e
          obtain ⟨x, hxx⟩ : ∃ x, x = sumTo ls s k := ⟨_, rfl⟩
          rw [← hxx] at hx hS ⊢
          clear hxx
          cases hps : p s
          · rw [hps] at hS hct
            have hS1 : Off ((fitTo p ls (s + 1)).1 = max lo x ∧ (fitTo p ls (s + 1)).2 = hi) := ⟨by rw [hS.out]; exact ⟨rfl, rfl⟩⟩
            clear hS
            go_wp2
            go_round
            case rel => exact ⟨s + 1, by omega, by go_num, by rw [hS1.out.1]; exact congrArg _ (by split <;> omega), by rw [hS1.out.2]⟩
            case measure => simp only [intOf]; omega
          · rw [hps] at hS hct
            by_cases h1 : hi < 0
            · have hS1 : Off ((fitTo p ls (s + 1)).1 = lo ∧ (fitTo p ls (s + 1)).2 = x) := ⟨by rw [hS.out, if_pos rfl, if_pos (Or.inl h1)]; exact ⟨rfl, rfl⟩⟩
              clear hS
              go_wp2
              go_round
              case rel => exact ⟨s + 1, by omega, by go_num, by rw [hS1.out.1], by rw [hS1.out.2]⟩
              case measure => simp only [intOf]; omega
            · by_cases h2 : x < hi
              · have hS1 : Off ((fitTo p ls (s + 1)).1 = lo ∧ (fitTo p ls (s + 1)).2 = x) := ⟨by rw [hS.out, if_pos rfl, if_pos (Or.inr h2)]; exact ⟨rfl, rfl⟩⟩
                clear hS
                go_wp2
                go_round
                case rel => exact ⟨s + 1, by omega, by go_num, by rw [hS1.out.1], by rw [hS1.out.2]⟩
                case measure => simp only [intOf]; omega
              · have hS1 : Off ((fitTo p ls (s + 1)).1 = lo ∧ (fitTo p ls (s + 1)).2 = hi) := ⟨by rw [hS.out, if_pos rfl, if_neg (fun h => h.elim h1 h2)]; exact ⟨rfl, rfl⟩⟩
                clear hS
                go_wp2
                go_round
                case rel => exact ⟨s + 1, by omega, by go_num, by rw [hS1.out.1], by rw [hS1.out.2]⟩
                case measure => simp only [intOf]; omega
    · have hse : s = 2 ^ n := by have := nat_pow n; omega
      have HF : Off (fitsI p n ls = if (fitTo p ls s).1 < (fitTo p ls s).2 then (fitTo p ls s).1 + 1 else 0) := ⟨by rw [hse]; rfl⟩
      obtain ⟨lo, hlo⟩ : ∃ x, x = (fitTo p ls s).1 := ⟨_, rfl⟩
      obtain ⟨hi, hhi⟩ : ∃ x, x = (fitTo p ls s).2 := ⟨_, rfl⟩
      rw [← hlo, ← hhi] at HF hrg ⊢
      clear hlo hhi hse
      by_cases hlh : lo < hi
      · go_wp2
        go_ret
        exact ⟨by rw [HF.out, if_pos hlh]; rfl, rfl⟩
      · go_wp2
        go_ret
        exact ⟨by rw [HF.out, if_neg (by omega)]; rfl, rfl⟩

/-- What the search sees beside: the number of drovers, the two closures. -/
structure Env2 (w : World) (n rl Bn Bl Bh Bt Bf Bo : Nat) (Ah At : Option Addr) (ch ct : Nat) (p : Int → Bool) (ls : List Int) : Prop where
  env : Env w n rl Bl Bh Bt Ah At ch ct p ls
  num : w.cell? ⟨Bn, 0, none⟩ = some (.int .i64 n)
  fits : w.cell? ⟨Bf, 0, none⟩ = some (.func (.func 56) #[] #[.pointer (some ⟨Bh, 0, none⟩), .pointer (some ⟨Bl, 0, none⟩), .pointer (some ⟨Bt, 0, none⟩)])
  on : w.cell? ⟨Bo, 0, none⟩ = some (.func (.func 57) #[] #[.pointer (some ⟨Bn, 0, none⟩), .pointer (some ⟨Bl, 0, none⟩), .pointer (some ⟨Bf, 0, none⟩), .pointer (some ⟨Bo, 0, none⟩)])
/-- No cell of these is in the weights' row. -/
structure Apart (rl Bn Bl Bh Bt Bf Bo : Nat) (At : Option Addr) : Prop where
  n : Bn ≠ rl
  l : Bl ≠ rl
  h : Bh ≠ rl
  t : Bt ≠ rl
  f : Bf ≠ rl
  o : Bo ≠ rl
  tab : Clear At rl
theorem Env2.stored {w : World} {n rl Bn Bl Bh Bt Bf Bo : Nat} {Ah At : Option Addr} {ch ct : Nat} {p : Int → Bool} {ls : List Int} (h : Env2 w n rl Bn Bl Bh Bt Bf Bo Ah At ch ct p ls) (ha : Apart rl Bn Bl Bh Bt Bf Bo At) (i : Nat) (x : Int) :
    Env2 (w.setCell ⟨rl, i, none⟩ (.int .i64 x)) n rl Bn Bl Bh Bt Bf Bo Ah At ch ct p (ls.set i x) ∧ Keeps rl w (w.setCell ⟨rl, i, none⟩ (.int .i64 x)) := by
  obtain ⟨base, hr⟩ := h.env.row
  obtain ⟨ho, hg⟩ := hr.stored i (.int .i64 x)
  have K : Keeps rl w (w.setCell ⟨rl, i, none⟩ (.int .i64 x)) := ⟨hg⟩
  refine ⟨⟨⟨by simpa using h.env.len, K.cell h.env.var ha.l, ⟨base, by rw [nums_set]; exact ho⟩, K.cell h.env.have_ ha.h, K.cell h.env.tvar ha.t, fun s hs => ?_⟩, K.cell h.num ha.n, K.cell h.fits ha.f, K.cell h.on ha.o⟩, K⟩
  obtain ⟨ad, e, hc⟩ := h.env.table s hs
  exact ⟨ad, e, K.cell hc (by rw [add_block]; exact ha.tab ad e)⟩
theorem Env.frozen {w : World} {n rl Bl Bh Bt : Nat} {Ah At : Option Addr} {ch ct : Nat} {p : Int → Bool} {ls : List Int} (h : Env w n rl Bl Bh Bt Ah At ch ct p ls) (i : Nat) : w.frozen? ⟨rl, i, none⟩ = false := by
  obtain ⟨base, hr⟩ := h.row
  exact hr.frozenAt i
/-- Weights of a trial lie from 0 to 45. -/
def Light (ls : List Int) : Prop := ∀ j, j < ls.length → 0 ≤ ls.getD j 0 ∧ ls.getD j 0 ≤ 1000

theorem light_set {ls : List Int} (h : Light ls) (i : Nat) (x : Int) (h0 : 0 ≤ x) (h1 : x ≤ 1000) : Light (ls.set i x) := by
  intro j hj
  have hj' : j < ls.length := by simpa using hj
  have := h j hj'
  rw [List.getD_eq_getElem?_getD, List.getElem?_set]
  by_cases e : i = j
  · rw [if_pos e]
    split
    · simp only [Option.getD_some]; omega
    · simp only [Option.getD_none]; omega
  · rw [if_neg e, ← List.getD_eq_getElem?_getD]; exact this

set_option maxHeartbeats 4000000 in
theorem on_any (n rl Bn Bl Bh Bt Bf Bo : Nat) (Ah At : Option Addr) (ch ct : Nat) (p : Int → Bool) (hn1 : 1 ≤ n) (hn : n ≤ 5) (ha : Off (Apart rl Bn Bl Bh Bt Bf Bo At)) (d : Nat) :
    ∀ (i left : Nat) (ls : List Int) (w : World), i + d + 1 = n → left ≤ 45 → Off (Light ls) → Env2 w n rl Bn Bl Bh Bt Bf Bo Ah At ch ct p ls →
    Calls Try.prog 57 #[.int .i64 i, .int .i64 left, .pointer (some ⟨Bn, 0, none⟩), .pointer (some ⟨Bl, 0, none⟩), .pointer (some ⟨Bf, 0, none⟩), .pointer (some ⟨Bo, 0, none⟩)] w fun e w' =>
      e = .returned (.int .i64 (onF p n d i ls left).1) ∧ Env2 w' n rl Bn Bl Bh Bt Bf Bo Ah At ch ct p (onF p n d i ls left).2 ∧ Keeps rl w w' ∧ Light (onF p n d i ls left).2 := by
  induction d with
  | zero =>
    intro i left ls w hi hleft hlight h
    have hv := h.env.var
    have hnum := h.num
    have hfits := h.fits
    have hc := h.env.at_ i (by omega)
    have hfz := h.env.frozen i
    have hst := Off.mk (h.stored ha.out i left)
    have hi' : ((i : Int) == (n : Int) - 1) = true := beq_iff_eq.2 (by omega)
    have hfits2 := hst.out.1.fits
    have hli := Off.mk (light_set hlight.out i left (by omega) (by omega))
    have heq : Off (Env2 (w.setCell ⟨rl, i, none⟩ (.int .i64 (left : Int))) n rl Bn Bl Bh Bt Bf Bo Ah At ch ct p (ls.set i (left : Int))) := ⟨hst.out.1⟩
    by_cases h9 : 9 < left
    · have hF : Off (onF p n 0 i ls left = (0, ls.set i (left : Int))) := ⟨by simp only [onF, if_pos h9]⟩
      go_enter Try.func57, Try.ntmps57
      go_wp2
      go_ret
      exact ⟨by rw [hF.out]; rfl, by rw [hF.out]; exact heq.out, hst.out.2, by rw [hF.out]; exact hli.out⟩
    · have hF : Off (onF p n 0 i ls left = (fitsI p n (ls.set i (left : Int)), ls.set i (left : Int))) := ⟨by simp only [onF, if_neg h9]⟩
      go_enter Try.func57, Try.ntmps57
      go_wp2_with (go_at_call 56; refine (fits_any n rl Bl Bh Bt Ah At ch ct p (ls.set i (left : Int)) _ heq.out.env (by omega) ⟨hli.out⟩).mono ?_; rintro e w1 ⟨rfl, rfl⟩)
      go_ret
      exact ⟨by rw [hF.out]; rfl, by rw [hF.out]; exact heq.out, hst.out.2, by rw [hF.out]; exact hli.out⟩
  | succ d ih =>
    intro i left ls w hi hleft hlight h
    have hi' : ((i : Int) == (n : Int) - 1) = false := beq_eq_false_iff_ne.2 (by omega)
    have hnum := h.num
    obtain ⟨F, hF⟩ : ∃ F : Nat → List Int → Int × List Int, F = fun w l => onF p n d (i + 1) (l.set i (w : Int)) (left - w) := ⟨_, rfl⟩
    obtain ⟨M, hM⟩ : ∃ M, M = min left 9 + 1 := ⟨_, rfl⟩
    have HE : Off (onF p n (d + 1) i ls left = tryTo F ls M) := ⟨by rw [hF, hM]; rfl⟩
    have HF := Off.mk hF
    have hM9 : M ≤ 10 ∧ M ≤ left + 1 := by omega
    have h' := Off.mk h
    have IH := Off.mk ih
    rcases (show (left ≤ 9 ∧ left + 1 ≤ M) ∨ (9 < left ∧ 10 ≤ M) by omega) with hc | hc
    all_goals
      obtain ⟨hc1, hc2⟩ := hc
      clear hF hM ih h
      go_enter Try.func57, Try.ntmps57
      go_wp2
      go_loopw [26] (fun i wr => ∃ k : Nat, k ≤ M ∧ i = .int .i64 k ∧ Off (¬ 0 < (tryTo F ls k).1) ∧ Off (Env2 wr n rl Bn Bl Bh Bt Bf Bo Ah At ch ct p (tryTo F ls k).2) ∧ Keeps rl w wr ∧ Off (Light (tryTo F ls k).2))
        (fun i _ => M - (intOf i).toNat)
      case atStart => exact ⟨0, by omega, rfl, ⟨by simp [tryTo]⟩, h', Keeps.refl _ _, hlight⟩
      case round =>
        clear h' hnum
        obtain ⟨k, hk, rfl, hno, hE, hkw, hL⟩ := hrel
        by_cases hkM : k < M
        · have HG : Off (tryTo F ls (k + 1) = F k (tryTo F ls k).2) := ⟨tryTo_go hno.out⟩
          obtain ⟨L, hLd⟩ : ∃ L, L = (tryTo F ls k).2 := ⟨_, rfl⟩
          rw [← hLd] at hE hL HG
          have hv := hE.out.env.var
          have hc0 := hE.out.env.at_ i (by omega)
          have hfz := hE.out.env.frozen i
          have hst := Off.mk (hE.out.stored ha.out i k)
          have hli := Off.mk (light_set hL.out i k (by omega) (by omega))
          have hon := hst.out.1.on
          have HI : Off (∀ W, Env2 W n rl Bn Bl Bh Bt Bf Bo Ah At ch ct p (L.set i (k : Int)) → Calls Try.prog 57 #[.int .i64 ((i : Int) + 1), .int .i64 ((left : Int) - (k : Int)), .pointer (some ⟨Bn, 0, none⟩), .pointer (some ⟨Bl, 0, none⟩), .pointer (some ⟨Bf, 0, none⟩), .pointer (some ⟨Bo, 0, none⟩)] W fun e w' =>
              e = .returned (.int .i64 (F k L).1) ∧ Env2 w' n rl Bn Bl Bh Bt Bf Bo Ah At ch ct p (F k L).2 ∧ Keeps rl W w' ∧ Light (F k L).2) := ⟨by
            intro W hW
            have := IH.out (i + 1) (left - k) (L.set i (k : Int)) W (by omega) (by omega) hli hW
            rw [show ((i + 1 : Nat) : Int) = (i : Int) + 1 by omega, show ((left - k : Nat) : Int) = (left : Int) - (k : Int) by omega] at this
            rw [HF.out]
            exact this⟩
          obtain ⟨qv, hqv⟩ : ∃ q, q = (F k L).1 := ⟨_, rfl⟩
          rw [← hqv] at HI
          have HQ := Off.mk hqv
          clear hqv hLd
          by_cases hq : 0 < qv
          · go_wp2_with (go_at_call 57; refine (HI.out _ hst.out.1).mono ?_; rintro e w1 ⟨rfl, hE1, hk1, hl1⟩)
            go_ret
            have e1 : onF p n (d + 1) i ls left = F k L := by
              rw [HE.out, tryTo_stop (k := k + 1) (by omega) (by rw [HG.out, ← HQ.out]; exact hq), HG.out]
            exact ⟨by rw [e1, ← HQ.out]; rfl, by rw [e1]; exact hE1, (hkw.trans hst.out.2).trans hk1, by rw [e1]; exact hl1⟩
          · go_wp2_with (go_at_call 57; refine (HI.out _ hst.out.1).mono ?_; rintro e w1 ⟨rfl, hE1, hk1, hl1⟩)
            go_roundw
            case rel => exact ⟨k + 1, by omega, by go_num, ⟨by rw [HG.out, ← HQ.out]; omega⟩, ⟨by rw [HG.out]; exact hE1⟩, (hkw.trans hst.out.2).trans hk1, ⟨by rw [HG.out]; exact hl1⟩⟩
            case measure => simp only [intOf]; omega
        · obtain rfl : k = M := by omega
          go_wp2
          go_ret
          exact ⟨ret_int (by have h1 := onF_nonneg p n (d + 1) i ls left; have h2 := hno.out; rw [← HE.out] at h2; omega), by rw [HE.out]; exact hE.out, hkw, by rw [HE.out]; exact hL.out⟩
end Go.Proofs.Ytdbleghnblohgaa
