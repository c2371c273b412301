/- The law VoteRuled: its walk. -/
import Derived.Test.YtdbleghnblohgaaVv
import Derived.Test.YtdbleghnblohgaaWm
import Derived.Test.YtdbleghnblohgaaQe
namespace Go.Proofs.Ytdbleghnblohgaa
open Go.RowKit Go.Shelf

set_option maxHeartbeats 2000000 in
theorem vruled_many (q : Int) (l : List Int) (A : Option Addr) (c : Nat) (b : Int) (w : World) (h30 : 30 < l.length) :
    Calls Try.prog 13 #[.agg #[.int .i64 q, .slice A l.length c], .int .u8 b] w fun e w' => e = .returned (.bool true) ∧ Below w.heap.size w w' := by
  go_enter Try.func13, Try.ntmps13
  go_wp2_with (first
    | (go_at_call 15; refine (c_few_no q A l.length c h30 _).mono ?_; rintro e w1 ⟨rfl, hb1⟩)
    | (go_at_call 16; refine (alive_any _).mono ?_; rintro e w2 ⟨rfl, hb2⟩))
  go_ret
  exact ⟨rfl, belowC (belowC ((Below.refl _ _).alloc (Nat.le_refl _) _) hb1) hb2⟩

set_option maxHeartbeats 2000000 in
theorem vruled_no (q : Int) (l : List Int) (A : Option Addr) (c : Nat) (b : Int) (w : World) (hl : IntsAt w A l) (h30 : l.length ≤ 30) (hbody : bodyB q l = true → 5 < l.length) :
    Calls Try.prog 13 #[.agg #[.int .i64 q, .slice A l.length c], .int .u8 b] w fun e w' => e = .returned (.bool true) ∧ Below w.heap.size w w' := by
  have HB : Off (∀ o, Below w.heap.size w (w.alloc o)) := ⟨fun o => (Below.refl _ _).alloc (Nat.le_refl _) _⟩
  go_enter Try.func13, Try.ntmps13
  go_wp2_with fail
  refine (c_few q A l.length c h30 _).mono ?_
  rintro e w1 ⟨rfl, hb1⟩
  have B1 := belowC (HB.out _) hb1
  have hB1 := (box_body w q A l.length c).below hb1
  have hq1 := hB1.quota
  have hs1 := hB1.weights
  go_wp2_with fail
  refine (rIsBody q l A c _ (hl.below B1) h30).mono ?_
  rintro e w2 ⟨rfl, hb2⟩
  have B2 := belowC B1 hb2
  have hB2 := hB1.below hb2
  have hq2 := hB2.quota
  have hs2 := hB2.weights
  clear hq1 hs1 hB1 hb1 B1 hb2
  cases hbd : bodyB q l
  · clear hbody
    go_wp2_with (go_at_call 16; refine (alive_any _).mono ?_; rintro e w7 ⟨rfl, hb7⟩)
    go_ret
    exact ⟨rfl, belowC B2 hb7⟩
  · have h5 := hbody hbd
    clear hbody
    go_wp2_with (go_at_call 16; refine (alive_any _).mono ?_; rintro e w7 ⟨rfl, hb7⟩)
    go_ret
    exact ⟨rfl, belowC B2 hb7⟩

set_option maxHeartbeats 4000000 in
theorem vruled_yes (q : Int) (l : List Int) (A : Option Addr) (c : Nat) (b : Nat) (_hb : b < 256) (w : World) (hl : IntsAt w A l) (hbody : bodyB q l = true) (h5 : l.length ≤ 5) :
    Calls Try.prog 13 #[.agg #[.int .i64 q, .slice A l.length c], .int .u8 (b : Int)] w fun e w' => e = .returned (.bool true) ∧ Below w.heap.size w w' := by
  have HB : Off (∀ o, Below w.heap.size w (w.alloc o)) := ⟨fun o => (Below.refl _ _).alloc (Nat.le_refl _) _⟩
  obtain ⟨h8, hw⟩ := Body.weights hbody
  have hlen1 : 0 < l.length := (of_decide_eq_true hbody).1
  have hpos : 0 < 2 ^ l.length := Nat.two_pow_pos l.length
  obtain ⟨s, hs⟩ : ∃ s, s = b % 2 ^ l.length := ⟨_, rfl⟩
  have hslt : s < 2 ^ l.length := by rw [hs]; exact Nat.mod_lt _ hpos
  have es : Off ((b : Int) % 2 ^ l.length = (s : Int)) := ⟨by rw [hs]; simp⟩
  have hp := pow_le l.length h8
  have hcast := nat_pow l.length
  have hslt' : (s : Int) < 2 ^ l.length := by omega
  have HR := Off.mk (ruleOf_rule hbody h5)
  have HS := Off.mk (ruleOf_sets hbody s hslt)
  have HF := Off.mk (ruleOf_found hbody h5)
  have HL := Off.mk (ruleOf_less hbody h5)
  obtain ⟨R, hR⟩ : ∃ R, R = ruleOf q l := ⟨_, rfl⟩
  have HRl : Off (leastTo (winB q l) l.length (2 ^ l.length) = R) := ⟨hR.symm⟩
  rw [← hR] at HR HS HF HL
  have hRl : R.length ≤ 256 := by
    have h1 := leastTo_length (winB q l) l.length (2 ^ l.length)
    rw [HRl.out] at h1
    have h2 := pow_256 h8
    omega
  have HWn : Off (∀ W, IntsAt W A l → Calls Try.prog 25 #[.agg #[.int .i64 q, .slice A l.length c], .int .i64 (s : Int)] W fun e w' => e = .returned (.tuple #[.bool (winB q l s), .int .i64 0]) ∧ Below W.heap.size W w') := ⟨fun W hW => by
    have := Wins_any q s l A c W hW
    rwa [if_pos ⟨hbody, by omega, hslt'⟩] at this⟩
  clear hs hR
  go_enter Try.func13, Try.ntmps13
  go_wp2_with fail
  refine (c_few q A l.length c (by omega) _).mono ?_
  rintro e w1 ⟨rfl, hb1⟩
  have B1 := belowC (HB.out _) hb1
  have hB1 := (box_body w q A l.length c).below hb1
  have hq1 := hB1.quota
  have hs1 := hB1.weights
  go_wp2_with fail
  refine (rIsBody q l A c _ (hl.below B1) (by omega)).mono ?_
  rw [hbody]
  rintro e w2 ⟨rfl, hb2⟩
  have B2 := belowC B1 hb2
  have hB2 := hB1.below hb2
  have hq2 := hB2.quota
  have hs2 := hB2.weights
  clear hq1 hs1 hB1 hb1 B1
  go_wp2_with fail
  refine (Least_yes q l A c _ (hl.below B2) hbody).mono ?_
  rw [HRl.out]
  rintro e w3 ⟨v3, rfl, hO3, hb3⟩
  have B3 := belowC B2 hb3
  have hB3 := hB2.below hb3
  have hq3 := hB3.quota
  have hs3 := hB3.weights
  obtain ⟨A3, c3, rfl, hI3, hc3⟩ := own_ints hO3 (by omega)
  clear hq2 hs2 hB2 hb2 B2 hO3
  go_wp2_with fail
  rw [es.out]
  refine (HWn.out _ (hl.below B3)).mono ?_
  rintro e w4 ⟨rfl, hb4⟩
  have B4 := belowC B3 hb4
  have hB4 := hB3.below hb4
  have hq4 := hB4.quota
  have hs4 := hB4.weights
  have hI4 := hI3.below hb4
  clear hq3 hs3 hB3 B3
  go_wp2_with fail
  refine (Rules_yes l.length (s : Int) R A3 c3 _ hI4 hc3 HR.out (by omega) hslt').mono ?_
  rw [HS.out]
  rintro e w5 ⟨rfl, hb5⟩
  have B5 := belowC B4 hb5
  have hB5 := hB4.below hb5
  have hq5 := hB5.quota
  have hs5 := hB5.weights
  have hI5 := hI4.below hb5
  clear hq4 hs4 hB4 B4 hI4
  go_wp2_with fail
  refine (Weights_yes l.length R A3 c3 _ hI5 hc3 HR.out).mono ?_
  rintro e w6 ⟨h6, hb6⟩
  have h6' : ∃ v, e = .returned (.tuple #[.agg #[.int .i64 (searchTo (ruleB R) l.length (9 * l.length)).1, v], .int .i64 0]) ∧ Own w6 w5.heap.size v (searchTo (ruleB R) l.length (9 * l.length)).2 := by
    rcases h6 with h6 | h6
    · exact h6.2
    · exact absurd HF.out h6.1
  clear h6
  obtain ⟨v6, rfl, hO6⟩ := h6'
  have hrb := rule_bounds HR.out
  have hwg := search_sound hrb.1 HF.out
  have hbody' := weighs_body hrb.1 hrb.2.1 hwg hrb.2.2.2.2 hrb.2.2.2.1
  have hsame : sameB q (searchTo (ruleB R) l.length (9 * l.length)).1 l (searchTo (ruleB R) l.length (9 * l.length)).2 = true := by
    unfold sameB
    rw [HRl.out, weighs_least HR.out hwg, decide_eq_true rfl, decide_eq_true hwg.len.symm]
    rfl
  have hlen' := hwg.len
  have HLi := Off.mk hwg.light
  obtain ⟨Q, hQ⟩ : ∃ Q, Q = (searchTo (ruleB R) l.length (9 * l.length)).1 := ⟨_, rfl⟩
  obtain ⟨ls, hls⟩ : ∃ ls, ls = (searchTo (ruleB R) l.length (9 * l.length)).2 := ⟨_, rfl⟩
  rw [← hQ, ← hls] at hbody' hsame
  rw [← hls] at hO6 hlen' HLi HL
  rw [← hQ]
  clear hrb hwg hQ hls HF HR HS
  obtain ⟨A6, c6, rfl, hI6, _⟩ := own_ints hO6 (by omega)
  have HLen := Off.mk hlen'
  rw [hlen']
  clear hlen' hO6
  have B6 := belowC B5 hb6
  have hA6 : Below w6.heap.size w6 (w6.alloc (.cells #[.int .i64 Q, .slice A6 l.length c6] 24)) := (Below.refl _ _).alloc (Nat.le_refl _) _
  have hC6 := box_body w6 Q A6 l.length c6
  have hB6 := (hB5.below hb6).below hA6
  have hq6 := hB6.quota
  have hs6 := hB6.weights
  have hI6' := hI6.below hA6
  have B6' := belowC B6 hA6
  have hr6 := hC6.quota
  have ht6 := hC6.weights
  clear hq5 hs5 hB5 B5 hb6
  go_wp2_with fail
  have hsm := Same_yes q Q l ls A A6 c c6 _ (hl.below B6') hI6' hbody hbody'
  rw [HLen.out, hsame] at hsm
  refine hsm.mono ?_
  rintro e w7 ⟨rfl, hb7⟩
  have B7 := belowC B6' hb7
  have hB7 := hB6.below hb7
  have hq7 := hB7.quota
  have hs7 := hB7.weights
  have hC7 := hC6.below hb7
  have hr7 := hC7.quota
  have ht7 := hC7.weights
  have hI7 := Off.mk (hI6'.below hb7)
  clear hsm hq6 hs6 hB6 B6 B6' hA6 hr6 ht6 hC6 hI6 hI6' hb7 hI3 hI5 hb3 hb4 hb5
  have hl7 := Off.mk (hl.below B7)
  obtain ⟨y, hy⟩ : ∃ y, y = winB q l (s : Int) := ⟨_, rfl⟩
  rw [← hy]
  clear hy
  go_wp2_with fail
  go_loopw [17, 18, 19, 20] (fun av cv gv kv wr => ∃ k : Nat, k ≤ l.length ∧ kv = .int .i64 (k : Int) ∧ av = .int .i64 (allTo l k) ∧ cv = .int .i64 (allTo ls k) ∧ gv = .bool (lightTo l k) ∧ wr = w7) (fun _ _ _ kv _ => l.length - (intOf kv).toNat)
  case atStart => exact ⟨0, Nat.zero_le _, rfl, rfl, rfl, rfl, rfl⟩
  case round =>
    obtain ⟨k, hkl, rfl, rfl, rfl, rfl, rfl⟩ := hrel
    by_cases hlt : k < l.length
    · obtain ⟨ad, rfl, xc⟩ := hl7.out.cell k hlt
      obtain ⟨bd, rfl, yc⟩ := hI7.out.cell k (by rw [HLen.out]; exact hlt)
      have r1 := allTo_range l hw.out k (by omega)
      have r2 := allTo_range ls (fun j hj => by have := HLi.out j (by have := HLen.out; omega); omega) k (by have := HLen.out; omega)
      have hx := hw.out k hlt
      have hy := HLi.out k hlt
      have H1 : Off (allTo l (k + 1) = allTo l k + l.getD k 0) := ⟨rfl⟩
      have H2 : Off (allTo ls (k + 1) = allTo ls k + ls.getD k 0) := ⟨rfl⟩
      have H3 : Off (lightTo l (k + 1) = (lightTo l k && decide (l.getD k 0 ≤ 9))) := ⟨rfl⟩
      generalize l.getD k 0 = x at *
      generalize ls.getD k 0 = y at *
      generalize allTo l k = u at *
      generalize allTo ls k = v at *
      have hk0 : (0 : Int) ≤ (k : Int) := by omega
      have hk1 : (k : Int) < (l.length : Int) := by omega
      cases hg : lightTo l k
      · rw [hg] at H3
        clear hg
        go_wp2
        go_roundw
        case rel => exact ⟨k + 1, by omega, by go_num, by rw [H1.out], by rw [H2.out], by rw [H3.out]; rfl, trivial⟩
        case measure => simp only [intOf]; omega
      · rw [hg, Bool.true_and] at H3
        clear hg
        go_wp2
        go_roundw
        case rel => exact ⟨k + 1, by omega, by go_num, by rw [H1.out], by rw [H2.out], by rw [H3.out], trivial⟩
        case measure => simp only [intOf]; omega
    · obtain rfl : k = l.length := by omega
      have HG : Off (lightTo l l.length = true → allTo ls l.length ≤ allTo l l.length) := ⟨fun h => HL.out (fun j hj => ⟨(hw.out j hj).1, lightTo_iff l l.length h j hj⟩)⟩
      obtain ⟨g, hg⟩ : ∃ g, g = lightTo l l.length := ⟨_, rfl⟩
      rw [← hg] at HG ⊢
      clear hg
      obtain ⟨u, hu⟩ : ∃ u, u = allTo l l.length := ⟨_, rfl⟩
      obtain ⟨v, hv⟩ : ∃ v, v = allTo ls l.length := ⟨_, rfl⟩
      rw [← hu, ← hv] at HG
      rw [← hu, ← hv]
      clear hu hv
      cases g
      · go_wp2_with (go_at_call 16; refine (alive_any _).mono ?_; rintro e w8 ⟨rfl, hb8⟩)
        go_ret
        exact ⟨rfl, belowC B7 hb8⟩
      · have hle := HG.out rfl
        go_wp2_with (go_at_call 16; refine (alive_any _).mono ?_; rintro e w8 ⟨rfl, hb8⟩)
        go_ret
        exact ⟨rfl, belowC B7 hb8⟩
end Go.Proofs.Ytdbleghnblohgaa
