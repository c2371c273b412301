/- Contracts: the specification's Turn, Turns, sweep, Sweep. -/
import Derived.Test.YtnhbkopgbibcgaaHc
namespace Go.Proofs.Ytnhbkopgbibcgaa
open Go.RowKit Go.Shelf

set_option maxHeartbeats 2000000 in
set_option maxRecDepth 100000 in
theorem rsweep_any (l : List Int) (A : Option Addr) (c n b : Nat) (w : World) (hl : IntsAt w A l) (hlc : l.length ≤ c) (hA : A = none → c = 0) (hs : stateB n b l = true) (hln : l.length = n) (h1 : 1 ≤ n) (h6 : n ≤ 6) (hb1 : 1 ≤ b) (hb6 : b ≤ 6) :
    Calls Try.prog 73 #[.int .i64 (n : Int), .int .i64 (b : Int), .slice A l.length c] w fun e w' => ∃ v, e = .returned v ∧ Own w' w.heap.size v (sweepP b l) ∧ Below w.heap.size w w' := by
  have HS : Off (∀ k, stateB n b (sweepTo b n l k) = true) := ⟨fun k => sweepTo_state hs hln.symm k⟩
  have HLN := Off.mk hln
  go_enter Try.func73, Try.ntmps73
  go_wp2_with (at_builtin; refine wpList_copy rfl _ _ rfl A l c hl hlc (by omega) hA rfl rfl ?_)
  intro v1 w1 hO1 B1
  have hO0 : Own w1 w.heap.size v1 (sweepTo b n l 0) := hO1
  clear hO1 hs hln
  go_wp2
  go_loopw [7, 8] (fun v dv wr => ∃ k : Nat, k ≤ n + b - 1 ∧ dv = .int .i64 (1 - (n : Int) + k) ∧ Own wr w.heap.size v (sweepTo b n l k) ∧ Below w.heap.size w wr) (fun _ dv _ => ((b : Int) - intOf dv).toNat)
  case atStart => exact ⟨0, by omega, by go_num, hO0, B1⟩
  case round =>
    clear hO0 B1
    obtain ⟨k, hk, rfl, hO, hB⟩ := hrel
    obtain ⟨wo, rfl⟩ : ∃ wo : World, wo = wr := ⟨_, rfl⟩
    by_cases hkl : k < n + b - 1
    · have HT : Off (sweepTo b n l (k + 1) = swRow b (1 - (n : Int) + k) n (sweepTo b n l k)) := ⟨rfl⟩
      have hst := HS.out k
      have hml : (sweepTo b n l k).length = n := by rw [sweepTo_length]; exact HLN.out
      obtain ⟨m, hm⟩ : ∃ m, m = sweepTo b n l k := ⟨_, rfl⟩
      rw [← hm] at hO HT hst hml
      have HST := Off.mk hst
      have HML := Off.mk hml
      have HD : Off (1 - (n : Int) + (k + 1 : Nat) = 1 - (n : Int) + k + 1) := ⟨by omega⟩
      obtain ⟨d, hd⟩ : ∃ d, d = 1 - (n : Int) + (k : Int) := ⟨_, rfl⟩
      rw [← hd] at HT HD ⊢
      have hd1 : -5 ≤ d := by omega
      have hd2 : d < b := by omega
      have hO0 : Own wo w.heap.size u7 (swRow b d 0 m) := hO
      clear hm hst hml hd hO
      go_wp2
      go_loopw [7, 9] (fun v iv wr => ∃ i : Nat, i ≤ n ∧ iv = .int .i64 i ∧ Own wr w.heap.size v (swRow b d i m) ∧ Below w.heap.size w wr) (fun _ iv _ => n - (intOf iv).toNat)
      case atStart => exact ⟨0, by omega, rfl, hO0, hB⟩
      case round =>
        clear hO0 hB
        obtain ⟨i, hi, rfl, hO, hB⟩ := hrel
        obtain ⟨wq, rfl⟩ : ∃ wo : World, wo = wr := ⟨_, rfl⟩
        by_cases hin : i < n
        · have hi1 : (i : Int) < (n : Int) := by omega
          have hi0 : (0 : Int) ≤ (i : Int) := by omega
          by_cases hh : 0 ≤ (i : Int) + d ∧ (i : Int) + d < b
          · have HU : Off (swRow b d (i + 1) m = turnS (swRow b d i m) i ((i : Int) + d)) := ⟨by rw [swRow, if_pos hh]⟩
            have hsm : stateB n b (swRow b d i m) = true := swRow_state HST.out i (by rw [HML.out]; exact hi)
            have hlm : (swRow b d i m).length = n := by rw [swRow_length]; exact HML.out
            have CT : Off (∀ v W, Own W w.heap.size v (swRow b d i m) → Calls Try.prog 66 #[v, .int .i64 (i : Int), .int .i64 ((i : Int) + d)] W fun e w' => ∃ v', e = .returned v' ∧ Own w' W.heap.size v' (turnS (swRow b d i m) i ((i : Int) + d)) ∧ Below W.heap.size W w') := ⟨fun v W hW => by
              have hr := state_range hsm (show i < (swRow b d i m).length by omega)
              obtain ⟨A, c, rfl, hI, hc⟩ := own_ints hW (by omega)
              exact rturn_any (swRow b d i m) A c i ((i : Int) + d) W hI hc (by omega) hh.1 (by omega) (by omega) (by omega)⟩
            obtain ⟨h2, h3⟩ := hh
            have hsz := hB.size
            clear hsm hlm
            go_wp2_with fail
            refine (CT.out _ _ hO).mono ?_
            rintro e w3 ⟨v3, rfl, hO3, hb3⟩
            go_wp2
            go_roundw
            case rel => exact ⟨i + 1, by omega, by go_num, by rw [HU.out]; exact own_mono hO3 hsz, belowC hB hb3⟩
            case measure => simp only [intOf]; omega
          · have HU : Off (swRow b d (i + 1) m = swRow b d i m) := ⟨by rw [swRow, if_neg hh]⟩
            have hd : (i : Int) + d < 0 ∨ (0 ≤ (i : Int) + d ∧ b ≤ (i : Int) + d) := by omega
            clear hh
            rcases hd with h | ⟨h, h2⟩
            all_goals
              go_wp2
              go_roundw
              case rel => exact ⟨i + 1, by omega, by go_num, by rw [HU.out]; exact hO, hB⟩
              case measure => simp only [intOf]; omega
        · obtain rfl : n = i := by omega
          go_wp2
          go_roundw
          case rel => exact ⟨k + 1, by omega, by rw [HD.out], by rw [HT.out]; exact hO, hB⟩
          case measure => simp only [intOf]; omega
    · obtain rfl : k = n + b - 1 := by omega
      have HF : Off (sweepP b l = sweepTo b n l (n + b - 1)) := ⟨by unfold sweepP; rw [HLN.out]⟩
      have hd : 1 - (n : Int) + ((n + b - 1 : Nat) : Int) = b := by omega
      rw [hd]
      clear hd
      go_wp2
      go_ret
      exact ⟨_, rfl, by rw [HF.out]; exact hO, hB⟩

set_option maxHeartbeats 1000000 in
theorem rSweep_any (a b : Int) (l : List Int) (A : Option Addr) (c : Nat) (w : World) (hl : IntsAt w A l) (hlc : l.length ≤ c) (hA : A = none → c = 0) :
    Calls Try.prog 41 #[.int .i64 a, .int .i64 b, .slice A l.length c] w fun e w' => MovedPost a b l (sweepP b.toNat l) w e w' := by
  cases hk : askedB a b l
  · have CA := Off.mk (asked_any a b l A c false hk w hl)
    have HK := Off.mk hk
    clear hk
    go_enter Try.func41, Try.ntmps41
    go_wp2_with (go_at_call 58; refine CA.out.mono ?_; rintro e w1 ⟨rfl, hb⟩; simp only [askedErr])
    go_ret2
    exact ⟨_, by rw [HK.out]; rfl, by rw [HK.out]; exact ⟨World.ownsRow_nil _ _ _ _⟩, hb⟩
  · have CA := Off.mk (asked_any a b l A c true hk w hl)
    have HK := Off.mk hk
    obtain ⟨n, m, rfl, rfl, hn, hn1, hn6, hm1, hm6, hs⟩ := asked_nat hk
    have CD : Off (∀ W, Below w.heap.size w W → Calls Try.prog 73 #[.int .i64 (n : Int), .int .i64 (m : Int), .slice A l.length c] W fun e w' => ∃ v, e = .returned v ∧ Own w' W.heap.size v (sweepP m l) ∧ Below W.heap.size W w') := ⟨fun W hW =>
      rsweep_any l A c n m W (hl.below hW) hlc hA hs hn hn1 hn6 hm1 hm6⟩
    clear hk hs hn hl
    go_enter Try.func41, Try.ntmps41
    go_wp2_with (first
      | (go_at_call 58; refine CA.out.mono ?_; rintro e w1 ⟨rfl, hb⟩; simp only [askedErr])
      | (go_at_call 73; refine (CD.out _ hb).mono ?_; rintro e w2 ⟨v, rfl, hO, hb2⟩; have hsz := hb.size))
    go_ret2
    exact ⟨_, by rw [HK.out]; rfl, by rw [HK.out]; exact own_mono hO hsz, belowC hb hb2⟩
end Go.Proofs.Ytnhbkopgbibcgaa
