/- Contract: the specification's Turns, by hand. -/
import Derived.Test.YtdbleghnblohgaaVv
import Derived.Test.YtdbleghnblohgaaPr
namespace Go.Proofs.Ytdbleghnblohgaa
open Go.RowKit Go.Shelf

set_option maxHeartbeats 1000000 in
theorem hTurns_no (q : Int) (l : List Int) (A : Option Addr) (c : Nat) (w : World) (hl : IntsAt w A l) (h30 : l.length ≤ 30) (hbody : bodyB q l = false) :
    Calls Try.prog 18 #[.agg #[.int .i64 q, .slice A l.length c]] w fun e w' => e = .returned (.tuple #[.slice none 0 0, .int .i64 2]) ∧ Below w.heap.size w w' := by
  have HB : Off (∀ o, Below w.heap.size w (w.alloc o)) := ⟨fun o => (Below.refl _ _).alloc (Nat.le_refl _) _⟩
  go_enter Try.func18, Try.ntmps18
  go_wp2_with fail
  refine (rIsBody q l A c _ (hl.below (HB.out _)) h30).mono ?_
  rw [hbody]
  rintro e w1 ⟨rfl, hb1⟩
  go_wp2
  go_ret2
  exact ⟨rfl, belowC (HB.out _) hb1⟩
theorem ones_len (l : List (Nat × Nat)) : sumOf (fun _ _ => 1) l = l.length := by
  have : ∀ (l : List (Nat × Nat)) (a : Int), l.foldl (fun a _ => a + 1) a = a + l.length := by
    intro l
    induction l with
    | nil => intro a; simp
    | cons x l ih => intro a; rw [List.foldl_cons, ih]; simp; omega
  unfold sumOf
  rw [this]
  simp
theorem turnsIn_len (p : Int → Bool) (i k : Nat) : (turnsIn p i k).length ≤ k := by
  induction k with
  | zero => simp [turnsIn]
  | succ k ih =>
    simp only [turnsIn, List.length_append]
    split <;> simp <;> omega

set_option maxHeartbeats 8000000 in
theorem hTurns_yes (q : Int) (l : List Int) (A : Option Addr) (c : Nat) (w : World) (hl : IntsAt w A l) (hbody : bodyB q l = true) :
    Calls Try.prog 18 #[.agg #[.int .i64 q, .slice A l.length c]] w fun e w' => ∃ v, e = .returned (.tuple #[v, .int .i64 0]) ∧ Own w' w.heap.size v (perTo (fun _ _ => 1) (winB q l) l.length l.length) ∧ Below w.heap.size w w' := by
  have HB : Off (∀ o, Below w.heap.size w (w.alloc o)) := ⟨fun o => (Below.refl _ _).alloc (Nat.le_refl _) _⟩
  obtain ⟨h8, hw⟩ := Body.weights hbody
  have hpow := pow_le l.length h8
  obtain ⟨i0, hi, hz0, hz1, hz2⟩ := info_parts info3
  have hpl : (2 : Int) ^ l.length ≤ 256 := hpow.2
  have hnp := nat_pow l.length
  obtain ⟨p, hp⟩ : ∃ p, p = winB q l := ⟨_, rfl⟩
  have HPW := Off.mk hp
  rw [← hp]
  clear hp
  go_enter Try.func18, Try.ntmps18
  go_wp2_with fail
  refine (rIsBody q l A c _ (hl.below (HB.out _)) (by omega)).mono ?_
  rw [hbody]
  rintro e w1 ⟨rfl, hb1⟩
  have B1 := belowC (HB.out _) hb1
  have hBx := (box_body w q A l.length c).below hb1
  have HR : Off (∀ (s : Int) v, p s = v → ∀ W, Below w1.heap.size w1 W → 0 ≤ s → s < 256 → Calls Try.prog 46 #[.agg #[.int .i64 q, .slice A l.length c], .int .i64 s] W fun e w' => e = .returned (.bool v) ∧ Below W.heap.size W w') :=
    ⟨fun s v e W h h0 h1 => by rw [← e, HPW.out]; exact rwins q s l A c W (hl.below (belowC B1 h)) h8 hw h0 h1⟩
  have hlt1 : w.heap.size < w1.heap.size := World.block_lt_of_cell? w1 ⟨w.heap.size, 0, none⟩ hBx.quota
  have HX := Off.mk hBx
  clear hBx HPW hbody hl hb1
  go_wp2
  go_loopw [4, 5] (fun v iv wr => ∃ i : Nat, i ≤ l.length ∧ iv = .int .i64 (i : Int) ∧ Own wr w1.heap.size v (perTo (fun _ _ => 1) p l.length i) ∧ Below w1.heap.size w1 wr)
    (fun _ iv _ => l.length - (intOf iv).toNat)
  case atStart => exact ⟨0, Nat.zero_le _, rfl, ⟨World.ownsRow_nil _ _ _ _⟩, Below.refl _ _⟩
  case round =>
    obtain ⟨i, hi8, rfl, hown, hb⟩ := hrel
    obtain ⟨wo, rfl⟩ : ∃ wo : World, wo = wr := ⟨_, rfl⟩
    have x0 := cellB hb HX.out.quota
    have x1 := cellB hb HX.out.weights
    by_cases hil : i < l.length
    · go_wp2
      go_loopw [6, 7] (fun mv sv wr => ∃ s : Nat, (s : Int) ≤ 2 ^ l.length ∧ sv = .int .i64 (s : Int) ∧ mv = .int .i64 (sumOf (fun _ _ => 1) (turnsIn p i s)) ∧ Own wr w1.heap.size u4 (perTo (fun _ _ => 1) p l.length i) ∧ Below w1.heap.size w1 wr) (fun _ sv _ => (2 ^ l.length - intOf sv).toNat)
      case atStart => exact ⟨0, by simp only [Int.natCast_zero]; omega, rfl, rfl, hown, hb⟩
      case round =>
        clear hown hb x0 x1
        obtain ⟨s, hs, rfl, rfl, hown, hb⟩ := hrel
        obtain ⟨wq, rfl⟩ : ∃ wo : World, wo = wr := ⟨_, rfl⟩
        have x0 := cellB hb HX.out.quota
        have x1 := cellB hb HX.out.weights
        have hlen := turnsIn_len p i s
        have hone := ones_len (turnsIn p i s)
        by_cases hsl : (s : Int) < 2 ^ l.length
        · have hS : Off (sumOf (fun _ _ => 1) (turnsIn p i (s + 1)) = if (decide ((s : Int) / 2 ^ i % 2 = 0) && (!p s && p (with_ s i))) = true then sumOf (fun _ _ => 1) (turnsIn p i s) + 1 else sumOf (fun _ _ => 1) (turnsIn p i s)) := ⟨by
            rw [ones_len, ones_len]
            simp only [turnsIn, List.length_append]
            split
            · simp
            · simp⟩
          have hd := div_range (s : Int) i (by omega)
          have hbr := bit_range (s : Int) i
          have hpk := pow_le i (by omega)
          have e3 : ((s : Int) / 2 ^ i).tmod 2 = s / 2 ^ i % 2 := Int.tmod_eq_emod_of_nonneg hd.1
          have hwi : Off ((s : Int) / 2 ^ i % 2 = 0 → with_ s i = (s : Int) + 2 ^ i) := ⟨fun h => by unfold with_; rw [h]; omega⟩
          have hpi2 : (2 : Int) ^ i * 2 ≤ 2 ^ l.length := by
            have := Nat.pow_le_pow_right (n := 2) (by decide) (show i + 1 ≤ l.length by omega)
            have h1 := nat_pow (i + 1)
            rw [Int.pow_succ] at h1
            omega
          have ht : 0 ≤ sumOf (fun _ _ => 1) (turnsIn p i s) ∧ sumOf (fun _ _ => 1) (turnsIn p i s) ≤ s := by omega
          clear hone hlen
          generalize sumOf (fun _ _ => 1) (turnsIn p i s) = t at *
          by_cases hbit : (s : Int) / 2 ^ i % 2 = 0
          · have hbit' : ((s : Int) / 2 ^ i % 2 == 0) = true := beq_iff_eq.2 hbit
            rw [hwi.out hbit, decide_eq_true hbit, Bool.true_and] at hS
            have hwp : IntKind.i64.wrap ((2 : Int) ^ i) = 2 ^ i := by rw [IntKind.wrap_i64]; omega
            have hws : IntKind.i64.wrap ((s : Int) + 2 ^ i) = (s : Int) + 2 ^ i := by rw [IntKind.wrap_i64]; omega
            have hlt' : Off (0 ≤ (s : Int) + 2 ^ i ∧ (s : Int) + 2 ^ i < 256) := ⟨by
              have hsN : s < 2 ^ l.length := by omega
              have h1 := flip_lt ⟨l.length, by omega⟩ ⟨i, by omega⟩ hil ⟨s, hsN⟩
              have h2 : s / 2 ^ i % 2 = 0 := by
                have := castbit s i
                omega
              unfold flipS at h1
              simp only at h1
              rw [if_pos h2] at h1
              have h3 := nat_pow i
              omega⟩
            clear hwi
            cases hps : p (s : Int)
            · rw [hps] at hS
              cases hpv : p ((s : Int) + 2 ^ i)
              · rw [hpv] at hS
                have hS' : Off (sumOf (fun _ _ => 1) (turnsIn p i (s + 1)) = t) := ⟨by rw [hS.out]; rfl⟩
                go_wp2
                first
                  | go_region_held3 (fun w' => w'.cell? ⟨w.heap.size, 0, none⟩ = some (.int .i64 q) ∧ w'.cell? ⟨w.heap.size, 1, none⟩ = some (.slice A l.length c))
                      (first | go_keep | exact ⟨x0, x1⟩)
                      (first | (go_at_call 46; refine (HR.out _ _ hpv _ B3 hlt'.out.1 hlt'.out.2).mono ?_; rintro e w4 ⟨rfl, hb4⟩; have x0 := cellB hb4 x0; have x1 := cellB hb4 x1; have B4 := belowC B3 hb4) | (go_at_call 46; refine (HR.out _ _ hps _ hb.drew (by omega) (by omega)).mono ?_; rintro e w3 ⟨rfl, hb3⟩; have x0 := cellB hb3 x0; have x1 := cellB hb3 x1; have B3 := belowC hb.drew hb3))
                  | fail
                have hd4 : Below wq.heap.size wq w4 := belowC (belowC (Below.refl _ _).drew hb3) hb4
                go_wp2
                go_roundw
                case rel => exact ⟨s + 1, by omega, by go_num, by rw [hS'.out], own_below hown hd4, belowC hb hd4⟩
                case measure => simp only [intOf]; omega
              · rw [hpv] at hS
                have hS' : Off (sumOf (fun _ _ => 1) (turnsIn p i (s + 1)) = t + 1) := ⟨by rw [hS.out]; rfl⟩
                go_wp2
                first
                  | go_region_held3 (fun w' => w'.cell? ⟨w.heap.size, 0, none⟩ = some (.int .i64 q) ∧ w'.cell? ⟨w.heap.size, 1, none⟩ = some (.slice A l.length c))
                      (first | go_keep | exact ⟨x0, x1⟩)
                      (first | (go_at_call 46; refine (HR.out _ _ hpv _ B3 hlt'.out.1 hlt'.out.2).mono ?_; rintro e w4 ⟨rfl, hb4⟩; have x0 := cellB hb4 x0; have x1 := cellB hb4 x1; have B4 := belowC B3 hb4) | (go_at_call 46; refine (HR.out _ _ hps _ hb.drew (by omega) (by omega)).mono ?_; rintro e w3 ⟨rfl, hb3⟩; have x0 := cellB hb3 x0; have x1 := cellB hb3 x1; have B3 := belowC hb.drew hb3))
                  | fail
                have hd4 : Below wq.heap.size wq w4 := belowC (belowC (Below.refl _ _).drew hb3) hb4
                go_wp2
                go_roundw
                case rel => exact ⟨s + 1, by omega, by go_num, by rw [hS'.out], own_below hown hd4, belowC hb hd4⟩
                case measure => simp only [intOf]; omega
            · rw [hps] at hS
              have hS' : Off (sumOf (fun _ _ => 1) (turnsIn p i (s + 1)) = t) := ⟨by rw [hS.out]; rfl⟩
              go_wp2
              first
                | go_region_with ((go_at_call 46; refine (HR.out _ _ hps _ hb.drew (by omega) (by omega)).mono ?_; rintro e w3 ⟨rfl, hb3⟩; have x0 := cellB hb3 x0; have x1 := cellB hb3 x1; have B3 := belowC hb.drew hb3))
                | fail
              all_goals
                have hd3 : Below wq.heap.size wq w3 := belowC (Below.refl _ _).drew hb3
                go_wp2
                go_roundw
                case rel => exact ⟨s + 1, by omega, by go_num, by rw [hS'.out], own_below hown hd3, belowC hb hd3⟩
                case measure => simp only [intOf]; omega
          · have hbit' : ((s : Int) / 2 ^ i % 2 == 0) = false := beq_eq_false_iff_ne.2 hbit
            have hS' : Off (sumOf (fun _ _ => 1) (turnsIn p i (s + 1)) = t) := ⟨by rw [hS.out, decide_eq_false hbit]; rfl⟩
            go_wp2
            go_quiet (fail)
            go_wp2
            go_roundw
            case rel => exact ⟨s + 1, by omega, by go_num, by rw [hS'.out], own_below hown (below_drewN' (Below.refl _ _) _), below_drewN' hb _⟩
            case measure => simp only [intOf]; omega
        · have hse : s = 2 ^ l.length := by omega
          have hP : Off (perTo (fun _ _ => 1) p l.length (i + 1) = perTo (fun _ _ => 1) p l.length i ++ [sumOf (fun _ _ => 1) (turnsIn p i s)]) := ⟨by rw [hse]; rfl⟩
          have HPl := Off.mk (perTo_length (fun _ _ => 1) p l.length i)
          clear hse hone hlen
          generalize sumOf (fun _ _ => 1) (turnsIn p i s) = t at *
          generalize perTo (fun _ _ => 1) p l.length i = P at *
          go_wp2_with (at_builtin; refine wpList_append_own _ rfl _ _ 22 rfl w1.heap.size 3 i0 (.int .i64 0) 1 8 Try.underlying22 hi hz0 hz1 hz2 rfl (by decide) _ _ _ rfl (hown.out.alloc _) ⟨wq.heap.size, 0, none⟩ 1 1 [.int .i64 t] rfl rfl ?c1 ?c2 ?c3 ?c4 ?c5 ?_)
          case c2 => first | rfl | (intro u hu; simp at hu; subst hu; rfl)
          case c3 => have := HPl.out; unfold maxLen; omega
          case c4 => have := HPl.out; omega
          case c5 => have := hb.size; simp; omega
          intro v' w3 hown' hgrow _
          have hb' : Below w1.heap.size w1 w3 := (hb.alloc hb.size _).grown hgrow (by have := hb.size; simp; omega) (fun k e => own_base hown e)
          have hO : Own w3 w1.heap.size v' (perTo (fun _ _ => 1) p l.length (i + 1)) := ⟨by rw [hP.out]; simpa [nums] using hown'⟩
          clear hown' hgrow hown hb
          go_wp2
          go_roundw
          case rel => exact ⟨i + 1, by omega, by go_num, hO, hb'⟩
          case measure => simp only [intOf]; omega
    · obtain rfl : i = l.length := by omega
      have hO := own_mono hown (Nat.le_of_lt hlt1)
      go_wp2
      go_ret2
      exact ⟨_, rfl, hO, belowC B1 hb⟩
end Go.Proofs.Ytdbleghnblohgaa
