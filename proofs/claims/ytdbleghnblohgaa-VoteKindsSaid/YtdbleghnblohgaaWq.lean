/- Contract: the specification's Kinds. -/
import Derived.Test.YtdbleghnblohgaaWu
import Derived.Test.YtdbleghnblohgaaQf
namespace Go.Proofs.Ytdbleghnblohgaa
open Go.RowKit Go.Shelf

set_option maxHeartbeats 1000000 in
theorem rKinds_no (q : Int) (l : List Int) (A : Option Addr) (c : Nat) (w : World) (hl : IntsAt w A l) (_hlc : l.length ≤ c) (h30 : l.length ≤ 30) (hbody : bodyB q l = false) :
    Calls Try.prog 40 #[.agg #[.int .i64 q, .slice A l.length c]] w fun e w' => e = .returned (.tuple #[.int .i64 0, .int .i64 0, .int .i64 0, .int .i64 2]) ∧ Below w.heap.size w w' := by
  have HB : Off (∀ o, Below w.heap.size w (w.alloc o)) := ⟨fun o => (Below.refl _ _).alloc (Nat.le_refl _) _⟩
  go_enter Try.func40, Try.ntmps40
  go_wp2_with fail
  refine (hTurns_no q l A c _ (hl.below (HB.out _)) h30 hbody).mono ?_
  rintro e w1 ⟨rfl, hb1⟩
  go_wp2
  refine bodyPost_ret (results_tmp4 rfl _ _ _) rfl ?_
  exact ⟨rfl, belowC (HB.out _) hb1⟩

set_option maxHeartbeats 8000000 in
theorem rKinds_yes (q : Int) (l : List Int) (A : Option Addr) (c : Nat) (w : World) (hl : IntsAt w A l) (_hlc : l.length ≤ c) (hbody : bodyB q l = true) :
    Calls Try.prog 40 #[.agg #[.int .i64 q, .slice A l.length c]] w fun e w' =>
      e = .returned (.tuple #[.int .i64 (noneOf l.length (turnsTo (winB q l) l.length l.length)), .int .i64 (everyTo (winB q l) l.length l.length), .int .i64 (singleTo (winB q l) l.length), .int .i64 0]) ∧ Below w.heap.size w w' := by
  have HB : Off (∀ o, Below w.heap.size w (w.alloc o)) := ⟨fun o => (Below.refl _ _).alloc (Nat.le_refl _) _⟩
  obtain ⟨h8, hw⟩ := Body.weights hbody
  have hlen1 : 0 < l.length := (of_decide_eq_true hbody).1
  rw [none_sum _ _ h8, every_sum _ _ h8, single_sum _ _ h8]
  obtain ⟨p, hp⟩ : ∃ p, p = winB q l := ⟨_, rfl⟩
  have HPW := Off.mk hp
  rw [← hp]
  obtain ⟨fn, hfn⟩ : ∃ f : Nat → Bool, f = fun i => decide (turnsIn p i (2 ^ l.length) = []) := ⟨_, rfl⟩
  obtain ⟨fe, hfe⟩ : ∃ f : Nat → Bool, f = fun i => !p (2 ^ l.length - 1 - 2 ^ i) := ⟨_, rfl⟩
  obtain ⟨fs, hfs⟩ : ∃ f : Nat → Bool, f = fun i => p (2 ^ i) := ⟨_, rfl⟩
  rw [← hfn, ← hfe, ← hfs]
  have HFN : Off (∀ i, fn i = decide (turnsIn p i (2 ^ l.length) = [])) := ⟨fun i => by rw [hfn]⟩
  have HFE : Off (∀ i, fe i = !p (2 ^ l.length - 1 - 2 ^ i)) := ⟨fun i => by rw [hfe]⟩
  have HFS : Off (∀ i, fs i = p (2 ^ i)) := ⟨fun i => by rw [hfs]⟩
  clear hp hfn hfe hfs
  have hpow := pow_le l.length h8
  have hpl : (2 : Int) ^ l.length ≤ 256 := hpow.2
  go_enter Try.func40, Try.ntmps40
  go_wp2_with fail
  refine (hTurns_yes q l A c _ (hl.below (HB.out _)) hbody).mono ?_
  rintro e w1 ⟨v1, rfl, hO1, hb1⟩
  obtain ⟨A1, c1, rfl, hI1, _⟩ := own_ints hO1 (by rw [perTo_length]; omega)
  rw [perTo_length]
  clear hO1
  have B1 := belowC (HB.out _) hb1
  have hBx := (box_body w q A l.length c).below hb1
  have HR : Off (∀ (s : Int) v, p s = v → ∀ W, Below w1.heap.size w1 W → 0 ≤ s → s < 256 → Calls Try.prog 46 #[.agg #[.int .i64 q, .slice A l.length c], .int .i64 s] W fun e w' => e = .returned (.bool v) ∧ Below W.heap.size W w') :=
    ⟨fun s v e W h h0 h1 => by rw [← e, HPW.out]; exact rwins q s l A c W (hl.below (belowC B1 h)) h8 hw h0 h1⟩
  rw [← HPW.out] at hI1
  have HX := Off.mk hBx
  have HI := Off.mk hI1
  have q1 := hBx.quota
  have s1 := hBx.weights
  clear hBx hI1 HPW hbody hl hb1
  go_wp2
  clear q1 s1
  go_loopw [9, 10, 11, 12] (fun nv ev sv iv wr => ∃ k : Nat, k ≤ l.length ∧ iv = .int .i64 (k : Int) ∧ nv = .int .i64 (setSum fn k) ∧ ev = .int .i64 (setSum fe k) ∧ sv = .int .i64 (setSum fs k) ∧ Below w1.heap.size w1 wr) (fun _ _ _ iv _ => l.length - (intOf iv).toNat)
  case atStart => exact ⟨0, Nat.zero_le _, rfl, rfl, rfl, rfl, Below.refl _ _⟩
  case round =>
    obtain ⟨k, hk, rfl, rfl, rfl, rfl, hb⟩ := hrel
    obtain ⟨wo, rfl⟩ : ∃ wo : World, wo = wr := ⟨_, rfl⟩
    by_cases hlt : k < l.length
    · have x0 := cellB hb HX.out.quota
      have x1 := cellB hb HX.out.weights
      obtain ⟨ad, rfl, tc⟩ := HI.out.cell k (by rw [perTo_length]; exact hlt)
      have tc := cellB hb tc
      rw [perTo_getD _ _ _ _ _ hlt] at tc
      have r1 := setSum_range fn k
      have r2 := setSum_range fe k
      have r3 := setSum_range fs k
      have hpk := pow_le k (by omega)
      have hpk2 : (2 : Int) ^ k * 2 ≤ 2 ^ l.length := by
        have := Nat.pow_le_pow_right (n := 2) (by decide) (show k + 1 ≤ l.length by omega)
        have h1 := nat_pow (k + 1)
        have h2 := nat_pow l.length
        rw [Int.pow_succ] at h1
        omega
      have H1 : Off (setSum fn (k + 1) = if fn k then setSum fn k + 2 ^ k else setSum fn k) := ⟨rfl⟩
      have H2 : Off (setSum fe (k + 1) = if fe k then setSum fe k + 2 ^ k else setSum fe k) := ⟨rfl⟩
      have H3 : Off (setSum fs (k + 1) = if fs k then setSum fs k + 2 ^ k else setSum fs k) := ⟨rfl⟩
      have hz := ones_zero (turnsIn p k (2 ^ l.length))
      have HFNk := HFN.out k
      generalize sumOf (fun _ _ => 1) (turnsIn p k (2 ^ l.length)) = t at *
      have HZ : Off ((t == 0) = fn k) := ⟨by
        rw [HFNk]
        by_cases e : t = 0
        · rw [decide_eq_true (hz.1 e), beq_iff_eq]; exact e
        · rw [decide_eq_false (fun h => e (hz.2 h)), beq_eq_false_iff_ne]; exact e⟩
      have HE := Off.mk (HFE.out k)
      have HS := Off.mk (HFS.out k)
      clear hz HFNk
      generalize setSum fn k = a at *
      generalize setSum fe k = b at *
      generalize setSum fs k = d at *
      have hk0 : (0 : Int) ≤ (k : Int) := by omega
      have hk1 : (k : Int) < (l.length : Int) := by omega
      have hw1 : IntKind.i64.wrap ((2 : Int) ^ k) = 2 ^ k := by rw [IntKind.wrap_i64]; omega
      have hw2 : IntKind.i64.wrap ((2 : Int) ^ l.length) = 2 ^ l.length := by rw [IntKind.wrap_i64]; omega
      have hw3 : IntKind.i64.wrap ((2 : Int) ^ l.length - 1) = 2 ^ l.length - 1 := by rw [IntKind.wrap_i64]; omega
      have hw4 : IntKind.i64.wrap ((2 : Int) ^ l.length - 1 - 2 ^ k) = 2 ^ l.length - 1 - 2 ^ k := by rw [IntKind.wrap_i64]; omega
      cases hn : fn k <;> cases h1 : p (2 ^ l.length - 1 - 2 ^ k) <;> cases h2 : p (2 ^ k) <;> rw [h1] at HE <;> rw [h2] at HS <;> rw [HE.out] at H2 <;> rw [HS.out] at H3
      all_goals
        rw [hn] at H1
        have HZ' := HZ.out
        rw [hn] at HZ'
        clear HZ
        go_wp2
        go_region_held3 (fun w' => w'.cell? ⟨w.heap.size, 0, none⟩ = some (.int .i64 q) ∧ w'.cell? ⟨w.heap.size, 1, none⟩ = some (.slice A l.length c))
          (first | go_keep | exact ⟨x0, x1⟩)
          (first | (go_at_call 46; refine (HR.out _ _ h1 _ hb.drew (by omega) (by omega)).mono ?_; rintro e w3 ⟨rfl, hb3⟩; have x0 := cellB hb3 x0; have x1 := cellB hb3 x1; have B3 := belowC hb.drew hb3))
        go_wp2
        go_region_held3 (fun w' => w'.cell? ⟨w.heap.size, 0, none⟩ = some (.int .i64 q) ∧ w'.cell? ⟨w.heap.size, 1, none⟩ = some (.slice A l.length c))
          (first | go_keep | exact ⟨x0, x1⟩)
          (first | (go_at_call 46; refine (HR.out _ _ h2 _ B3.drew (by omega) (by omega)).mono ?_; rintro e w4 ⟨rfl, hb4⟩; have x0 := cellB hb4 x0; have x1 := cellB hb4 x1; have B4 := belowC B3.drew hb4))
        go_wp2
        go_roundw
        case rel => exact ⟨k + 1, by omega, by go_num, by rw [H1.out]; go_num, by rw [H2.out]; go_num, by rw [H3.out]; go_num, B4⟩
        case measure => simp only [intOf]; omega
    · obtain rfl : k = l.length := by omega
      go_wp2
      refine bodyPost_ret (results_tmp4 rfl _ _ _) rfl ?_
      exact ⟨rfl, belowC B1 hb⟩
end Go.Proofs.Ytdbleghnblohgaa
