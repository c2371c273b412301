/- The law VotePowers: its walk. -/
import Derived.Test.YtdbleghnblohgaaVt
import Derived.Laws.StructEq
namespace Go.Proofs.Ytdbleghnblohgaa
open Go.RowKit Go.Shelf

theorem c_few_no (q : Int) (A : Option Addr) (n c : Nat) (h : 30 < n) (w : World) : Calls Try.prog 15 #[.agg #[.int .i64 q, .slice A n c]] w fun e w' => e = .returned (.bool false) ∧ Below w.heap.size w w' := by
  have := few_any q A n c w
  rw [decide_eq_false (by omega)] at this
  exact this
theorem c_few (q : Int) (A : Option Addr) (n c : Nat) (h : n ≤ 30) (w : World) : Calls Try.prog 15 #[.agg #[.int .i64 q, .slice A n c]] w fun e w' => e = .returned (.bool true) ∧ Below w.heap.size w w' := by
  have := few_any q A n c w
  rw [decide_eq_true h] at this
  exact this

set_option maxHeartbeats 2000000 in
theorem powers_many (q : Int) (l : List Int) (A : Option Addr) (c : Nat) (w : World) (h30 : 30 < l.length) :
    Calls Try.prog 3 #[.agg #[.int .i64 q, .slice A l.length c]] w fun e w' => e = .returned (.bool true) ∧ Below w.heap.size w w' := by
  go_enter Try.func3, Try.ntmps3
  go_wp2_with (first
    | (go_at_call 15; refine (c_few_no q A l.length c h30 _).mono ?_; rintro e w1 ⟨rfl, hb1⟩)
    | (go_at_call 16; refine (alive_any _).mono ?_; rintro e w2 ⟨rfl, hb2⟩))
  go_ret
  exact ⟨rfl, belowC (belowC ((Below.refl _ _).alloc (Nat.le_refl _) _) hb1) hb2⟩

set_option maxHeartbeats 2000000 in
theorem powers_no (q : Int) (l : List Int) (A : Option Addr) (c : Nat) (w : World) (hl : IntsAt w A l) (hlc : l.length ≤ c) (h30 : l.length ≤ 30) (hbody : bodyB q l = false) :
    Calls Try.prog 3 #[.agg #[.int .i64 q, .slice A l.length c]] w fun e w' => e = .returned (.bool true) ∧ Below w.heap.size w w' := by
  have HB : Off (∀ o, Below w.heap.size w (w.alloc o)) := ⟨fun o => (Below.refl _ _).alloc (Nat.le_refl _) _⟩
  go_enter Try.func3, Try.ntmps3
  go_wp2_with fail
  refine (c_few q A l.length c h30 _).mono ?_
  rintro e w1 ⟨rfl, hb1⟩
  have B1 := belowC (HB.out _) hb1
  have hB1 := (box_body w q A l.length c).below hb1
  have hq1 := hB1.quota
  have hs1 := hB1.weights
  go_wp2_with fail
  refine (Turns_no q l A c _ (hl.below B1) hbody).mono ?_
  rintro e w2 ⟨rfl, hb2⟩
  have B2 := belowC B1 hb2
  have hB2 := hB1.below hb2
  have hq2 := hB2.quota
  have hs2 := hB2.weights
  clear hq1 hs1 hB1 hb1 B1
  go_wp2_with fail
  refine (rTurns_no q l A c _ (hl.below B2) hlc h30 hbody).mono ?_
  rintro e w3 ⟨A3, c3, rfl, hI3, hb3⟩
  have B3 := belowC B2 hb3
  have hB3 := hB2.below hb3
  have hq3 := hB3.quota
  have hs3 := hB3.weights
  clear hq2 hs2 hB2 hb2 B2 hb3
  go_wp2_with fail
  refine (c_same [] 0 rfl w3 none A3 0 c3 ⟨by simp, fun j hj => by simp at hj⟩ hI3).mono ?_
  rintro e w4 ⟨rfl, hb4⟩
  have B4 := belowC B3 hb4
  have hB4 := hB3.below hb4
  have hq4 := hB4.quota
  have hs4 := hB4.weights
  clear hq3 hs3 hB3 B3 hb4
  go_wp2_with fail
  refine (Power_no q l A c _ (hl.below B4) hbody).mono ?_
  rintro e w5 ⟨rfl, hb5⟩
  have B5 := belowC B4 hb5
  have hB5 := hB4.below hb5
  have hq5 := hB5.quota
  have hs5 := hB5.weights
  clear hq4 hs4 hB4 B4 hb5
  go_wp2_with fail
  refine (rPower_any q l A c _ (hl.below B5) hlc [] 2 (Ev_no q l h30 hbody)).mono ?_
  rintro e w6 ⟨A6, c6, rfl, hI6, hb6⟩
  have B6 := belowC B5 hb6
  clear hq5 hs5 hB5 B5 hb6
  go_wp2
  go_loopw [9] (fun i wr => i = .int .i64 0 ∧ Below w.heap.size w wr) (fun _ _ => 0)
  case atStart => exact ⟨rfl, B6⟩
  case round =>
    clear B6
    obtain ⟨rfl, B6⟩ := hrel
    go_wp2_with (go_at_call 16; refine (alive_any _).mono ?_; rintro e w7 ⟨rfl, hb7⟩)
    go_ret
    exact ⟨rfl, belowC B6 hb7⟩

theorem eq_ratio (x y : Int) (w : World) : Sem.run Try.prog (Op.equalIn 10000 35 (.agg #[.int .i64 x, .int .i64 y]) (.agg #[.int .i64 x, .int .i64 y])) w = .ok true w := by
  have h1 := Try.underlying35
  have h2 := Try.underlying3
  go_simp

set_option maxHeartbeats 2000000 in
theorem powers_yes (q : Int) (l : List Int) (A : Option Addr) (c : Nat) (w : World) (hl : IntsAt w A l) (hlc : l.length ≤ c) (hbody : bodyB q l = true) :
    Calls Try.prog 3 #[.agg #[.int .i64 q, .slice A l.length c]] w fun e w' => e = .returned (.bool true) ∧ Below w.heap.size w w' := by
  have HB : Off (∀ o, Below w.heap.size w (w.alloc o)) := ⟨fun o => (Below.refl _ _).alloc (Nat.le_refl _) _⟩
  have h8 := (Body.weights hbody).1
  have hlen1 : 0 < l.length := (of_decide_eq_true hbody).1
  have ht : Off (tally l.length (fun _ _ => 1) (turnsTo (winB q l) l.length l.length) = perTo (fun _ _ => 1) (winB q l) l.length l.length) := ⟨tally_all _ _ _⟩
  have ho : Off (ordersOf q l = perTo (orderI l.length) (winB q l) l.length l.length) := ⟨tally_all _ _ _⟩
  go_enter Try.func3, Try.ntmps3
  go_wp2_with fail
  refine (c_few q A l.length c (by omega) _).mono ?_
  rintro e w1 ⟨rfl, hb1⟩
  have B1 := belowC (HB.out _) hb1
  have hB1 := (box_body w q A l.length c).below hb1
  have hq1 := hB1.quota
  have hs1 := hB1.weights
  go_wp2_with fail
  refine (Turns_yes q l A c _ (hl.below B1) hbody).mono ?_
  rintro e w2 ⟨v2, rfl, hO2, hb2⟩
  rw [ht.out] at hO2
  obtain ⟨A2, c2, rfl, hI2, _⟩ := own_ints hO2 (by rw [perTo_length]; omega)
  rw [perTo_length]
  have B2 := belowC B1 hb2
  have hB2 := hB1.below hb2
  have hq2 := hB2.quota
  have hs2 := hB2.weights
  clear hq1 hs1 hB1 hb1 B1 hO2
  go_wp2_with fail
  refine (rTurns_yes q l A c _ (hl.below B2) hlc hbody).mono ?_
  rintro e w3 ⟨A3, c3, rfl, hI3, hb3⟩
  have hI2' := hI2.below hb3
  have B3 := belowC B2 hb3
  have hB3 := hB2.below hb3
  have hq3 := hB3.quota
  have hs3 := hB3.weights
  clear hq2 hs2 hB2 hb2 B2 hb3 hI2
  go_wp2_with fail
  refine (c_same (perTo (fun _ _ => 1) (winB q l) l.length l.length) l.length (perTo_length _ _ _ _) w3 A2 A3 c2 c3 hI2' hI3).mono ?_
  rintro e w4 ⟨rfl, hb4⟩
  have B4 := belowC B3 hb4
  have hB4 := hB3.below hb4
  have hq4 := hB4.quota
  have hs4 := hB4.weights
  clear hq3 hs3 hB3 B3 hb4 hI2' hI3
  go_wp2_with fail
  refine (Power_yes q l A c _ (hl.below B4) hbody).mono ?_
  rintro e w5 ⟨v5, rfl, hO5, hb5⟩
  rw [ho.out] at hO5
  obtain ⟨ps, hps⟩ : ∃ ps, ps = powersOf l.length (perTo (orderI l.length) (winB q l) l.length l.length) := ⟨_, rfl⟩
  rw [← hps] at hO5
  have hpl : ps.length = l.length := by rw [hps]; simp [powersOf, perTo_length]
  obtain ⟨g5, c5, rfl, _, _, hc5⟩ := ownR_cells hO5 (by omega)
  rw [hpl] at hc5 ⊢
  have B5 := belowC B4 hb5
  have hB5 := hB4.below hb5
  have hq5 := hB5.quota
  have hs5 := hB5.weights
  have HC5 := Off.mk hc5
  have HPS := Off.mk hps
  have HPL := Off.mk hpl
  clear hq4 hs4 hB4 B4 hb5 hc5 hO5 hps hpl
  go_wp2_with fail
  refine (rPower_any q l A c _ (hl.below B5) hlc _ 0 (ev_power q l hbody)).mono ?_
  rintro e w6 ⟨A6, c6, rfl, hI6, hb6⟩
  have B6 := belowC B5 hb6
  have HE : Off ((((perTo (orderI l.length) (winB q l) l.length l.length).map (s35 l.length)).map fun x => (x.f0, x.f1)) = ps.map fun x => ((x.1 : Int), (x.2 : Int))) := ⟨by
    rw [HPS.out]
    simp [powersOf, s35]⟩
  rw [HE.out] at hI6
  rw [List.length_map, perTo_length]
  have HB6 := Off.mk hb6
  clear hq5 hs5 hB5 B5 hb6
  go_wp2
  go_loopw [9] (fun i wr => ∃ k : Nat, k ≤ l.length ∧ i = .int .i64 k ∧ Below w.heap.size w wr ∧ Below w6.heap.size w6 wr) (fun i _ => l.length - (intOf i).toNat)
  case atStart => exact ⟨0, by omega, rfl, B6, Below.refl _ _⟩
  case round =>
    clear B6
    obtain ⟨k, hk, rfl, B6, C6⟩ := hrel
    by_cases hlt : k < l.length
    · obtain ⟨a1, a2⟩ := HC5.out k hlt
      have a1 := cellB C6 (cellB HB6.out a1)
      have a2 := cellB C6 (cellB HB6.out a2)
      obtain ⟨ad, e1, b1, b2⟩ := hI6.cell k (by rw [List.length_map, HPL.out]; exact hlt)
      cases e1
      have b1 := cellB C6 b1
      have b2 := cellB C6 b2
      have hz : (ps.map fun x => ((x.1 : Int), (x.2 : Int))).getD k (0, 0) = (((ps.getD k (0, 0)).1 : Int), ((ps.getD k (0, 0)).2 : Int)) := by
        simp [List.getD_eq_getElem?_getD, List.getElem?_eq_getElem (show k < ps.length by rw [HPL.out]; exact hlt)]
      rw [hz] at b1 b2
      obtain ⟨x, hx⟩ : ∃ x : Int, x = ((ps.getD k (0, 0)).1 : Int) := ⟨_, rfl⟩
      obtain ⟨y, hy⟩ : ∃ x : Int, x = ((ps.getD k (0, 0)).2 : Int) := ⟨_, rfl⟩
      rw [← hx] at a1 b1
      rw [← hy] at a2 b2
      have hk0 : (0 : Int) ≤ (k : Int) := by omega
      have hk1 : (k : Int) < (l.length : Int) := by omega
      have heq := fun w => eq_ratio x y w
      clear hz hx hy
      go_wp2
      go_quiet (fail)
      go_wp2
      go_roundw
      case rel => exact ⟨k + 1, by omega, by go_num, below_drewN' B6 _, below_drewN' C6 _⟩
      case measure => simp only [intOf]; omega
    · go_wp2_with (go_at_call 16; refine (alive_any _).mono ?_; rintro e w7 ⟨rfl, hb7⟩)
      go_ret
      exact ⟨rfl, belowC B6 hb7⟩
end Go.Proofs.Ytdbleghnblohgaa
