/- The law VoteMore: its walk. -/
import Derived.Test.YtdbleghnblohgaaVv
import Derived.Test.YtdbleghnblohgaaPq
namespace Go.Proofs.Ytdbleghnblohgaa
open Go.RowKit Go.Shelf

set_option maxHeartbeats 2000000 in
theorem more_many (q : Int) (l : List Int) (A : Option Addr) (c : Nat) (a b : Int) (w : World) (h30 : 30 < l.length) :
    Calls Try.prog 5 #[.agg #[.int .i64 q, .slice A l.length c], .int .u8 a, .int .u8 b] w fun e w' => e = .returned (.bool true) ∧ Below w.heap.size w w' := by
  go_enter Try.func5, Try.ntmps5
  go_wp2_with (first
    | (go_at_call 15; refine (c_few_no q A l.length c h30 _).mono ?_; rintro e w1 ⟨rfl, hb1⟩)
    | (go_at_call 16; refine (alive_any _).mono ?_; rintro e w2 ⟨rfl, hb2⟩))
  go_ret
  exact ⟨rfl, belowC (belowC ((Below.refl _ _).alloc (Nat.le_refl _) _) hb1) hb2⟩

set_option maxHeartbeats 2000000 in
theorem more_no (q : Int) (l : List Int) (A : Option Addr) (c : Nat) (a b : Int) (w : World) (hl : IntsAt w A l) (h30 : l.length ≤ 30) (hbody : bodyB q l = false) :
    Calls Try.prog 5 #[.agg #[.int .i64 q, .slice A l.length c], .int .u8 a, .int .u8 b] w fun e w' => e = .returned (.bool true) ∧ Below w.heap.size w w' := by
  have HB : Off (∀ o, Below w.heap.size w (w.alloc o)) := ⟨fun o => (Below.refl _ _).alloc (Nat.le_refl _) _⟩
  go_enter Try.func5, Try.ntmps5
  go_wp2_with fail
  refine (c_few q A l.length c h30 _).mono ?_
  rintro e w1 ⟨rfl, hb1⟩
  have B1 := belowC (HB.out _) hb1
  have hB1 := (box_body w q A l.length c).below hb1
  have hq1 := hB1.quota
  have hs1 := hB1.weights
  go_wp2_with fail
  refine (rIsBody q l A c _ (hl.below B1) h30).mono ?_
  rw [hbody]
  rintro e w2 ⟨rfl, hb2⟩
  have B2 := belowC B1 hb2
  clear hq1 hs1 hB1 hb1 B1 hb2
  go_wp2_with (go_at_call 16; refine (alive_any _).mono ?_; rintro e w7 ⟨rfl, hb7⟩)
  go_ret
  exact ⟨rfl, belowC B2 hb7⟩

set_option maxRecDepth 100000 in
set_option maxHeartbeats 4000000 in
theorem more_yes (q : Int) (l : List Int) (A : Option Addr) (c : Nat) (a b : Nat) (ha : a < 256) (hb : b < 256) (w : World) (hl : IntsAt w A l) (hbody : bodyB q l = true) :
    Calls Try.prog 5 #[.agg #[.int .i64 q, .slice A l.length c], .int .u8 (a : Int), .int .u8 (b : Int)] w fun e w' => e = .returned (.bool true) ∧ Below w.heap.size w w' := by
  have HB : Off (∀ o, Below w.heap.size w (w.alloc o)) := ⟨fun o => (Below.refl _ _).alloc (Nat.le_refl _) _⟩
  have h8 := (Body.weights hbody).1
  have hlen1 : 0 < l.length := (of_decide_eq_true hbody).1
  have ht : Off (tally l.length (fun _ _ => 1) (turnsTo (winB q l) l.length l.length) = perTo (fun _ _ => 1) (winB q l) l.length l.length) := ⟨tally_all _ _ _⟩
  have ho : Off (ordersOf q l = perTo (orderI l.length) (winB q l) l.length l.length) := ⟨tally_all _ _ _⟩
  obtain ⟨i, hi⟩ : ∃ i, i = a % l.length := ⟨_, rfl⟩
  obtain ⟨k, hk⟩ : ∃ i, i = b % l.length := ⟨_, rfl⟩
  have hil : i < l.length := by rw [hi]; exact Nat.mod_lt _ hlen1
  have hkl : k < l.length := by rw [hk]; exact Nat.mod_lt _ hlen1
  have ei : Off ((a : Int) % (l.length : Int) = (i : Int)) := ⟨by rw [hi]; rfl⟩
  have ek : Off ((b : Int) % (l.length : Int) = (k : Int)) := ⟨by rw [hk]; rfl⟩
  clear hi hk
  go_enter Try.func5, Try.ntmps5
  go_wp2_with fail
  refine (c_few q A l.length c (by omega) _).mono ?_
  rintro e w1 ⟨rfl, hb1⟩
  have B1 := belowC (HB.out _) hb1
  have hB1 := (box_body w q A l.length c).below hb1
  have hq1 := hB1.quota
  have hs1 := hB1.weights
  go_wp2_with fail
  refine (rIsBody q l A c _ (hl.below B1) (by omega)).mono ?_
  rw [hbody]
  rintro e w2 ⟨rfl, hb2⟩
  have B2 := belowC B1 hb2
  have hB2 := hB1.below hb2
  have hq2 := hB2.quota
  have hs2 := hB2.weights
  clear hq1 hs1 hB1 hb1 B1
  go_wp2_with fail
  go_quiet (fail)
  rw [ei.out, ek.out]
  have B2 := below_drewN' B2 nq
  have hq2 : (w2.drewN nq).cell? _ = _ := hq2
  have hs2 : (w2.drewN nq).cell? _ = _ := hs2
  go_wp2_with fail
  refine (Turns_yes q l A c _ (hl.below B2) hbody).mono ?_
  rintro e w3 ⟨v3, rfl, hO3, hb3⟩
  rw [ht.out] at hO3
  obtain ⟨A3, c3, rfl, hI3, _⟩ := own_ints hO3 (by rw [perTo_length]; omega)
  rw [perTo_length]
  have B3 := belowC B2 hb3
  have hB3 := BodyAt.below (w := w2.drewN nq) ⟨hq2, hs2⟩ hb3
  have hq3 := hB3.quota
  have hs3 := hB3.weights
  clear hq2 hs2 hB2 hb2 B2 hO3
  go_wp2_with fail
  refine (Power_yes q l A c _ (hl.below B3) hbody).mono ?_
  rintro e w5 ⟨v5, rfl, hO5, hb5⟩
  rw [ho.out] at hO5
  obtain ⟨ps, hps⟩ : ∃ ps, ps = powersOf l.length (perTo (orderI l.length) (winB q l) l.length l.length) := ⟨_, rfl⟩
  rw [← hps] at hO5
  have hpl : ps.length = l.length := by rw [hps]; simp [powersOf, perTo_length]
  obtain ⟨g5, c5, rfl, _, _, hc5⟩ := ownR_cells hO5 (by omega)
  rw [hpl] at hc5 ⊢
  have B5 := belowC B3 hb5
  have hB5 := hB3.below hb5
  have hq5 := hB5.quota
  have hs5 := hB5.weights
  have hI5 := hI3.below hb5
  obtain ⟨ad, rfl, ci⟩ := (hl.below B5).cell i hil
  obtain ⟨ad', e', ck⟩ := (hl.below B5).cell k hkl
  cases e'
  obtain ⟨a3, rfl, ti⟩ := hI5.cell i (by rw [perTo_length]; exact hil)
  obtain ⟨a3', e', tk⟩ := hI5.cell k (by rw [perTo_length]; exact hkl)
  cases e'
  obtain ⟨pi1, pi2⟩ := hc5 i hil
  obtain ⟨pk1, pk2⟩ := hc5 k hkl
  rw [perTo_getD _ _ _ _ _ hil] at ti
  rw [perTo_getD _ _ _ _ _ hkl] at tk
  have F0 := factI_range l.length h8
  have gx : ∀ j, j < l.length → ps.getD j (0, 0) = ratioOf (sumOf (orderI l.length) (turnsIn (winB q l) j (2 ^ l.length))).toNat (factI l.length).toNat := fun j hj => by
    have := perTo_getD (orderI l.length) (winB q l) l.length j l.length hj
    rw [hps]
    unfold powersOf
    rw [← this]
    simp [List.getD_eq_getElem?_getD, perTo_length, hj]
  have gb : ∀ j, j < l.length → (ps.getD j (0, 0)).1 ≤ 40320 ∧ 1 ≤ (ps.getD j (0, 0)).2 ∧ (ps.getD j (0, 0)).2 ≤ 40320 := fun j hj => by
    have := order_le (winB q l) l.length j h8 hj
    rw [gx j hj]
    exact ratio_bounds (by omega) (by omega) (by omega)
  have gm : ∀ i k, i < l.length → k < l.length → l.getD k 0 ≤ l.getD i 0 → (ps.getD k (0, 0)).1 * (ps.getD i (0, 0)).2 ≤ (ps.getD i (0, 0)).1 * (ps.getD k (0, 0)).2 := fun i k hi hk hge => by
    rw [gx k hk, gx i hi]
    refine ratio_le (by omega) ?_
    have := sum_more (orderI l.length) q l i k hi hk h8 hge (fun s hs => ⟨(orderI_range l.length h8 i s).1, order_swap l.length i k s (by omega) (by omega) hs i k⟩)
    omega
  have gt : ∀ i k, i < l.length → k < l.length → l.getD k 0 ≤ l.getD i 0 → sumOf (fun _ _ => 1) (turnsIn (winB q l) k (2 ^ l.length)) ≤ sumOf (fun _ _ => 1) (turnsIn (winB q l) i (2 ^ l.length)) := fun i k hi hk hge =>
    sum_more (fun _ _ => 1) q l i k hi hk h8 hge (fun s hs => ⟨by decide, rfl⟩)
  have bi := gb i hil
  have bk := gb k hkl
  have m1 := gm i k hil hkl
  have m2 := gm k i hkl hil
  have t1 := gt i k hil hkl
  have t2 := gt k i hkl hil
  clear gx gb gm gt hps hc5 F0
  generalize (ps.getD i (0, 0)).1 = xi at *
  generalize (ps.getD i (0, 0)).2 = yi at *
  generalize (ps.getD k (0, 0)).1 = xk at *
  generalize (ps.getD k (0, 0)).2 = yk at *
  generalize sumOf (fun _ _ => 1) (turnsIn (winB q l) i (2 ^ l.length)) = ui at *
  generalize sumOf (fun _ _ => 1) (turnsIn (winB q l) k (2 ^ l.length)) = uk at *
  generalize l.getD i 0 = li at *
  generalize l.getD k 0 = lk at *
  have p1 : xi * yk ≤ 40320 * 40320 := Nat.mul_le_mul (by omega) (by omega)
  have p2 : xk * yi ≤ 40320 * 40320 := Nat.mul_le_mul (by omega) (by omega)
  have W1 : IntKind.i64.wrap ((xi : Int) * (yk : Int)) = (xi : Int) * (yk : Int) := by rw [← Int.natCast_mul, IntKind.wrap_i64]; omega
  have W2 : IntKind.i64.wrap ((xk : Int) * (yi : Int)) = (xk : Int) * (yi : Int) := by rw [← Int.natCast_mul, IntKind.wrap_i64]; omega
  have M1 : lk ≤ li → decide ((xk : Int) * (yi : Int) ≤ (xi : Int) * (yk : Int)) = true ∧ decide (uk ≤ ui) = true := fun h => by
    rw [← Int.natCast_mul, ← Int.natCast_mul]
    have := m1 h
    exact ⟨decide_eq_true (by omega), decide_eq_true (t1 h)⟩
  have M2 : li ≤ lk → decide ((xi : Int) * (yk : Int) ≤ (xk : Int) * (yi : Int)) = true ∧ decide (ui ≤ uk) = true := fun h => by
    rw [← Int.natCast_mul, ← Int.natCast_mul]
    have := m2 h
    exact ⟨decide_eq_true (by omega), decide_eq_true (t2 h)⟩
  clear m1 m2 t1 t2 p1 p2 hO5 hI5 hI3
  have hi0 : (0 : Int) ≤ (i : Int) := by omega
  have hi1 : (i : Int) < (l.length : Int) := by omega
  have hk0 : (0 : Int) ≤ (k : Int) := by omega
  have hk1 : (k : Int) < (l.length : Int) := by omega
  clear hq3 hs3 hB3 hb5 B3 hb3
  have bi1 : ¬ ((yi : Int) < 1) := by omega
  have bk1 : ¬ ((yk : Int) < 1) := by omega
  have bi2 : ¬ ((40320 : Int) < (yi : Int)) := by omega
  have bk2 : ¬ ((40320 : Int) < (yk : Int)) := by omega
  have bi3 : ¬ ((40320 : Int) < (xi : Int)) := by omega
  have bk3 : ¬ ((40320 : Int) < (xk : Int)) := by omega
  have M1 := Off.mk M1
  have M2 := Off.mk M2
  replace W1 := Off.mk W1
  replace W2 := Off.mk W2
  clear hpl ht ho h8 hlen1 ei ek hbody hl hil hkl
  go_wp2_with fail
  by_cases hlt : li < lk
  · obtain ⟨m1, m2⟩ := M2.out (by omega)
    have W1 := W1.out
    have W2 := W2.out
    go_quiet (fail)
    go_wp2_with fail
    go_region_held3 (fun w' => w'.cell? (a3.add i) = some (.int .i64 ui) ∧ w'.cell? (a3.add k) = some (.int .i64 uk) ∧ w'.cell? ⟨g5, i * 2, none⟩ = some (.int .i64 xi) ∧ w'.cell? ⟨g5, i * 2 + 1, none⟩ = some (.int .i64 yi) ∧ w'.cell? ⟨g5, k * 2, none⟩ = some (.int .i64 xk) ∧ w'.cell? ⟨g5, k * 2 + 1, none⟩ = some (.int .i64 yk))
      (first | go_keep | exact ⟨cellB hb7 ti, cellB hb7 tk, cellB hb7 pi1, cellB hb7 pi2, cellB hb7 pk1, cellB hb7 pk2⟩)
      (first | (go_at_call 16; refine (alive_any _).mono ?_; rintro e w7 ⟨rfl, hb7⟩))
    go_wp2
    go_ret
    exact ⟨rfl, belowC (below_drewN' B5 _) hb7⟩
  · obtain ⟨m1, m2⟩ := M1.out (by omega)
    have W1 := W1.out
    have W2 := W2.out
    go_quiet (fail)
    go_wp2_with fail
    go_region_held3 (fun w' => w'.cell? (a3.add i) = some (.int .i64 ui) ∧ w'.cell? (a3.add k) = some (.int .i64 uk) ∧ w'.cell? ⟨g5, i * 2, none⟩ = some (.int .i64 xi) ∧ w'.cell? ⟨g5, i * 2 + 1, none⟩ = some (.int .i64 yi) ∧ w'.cell? ⟨g5, k * 2, none⟩ = some (.int .i64 xk) ∧ w'.cell? ⟨g5, k * 2 + 1, none⟩ = some (.int .i64 yk))
      (first | go_keep | exact ⟨cellB hb7 ti, cellB hb7 tk, cellB hb7 pi1, cellB hb7 pi2, cellB hb7 pk1, cellB hb7 pk2⟩)
      (first | (go_at_call 16; refine (alive_any _).mono ?_; rintro e w7 ⟨rfl, hb7⟩))
    go_wp2
    go_ret
    exact ⟨rfl, belowC (below_drewN' B5 _) hb7⟩
end Go.Proofs.Ytdbleghnblohgaa
