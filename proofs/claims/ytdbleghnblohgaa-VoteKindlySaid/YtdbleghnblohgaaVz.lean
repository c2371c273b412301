/- The law VoteKindly: its walk. -/
import Derived.Test.YtdbleghnblohgaaPv
namespace Go.Proofs.Ytdbleghnblohgaa
open Go.RowKit Go.Shelf
set_option maxRecDepth 100000

theorem sum_none (f : Nat → Nat → Int) (hf : ∀ i s, 1 ≤ f i s) (acc : List (Nat × Nat)) : sumOf f acc = 0 ↔ acc = [] := by
  have H : ∀ (acc : List (Nat × Nat)) (a : Int), a + acc.length ≤ acc.foldl (fun a x => a + f x.1 x.2) a := by
    intro acc
    induction acc with
    | nil => intro a; simp
    | cons x acc ih =>
      intro a
      have h1 := ih (a + f x.1 x.2)
      have h2 := hf x.1 x.2
      rw [List.foldl_cons, List.length_cons]
      omega
  have := H acc 0
  constructor
  · intro h
    unfold sumOf at h
    rw [h] at this
    exact List.length_eq_zero_iff.1 (by omega)
  · rintro rfl; rfl
theorem order_pos (n : Nat) (hn : n ≤ 8) (i s : Nat) : 1 ≤ orderI n i s := by
  have hp := popTo_range (s : Int) 8
  have h1 := factI_range (popTo (s : Int) 8).toNat (by omega)
  have h2 := factI_range ((n : Int) - 1 - popTo (s : Int) 8).toNat (by omega)
  unfold orderI
  have := Int.mul_le_mul h1.1 h2.1 (by omega) (by omega)
  omega
theorem ratio_none (x F : Nat) : (ratioOf x F).1 = 0 ↔ x = 0 := by
  unfold ratioOf
  simp only
  constructor
  · intro h
    apply Classical.byContradiction
    intro hx
    have h1 : Nat.gcd x F ≤ x := Nat.gcd_le_left F (by omega)
    have h2 : 0 < Nat.gcd x F := Nat.gcd_pos_of_pos_left _ (by omega)
    have := Nat.div_pos h1 h2
    omega
  · rintro rfl; simp

theorem full_wins (q : Int) (l : List Int) (hbody : bodyB q l = true) : winB q l ((2 ^ l.length - 1 : Nat) : Int) = true := by
  obtain ⟨h1, h8, hw, hq, hqa⟩ := of_decide_eq_true hbody
  exact decide_eq_true (by rw [sum_full l l.length h8 _ (Nat.le_refl _)]; exact hqa)
theorem least_some (q : Int) (l : List Int) (hbody : bodyB q l = true) : 0 < (leastTo (winB q l) l.length (2 ^ l.length)).length := by
  obtain ⟨h1, h8, hw, hq, hqa⟩ := of_decide_eq_true hbody
  have hpos := Nat.two_pow_pos l.length
  obtain ⟨m, hm, _⟩ := least_in (winB q l) l.length h8 (2 ^ l.length - 1) (by omega) (full_wins q l hbody)
  exact List.length_pos_of_mem ((mem_least (winB q l) l.length h8 _ (Nat.le_refl _) m).2 ⟨m, rfl, hm.1, hm⟩)
theorem least_pos (q : Int) (l : List Int) (hbody : bodyB q l = true) (k : Nat) (hk : k < (leastTo (winB q l) l.length (2 ^ l.length)).length) : 1 ≤ (leastTo (winB q l) l.length (2 ^ l.length)).getD k 0 := by
  obtain ⟨h1, h8, hw, hq, hqa⟩ := of_decide_eq_true hbody
  have hm : (leastTo (winB q l) l.length (2 ^ l.length)).getD k 0 ∈ leastTo (winB q l) l.length (2 ^ l.length) := by
    rw [List.getD_eq_getElem?_getD, List.getElem?_eq_getElem hk]; exact List.getElem_mem hk
  obtain ⟨s, e, _, h2⟩ := (mem_least (winB q l) l.length h8 _ (Nat.le_refl _) _).1 hm
  rw [e]
  have h3 := h2.2.1
  have : s ≠ 0 := fun e => by
    subst e
    simp only [winB, decide_eq_true_eq] at h3
    rw [show ((0 : Nat) : Int) = 0 from rfl, sum_zero] at h3
    omega
  omega
set_option maxHeartbeats 2000000 in
theorem kindly_many (q : Int) (l : List Int) (A : Option Addr) (c : Nat) (w : World) (h30 : 30 < l.length) :
    Calls Try.prog 12 #[.agg #[.int .i64 q, .slice A l.length c]] w fun e w' => e = .returned (.bool true) ∧ Below w.heap.size w w' := by
  go_enter Try.func12, Try.ntmps12
  go_wp2_with (first
    | (go_at_call 15; refine (c_few_no q A l.length c h30 _).mono ?_; rintro e w1 ⟨rfl, hb1⟩)
    | (go_at_call 16; refine (alive_any _).mono ?_; rintro e w2 ⟨rfl, hb2⟩))
  go_ret
  exact ⟨rfl, belowC (belowC ((Below.refl _ _).alloc (Nat.le_refl _) _) hb1) hb2⟩

set_option maxHeartbeats 2000000 in
theorem kindly_no (q : Int) (l : List Int) (A : Option Addr) (c : Nat) (w : World) (hl : IntsAt w A l) (h30 : l.length ≤ 30) (hbody : bodyB q l = false) :
    Calls Try.prog 12 #[.agg #[.int .i64 q, .slice A l.length c]] w fun e w' => e = .returned (.bool true) ∧ Below w.heap.size w w' := by
  have HB : Off (∀ o, Below w.heap.size w (w.alloc o)) := ⟨fun o => (Below.refl _ _).alloc (Nat.le_refl _) _⟩
  go_enter Try.func12, Try.ntmps12
  go_wp2_with fail
  refine (c_few q A l.length c h30 _).mono ?_
  rintro e w1 ⟨rfl, hb1⟩
  have B1 := belowC (HB.out _) hb1
  have hB1 := (box_body w q A l.length c).below hb1
  have hq1 := hB1.quota
  have hs1 := hB1.weights
  go_wp2_with fail
  refine (rIsBody q l A c _ (hl.below B1) h30).mono ?_
  rw [hbody]
  rintro e w2 ⟨rfl, hb2⟩
  have B2 := belowC B1 hb2
  clear hq1 hs1 hB1 hb1 B1 hb2
  go_wp2_with (go_at_call 16; refine (alive_any _).mono ?_; rintro e w7 ⟨rfl, hb7⟩)
  go_ret
  exact ⟨rfl, belowC B2 hb7⟩

set_option maxHeartbeats 4000000 in
theorem kindly_yes (q : Int) (l : List Int) (A : Option Addr) (c : Nat) (w : World) (hl : IntsAt w A l) (hbody : bodyB q l = true) :
    Calls Try.prog 12 #[.agg #[.int .i64 q, .slice A l.length c]] w fun e w' => e = .returned (.bool true) ∧ Below w.heap.size w w' := by
  have HB : Off (∀ o, Below w.heap.size w (w.alloc o)) := ⟨fun o => (Below.refl _ _).alloc (Nat.le_refl _) _⟩
  obtain ⟨h8, hw⟩ := Body.weights hbody
  have hlen1 : 0 < l.length := (of_decide_eq_true hbody).1
  have ht : Off (tally l.length (fun _ _ => 1) (turnsTo (winB q l) l.length l.length) = perTo (fun _ _ => 1) (winB q l) l.length l.length) := ⟨tally_all _ _ _⟩
  have ho : Off (ordersOf q l = perTo (orderI l.length) (winB q l) l.length l.length) := ⟨tally_all _ _ _⟩
  go_enter Try.func12, Try.ntmps12
  go_wp2_with fail
  refine (c_few q A l.length c (by omega) _).mono ?_
  rintro e w1 ⟨rfl, hb1⟩
  have B1 := belowC (HB.out _) hb1
  have hB1 := (box_body w q A l.length c).below hb1
  have hq1 := hB1.quota
  have hs1 := hB1.weights
  go_wp2_with fail
  refine (rIsBody q l A c _ (hl.below B1) (by omega)).mono ?_
  rw [hbody]
  rintro e w2 ⟨rfl, hb2⟩
  have B2 := belowC B1 hb2
  have hB2 := hB1.below hb2
  have hq2 := hB2.quota
  have hs2 := hB2.weights
  clear hq1 hs1 hB1
  go_wp2_with fail
  refine (Kinds_yes q l A c _ (hl.below B2) hbody).mono ?_
  rintro e w3 ⟨rfl, hb3⟩
  have B3 := belowC B2 hb3
  have hB3 := hB2.below hb3
  have hq3 := hB3.quota
  have hs3 := hB3.weights
  clear hq2 hs2 hB2 B2 hb2
  go_wp2_with fail
  refine (Least_yes q l A c _ (hl.below B3) hbody).mono ?_
  rintro e w4 ⟨v4, rfl, hO4, hb4⟩
  obtain ⟨L, hL⟩ : ∃ L, L = leastTo (winB q l) l.length (2 ^ l.length) := ⟨_, rfl⟩
  rw [← hL] at hO4
  have hLs : Sets L := by rw [hL]; exact least_sets _ _ h8
  have hL1 : ∀ k, k < L.length → 1 ≤ L.getD k 0 := by rw [hL]; exact least_pos q l hbody
  have hL0 : 0 < L.length := by rw [hL]; exact least_some q l hbody
  have hLl : L.length ≤ 256 := by
    have h1 := leastTo_length (winB q l) l.length (2 ^ l.length)
    have h2 : 2 ^ l.length ≤ 256 := Nat.pow_le_pow_right (n := 2) (by decide) h8
    rw [← hL] at h1
    omega
  obtain ⟨A4, c4, rfl, hI4, _⟩ := own_ints hO4 (by omega)
  have B4 := belowC B3 hb4
  have hB4 := hB3.below hb4
  have hq4 := hB4.quota
  have hs4 := hB4.weights
  have HL := Off.mk hL
  have HLs := Off.mk hLs
  have HL1 := Off.mk hL1
  clear hq3 hs3 hB3 B3 hO4 hL hLs hL1
  go_wp2_with fail
  refine (Turns_yes q l A c _ (hl.below B4) hbody).mono ?_
  rintro e w5 ⟨v5, rfl, hO5, hb5⟩
  rw [ht.out] at hO5
  obtain ⟨A5, c5, rfl, hI5, _⟩ := own_ints hO5 (by rw [perTo_length]; omega)
  rw [perTo_length]
  have B5 := belowC B4 hb5
  have hB5 := hB4.below hb5
  have hq5 := hB5.quota
  have hs5 := hB5.weights
  have hI45 := hI4.below hb5
  clear hq4 hs4 hB4 B4 hO5
  go_wp2_with fail
  refine (Power_yes q l A c _ (hl.below B5) hbody).mono ?_
  rintro e w6 ⟨v6, rfl, hO6, hb6⟩
  rw [ho.out] at hO6
  obtain ⟨ps, hps⟩ : ∃ ps, ps = powersOf l.length (perTo (orderI l.length) (winB q l) l.length l.length) := ⟨_, rfl⟩
  rw [← hps] at hO6
  have hpl : ps.length = l.length := by rw [hps]; simp [powersOf, perTo_length]
  obtain ⟨g6, c6, rfl, _, _, hc6⟩ := ownR_cells hO6 (by omega)
  rw [hpl] at hc6 ⊢
  have B6 := belowC B5 hb6
  have hB6 := hB5.below hb6
  have hq6 := hB6.quota
  have hs6 := hB6.weights
  have hI46 := Off.mk (hI45.below hb6)
  have hI56 := Off.mk (hI5.below hb6)
  have HC6 := Off.mk hc6
  have HPS := Off.mk hps
  have HBody := Off.mk hbody
  clear hpl hq5 hs5 hB5 B5 hO6 hc6 hps hbody hI4 hI45 hI5 hb3 hb4 hb5 hb6
  have hp := pow_le l.length h8
  have hp0 : (0 : Int) < 2 ^ l.length := Int.pow_pos (by decide)
  have hLne : ¬ L = [] := fun e => by rw [e] at hL0; simp at hL0
  have hLne' : ¬ ((L.length : Int) = 0) := by omega
  have hLne2 : ((L.length : Int) == 0) = false := by rw [beq_eq_false_iff_ne]; exact hLne'
  go_wp2_with fail
  go_quiet (fail)
  go_wp2_with fail
  go_loopw [14, 15, 16, 17] (fun sv av ov kv wr => ∃ k : Nat, k ≤ L.length ∧ kv = .int .i64 (k : Int) ∧ sv = .int .i64 (someTo L k) ∧ av = .int .i64 (allOf l.length L k) ∧ ov = .int .i64 (oneTo L k) ∧ Below w6.heap.size w6 wr) (fun _ _ _ kv _ => L.length - (intOf kv).toNat)
  case atStart => exact ⟨0, Nat.zero_le _, rfl, rfl, rfl, rfl, below_drewN' (Below.refl _ _) _⟩
  case round =>
    obtain ⟨k, hkl, rfl, rfl, rfl, rfl, hB⟩ := hrel
    obtain ⟨wo, rfl⟩ : ∃ wo : World, wo = wr := ⟨_, rfl⟩
    by_cases hlt : k < L.length
    · obtain ⟨a4, e4, xc⟩ := hI46.out.cell k hlt
      cases e4
      have xc := cellB hB xc
      obtain ⟨m1, e1, r1, _⟩ := tells_some L HLs.out k (by omega)
      obtain ⟨m2, e2, r2, _⟩ := tells_all l.length h8 L HLs.out k (by omega)
      obtain ⟨m3, e3, r3, _⟩ := tells_one L HLs.out k (by omega)
      have hx1 := HL1.out k hlt
      have hx2 : L.getD k 0 < 256 := by
        have := HLs.out (L.getD k 0) (by rw [List.getD_eq_getElem?_getD, List.getElem?_eq_getElem hlt]; exact List.getElem_mem hlt)
        omega
      have HS : Off (someTo L (k + 1) = orI (someTo L k) (L.getD k 0)) := ⟨rfl⟩
      have HA : Off (allOf l.length L (k + 1) = andI (allOf l.length L k) (L.getD k 0)) := ⟨rfl⟩
      have HO : Off (oneTo L (k + 1) = if andI (L.getD k 0) (L.getD k 0 - 1) = 0 then orI (oneTo L k) (L.getD k 0) else oneTo L k) := ⟨rfl⟩
      rw [e1] at HS ⊢
      rw [e2] at HA ⊢
      rw [e3] at HO ⊢
      generalize L.getD k 0 = x at *
      have b1 := or_any (m1 : Int) x (by omega) (by omega) (by omega) hx2
      have b2 := and_any (m2 : Int) x (by omega) (by omega) (by omega) hx2
      have b3 := or_any (m3 : Int) x (by omega) (by omega) (by omega) hx2
      have b4 := and_any x (x - 1) (by omega) hx2 (by omega) (by omega)
      have k0 : (0 : Int) ≤ (k : Int) := by omega
      have k1 : (k : Int) < (L.length : Int) := by omega
      have W1 : IntKind.i64.wrap (x - 1) = x - 1 := by rw [IntKind.wrap_i64]; omega
      clear e1 e2 e3
      by_cases hone : andI x (x - 1) = 0
      · rw [if_pos hone] at HO
        rw [hone] at b4
        clear hone
        go_wp2_with fail
        go_quiet (fail)
        go_wp2
        go_roundw
        case rel => exact ⟨k + 1, by omega, by go_num, by rw [HS.out], by rw [HA.out], by rw [HO.out], below_drewN' hB _⟩
        case measure => simp only [intOf]; omega
      · have hone' : (andI x (x - 1) == 0) = false := by rw [beq_eq_false_iff_ne]; exact hone
        have hone2 : (bits .and .i64 x (x - 1) == 0) = false := by rw [b4]; exact hone'
        rw [if_neg hone] at HO
        go_wp2_with fail
        go_quiet (fail)
        go_wp2
        go_roundw
        case rel => exact ⟨k + 1, by omega, by go_num, by rw [HS.out], by rw [HA.out], by rw [HO.out], below_drewN' hB _⟩
        case measure => simp only [intOf]; omega
    · obtain rfl : k = L.length := by omega
      have BO := belowC B6 hB
      have hE : everyTo (winB q l) l.length l.length = allOf l.length L L.length := by rw [HL.out]; exact every_all q l hw.out h8
      have hO : singleTo (winB q l) l.length = oneTo L L.length := by rw [HL.out]; exact single_one q l HBody.out
      have hN := none_lt (winB q l) l.length h8
      have hNT := Off.mk (none_turn (winB q l) l.length h8)
      have hST : Off (∀ i, i < l.length → someTo L L.length / 2 ^ i % 2 = if turnsIn (winB q l) i (2 ^ l.length) = [] then 0 else 1) := ⟨fun i hi => by rw [HL.out]; exact some_turn q l hw.out h8 i hi⟩
      obtain ⟨m1, e1, r1, _⟩ := tells_some L HLs.out L.length (Nat.le_refl _)
      have hN2 : noneOf l.length (turnsTo (winB q l) l.length l.length) < 256 := by omega
      have F0 := factI_range l.length h8
      have hgx : Off (∀ j, j < l.length → ps.getD j (0, 0) = ratioOf (sumOf (orderI l.length) (turnsIn (winB q l) j (2 ^ l.length))).toNat (factI l.length).toNat) := ⟨fun j hj => by
        have := perTo_getD (orderI l.length) (winB q l) l.length j l.length hj
        rw [HPS.out]
        unfold powersOf
        rw [← this]
        simp [List.getD_eq_getElem?_getD, perTo_length, hj]⟩
      have hX : Off (∀ j, j < l.length → ((ps.getD j (0, 0)).1 = 0 ↔ turnsIn (winB q l) j (2 ^ l.length) = [])) := ⟨fun j hj => by
        rw [hgx.out j hj, ratio_none, ← sum_none (orderI l.length) (order_pos l.length h8)]
        have hr := sumOf_range (orderI l.length) 1625702400 (fun i s => orderI_range l.length h8 i s) (turnsIn (winB q l) j (2 ^ l.length))
        omega⟩
      rw [e1] at hST ⊢
      generalize noneOf l.length (turnsTo (winB q l) l.length l.length) = nv at *
      generalize everyTo (winB q l) l.length l.length = ev at *
      generalize singleTo (winB q l) l.length = ov at *
      generalize allOf l.length L L.length = av at *
      generalize oneTo L L.length = ov' at *
      subst hE hO
      clear e1 F0 hgx HPS
      go_wp2
      go_loopw [18] (fun iv wr => ∃ i : Nat, i ≤ l.length ∧ iv = .int .i64 (i : Int) ∧ Below wo.heap.size wo wr) (fun iv _ => l.length - (intOf iv).toNat)
      case atStart => exact ⟨0, Nat.zero_le _, rfl, Below.refl _ _⟩
      case round =>
        obtain ⟨i, hil, rfl, hB2⟩ := hrel
        by_cases hi2 : i < l.length
        · obtain ⟨a5, e5, tc⟩ := hI56.out.cell i (by rw [perTo_length]; exact hi2)
          cases e5
          rw [perTo_getD _ _ _ _ _ hi2] at tc
          have tc := cellB hB2 (cellB hB tc)
          obtain ⟨pc1, _⟩ := HC6.out i hi2
          have pc1 := cellB hB2 (cellB hB pc1)
          have hx := hX.out i hi2
          have hn := hNT.out i hi2
          have hs := hST.out i hi2
          have ht2 := sum_none (fun _ _ => 1) (fun _ _ => Int.le_refl 1) (turnsIn (winB q l) i (2 ^ l.length))
          generalize (ps.getD i (0, 0)).1 = x at *
          generalize sumOf (fun _ _ => 1) (turnsIn (winB q l) i (2 ^ l.length)) = u at *
          have hd1 := div_range nv i hN.1
          have hd2 := div_range (m1 : Int) i (by omega)
          have i0 : (0 : Int) ≤ (i : Int) := by omega
          have i1 : (i : Int) < (l.length : Int) := by omega
          by_cases hT : turnsIn (winB q l) i (2 ^ l.length) = []
          · rw [if_pos hT] at hn hs
            have hu := ht2.2 hT
            have hx0 := hx.2 hT
            subst hu hx0
            clear ht2 hx hT
            go_wp2
            go_roundw
            case rel => exact ⟨i + 1, by omega, by go_num, hB2⟩
            case measure => simp only [intOf]; omega
          · rw [if_neg hT] at hn hs
            have hu : ¬ u = 0 := fun e => hT (ht2.1 e)
            have hx0 : ¬ x = 0 := fun e => hT (hx.1 e)
            have hx1 : ¬ (x : Int) = 0 := by omega
            have hu1 : (u == 0) = false := by rw [beq_eq_false_iff_ne]; exact hu
            have hx2 : ((x : Int) == 0) = false := by rw [beq_eq_false_iff_ne]; exact hx1
            clear ht2 hx hT
            go_wp2
            go_roundw
            case rel => exact ⟨i + 1, by omega, by go_num, hB2⟩
            case measure => simp only [intOf]; omega
        · obtain rfl : i = l.length := by omega
          have hN0 := hN.1
          have hN1 := hN.2
          go_wp2_with (go_at_call 16; refine (alive_any _).mono ?_; rintro e w8 ⟨rfl, hb8⟩)
          go_ret
          exact ⟨rfl, belowC (BO.trans (hB2.mono BO.size)) hb8⟩
end Go.Proofs.Ytdbleghnblohgaa
