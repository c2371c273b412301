/- Contract: the specification's Trade. -/
import Derived.Test.YtdbleghnblohgaaPx
namespace Go.Proofs.Ytdbleghnblohgaa
open Go.RowKit Go.Shelf

set_option maxHeartbeats 1000000 in
theorem rTrade_no (n : Int) (l : List Int) (A : Option Addr) (c : Nat) (w : World) (hl : IntsAt w A l) (hlc : l.length ≤ c) (hr : isRule n l = false) :
    Calls Try.prog 30 #[.int .i64 n, .slice A l.length c] w fun e w' => e = .returned (.tuple #[.agg #[.int .i64 0, .int .i64 0, .int .i64 0, .int .i64 0], .int .i64 2]) ∧ Below w.heap.size w w' := by
  have HB : Off (∀ o, Below w.heap.size w (w.alloc o)) := ⟨fun o => (Below.refl _ _).alloc (Nat.le_refl _) _⟩
  go_enter Try.func30, Try.ntmps30
  go_wp2_with (go_at_call 33; refine (hr ▸ rIsRule n l A c _ (hl.below (HB.out _)) hlc).mono ?_; rintro e w1 ⟨rfl, hb1⟩; obtain ⟨⟨c0, c1, c2, c3⟩, f0, f1, f2, f3⟩ := four_facts ((hb1.block _ (by simp)).trans (block_new w _)))
  refine bodyPost_ret (v := .tuple #[.agg #[.int .i64 0, .int .i64 0, .int .i64 0, .int .i64 0], .int .i64 2]) ?_ rfl ⟨rfl, ?_⟩
  · simp [results, Try.results30, go_sem, c0, c1, c2, c3]
  · have h1 := (HB.out _).trans (hb1.mono (HB.out _).size)
    exact (((h1.setCell (by simp) _).setCell (by simp) _).setCell (by simp) _).setCell (by simp) _

set_option maxHeartbeats 8000000 in
theorem rTrade_yes (n : Nat) (l : List Int) (A : Option Addr) (cp : Nat) (w : World) (hl : IntsAt w A l) (hlc : l.length ≤ cp) (hr : isRule n l = true) :
    Calls Try.prog 30 #[.int .i64 n, .slice A l.length cp] w fun e w' => e = .returned (tradeVal (ruleB l) n) ∧ Below w.heap.size w w' := by
  obtain ⟨⟨m', e, hm1, hm⟩, _⟩ := isRule_range hr
  obtain rfl : n = m' := by omega
  have hsm := Off.mk (small5_of hr)
  have HB : Off (∀ o, Below w.heap.size w (w.alloc o)) := ⟨fun o => (Below.refl _ _).alloc (Nat.le_refl _) _⟩
  have hp := pow_le n (by omega)
  have hp5 := pow_32 (m := n) (by omega)
  have h32 : 2 ^ n ≤ 32 := Nat.pow_le_pow_right (n := 2) (by decide) (show n ≤ 5 by omega)
  clear e
  obtain ⟨p, hpd⟩ : ∃ p, p = ruleB l := ⟨_, rfl⟩
  rw [← hpd]
  have HPD := Off.mk hpd
  clear hpd
  go_enter Try.func30, Try.ntmps30
  go_wp2_with fail
  refine (rIsRule n l A cp _ (hl.below (HB.out _)) hlc).mono ?_
  rw [hr]
  rintro e w2 ⟨rfl, hb2⟩
  have hx2 := (hb2.block _ (by simp)).trans (block_new w (.cells #[.int .i64 0, .int .i64 0, .int .i64 0, .int .i64 0] 43))
  have hw2 : Below w.heap.size w w2 := belowC (HB.out _) hb2
  have HR : Off (∀ (s : Int) v, p s = v → ∀ wr, Below w2.heap.size w2 wr → 0 ≤ s → s < 32 → Calls Try.prog 62 #[.slice A l.length cp, .int .i64 s] wr fun e w' => e = .returned (.bool v) ∧ w' = wr) :=
    ⟨fun s v e wr h h0 h1 => by rw [← e, HPD.out]; exact rruled l s A cp wr (hl.below (belowC hw2 h)) hlc hsm h0 h1⟩
  have HT : Off (∀ (a b c d : Int) v, tradeI p a b c d = v → ∀ wr, Below w2.heap.size w2 wr → Set5 a → Set5 b → Set5 c → Set5 d → Calls Try.prog 63 #[.slice A l.length cp, .agg #[.int .i64 a, .int .i64 b, .int .i64 c, .int .i64 d]] wr fun e w' => e = .returned (.bool v) ∧ Below wr.heap.size wr w') :=
    ⟨fun a b c d v e wr h ha hb hc hd => by rw [← e, HPD.out]; exact risTrade l a b c d A cp wr (hl.below (belowC hw2 h)) hlc hsm ha hb hc hd⟩
  have HX := Off.mk hx2
  have HW := Off.mk hw2
  have hlt2 : w.heap.size < w2.heap.size := World.block_lt_of_cell? w2 ⟨w.heap.size, 0, none⟩ (four_facts hx2).1.1
  clear hx2 hb2 hw2 hl hsm hr HPD
  go_wp2
  go_loopw [6] (fun i wr => ∃ a : Nat, (a : Int) ≤ 2 ^ n ∧ i = .int .i64 a ∧ Off (Below w2.heap.size w2 wr) ∧ Off (firstTo (tradeA p n) a = none))
    (fun i _ => (2 ^ n - intOf i).toNat)
  case atStart => exact ⟨0, by simp only [Int.natCast_zero]; omega, rfl, ⟨Below.refl _ _⟩, ⟨rfl⟩⟩
  case round =>
    obtain ⟨a, ha, rfl, hb, hno⟩ := hrel
    obtain ⟨wo, rfl⟩ : ∃ wo : World, wo = wr := ⟨_, rfl⟩
    by_cases hlt : (a : Int) < 2 ^ n
    · go_wp2
      go_loopw [7] (fun i wr => ∃ b : Nat, a ≤ b ∧ (b : Int) ≤ 2 ^ n ∧ i = .int .i64 b ∧ Off (Below w2.heap.size w2 wr) ∧ Off (p a = true → firstTo (tradeBs p n a) b = none))
        (fun i _ => (2 ^ n - intOf i).toNat)
      case atStart => exact ⟨a, by omega, by omega, rfl, hb, ⟨fun _ => tradeBs_start p n a⟩⟩
      case round =>
        clear hb
        obtain ⟨b, hab, hbn, rfl, hb, hnb⟩ := hrel
        obtain ⟨wp, rfl⟩ : ∃ wo : World, wo = wr := ⟨_, rfl⟩
        by_cases hbl : (b : Int) < 2 ^ n
        · go_wp2
          go_loopw [8] (fun i wr => ∃ c : Nat, (c : Int) ≤ 2 ^ n ∧ i = .int .i64 c ∧ Off (Below w2.heap.size w2 wr) ∧ Off (p a = true → p b = true → firstTo (tradeC p a b) c = none))
            (fun i _ => (2 ^ n - intOf i).toNat)
          case atStart => exact ⟨0, by simp only [Int.natCast_zero]; omega, rfl, hb, ⟨fun _ _ => rfl⟩⟩
          case round =>
            clear hb
            obtain ⟨c, hcn, rfl, hb, hnc⟩ := hrel
            obtain ⟨wq, rfl⟩ : ∃ wo : World, wo = wr := ⟨_, rfl⟩
            by_cases hcl : (c : Int) < 2 ^ n
            · cases hpa : p a
              · go_wp2_with (go_at_call 62; refine (HR.out _ _ (by assumption) _ hb.out (by omega) (by omega)).mono ?_; rintro e w3 ⟨rfl, rfl⟩)
                go_roundw
                case rel => exact ⟨b + 1, by omega, by omega, by go_num, hb, ⟨fun h => by rw [hpa] at h; cases h⟩⟩
                case measure => simp only [intOf]; omega
              · cases hpb : p b
                · have HS : Off (firstTo (tradeBs p n a) (b + 1) = none) := ⟨firstTo_miss (hnb.out hpa) (by simp [tradeBs, hpb])⟩
                  go_wp2_with (go_at_call 62; refine (HR.out _ _ (by assumption) _ hb.out (by omega) (by omega)).mono ?_; rintro e w3 ⟨rfl, rfl⟩)
                  go_roundw
                  case rel => exact ⟨b + 1, by omega, by omega, by go_num, hb, ⟨fun _ => HS.out⟩⟩
                  case measure => simp only [intOf]; omega
                · go_wp2_with (go_at_call 62; refine (HR.out _ _ (by assumption) _ hb.out (by omega) (by omega)).mono ?_; rintro e w3 ⟨rfl, rfl⟩)
                  go_loopw [9] (fun i wr => ∃ d : Nat, c ≤ d ∧ (d : Int) ≤ 2 ^ n ∧ i = .int .i64 d ∧ Off (Below w2.heap.size w2 wr) ∧ Off (∀ x : Nat, c ≤ x → x < d → tradeI p a b c x = false))
                    (fun i _ => (2 ^ n - intOf i).toNat)
                  case atStart => exact ⟨c, by omega, by omega, rfl, hb, ⟨fun x h1 h2 => by omega⟩⟩
                  case round =>
                    clear hb
                    obtain ⟨d, hcd, hdn, rfl, hb, hnd⟩ := hrel
                    obtain ⟨wz, rfl⟩ : ∃ wo : World, wo = wr := ⟨_, rfl⟩
                    by_cases hdl : (d : Int) < 2 ^ n
                    · cases hpc : p c
                      · have sa : Set5 (a : Int) := ⟨by omega, by omega⟩
                        have sb : Set5 (b : Int) := ⟨by omega, by omega⟩
                        have sc : Set5 (c : Int) := ⟨by omega, by omega⟩
                        have sd : Set5 (d : Int) := ⟨by omega, by omega⟩
                        cases ht : tradeI p a b c d
                        · have HN := Off.mk ht
                          go_wp2_with (first | (go_at_call 62; refine (HR.out _ _ (by assumption) _ hb.out (by omega) (by omega)).mono ?_; rintro e w3 ⟨rfl, rfl⟩) | (go_at_call 63; refine (HT.out _ _ _ _ _ (by assumption) _ hb.out (by assumption) (by assumption) (by assumption) (by assumption)).mono ?_; rintro e w4 ⟨rfl, hb4⟩))
                          go_roundw
                          case rel => exact ⟨d + 1, by omega, by omega, by go_num, ⟨belowC hb.out hb4⟩, ⟨fun x h1 h2 => by
                            by_cases e : x = d
                            · subst e; exact HN.out
                            · exact hnd.out x h1 (by omega)⟩⟩
                          case measure => simp only [intOf]; omega
                        · have HIT : Off (tradeVal p n = .tuple #[.agg #[.int .i64 (a : Int), .int .i64 (b : Int), .int .i64 (c : Int), .int .i64 d], .int .i64 0]) := ⟨by
                            obtain ⟨hd, h1⟩ := trade_hit p sa sb sc sd (by omega) ht
                            have h2 : firstTo (tradeC p a b) (2 ^ n) = some (a, b, c) := firstTo_hit (nat_lt_pow hcl) (hnc.out hpa hpb) (by simp [tradeC, h1])
                            have h3 : firstTo (tradeBs p n a) (2 ^ n) = some (a, b, c) := firstTo_hit (nat_lt_pow hbl) (hnb.out hpa) (by simp [tradeBs, hpb, hab, h2])
                            have h4 : tradeOf p n = some (a, b, c) := firstTo_hit (nat_lt_pow hlt) hno.out (by simp [tradeA, hpa, h3])
                            rw [tradeVal, h4, hd]⟩
                          go_wp2_with (first | (go_at_call 62; refine (HR.out _ _ (by assumption) _ hb.out (by omega) (by omega)).mono ?_; rintro e w3 ⟨rfl, rfl⟩) | (go_at_call 63; refine (HT.out _ _ _ _ _ (by assumption) _ hb.out (by assumption) (by assumption) (by assumption) (by assumption)).mono ?_; rintro e w4 ⟨rfl, hb4⟩; obtain ⟨⟨c0, c1, c2, c3⟩, f0, f1, f2, f3⟩ := four_facts (((belowC hb.out hb4).block _ hlt2).trans HX.out)))
                          have hB4 := belowC hb.out hb4
                          refine bodyPost_ret (v := .tuple #[.agg #[.int .i64 (a : Int), .int .i64 (b : Int), .int .i64 (c : Int), .int .i64 d], .int .i64 0]) ?_ rfl ⟨by rw [HIT.out], ?_⟩
                          · simp [results, Try.results30, go_sem, c0, c1, c2, c3]
                          · have h1 := belowC HW.out hB4
                            exact (((h1.setCell (by simp) _).setCell (by simp) _).setCell (by simp) _).setCell (by simp) _
                      · have HN : Off (firstTo (tradeC p a b) (c + 1) = none) := ⟨firstTo_miss (hnc.out hpa hpb) (by simp [tradeC, tradeB, hpc])⟩
                        go_wp2_with (go_at_call 62; refine (HR.out _ _ (by assumption) _ hb.out (by omega) (by omega)).mono ?_; rintro e w3 ⟨rfl, rfl⟩)
                        go_roundw
                        case rel => exact ⟨c + 1, by omega, by go_num, hb, ⟨fun _ _ => HN.out⟩⟩
                        case measure => simp only [intOf]; omega
                    · have HN : Off (firstTo (tradeC p a b) (c + 1) = none) := ⟨firstTo_miss (hnc.out hpa hpb) (by
                        have h1 : d = 2 ^ n := by have := nat_pow n; omega
                        have := trade_miss p n (by omega) (nat_lt_pow hlt) (nat_lt_pow hbl) (nat_lt_pow hcl) hpa hpb (fun x h2 h3 => hnd.out x h2 (by omega))
                        simp [tradeC, this])⟩
                      go_wp2
                      go_roundw
                      case rel => exact ⟨c + 1, by omega, by go_num, hb, ⟨fun _ _ => HN.out⟩⟩
                      case measure => simp only [intOf]; omega
            · have HS : Off (p a = true → firstTo (tradeBs p n a) (b + 1) = none) := ⟨fun hpa => firstTo_miss (hnb.out hpa) (by
                cases hpb : p b
                · simp [tradeBs, hpb]
                · have hce : c = 2 ^ n := by have := nat_pow n; omega
                  have := hnc.out hpa hpb
                  rw [hce] at this
                  simp [tradeBs, this])⟩
              go_wp2
              go_roundw
              case rel => exact ⟨b + 1, by omega, by omega, by go_num, hb, HS⟩
              case measure => simp only [intOf]; omega
        · have hbe : b = 2 ^ n := by have := nat_pow n; omega
          have HS : Off (firstTo (tradeA p n) (a + 1) = none) := ⟨firstTo_miss hno.out (by
            cases hpa : p a
            · simp [tradeA, hpa]
            · have := hnb.out hpa
              rw [hbe] at this
              simp [tradeA, this])⟩
          clear hbe
          go_wp2
          go_roundw
          case rel => exact ⟨a + 1, by omega, by go_num, hb, HS⟩
          case measure => simp only [intOf]; omega
    · have HN : Off (tradeVal p n = .tuple #[.agg #[.int .i64 0, .int .i64 0, .int .i64 0, .int .i64 0], .int .i64 10]) := ⟨by
        have hae : a = 2 ^ n := by have := nat_pow n; omega
        have h1 := hno.out
        rw [hae] at h1
        have h2 : tradeOf p n = none := h1
        rw [tradeVal, h2]⟩
      obtain ⟨⟨c0, c1, c2, c3⟩, f0, f1, f2, f3⟩ := four_facts ((hb.out.block _ hlt2).trans HX.out)
      go_wp2
      refine bodyPost_ret (v := .tuple #[.agg #[.int .i64 0, .int .i64 0, .int .i64 0, .int .i64 0], .int .i64 10]) ?_ rfl ⟨by rw [HN.out], ?_⟩
      · simp [results, Try.results30, go_sem, c0, c1, c2, c3]
      · have h1 := belowC HW.out hb.out
        exact (((h1.setCell (by simp) _).setCell (by simp) _).setCell (by simp) _).setCell (by simp) _
end Go.Proofs.Ytdbleghnblohgaa
