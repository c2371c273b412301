/- The law VoteTurning: its walk. -/
import Derived.Test.YtdbleghnblohgaaVv
import Derived.Test.YtdbleghnblohgaaPr
namespace Go.Proofs.Ytdbleghnblohgaa
set_option maxRecDepth 100000
open Go.RowKit Go.Shelf

/-- The row 'with' in the midst of a set: of the first k drovers the set s is counted. -/
def wl (p : Int → Bool) (n k s : Nat) : List Int := (List.range n).map fun i => withTo p i (if i < k then s + 1 else s)
theorem wl_length (p : Int → Bool) (n k s : Nat) : (wl p n k s).length = n := by simp [wl]
theorem wl_getD (p : Int → Bool) (n k s i : Nat) (h : i < n) : (wl p n k s).getD i 0 = withTo p i (if i < k then s + 1 else s) := by
  simp [wl, List.getD_eq_getElem?_getD, h]
theorem wl_start (p : Int → Bool) (n : Nat) : wl p n 0 0 = List.replicate n 0 := by
  simp [wl, withTo, upTo, List.map_const']
theorem wl_end (p : Int → Bool) (n s : Nat) : wl p n n s = wl p n 0 (s + 1) := by
  apply getD_ext
  · simp [wl_length]
  · intro j hj
    rw [wl_length] at hj
    rw [wl_getD _ _ _ _ _ hj, wl_getD _ _ _ _ _ hj, if_pos hj, if_neg (by omega)]
theorem wl_skip (p : Int → Bool) (n s : Nat) (h : p s = false) : wl p n 0 s = wl p n 0 (s + 1) := by
  apply getD_ext
  · simp [wl_length]
  · intro j hj
    rw [wl_length] at hj
    rw [wl_getD _ _ _ _ _ hj, wl_getD _ _ _ _ _ hj, if_neg (by omega), if_neg (by omega)]
    simp [withTo, upTo, h]
theorem wl_step (p : Int → Bool) (n k s : Nat) (h : p s = true) (_hk : k < n) : wl p n (k + 1) s = (wl p n k s).set k (withTo p k s + (s : Int) / 2 ^ k % 2) := by
  apply getD_ext
  · simp [wl_length]
  · intro j hj
    rw [wl_length] at hj
    rw [wl_getD _ _ _ _ _ hj, List.getD_eq_getElem?_getD, List.getElem?_set]
    by_cases e : k = j
    · subst e
      rw [if_pos rfl, if_pos (show k < k + 1 by omega), if_pos (by rw [wl_length]; exact hj)]
      simp [withTo, upTo, h]
    · rw [if_neg e, ← List.getD_eq_getElem?_getD, wl_getD _ _ _ _ _ hj]
      by_cases h1 : j < k
      · rw [if_pos h1, if_pos (by omega)]
      · rw [if_neg h1, if_neg (by omega)]
theorem allW_step (p : Int → Bool) (s : Nat) : allW p (s + 1) = allW p s + if p s then 1 else 0 := rfl

theorem fact_all : ∀ n : Fin 9, (factI n.val).toNat * (40320 / (factI n.val).toNat) = 40320 := by decide +kernel
theorem fact_part (n : Nat) (hn : n ≤ 8) (F : Nat) (hF : (F : Int) = factI n) : ∃ G : Nat, F * G = 40320 := by
  have := fact_all ⟨n, by omega⟩
  simp only [← hF, Int.toNat_natCast] at this
  exact ⟨_, this⟩
theorem sum_part (f : Nat → Int) (n : Nat) (hn : n ≤ 8) (F G : Nat) (hG : F * G = 40320) (hf : ∀ j, j < n → 0 ≤ f j ∧ f j ≤ F) (i : Nat) (hi : i ≤ n) : 0 ≤ upTo (fun j => f j * G) i ∧ upTo (fun j => f j * G) i ≤ 40320 * 8 := by
  have H : ∀ i, i ≤ n → 0 ≤ upTo (fun j => f j * G) i ∧ upTo (fun j => f j * G) i ≤ 40320 * i := by
    intro i
    induction i with
    | zero => intro _; simp [upTo]
    | succ i ih =>
      intro hi
      have h1 := ih (by omega)
      have h2 := hf i (by omega)
      have h3 : 0 ≤ f i * G := Int.mul_nonneg h2.1 (by omega)
      have h4 : f i * G ≤ 40320 := by
        have : f i * G ≤ (F : Int) * G := Int.mul_le_mul_of_nonneg_right h2.2 (by omega)
        rw [← Int.natCast_mul, hG] at this
        exact this
      simp only [upTo]
      omega
  have := H i hi
  omega
set_option maxHeartbeats 2000000 in
theorem turning_many (q : Int) (l : List Int) (A : Option Addr) (c : Nat) (w : World) (h30 : 30 < l.length) :
    Calls Try.prog 7 #[.agg #[.int .i64 q, .slice A l.length c]] w fun e w' => e = .returned (.bool true) ∧ Below w.heap.size w w' := by
  go_enter Try.func7, Try.ntmps7
  go_wp2_with (first
    | (go_at_call 15; refine (c_few_no q A l.length c h30 _).mono ?_; rintro e w1 ⟨rfl, hb1⟩)
    | (go_at_call 16; refine (alive_any _).mono ?_; rintro e w2 ⟨rfl, hb2⟩))
  go_ret
  exact ⟨rfl, belowC (belowC ((Below.refl _ _).alloc (Nat.le_refl _) _) hb1) hb2⟩

set_option maxHeartbeats 2000000 in
theorem turning_no (q : Int) (l : List Int) (A : Option Addr) (c : Nat) (w : World) (hl : IntsAt w A l) (h30 : l.length ≤ 30) (hbody : bodyB q l = false) :
    Calls Try.prog 7 #[.agg #[.int .i64 q, .slice A l.length c]] w fun e w' => e = .returned (.bool true) ∧ Below w.heap.size w w' := by
  have HB : Off (∀ o, Below w.heap.size w (w.alloc o)) := ⟨fun o => (Below.refl _ _).alloc (Nat.le_refl _) _⟩
  go_enter Try.func7, Try.ntmps7
  go_wp2_with fail
  refine (c_few q A l.length c h30 _).mono ?_
  rintro e w1 ⟨rfl, hb1⟩
  have B1 := belowC (HB.out _) hb1
  have hB1 := (box_body w q A l.length c).below hb1
  have hq1 := hB1.quota
  have hs1 := hB1.weights
  go_wp2_with fail
  refine (rIsBody q l A c _ (hl.below B1) h30).mono ?_
  rw [hbody]
  rintro e w2 ⟨rfl, hb2⟩
  have B2 := belowC B1 hb2
  clear hq1 hs1 hB1 hb1 B1 hb2
  go_wp2_with (go_at_call 16; refine (alive_any _).mono ?_; rintro e w7 ⟨rfl, hb7⟩)
  go_ret
  exact ⟨rfl, belowC B2 hb7⟩

set_option maxHeartbeats 4000000 in
theorem turning_yes (q : Int) (l : List Int) (A : Option Addr) (c : Nat) (w : World) (hl : IntsAt w A l) (hbody : bodyB q l = true) :
    Calls Try.prog 7 #[.agg #[.int .i64 q, .slice A l.length c]] w fun e w' => e = .returned (.bool true) ∧ Below w.heap.size w w' := by
  have HB : Off (∀ o, Below w.heap.size w (w.alloc o)) := ⟨fun o => (Below.refl _ _).alloc (Nat.le_refl _) _⟩
  obtain ⟨h8, hw⟩ := Body.weights hbody
  have hlen1 : 0 < l.length := (of_decide_eq_true hbody).1
  have ht : Off (tally l.length (fun _ _ => 1) (turnsTo (winB q l) l.length l.length) = perTo (fun _ _ => 1) (winB q l) l.length l.length) := ⟨tally_all _ _ _⟩
  have ho : Off (ordersOf q l = perTo (orderI l.length) (winB q l) l.length l.length) := ⟨tally_all _ _ _⟩
  obtain ⟨i0, hi, hz0, hz1, hz2⟩ := info_parts info3
  have hlen := hl.len
  go_enter Try.func7, Try.ntmps7
  go_wp2_with fail
  refine (c_few q A l.length c (by omega) _).mono ?_
  rintro e w1 ⟨rfl, hb1⟩
  have B1 := belowC (HB.out _) hb1
  have hB1 := (box_body w q A l.length c).below hb1
  have hq1 := hB1.quota
  have hs1 := hB1.weights
  go_wp2_with fail
  refine (rIsBody q l A c _ (hl.below B1) (by omega)).mono ?_
  rw [hbody]
  rintro e w2 ⟨rfl, hb2⟩
  have B2 := belowC B1 hb2
  have hB2 := hB1.below hb2
  have hq2 := hB2.quota
  have hs2 := hB2.weights
  clear hq1 hs1 hB1
  go_wp2_with fail
  refine (Turns_yes q l A c _ (hl.below B2) hbody).mono ?_
  rintro e w3 ⟨v3, rfl, hO3, hb3⟩
  rw [ht.out] at hO3
  obtain ⟨A3, c3, rfl, hI3, _⟩ := own_ints hO3 (by rw [perTo_length]; omega)
  rw [perTo_length]
  have B3 := belowC B2 hb3
  have hB3 := hB2.below hb3
  have hq3 := hB3.quota
  have hs3 := hB3.weights
  clear hq2 hs2 hB2 B2 hO3
  go_wp2_with fail
  refine (Power_yes q l A c _ (hl.below B3) hbody).mono ?_
  rintro e w5 ⟨v5, rfl, hO5, hb5⟩
  rw [ho.out] at hO5
  obtain ⟨ps, hps⟩ : ∃ ps, ps = powersOf l.length (perTo (orderI l.length) (winB q l) l.length l.length) := ⟨_, rfl⟩
  rw [← hps] at hO5
  have hpl : ps.length = l.length := by rw [hps]; simp [powersOf, perTo_length]
  obtain ⟨g5, c5, rfl, _, _, hc5⟩ := ownR_cells hO5 (by omega)
  rw [hpl] at hc5 ⊢
  have B5 := belowC B3 hb5
  have hB5 := hB3.below hb5
  have hq5 := hB5.quota
  have hs5 := hB5.weights
  have hI5 := hI3.below hb5
  have HC5 := Off.mk hc5
  have HPS := Off.mk hps
  have HI5 := Off.mk hI5
  have HB5 := Off.mk hB5
  have HBody := Off.mk hbody
  have hlt5 : w.heap.size < w5.heap.size := by have := hb1.size; simp at this; have := hb2.size; have := hb3.size; have := hb5.size; omega
  clear hpl hq3 hs3 hB3 hb5 hO5 hI3 B3 hc5 hps hI5 hb3 hbody hb2 hb1
  go_wp2_with (at_make; refine wpList_make_full _ rfl _ _ 22 rfl w5.heap.size 3 i0 (.int .i64 0) 1 Try.underlying22 hi hz0 hz1 .i64 .i64 l.length l.length l.length rfl rfl rfl rfl (by rw [hz2]; omega) (by unfold maxLen; omega) (Nat.le_refl _) ?_; intro w6 hown6 hg6; rw [made_ints] at hown6)
  have B6 : Below w.heap.size w w6 := B5.grown hg6 B5.size (fun _ e => by cases e)
  have hq6 := hg6.cell hq5 (by simp)
  have hs6 := hg6.cell hs5 (by simp)
  have hO6 : Own w6 w5.heap.size (.slice (some ⟨w5.heap.size, 0, none⟩) l.length l.length) (wl (winB q l) l.length 0 0) := ⟨by rw [wl_length, wl_start, nums_replicate]; simpa using hown6⟩
  have hp := pow_le l.length h8
  have hlt6 : w5.heap.size < w6.heap.size := owns_lt hown6
  clear hq5 hs5 hown6
  go_wp2
  go_loopw [8, 10] (fun al sv wr => ∃ s : Nat, s ≤ 2 ^ l.length ∧ sv = .int .i64 (s : Int) ∧ al = .int .i64 (allW (winB q l) s) ∧ Own wr w5.heap.size (.slice (some ⟨w5.heap.size, 0, none⟩) l.length l.length) (wl (winB q l) l.length 0 s) ∧ Keeps w5.heap.size w6 wr)
    (fun _ sv _ => 2 ^ l.length - (intOf sv).toNat)
  case atStart => exact ⟨0, Nat.zero_le _, rfl, rfl, hO6, Keeps.refl _ _⟩
  case round =>
    obtain ⟨s, hs, rfl, rfl, hO, hK⟩ := hrel
    obtain ⟨wo, rfl⟩ : ∃ wo : World, wo = wr := ⟨_, rfl⟩
    have hwr : w.heap.size ≠ w5.heap.size := by have := B1.size; have := hlt5; omega
    have hal := allW_range (winB q l) s
    have BO := Keeps.below B6 hK B6.size B5.size
    by_cases hlt : s < 2 ^ l.length
    · have hsI : (s : Int) < 2 ^ l.length := by exact_mod_cast hlt
      have hs256 : s < 256 := by omega
      have hq7 := hK.cell hq6 hwr
      have hs7 := hK.cell hs6 hwr
      cases hwin : winB q l (s : Int)
      · have HL : Off (wl (winB q l) l.length 0 s = wl (winB q l) l.length 0 (s + 1)) := ⟨wl_skip _ _ _ hwin⟩
        have HA : Off (allW (winB q l) s = allW (winB q l) (s + 1)) := ⟨by rw [allW_step, hwin]; simp⟩
        go_wp2_with fail
        refine (Wins_any q s l A c _ (hl.below BO)).mono ?_
        rw [if_pos ⟨HBody.out, by omega, hsI⟩, hwin]
        rintro e w7 ⟨rfl, hb7⟩
        go_wp2
        go_loopw [13] (fun kv wr => kv = .int .i64 0 ∧ wr = w7) (fun _ _ => 0)
        case atStart => exact ⟨rfl, rfl⟩
        case round =>
          obtain ⟨rfl, rfl⟩ := hrel
          go_wp2
          go_roundw
          case rel => exact ⟨s + 1, by omega, by go_num, by rw [HA.out], by rw [← HL.out]; exact own_below hO hb7, hK.trans (Keeps.of_below hb7)⟩
          case measure => simp only [intOf]; omega
      · have HA : Off (allW (winB q l) (s + 1) = allW (winB q l) s + 1) := ⟨by rw [allW_step, hwin]; simp⟩
        go_wp2_with fail
        refine (Wins_any q s l A c _ (hl.below BO)).mono ?_
        rw [if_pos ⟨HBody.out, by omega, hsI⟩, hwin]
        rintro e w7 ⟨rfl, hb7⟩
        have hO7 := own_below hO hb7
        have hK7 := hK.trans (Keeps.of_below hb7)
        clear hO hK hb7 hq7 hs7
        go_wp2
        go_loopw [13] (fun kv wr => ∃ k : Nat, k ≤ l.length ∧ kv = .int .i64 (k : Int) ∧ Own wr w5.heap.size (.slice (some ⟨w5.heap.size, 0, none⟩) l.length l.length) (wl (winB q l) l.length k s) ∧ Keeps w5.heap.size w6 wr)
          (fun kv _ => l.length - (intOf kv).toNat)
        case atStart => exact ⟨0, Nat.zero_le _, rfl, hO7, hK7⟩
        case round =>
          obtain ⟨k, hk, rfl, hO, hK⟩ := hrel
          by_cases hk2 : k < l.length
          · have hown := hO.out
            rw [wl_length] at hown
            have hc : wr.cell? ⟨w5.heap.size, k, none⟩ = some (.int .i64 (withTo (winB q l) k s)) := by
              rw [hown.cellAt k (by omega)]
              have := nums_at (wl (winB q l) l.length k s) k (by rw [wl_length]; exact hk2)
              rw [wl_getD _ _ _ _ _ hk2, if_neg (by omega)] at this
              exact this
            have hfz := hown.frozenAt k
            have hx := withTo_range (winB q l) k s
            have HT : Off (wl (winB q l) l.length (k + 1) s = (wl (winB q l) l.length k s).set k (withTo (winB q l) k s + (s : Int) / 2 ^ k % 2)) := ⟨wl_step _ _ _ _ hwin hk2⟩
            obtain ⟨x, hxe⟩ : ∃ x, x = withTo (winB q l) k s := ⟨_, rfl⟩
            rw [← hxe] at hc hx HT
            have HO := Off.mk hown
            have hd := div_range (s : Int) k (by omega)
            have hb := bit_range (s : Int) k
            have k0 : (0 : Int) ≤ (k : Int) := by omega
            have k1 : (k : Int) < (l.length : Int) := by omega
            have W1 : IntKind.i64.wrap (x + (s : Int) / 2 ^ k % 2) = x + (s : Int) / 2 ^ k % 2 := by rw [IntKind.wrap_i64]; omega
            clear hxe hown hO
            go_wp2_with fail
            refine wp_region_still_tail 10 (by kernel_rfl) (by kernel_rfl) ?_
            simp only [List.take_succ_cons, List.take_zero, List.drop_succ_cons, List.drop_zero]
            repeat still_step
            refine wpStill_nil ?_
            change wpList _ _ _ _ _ wr.drew
            go_wp2
            obtain ⟨ho, hg⟩ := HO.out.stored k (.int .i64 (x + (s : Int) / 2 ^ k % 2))
            go_roundw
            case rel => exact ⟨k + 1, by omega, by go_num, ⟨by rw [wl_length, HT.out, nums_set]; exact ho.drew⟩, hK.trans ⟨⟨hg.os, hg.tape, hg.output, hg.size, hg.block⟩⟩⟩
            case measure => simp only [intOf]; omega
          · obtain rfl : k = l.length := by omega
            rw [wl_end] at hO
            go_wp2
            go_roundw
            case rel => exact ⟨s + 1, by omega, by go_num, by rw [HA.out], hO, hK⟩
            case measure => simp only [intOf]; omega
    · have hse : s = 2 ^ l.length := by omega
      have F0 := factI_range l.length h8
      obtain ⟨F, hF⟩ : ∃ F : Nat, (F : Int) = factI l.length := ⟨(factI l.length).toNat, by omega⟩
      obtain ⟨G, hG⟩ : ∃ G : Nat, F * G = 40320 := fact_part l.length h8 F hF
      have hgx : Off (∀ j, j < l.length → ps.getD j (0, 0) = ratioOf (sumOf (orderI l.length) (turnsIn (winB q l) j (2 ^ l.length))).toNat F) := ⟨fun j hj => by
        have := perTo_getD (orderI l.length) (winB q l) l.length j l.length hj
        rw [HPS.out]
        unfold powersOf
        rw [← this, ← hF, Int.toNat_natCast]
        simp [List.getD_eq_getElem?_getD, perTo_length, hj]⟩
      have hxr : Off (∀ j, j < l.length → 0 ≤ sumOf (orderI l.length) (turnsIn (winB q l) j (2 ^ l.length)) ∧ sumOf (orderI l.length) (turnsIn (winB q l) j (2 ^ l.length)) ≤ F) := ⟨fun j hj => by
        rw [hF]
        refine ⟨?_, order_le (winB q l) l.length j h8 hj⟩
        rw [sumOf_upTo]
        refine Int.le_trans (Int.le_of_eq (upTo_zero (2 ^ l.length)).symm) (upTo_mono fun s _ => ?_)
        split
        · exact (orderI_range l.length h8 j s).1
        · exact Int.le_refl _⟩
      have hsum : Off (upTo (fun j => sumOf (orderI l.length) (turnsIn (winB q l) j (2 ^ l.length)) * G) l.length = 40320) := ⟨by
        rw [upTo_mul, power_sum q l HBody.out, ← hF, ← Int.natCast_mul, hG]; rfl⟩
      have hti : Off (∀ i, i < l.length → sumOf (fun _ _ => 1) (turnsIn (winB q l) i (2 ^ l.length)) = 2 * withTo (winB q l) i (2 ^ l.length) - allW (winB q l) s) := ⟨fun i hi => by rw [hse]; exact turns_id q l hw.out h8 i hi⟩
      have hown := hO.out
      rw [hse] at hown
      rw [wl_length] at hown
      have hwc : Off (∀ i, i < l.length → wo.cell? ⟨w5.heap.size, i, none⟩ = some (.int .i64 (withTo (winB q l) i (2 ^ l.length)))) := ⟨fun i hi => by
        rw [hown.cellAt i (by omega)]
        have := nums_at (wl (winB q l) l.length 0 (2 ^ l.length)) i (by rw [wl_length]; exact hi)
        rw [wl_getD _ _ _ _ _ hi, if_neg (by omega)] at this
        exact this⟩
      have HF := Off.mk hF
      have HG := Off.mk hG
      obtain ⟨al, hal2⟩ : ∃ al, al = allW (winB q l) s := ⟨_, rfl⟩
      rw [← hal2] at hal hti ⊢
      have hpN : ((2 ^ l.length : Nat) : Int) ≤ 256 := by exact_mod_cast Nat.pow_le_pow_right (n := 2) (by decide) h8
      have halr : 0 ≤ al ∧ al ≤ 256 := ⟨hal.1, Int.le_trans hal.2 (by rw [hse]; exact hpN)⟩
      have s0 : (s : Int) < 2 ^ l.length → False := fun h => by rw [hse] at h; simp at h
      have s1 : ¬ ((s : Int) < 2 ^ l.length) := s0
      clear hF hG hown hO hal hal2 hq6 hs6 F0 hse hlt hs s0 hpN
      go_wp2
      go_loopw [14, 15] (fun sm iv wr => ∃ i : Nat, i ≤ l.length ∧ iv = .int .i64 (i : Int) ∧ sm = .int .i64 (upTo (fun j => sumOf (orderI l.length) (turnsIn (winB q l) j (2 ^ l.length)) * G) i) ∧ Below wo.heap.size wo wr)
        (fun _ iv _ => l.length - (intOf iv).toNat)
      case atStart => exact ⟨0, Nat.zero_le _, rfl, rfl, Below.refl _ _⟩
      case round =>
        obtain ⟨i, hil, rfl, rfl, hB⟩ := hrel
        by_cases hi2 : i < l.length
        · obtain ⟨a3, e3, tc⟩ := HI5.out.cell i (by rw [perTo_length]; exact hi2)
          cases e3
          rw [perTo_getD _ _ _ _ _ hi2, hti.out i hi2] at tc
          have hne := World.block_lt_of_cell? _ _ tc
          have tc := cellB hB (hK.cell (hg6.cell tc (by simp)) (by omega))
          obtain ⟨pc1, pc2⟩ := HC5.out i hi2
          have hne1 : g5 ≠ w5.heap.size := Nat.ne_of_lt (World.block_lt_of_cell? _ _ pc1)
          have pc1 := cellB hB (hK.cell (hg6.cell pc1 (by simp)) hne1)
          have pc2 := cellB hB (hK.cell (hg6.cell pc2 (by simp)) hne1)
          have wc := cellB hB (hwc.out i hi2)
          have hwr2 := withTo_range (winB q l) i (2 ^ l.length)
          have hpN : ((2 ^ l.length : Nat) : Int) ≤ 256 := by exact_mod_cast Nat.pow_le_pow_right (n := 2) (by decide) h8
          have xr := hxr.out i hi2
          have gx := hgx.out i hi2
          have HS : Off (upTo (fun j => sumOf (orderI l.length) (turnsIn (winB q l) j (2 ^ l.length)) * G) (i + 1) = upTo (fun j => sumOf (orderI l.length) (turnsIn (winB q l) j (2 ^ l.length)) * G) i + sumOf (orderI l.length) (turnsIn (winB q l) i (2 ^ l.length)) * G) := ⟨rfl⟩
          have hsr : 0 ≤ upTo (fun j => sumOf (orderI l.length) (turnsIn (winB q l) j (2 ^ l.length)) * G) i ∧ upTo (fun j => sumOf (orderI l.length) (turnsIn (winB q l) j (2 ^ l.length)) * G) i ≤ 40320 * 8 := sum_part (fun j => sumOf (orderI l.length) (turnsIn (winB q l) j (2 ^ l.length))) l.length h8 F G HG.out hxr.out i hil
          obtain ⟨X, hX⟩ : ∃ X : Nat, (X : Int) = sumOf (orderI l.length) (turnsIn (winB q l) i (2 ^ l.length)) := ⟨(sumOf (orderI l.length) (turnsIn (winB q l) i (2 ^ l.length))).toNat, by omega⟩
          rw [← hX] at HS xr gx
          rw [Int.toNat_natCast] at gx
          obtain ⟨r1, r2, r3, r4⟩ := ratio_part (x := X) (F := F) (G := G) (Nat.pos_of_ne_zero fun e => by have := HG.out; rw [e] at this; omega) HG.out (by omega)
          rw [← gx] at r1 r2 r3 r4
          generalize withTo (winB q l) i (2 ^ l.length) = wi at *
          generalize (ps.getD i (0, 0)).1 = x at *
          generalize (ps.getD i (0, 0)).2 = y at *
          generalize upTo (fun j => sumOf (orderI l.length) (turnsIn (winB q l) j (2 ^ l.length)) * G) i = sm at *
          obtain ⟨z, hz⟩ : ∃ z, z = 40320 / y := ⟨_, rfl⟩
          rw [← hz] at r4
          have hzI : (40320 : Int) / (y : Int) = (z : Int) := by rw [hz]; rfl
          have hmI : (40320 : Int) % (y : Int) = 0 := (Int.natCast_emod 40320 y).symm.trans (congrArg Int.ofNat r2)
          have hxz : (x : Int) * (z : Int) = (X : Int) * (G : Int) := by exact_mod_cast r4
          have hXG : X * G ≤ 40320 := by rw [← HG.out]; exact Nat.mul_le_mul_right _ (by omega)
          have hxzN : x * z ≤ 40320 := by omega
          have W1 : IntKind.i64.wrap (2 * wi) = 2 * wi := by rw [IntKind.wrap_i64]; omega
          have W2 : IntKind.i64.wrap (2 * wi - al) = 2 * wi - al := by rw [IntKind.wrap_i64]; omega
          have W3 : IntKind.i64.wrap ((x : Int) * (z : Int)) = (x : Int) * (z : Int) := by rw [← Int.natCast_mul, IntKind.wrap_i64]; omega
          have W4 : IntKind.i64.wrap (sm + (x : Int) * (z : Int)) = sm + (x : Int) * (z : Int) := by rw [← Int.natCast_mul, IntKind.wrap_i64]; omega
          have hyI : ¬ ((y : Int) < 1) := by omega
          have hyI2 : (y : Int) ≠ 0 := by omega
          have hyI3 : ¬ y = 0 := by omega
          have hyI4 : (1 : Int) ≤ (y : Int) := by omega
          have hg1 : decide ((y : Int) < 1) = false := decide_eq_false (by omega)
          have hg2 : (Int.tmod 40320 (y : Int) != 0) = false := by rw [Int.tmod_eq_emod_of_nonneg (by decide), hmI]; rfl
          have hg3 : decide ((x : Int) < 0) = false := decide_eq_false (by omega)
          have hg4 : decide ((y : Int) < (x : Int)) = false := decide_eq_false (by omega)
          have hxI : ¬ ((x : Int) < 0) := by omega
          have hxy : ¬ ((y : Int) < (x : Int)) := by omega
          have i0 : (0 : Int) ≤ (i : Int) := by omega
          have i1 : (i : Int) < (l.length : Int) := by omega
          have HX := Off.mk hxz
          have hzr : z ≤ 40320 := by rw [hz]; exact Nat.div_le_self _ _
          clear hxz r1 r2 r3 r4 hz hX hXG hxzN gx xr hsr hwr2 hpN hxr hgx hsum
          go_wp2_with fail
          have hg5 : IntKind.i64.wrap (Int.tdiv 40320 (y : Int)) = (z : Int) := by rw [Int.tdiv_eq_ediv_of_nonneg (by decide), hzI, IntKind.wrap_i64]; omega
          go_quiet (fail)
          go_wp2_with fail
          go_quiet (fail)
          go_wp2
          go_roundw
          case rel => exact ⟨i + 1, by omega, by go_num, by rw [HS.out, ← HX.out], below_drewN' hB _⟩
          case measure => simp only [intOf]; omega
        · obtain rfl : i = l.length := by omega
          rw [hsum.out]
          go_wp2_with (go_at_call 16; refine (alive_any _).mono ?_; rintro e w8 ⟨rfl, hb8⟩)
          go_ret
          exact ⟨rfl, belowC (BO.trans (hB.mono BO.size)) hb8⟩
end Go.Proofs.Ytdbleghnblohgaa
