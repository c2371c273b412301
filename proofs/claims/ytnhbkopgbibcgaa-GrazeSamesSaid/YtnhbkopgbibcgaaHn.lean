/- Contract: Same of the specification. -/
import Derived.Test.YtnhbkopgbibcgaaHm
namespace Go.Proofs.Ytnhbkopgbibcgaa
open Go.RowKit Go.Shelf

/-- The states of a list that are the same after q days. -/
def fixTo (b q : Nat) (xs : List (List Int)) : Nat → Nat
  | 0 => 0
  | k + 1 => fixTo b q xs k + if decide (iterDay b (xs.getD k []) q = xs.getD k []) then 1 else 0
/-- The states that are the same after q days, as the specification counts them. -/
def rsameP (n m q : Nat) : Nat := fixTo m q (stF n m []) (stF n m []).length
theorem fixTo_le (b q : Nat) (xs : List (List Int)) (k : Nat) : fixTo b q xs k ≤ k := by
  induction k with
  | zero => exact Nat.le_refl _
  | succ k ih => rw [fixTo]; split <;> omega

set_option maxHeartbeats 4000000 in
set_option maxRecDepth 100000 in
theorem rSame_any (a b d : Int) (w : World) : Calls Try.prog 16 #[.int .i64 a, .int .i64 b, .int .i64 d] w fun e w' => SamePost a b (fun n m => rsameP n m (d % (a + b)).toNat) w e w' := by
  cases hf : fieldB a b
  · have CP := Off.mk (pasture_any a b false hf w)
    have HF := Off.mk hf
    clear hf
    go_enter Try.func16, Try.ntmps16
    go_wp2_with (go_at_call 45; refine CP.out.mono ?_; rintro e w1 ⟨rfl, hw⟩; subst w1)
    go_ret2
    exact ⟨by rw [HF.out]; rfl, Below.refl _ _⟩
  · have HF := Off.mk hf
    have CP := Off.mk (pasture_any a b true hf w)
    have hl := field_len hf
    obtain ⟨n, rfl⟩ : ∃ n : Nat, a = n := ⟨a.toNat, by omega⟩
    obtain ⟨m, rfl⟩ : ∃ n : Nat, b = n := ⟨b.toNat, by omega⟩
    obtain ⟨hn1, hn6, hm1, hm6⟩ : 1 ≤ n ∧ n ≤ 6 ∧ 1 ≤ m ∧ m ≤ 6 := by omega
    have CW := Off.mk (fun W => within_any n m d hn1 hn6 hm1 hm6 W)
    obtain ⟨q, hq⟩ : ∃ q : Nat, q = (d % ((n : Int) + m)).toNat := ⟨_, rfl⟩
    have hq2 : q ≤ 12 := by
      have := Int.emod_lt_of_pos d (show 0 < ((n : Int) + m) by omega)
      omega
    have HQ := Off.mk hq.symm
    rw [← hq] at CW
    have HR : Off (rsameP n m q = fixTo m q (stF n m []) (stF n m []).length) := ⟨rfl⟩
    have CS := Off.mk (states_any n m hn1 hn6 hm1 hm6 n m [] none 0 w (by simp) hm6 (.inl ⟨rfl, rfl, rfl, rfl⟩))
    have hxl := stF_length n m [] hm6
    have h7 : 7 ^ n ≤ 7 ^ 6 := Nat.pow_le_pow_right (by omega) hn6
    have e7 : 7 ^ 6 = 117649 := rfl
    rw [e7] at h7
    have hx2 : (stF n m []).length ≤ 117649 := by omega
    obtain ⟨xs, hxs⟩ : ∃ xs, xs = stF n m [] := ⟨_, rfl⟩
    rw [← hxs] at CS HR hx2
    have CA : Off (∀ W r c l, Blk W r l → l.length = n → n ≤ c → Calls Try.prog 49 #[.int .i64 (n : Int), .int .i64 (m : Int), .slice (some ⟨r, 0, none⟩) n c, .int .i64 (q : Int)] W fun e w' => ∃ v, e = .returned v ∧ Own w' W.heap.size v (iterDay m l q) ∧ Below W.heap.size W w') := ⟨fun W r c l hB hl hc => by
      have := after_any l (some ⟨r, 0, none⟩) c m q W (hB.ints (by omega)) (by omega) (fun e => by cases e) (by omega) hm6 (by omega)
      rw [hl] at this
      exact this⟩
    have CE : Off (∀ W r c v l, Own W W.heap.size v (iterDay m l q) ∨ True → ∀ B, Own W B v (iterDay m l q) → Blk W r l → l.length = n → ∀ z, decide (iterDay m l q = l) = z → Calls Try.prog 48 #[v, .slice (some ⟨r, 0, none⟩) n c] W fun e w' => e = .returned (.bool z) ∧ Below W.heap.size W w') := ⟨fun W r c v l _ B hO hB hl z hz => by
      have hln : (iterDay m l q).length = n := by rw [iterDay_length, hl]
      obtain ⟨A, c', rfl, hI, _⟩ := own_ints hO (by omega)
      rw [hln, ← hz]
      exact rsame_any (iterDay m l q) l A _ c' c n W hI (hB.ints (by omega)) hln hl⟩
    clear hf hq hxs hxl h7 e7
    go_enter Try.func16, Try.ntmps16
    go_wp2_with fail
    refine CP.out.mono ?_
    rintro e w1 ⟨rfl, hw⟩
    subst w1
    go_wp2_with fail
    refine CS.out.mono ?_
    rintro e w1 ⟨v1, rfl, hT, hb1⟩
    obtain ⟨vs, how, hL⟩ := hT.out
    have HO := Off.mk how
    have HL := Off.mk hL
    have hvl : ∃ A c, v1 = .slice A xs.length c := by
      rcases how.2 with ⟨rfl, h⟩ | ⟨g, cap, cur, rfl, _⟩
      · exact ⟨none, 0, by rw [h]⟩
      · exact ⟨_, _, rfl⟩
    obtain ⟨A1, c1, rfl⟩ := hvl
    have HC : Off (∀ W, Below w1.heap.size w1 W → ∀ j, j < xs.length → ∃ ad r c, A1 = some ad ∧ n ≤ c ∧ W.cell? (ad.add j) = some (.slice (some ⟨r, 0, none⟩) n c) ∧ (xs.getD j []).length = n ∧ Blk W r (xs.getD j [])) := ⟨fun W hW j hj => by
      rcases how.2 with ⟨e, h⟩ | ⟨g, cap, cur, e, hg, _⟩
      · omega
      · cases e
        obtain ⟨r, c, h1, h2, h3, h4⟩ := hL.row j hj
        refine ⟨_, r, c, rfl, h1, ?_, h3, h4.below hW⟩
        exact cellB hW ((how.cells (g := g) rfl) j _ h2)⟩
    clear hT how hL HO HL
    go_wp2
    go_loopw [9, 11] (fun mv iv wr => ∃ k : Nat, k ≤ xs.length ∧ iv = .int .i64 k ∧ mv = .int .i64 (fixTo m q xs k : Nat) ∧ Below w1.heap.size w1 wr) (fun _ iv _ => xs.length - (intOf iv).toNat)
    case atStart => exact ⟨0, by omega, rfl, rfl, Below.refl _ _⟩
    case round =>
      obtain ⟨k, hk, rfl, rfl, hb⟩ := hrel
      obtain ⟨wo, rfl⟩ : ∃ wo : World, wo = wr := ⟨_, rfl⟩
      by_cases hkl : k < xs.length
      · have hki : (k : Int) < (xs.length : Int) := by omega
        have hk0 : (0 : Int) ≤ (k : Int) := by omega
        obtain ⟨ad, r, c, rfl, hc, hcell, hxl, hB⟩ := HC.out wo hb k hkl
        have HF1 : Off (fixTo m q xs (k + 1) = fixTo m q xs k + if decide (iterDay m (xs.getD k []) q = xs.getD k []) then 1 else 0) := ⟨rfl⟩
        have hfl := fixTo_le m q xs k
        obtain ⟨f, hf⟩ : ∃ f, f = fixTo m q xs k := ⟨_, rfl⟩
        obtain ⟨l, hlx⟩ : ∃ l, l = xs.getD k [] := ⟨_, rfl⟩
        rw [← hlx] at hxl hB HF1
        rw [← hf] at HF1 hfl ⊢
        have HB := Off.mk hB
        have HXL := Off.mk hxl
        have CA1 := Off.mk (fun W (hW : Below wo.heap.size wo W) => CA.out W r c l (hB.below hW) hxl hc)
        obtain ⟨z, hz⟩ : ∃ z, z = decide (iterDay m l q = l) := ⟨_, rfl⟩
        have HZ := Off.mk hz.symm
        rw [← hz] at HF1
        have CE1 := Off.mk (fun W v B (hO : Own W B v (iterDay m l q)) (hW : Below wo.heap.size wo W) => CE.out W r c v l (.inr trivial) B hO (hB.below hW) hxl z HZ.out)
        clear hf hlx hB hxl hz
        go_wp2_with fail
        cases z
        · rw [if_neg (by decide), Nat.add_zero] at HF1
          go_region_held3 (fun w' => w'.cell? (ad.add k) = some (.slice (some ⟨r, 0, none⟩) n c))
            (first | go_keep | exact hcell)
            (first
              | (go_at_call 48; refine (CE1.out _ _ _ hO4 hB4).mono ?_; rintro e w5 ⟨rfl, hb5⟩; have hcell := cellB hb5 hcell; have hB5 := belowC hB4 hb5)
              | (go_at_call 49; refine (CA1.out _ (below_drewN' (Below.refl _ _) _)).mono ?_; rintro e w4 ⟨v4, rfl, hO4, hb4⟩; have hcell := cellB hb4 hcell; have hB4 := belowC (below_drewN' (Below.refl wo.heap.size wo) _) hb4)
              | (go_at_call 50; refine (CW.out _).mono ?_; rintro e w3 ⟨rfl, hw3⟩; subst w3))
          have hBx := hb.trans (hB5.mono hb.size)
          go_wp2
          go_roundw
          case rel => exact ⟨k + 1, by omega, by go_num, by rw [HF1.out]; rfl, hBx⟩
          case measure => simp only [intOf]; omega
        · rw [if_pos rfl] at HF1
          go_region_held3 (fun w' => w'.cell? (ad.add k) = some (.slice (some ⟨r, 0, none⟩) n c))
            (first | go_keep | exact hcell)
            (first
              | (go_at_call 48; refine (CE1.out _ _ _ hO4 hB4).mono ?_; rintro e w5 ⟨rfl, hb5⟩; have hcell := cellB hb5 hcell; have hB5 := belowC hB4 hb5)
              | (go_at_call 49; refine (CA1.out _ (below_drewN' (Below.refl _ _) _)).mono ?_; rintro e w4 ⟨v4, rfl, hO4, hb4⟩; have hcell := cellB hb4 hcell; have hB4 := belowC (below_drewN' (Below.refl wo.heap.size wo) _) hb4)
              | (go_at_call 50; refine (CW.out _).mono ?_; rintro e w3 ⟨rfl, hw3⟩; subst w3))
          have hBx := hb.trans (hB5.mono hb.size)
          go_wp2
          go_roundw
          case rel => exact ⟨k + 1, by omega, by go_num, by rw [HF1.out]; go_num, hBx⟩
          case measure => simp only [intOf]; omega
      · obtain rfl : k = xs.length := by omega
        obtain ⟨f, hf⟩ : ∃ f, f = fixTo m q xs xs.length := ⟨_, rfl⟩
        rw [← hf] at HR ⊢
        clear hf
        go_wp2
        go_ret2
        exact ⟨by rw [HF.out]; show _ = Ending.returned (.tuple #[.int .i64 ((rsameP (n : Int).toNat (m : Int).toNat (d % ((n : Int) + m)).toNat : Nat) : Int), .int .i64 0]); rw [HQ.out, Int.toNat_natCast, Int.toNat_natCast, HR.out]; rfl, belowC hb1 hb⟩
end Go.Proofs.Ytnhbkopgbibcgaa
