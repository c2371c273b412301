/- The law BrandsBroline: its walk. -/
import Derived.Test.YtddcdopimpfhcaaGa
import Derived.Test.YtddcdopimpfhcaaCj
import Derived.Test.YtddcdopimpfhcaaFj
namespace Go.Proofs.Ytddcdopimpfhcaa
open Go.RowKit Go.Shelf

set_option maxRecDepth 100000 in
theorem broline_many (n : Int) (l : List (Int × Int)) (A : Option Addr) (c : Nat) (x y : Int) (w : World) (h60 : 60 < l.length) :
    Calls Try.prog 9 #[.int .i64 n, .slice A l.length c, .int .u8 x, .int .u8 y] w fun e w' => e = .returned (.bool true) ∧ Below w.heap.size w w' := by
  go_enter Try.func9, Try.ntmps9
  go_wp2_with (go_at_call 17; refine (alive_any _).mono ?_; rintro e w2 ⟨rfl, hb2⟩)
  go_ret
  exact ⟨rfl, hb2⟩
set_option maxRecDepth 100000 in
theorem broline_great (n : Int) (l : List (Int × Int)) (A : Option Addr) (c : Nat) (x y : Int) (w : World) (h60 : l.length ≤ 60) (hn : 10 < n) :
    Calls Try.prog 9 #[.int .i64 n, .slice A l.length c, .int .u8 x, .int .u8 y] w fun e w' => e = .returned (.bool true) ∧ Below w.heap.size w w' := by
  have hf : decide ((60 : Int) < (l.length : Int)) = false := by rw [decide_eq_false_iff_not]; omega
  have hg : decide ((10 : Int) < n) = true := by rw [decide_eq_true_iff]; exact hn
  go_enter Try.func9, Try.ntmps9
  go_wp2_with (go_at_call 17; refine (alive_any _).mono ?_; rintro e w2 ⟨rfl, hb2⟩)
  go_ret
  exact ⟨rfl, hb2⟩
set_option maxRecDepth 100000 in
theorem broline_no (n : Int) (l : List (Int × Int)) (A : Option Addr) (c : Nat) (x y : Int) (w : World) (h60 : l.length ≤ 60) (hn : ¬ 10 < n) (hv : rbrandB n l = false) (hx : PairsI w A l) :
    Calls Try.prog 9 #[.int .i64 n, .slice A l.length c, .int .u8 x, .int .u8 y] w fun e w' => e = .returned (.bool true) ∧ Below w.heap.size w w' := by
  have hf : decide ((60 : Int) < (l.length : Int)) = false := by rw [decide_eq_false_iff_not]; omega
  have hg : decide ((10 : Int) < n) = false := by rw [decide_eq_false_iff_not]; exact hn
  have CR := Off.mk (rbrand_any n l A c false hv w hx)
  clear hv hx
  go_enter Try.func9, Try.ntmps9
  go_wp2_with fail
  refine CR.out.mono ?_
  rintro e w1 ⟨rfl, hb1⟩
  have HB1 := Off.mk hb1
  clear hb1
  go_wp2_with (go_at_call 17; refine (alive_any _).mono ?_; rintro e w2 ⟨rfl, hb2⟩)
  go_ret
  exact ⟨rfl, belowC HB1.out hb2⟩
theorem between_at (l : List Int) (A : Option Addr) (c i k : Nat) (hb : roundB l = true) (hik : i ≤ k) (hk : k < l.length) (w : World) (hl : IntsAt w A l) :
    Calls Try.prog 33 #[.slice A l.length c, .int .i64 (i : Int), .int .i64 (k : Int)] w fun e w' => e = .returned (.tuple #[.int .i64 (eN l i (k - i)), .int .i64 0]) ∧ Below w.heap.size w w' := by
  have h := between_yes l A c i (k - i) hb (by omega) (by omega) w hl
  rw [show (i : Int) + ((k - i : Nat) : Int) = (k : Int) by omega] at h
  exact h
set_option maxHeartbeats 4000000 in
set_option maxRecDepth 100000 in
theorem broline_up (n : Nat) (l : List (Int × Int)) (A : Option Addr) (c a b : Nat) (w : World) (hn : n ≤ 10) (hv : brandB n l = true) (hx : PairsI w A l) (hlc : l.length ≤ c) (ha : a < 256) (hb : b < 256) (hlt : a % n < (a % n + 1 + b % (n - 1)) % n) :
    Calls Try.prog 9 #[.int .i64 (n : Int), .slice A l.length c, .int .u8 (a : Int), .int .u8 (b : Int)] w fun e w' => e = .returned (.bool true) ∧ Below w.heap.size w w' := by
  have hr := brand_range hv
  have hbl := brandL_of hv
  have hn3 : 3 ≤ n := by omega
  have h60 : l.length ≤ 60 := by omega
  have hf : decide ((60 : Int) < (l.length : Int)) = false := by rw [decide_eq_false_iff_not]; omega
  have hg : decide ((10 : Int) < (n : Int)) = false := by rw [decide_eq_false_iff_not]; omega
  obtain ⟨v, hV⟩ := vecs_of hbl
  obtain ⟨i, hi⟩ : ∃ i, i = a % n := ⟨_, rfl⟩
  obtain ⟨m, hm⟩ : ∃ m, m = n - 1 := ⟨_, rfl⟩
  obtain ⟨s, hs⟩ : ∃ s, s = b % m := ⟨_, rfl⟩
  obtain ⟨k, hk⟩ : ∃ k, k = (i + 1 + s) % n := ⟨_, rfl⟩
  have hin : i < n := by rw [hi]; exact Nat.mod_lt _ (by omega)
  have hsm : s < m := by rw [hs]; exact Nat.mod_lt _ (by omega)
  have hkn : k < n := by rw [hk]; exact Nat.mod_lt _ (by omega)
  have hik : i ≠ k := by
    rw [hk]
    by_cases e : i + 1 + s < n
    · rw [Nat.mod_eq_of_lt e]; omega
    · rw [Nat.mod_eq_sub_mod (by omega), Nat.mod_eq_of_lt (by omega)]; omega
  have e1 : (a : Int) % (n : Int) = (i : Int) := by rw [hi]; exact (Int.natCast_emod _ _).symm
  have e2 : (a : Int).tmod (n : Int) = (i : Int) := by rw [Int.tmod_eq_emod_of_nonneg (by omega)]; exact e1
  have e3 : (b : Int) % (m : Int) = (s : Int) := by rw [hs]; exact (Int.natCast_emod _ _).symm
  have e4 : (b : Int).tmod (m : Int) = (s : Int) := by rw [Int.tmod_eq_emod_of_nonneg (by omega)]; exact e3
  have e5 : ((i : Int) + 1 + (s : Int)) % (n : Int) = (k : Int) := by
    rw [hk, show (i : Int) + 1 + (s : Int) = ((i + 1 + s : Nat) : Int) by omega]
    exact (Int.natCast_emod _ _).symm
  have e6 : ((i : Int) + 1 + (s : Int)).tmod (n : Int) = (k : Int) := by rw [Int.tmod_eq_emod_of_nonneg (by omega)]; exact e5
  have hn0 : ¬ n = 0 := by omega
  have hm0 : ¬ m = 0 := by omega
  have w1 : IntKind.i64.wrap ((i : Int) + 1) = (i : Int) + 1 := by rw [IntKind.wrap_i64]; omega
  have w2 : IntKind.i64.wrap ((n : Int) - 1) = (m : Int) := by rw [IntKind.wrap_i64]; omega
  have w3 : IntKind.i64.wrap ((i : Int) + 1 + (s : Int)) = (i : Int) + 1 + (s : Int) := by rw [IntKind.wrap_i64]; omega
  have w4 : IntKind.i64.wrap (a : Int) = (a : Int) := by rw [IntKind.wrap_i64]; omega
  have w5 : IntKind.i64.wrap (b : Int) = (b : Int) := by rw [IntKind.wrap_i64]; omega
  rw [← hi, ← hm, ← hs, ← hk] at hlt
  have hltI : (i : Int) < (k : Int) := by omega
  have hmn : min (i : Int) (k : Int) = (i : Int) := by omega
  have hmx : max (i : Int) (k : Int) = (k : Int) := by omega
  have c1 := hV.choices hn (full_nats hbl) hin hkn hik
  have c2 := hV.choices hn (full_nats hbl) hkn hin (fun e => hik e.symm)
  rw [show min i k = i by omega, show max i k = k by omega] at c1
  rw [show min k i = i by omega, show max k i = k by omega] at c2
  have lo := hV.lo (i := i) (r := k - i) (by omega) (by omega) (by omega)
  have hts : (trisOf (jn n l) n).length ≤ 10 := tris_few hbl
  have CR := Off.mk (rbrand_any n l A c true (by rw [← brand_eq]; exact hv) w hx)
  have C1 := Off.mk (fun W (hW : Below w.heap.size w W) => round_post n l hv A c W (hx.below hW) hlc)
  have C2 := Off.mk (fun W (hW : Below w.heap.size w W) => choices_yes n l A c i k hv hin hkn hik hts W (hx.below hW) hlc)
  have C3 := Off.mk (fun W (hW : Below w.heap.size w W) => choices_yes n l A c k i hv hkn hin (fun e => hik e.symm) hts W (hx.below hW) hlc)
  have C4 := Off.mk (fun B e W (hW : IntsAt W B (roundOf n l)) => between_at (roundOf n l) B e i k (round_round hbl) (by omega) (by rw [round_len]; omega) W hW)
  rw [c1] at C2
  rw [c2] at C3
  obtain ⟨z, hz⟩ : ∃ z, z = eN (roundOf n l) i (k - i) := ⟨_, rfl⟩
  rw [← hz] at C2 C3 C4 lo
  have k1 : (z == z) = true := by simp
  have k2 : decide (1 ≤ z) = true := by rw [decide_eq_true_iff]; exact lo
  clear hr hbl hV hi hs hk c1 c2 hts hz hv hx hlc hm hlt
  go_enter Try.func9, Try.ntmps9
  go_wp2_with fail
  refine CR.out.mono ?_
  rintro e w1 ⟨rfl, hb1⟩
  have HB1 := Off.mk hb1
  clear hb1 CR
  go_wp2_with fail
  refine (C1.out _ HB1.out).mono ?_
  rintro e w2 ⟨A2, c2, rfl, hI2, _, _, hb2⟩
  have HB2 := Off.mk (belowC HB1.out hb2)
  have HI2 := Off.mk hI2
  clear hb2 hI2 C1
  go_wp2_with fail
  refine (C2.out _ HB2.out).mono ?_
  rintro e w3 ⟨rfl, hb3⟩
  have HB3 := Off.mk (belowC HB2.out hb3)
  have HI3 := Off.mk (HI2.out.below hb3)
  clear hb3 C2 HI2
  go_wp2_with fail
  refine (C3.out _ HB3.out).mono ?_
  rintro e w4 ⟨rfl, hb4⟩
  have HB4 := Off.mk (belowC HB3.out hb4)
  have HI4 := Off.mk (HI3.out.below hb4)
  clear hb4 C3 HI3
  go_wp2_with fail
  refine (C4.out _ _ _ HI4.out).mono ?_
  rintro e w5 ⟨rfl, hb5⟩
  have HB5 := Off.mk (belowC HB4.out hb5)
  clear hb5 C4 HI4
  go_wp2_with (go_at_call 17; refine (alive_any _).mono ?_; rintro e w8 ⟨rfl, hb8⟩)
  go_ret
  exact ⟨rfl, belowC HB5.out hb8⟩
set_option maxHeartbeats 4000000 in
set_option maxRecDepth 100000 in
theorem broline_down (n : Nat) (l : List (Int × Int)) (A : Option Addr) (c a b : Nat) (w : World) (hn : n ≤ 10) (hv : brandB n l = true) (hx : PairsI w A l) (hlc : l.length ≤ c) (ha : a < 256) (hb : b < 256) (hlt : (a % n + 1 + b % (n - 1)) % n < a % n) :
    Calls Try.prog 9 #[.int .i64 (n : Int), .slice A l.length c, .int .u8 (a : Int), .int .u8 (b : Int)] w fun e w' => e = .returned (.bool true) ∧ Below w.heap.size w w' := by
  have hr := brand_range hv
  have hbl := brandL_of hv
  have hn3 : 3 ≤ n := by omega
  have h60 : l.length ≤ 60 := by omega
  have hf : decide ((60 : Int) < (l.length : Int)) = false := by rw [decide_eq_false_iff_not]; omega
  have hg : decide ((10 : Int) < (n : Int)) = false := by rw [decide_eq_false_iff_not]; omega
  obtain ⟨v, hV⟩ := vecs_of hbl
  obtain ⟨i, hi⟩ : ∃ i, i = a % n := ⟨_, rfl⟩
  obtain ⟨m, hm⟩ : ∃ m, m = n - 1 := ⟨_, rfl⟩
  obtain ⟨s, hs⟩ : ∃ s, s = b % m := ⟨_, rfl⟩
  obtain ⟨k, hk⟩ : ∃ k, k = (i + 1 + s) % n := ⟨_, rfl⟩
  have hin : i < n := by rw [hi]; exact Nat.mod_lt _ (by omega)
  have hsm : s < m := by rw [hs]; exact Nat.mod_lt _ (by omega)
  have hkn : k < n := by rw [hk]; exact Nat.mod_lt _ (by omega)
  have hik : i ≠ k := by
    rw [hk]
    by_cases e : i + 1 + s < n
    · rw [Nat.mod_eq_of_lt e]; omega
    · rw [Nat.mod_eq_sub_mod (by omega), Nat.mod_eq_of_lt (by omega)]; omega
  have e1 : (a : Int) % (n : Int) = (i : Int) := by rw [hi]; exact (Int.natCast_emod _ _).symm
  have e2 : (a : Int).tmod (n : Int) = (i : Int) := by rw [Int.tmod_eq_emod_of_nonneg (by omega)]; exact e1
  have e3 : (b : Int) % (m : Int) = (s : Int) := by rw [hs]; exact (Int.natCast_emod _ _).symm
  have e4 : (b : Int).tmod (m : Int) = (s : Int) := by rw [Int.tmod_eq_emod_of_nonneg (by omega)]; exact e3
  have e5 : ((i : Int) + 1 + (s : Int)) % (n : Int) = (k : Int) := by
    rw [hk, show (i : Int) + 1 + (s : Int) = ((i + 1 + s : Nat) : Int) by omega]
    exact (Int.natCast_emod _ _).symm
  have e6 : ((i : Int) + 1 + (s : Int)).tmod (n : Int) = (k : Int) := by rw [Int.tmod_eq_emod_of_nonneg (by omega)]; exact e5
  have hn0 : ¬ n = 0 := by omega
  have hm0 : ¬ m = 0 := by omega
  have w1 : IntKind.i64.wrap ((i : Int) + 1) = (i : Int) + 1 := by rw [IntKind.wrap_i64]; omega
  have w2 : IntKind.i64.wrap ((n : Int) - 1) = (m : Int) := by rw [IntKind.wrap_i64]; omega
  have w3 : IntKind.i64.wrap ((i : Int) + 1 + (s : Int)) = (i : Int) + 1 + (s : Int) := by rw [IntKind.wrap_i64]; omega
  have w4 : IntKind.i64.wrap (a : Int) = (a : Int) := by rw [IntKind.wrap_i64]; omega
  have w5 : IntKind.i64.wrap (b : Int) = (b : Int) := by rw [IntKind.wrap_i64]; omega
  rw [← hi, ← hm, ← hs, ← hk] at hlt
  have hltI : (k : Int) < (i : Int) := by omega
  have hmn : min (i : Int) (k : Int) = (k : Int) := by omega
  have hmx : max (i : Int) (k : Int) = (i : Int) := by omega
  have c1 := hV.choices hn (full_nats hbl) hin hkn hik
  have c2 := hV.choices hn (full_nats hbl) hkn hin (fun e => hik e.symm)
  rw [show min i k = k by omega, show max i k = i by omega] at c1
  rw [show min k i = k by omega, show max k i = i by omega] at c2
  have lo := hV.lo (i := k) (r := i - k) (by omega) (by omega) (by omega)
  have hts : (trisOf (jn n l) n).length ≤ 10 := tris_few hbl
  have CR := Off.mk (rbrand_any n l A c true (by rw [← brand_eq]; exact hv) w hx)
  have C1 := Off.mk (fun W (hW : Below w.heap.size w W) => round_post n l hv A c W (hx.below hW) hlc)
  have C2 := Off.mk (fun W (hW : Below w.heap.size w W) => choices_yes n l A c i k hv hin hkn hik hts W (hx.below hW) hlc)
  have C3 := Off.mk (fun W (hW : Below w.heap.size w W) => choices_yes n l A c k i hv hkn hin (fun e => hik e.symm) hts W (hx.below hW) hlc)
  have C4 := Off.mk (fun B e W (hW : IntsAt W B (roundOf n l)) => between_at (roundOf n l) B e k i (round_round hbl) (by omega) (by rw [round_len]; omega) W hW)
  rw [c1] at C2
  rw [c2] at C3
  obtain ⟨z, hz⟩ : ∃ z, z = eN (roundOf n l) k (i - k) := ⟨_, rfl⟩
  rw [← hz] at C2 C3 C4 lo
  have k1 : (z == z) = true := by simp
  have k2 : decide (1 ≤ z) = true := by rw [decide_eq_true_iff]; exact lo
  clear hr hbl hV hi hs hk c1 c2 hts hz hv hx hlc hm hlt
  go_enter Try.func9, Try.ntmps9
  go_wp2_with fail
  refine CR.out.mono ?_
  rintro e w1 ⟨rfl, hb1⟩
  have HB1 := Off.mk hb1
  clear hb1 CR
  go_wp2_with fail
  refine (C1.out _ HB1.out).mono ?_
  rintro e w2 ⟨A2, c2, rfl, hI2, _, _, hb2⟩
  have HB2 := Off.mk (belowC HB1.out hb2)
  have HI2 := Off.mk hI2
  clear hb2 hI2 C1
  go_wp2_with fail
  refine (C2.out _ HB2.out).mono ?_
  rintro e w3 ⟨rfl, hb3⟩
  have HB3 := Off.mk (belowC HB2.out hb3)
  have HI3 := Off.mk (HI2.out.below hb3)
  clear hb3 C2 HI2
  go_wp2_with fail
  refine (C3.out _ HB3.out).mono ?_
  rintro e w4 ⟨rfl, hb4⟩
  have HB4 := Off.mk (belowC HB3.out hb4)
  have HI4 := Off.mk (HI3.out.below hb4)
  clear hb4 C3 HI3
  go_wp2_with fail
  refine (C4.out _ _ _ HI4.out).mono ?_
  rintro e w5 ⟨rfl, hb5⟩
  have HB5 := Off.mk (belowC HB4.out hb5)
  clear hb5 C4 HI4
  go_wp2_with (go_at_call 17; refine (alive_any _).mono ?_; rintro e w8 ⟨rfl, hb8⟩)
  go_ret
  exact ⟨rfl, belowC HB5.out hb8⟩
theorem broline_walk (n : Int) (l : List (Int × Int)) (A : Option Addr) (c : Nat) (x y : Int) (w : World) (hx : l.length ≤ 140737488351232 → PairsI w A l) (hlc : l.length ≤ c) (_ : A = none → c = 0) (h1 : 0 ≤ x ∧ x < 256) (h2 : 0 ≤ y ∧ y < 256) :
    Calls Try.prog 9 #[.int .i64 n, .slice A l.length c, .int .u8 x, .int .u8 y] w fun e w' => e = .returned (.bool true) ∧ Below w.heap.size w w' := by
  by_cases h60 : l.length ≤ 60
  · by_cases hn : 10 < n
    · exact broline_great n l A c x y w h60 hn
    · cases hv : brandB n l with
      | false => exact broline_no n l A c x y w h60 hn (by rw [← brand_eq]; exact hv) (hx (by omega))
      | true =>
        have hr := brand_range hv
        obtain ⟨m, rfl⟩ : ∃ m : Nat, n = (m : Int) := ⟨n.toNat, by omega⟩
        obtain ⟨a, rfl⟩ : ∃ a : Nat, x = (a : Int) := ⟨x.toNat, by omega⟩
        obtain ⟨b, rfl⟩ : ∃ b : Nat, y = (b : Int) := ⟨y.toNat, by omega⟩
        rcases Nat.lt_trichotomy (a % m) ((a % m + 1 + b % (m - 1)) % m) with e | e | e
        · exact broline_up m l A c a b w (by omega) hv (hx (by omega)) hlc (by omega) (by omega) e
        · exfalso
          have h1 : a % m < m := Nat.mod_lt _ (by omega)
          have h2 : b % (m - 1) < m - 1 := Nat.mod_lt _ (by omega)
          generalize a % m = A1 at e h1
          generalize b % (m - 1) = B1 at e h2
          by_cases h3 : A1 + 1 + B1 < m
          · rw [Nat.mod_eq_of_lt h3] at e; omega
          · rw [Nat.mod_eq_sub_mod (by omega), Nat.mod_eq_of_lt (by omega)] at e; omega
        · exact broline_down m l A c a b w (by omega) hv (hx (by omega)) hlc (by omega) (by omega) e
  · exact broline_many n l A c x y w (by omega)
end Go.Proofs.Ytddcdopimpfhcaa
