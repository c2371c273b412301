/- The law BrandsFlipped: its walk. -/
import Derived.Test.YtddcdopimpfhcaaCg
import Derived.Test.YtddcdopimpfhcaaFk
namespace Go.Proofs.Ytddcdopimpfhcaa
open Go.RowKit Go.Shelf

theorem eq_pair' (x y : Int × Int) (v : Bool) (hv : decide (x = y) = v) (w : World) : Sem.run Try.prog (binOp .eql 36 (.agg #[.int .i64 x.1, .int .i64 x.2]) (.agg #[.int .i64 y.1, .int .i64 y.2])) w = .ok (.bool v) w := by
  have h := eq_pair x.1 x.2 y.1 y.2 w
  have e : (decide (x.1 = y.1) && decide (x.2 = y.2)) = v := by
    rw [← hv, Bool.eq_iff_iff, Bool.and_eq_true, decide_eq_true_iff, decide_eq_true_iff, decide_eq_true_iff]
    exact ⟨fun h => Prod.ext h.1 h.2, fun h => by rw [h]; exact ⟨rfl, rfl⟩⟩
  simp [binOp, Op.equal, Op.maxDepth, h, ← e]
theorem brandLof {n : Int} {l : List (Int × Int)} (h : brandB n l = true) : BrandL n l := (brandL_iff n l).1 ((brand_iff n l).1 h)
theorem ofBrandL {n : Int} {l : List (Int × Int)} (h : BrandL n l) : brandB n l = true := (brand_iff n l).2 ((brandL_iff n l).2 h)
def FlipCap (w : World) (ms : List (Int × Int)) (r : Ending) (w' : World) : Prop := ∃ A c, r = .returned (.tuple #[.slice A ms.length c, .int .i64 0]) ∧ PairsI w' A ms ∧ ms.length ≤ c ∧ (A = none → c = 0) ∧ Below w.heap.size w w'
theorem flip_post (n : Nat) (l x : List (Int × Int)) (A : Option Addr) (c i : Nat) (hv : brandB n l = true) (hi : i < l.length) (hf : flipL n l i = some x) (hx60 : x.length ≤ 60) (w : World) (hx : PairsI w A l) (hlc : l.length ≤ c) (hA : A = none → c = 0) :
    Calls Try.prog 20 #[.int .i64 (n : Int), .slice A l.length c, .int .i64 (i : Int)] w (FlipCap w x) := by
  refine (flip_yes n l A c i hv hi w hx hlc hA).mono fun e w' h => ?_
  rw [hf] at h
  obtain ⟨hb, v, he, hO⟩ := h
  obtain ⟨B, d, rfl, h1, h2, h3⟩ := ownQ_pairs hO (by omega)
  exact ⟨B, d, he, h1, h2, h3, hb⟩
set_option maxRecDepth 100000 in
theorem flipped_many (n : Int) (l : List (Int × Int)) (A : Option Addr) (c : Nat) (x : Int) (w : World) (h60 : 60 < l.length) :
    Calls Try.prog 6 #[.int .i64 n, .slice A l.length c, .int .u8 x] w fun e w' => e = .returned (.bool true) ∧ Below w.heap.size w w' := by
  go_enter Try.func6, Try.ntmps6
  go_wp2_with (go_at_call 17; refine (alive_any _).mono ?_; rintro e w2 ⟨rfl, hb2⟩)
  go_ret
  exact ⟨rfl, hb2⟩
set_option maxRecDepth 100000 in
theorem flipped_small (n : Int) (l : List (Int × Int)) (A : Option Addr) (c : Nat) (x : Int) (w : World) (h60 : l.length ≤ 60) (hn : n ≤ 3) :
    Calls Try.prog 6 #[.int .i64 n, .slice A l.length c, .int .u8 x] w fun e w' => e = .returned (.bool true) ∧ Below w.heap.size w w' := by
  have hf : decide ((60 : Int) < (l.length : Int)) = false := by rw [decide_eq_false_iff_not]; omega
  have hg : decide (n ≤ 3) = true := by rw [decide_eq_true_iff]; exact hn
  go_enter Try.func6, Try.ntmps6
  go_wp2_with (go_at_call 17; refine (alive_any _).mono ?_; rintro e w2 ⟨rfl, hb2⟩)
  go_ret
  exact ⟨rfl, hb2⟩
set_option maxRecDepth 100000 in
theorem flipped_no (n : Int) (l : List (Int × Int)) (A : Option Addr) (c : Nat) (x : Int) (w : World) (h60 : l.length ≤ 60) (hn : ¬ n ≤ 3) (hv : rbrandB n l = false) (hx : PairsI w A l) :
    Calls Try.prog 6 #[.int .i64 n, .slice A l.length c, .int .u8 x] w fun e w' => e = .returned (.bool true) ∧ Below w.heap.size w w' := by
  have hf : decide ((60 : Int) < (l.length : Int)) = false := by rw [decide_eq_false_iff_not]; omega
  have hg : decide (n ≤ 3) = false := by rw [decide_eq_false_iff_not]; exact hn
  have CR := Off.mk (rbrand_any n l A c false hv w hx)
  clear hv hx
  go_enter Try.func6, Try.ntmps6
  go_wp2_with fail
  refine CR.out.mono ?_
  rintro e w1 ⟨rfl, hb1⟩
  have HB1 := Off.mk hb1
  clear hb1
  go_wp2_with (go_at_call 17; refine (alive_any _).mono ?_; rintro e w2 ⟨rfl, hb2⟩)
  go_ret
  exact ⟨rfl, belowC HB1.out hb2⟩
/-- The place of the new line, once it is met. -/
def atTo (t k : Nat) : Int := if t < k then (t : Int) else -1
def numTo (t k : Nat) : Int := if t < k then 1 else 0
set_option linter.unusedSimpArgs false in
set_option maxHeartbeats 8000000 in
set_option maxRecDepth 100000 in
theorem flipped_yes (n : Nat) (l : List (Int × Int)) (A : Option Addr) (c a : Nat) (w : World) (hn : 3 < n) (hv : brandB n l = true) (hx : PairsI w A l) (hlc : l.length ≤ c) (hA : A = none → c = 0) (ha : a < 256) :
    Calls Try.prog 6 #[.int .i64 (n : Int), .slice A l.length c, .int .u8 (a : Int)] w fun e w' => e = .returned (.bool true) ∧ Below w.heap.size w w' := by
  have hr := brand_range hv
  have hbl := brandLof hv
  have h60 : l.length ≤ 60 := by omega
  have hf : decide ((60 : Int) < (l.length : Int)) = false := by rw [decide_eq_false_iff_not]; omega
  have hg : decide ((n : Int) ≤ 3) = false := by rw [decide_eq_false_iff_not]; omega
  obtain ⟨i, hi⟩ : ∃ i, i = a % l.length := ⟨_, rfl⟩
  have hil : i < l.length := by rw [hi]; exact Nat.mod_lt _ (by omega)
  have e1 : (a : Int) % (l.length : Int) = (i : Int) := by rw [hi]; exact (Int.natCast_emod _ _).symm
  have e2 : (a : Int).tmod (l.length : Int) = (i : Int) := by rw [Int.tmod_eq_emod_of_nonneg (by omega)]; exact e1
  have hl0 : ¬ l.length = 0 := by omega
  have w4 : IntKind.i64.wrap (a : Int) = (a : Int) := by rw [IntKind.wrap_i64]; omega
  obtain ⟨p, x, hfl, hB, hlen, hpx, hin, hpl, hgx, hnd, hback⟩ := flip_facts hbl hil
  obtain ⟨t, ht, htp⟩ : ∃ t, t < x.length ∧ x.getD t (0, 0) = p := by
    obtain ⟨t, ht, e⟩ := List.getElem_of_mem hpx
    exact ⟨t, ht, by rw [List.getD_eq_getElem?_getD, List.getElem?_eq_getElem ht]; exact e⟩
  have hbk := hback t ht htp
  have HIN : Off (∀ k, k < x.length → (k ≠ t → x.getD k (0, 0) ∈ l) ∧ (k = t → x.getD k (0, 0) ∉ l)) := ⟨fun k hk => ⟨fun hne => hin _ (pair_at hk) (fun e => by
      rw [← htp] at e
      rw [List.getD_eq_getElem?_getD, List.getElem?_eq_getElem hk, List.getD_eq_getElem?_getD, List.getElem?_eq_getElem ht] at e
      rcases Nat.lt_trichotomy k t with h | h | h
      · exact (List.pairwise_iff_getElem.1 hnd) k t hk ht h e
      · exact hne h
      · exact (List.pairwise_iff_getElem.1 hnd) t k ht hk h e.symm), fun e => by rw [e, htp]; exact hpl⟩⟩
  have HNO : Off (∀ k, k < x.length → x.getD k (0, 0) ≠ l.getD i (0, 0)) := ⟨fun k hk e => hgx (by rw [← e]; exact pair_at hk)⟩
  have CR := Off.mk (rbrand_any n l A c true (by rw [← brand_eq]; exact hv) w hx)
  have C1 := Off.mk (fun W (hW : Below w.heap.size w W) => flip_post n l x A c i hv hil hfl (by omega) W (hx.below hW) hlc hA)
  have C2 := Off.mk (fun B d W (hW : PairsI W B x) (hd : x.length ≤ d) => isBrand_any n x B d true (ofBrandL hB) W hW hd)
  have C3 := Off.mk (fun B d W (hW : PairsI W B x) (hd : x.length ≤ d) (hN : B = none → d = 0) => flip_post n x l B d t (ofBrandL hB) ht hbk (by omega) W hW hd hN)
  have HX := Off.mk hx
  have hx12 : x.length ≤ 12 := by omega
  have hll : ((x.length : Int) != (l.length : Int)) = false := by rw [hlen]; simp
  have HL := Off.mk hlen
  have htI : (t : Int) < (x.length : Int) := by omega
  clear hr hbl hfl hB hpx hin hpl hgx hnd hback htp hbk hv hx hlc hA hi hlen
  go_enter Try.func6, Try.ntmps6
  go_wp2_with fail
  refine CR.out.mono ?_
  rintro e w1 ⟨rfl, hb1⟩
  have HB1 := Off.mk hb1
  clear hb1 CR
  go_wp2_with fail
  refine (C1.out _ HB1.out).mono ?_
  rintro e w2 ⟨B, d, rfl, hP2, hd, hN, hb2⟩
  have HP2 := Off.mk hP2
  have HD := Off.mk hd
  have HN := Off.mk hN
  have HB2 := Off.mk (belowC HB1.out hb2)
  clear hP2 hb2 hd hN C1
  go_wp2_with fail
  refine (C2.out _ _ _ HP2.out HD.out).mono ?_
  rintro e w3 ⟨rfl, hb3⟩
  have HP3 := Off.mk (HP2.out.below hb3)
  have HB3 := Off.mk (belowC HB2.out hb3)
  have HX3 := Off.mk (HX.out.below HB3.out)
  clear hb3 C2
  go_wp2
  go_loopw [10, 11, 12] (fun av ov kv wr => ∃ k : Nat, k ≤ x.length ∧ kv = .int .i64 k ∧ av = .int .i64 (atTo t k) ∧ ov = .int .i64 (numTo t k) ∧ Off (Below w3.heap.size w3 wr)) (fun _ _ kv _ => x.length - (intOf kv).toNat)
  case atStart => exact ⟨0, by omega, rfl, by rw [atTo, if_neg (by omega)], by rw [numTo, if_neg (by omega)], ⟨Below.refl _ _⟩⟩
  case round =>
    obtain ⟨k, hk, rfl, rfl, rfl, HB⟩ := hrel
    by_cases hkl : k < x.length
    · have hkI : (k : Int) < (x.length : Int) := by omega
      obtain ⟨wo, hwo⟩ : ∃ wo : World, wo = wr := ⟨_, rfl⟩
      rw [← hwo] at HB ⊢
      clear hwo
      obtain ⟨at0, hat⟩ : ∃ y, y = atTo t k := ⟨_, rfl⟩
      obtain ⟨num0, hnum⟩ : ∃ y, y = numTo t k := ⟨_, rfl⟩
      rw [← hat, ← hnum]
      have HAT := Off.mk hat
      have HNUM := Off.mk hnum
      have hnumr : 0 ≤ num0 ∧ num0 ≤ 1 := by rw [hnum]; unfold numTo; split <;> omega
      clear hat hnum
      go_wp2
      go_loopw [13, 14] (fun bv jv wr => ∃ j : Nat, j ≤ l.length ∧ jv = .int .i64 j ∧ (∃ b : Bool, bv = .bool b ∧ Off (b = true ↔ ∃ s, s < j ∧ l.getD s (0, 0) = x.getD k (0, 0))) ∧ Off (Below w3.heap.size w3 wr)) (fun _ jv _ => l.length - (intOf jv).toNat)
      case atStart => exact ⟨0, by omega, rfl, ⟨false, rfl, ⟨⟨fun e => by simp at e, fun ⟨s, hs, _⟩ => by omega⟩⟩⟩, HB⟩
      case round =>
        obtain ⟨j, hj, rfl, ⟨b, rfl, HBb⟩, HBr⟩ := hrel
        by_cases hjl : j < l.length
        · have hjI : (j : Int) < (l.length : Int) := by omega
          have hxr := HX3.out.below HBr.out
          have hyr := HP3.out.below HBr.out
          obtain ⟨ad, rfl, x0, x1⟩ := hxr.cell j hjl
          obtain ⟨bd, rfl, y0, y1⟩ := hyr.cell k hkl
          have HE : Off ((b = true → ∀ v : Bool, v = true → (v = true ↔ ∃ s, s < j + 1 ∧ l.getD s (0, 0) = x.getD k (0, 0))) ∧ (b = false → ∀ v : Bool, decide (l.getD j (0, 0) = x.getD k (0, 0)) = v → (v = true ↔ ∃ s, s < j + 1 ∧ l.getD s (0, 0) = x.getD k (0, 0)))) := ⟨⟨fun hb v hv => ⟨fun _ => by
              obtain ⟨s, h1, h2⟩ := HBb.out.1 hb
              exact ⟨s, by omega, h2⟩, fun _ => hv⟩, fun hb v hv => ⟨fun h => ⟨j, by omega, by rw [h, decide_eq_true_iff] at hv; exact hv⟩, fun ⟨s, h1, h2⟩ => by
              by_cases e : s = j
              · rw [← hv, ← e, decide_eq_true_iff]; exact h2
              · have := HBb.out.2 ⟨s, by omega, h2⟩
                rw [hb] at this
                cases this⟩⟩⟩
          obtain ⟨y, hy⟩ : ∃ y, y = l.getD j (0, 0) := ⟨_, rfl⟩
          obtain ⟨z, hz⟩ : ∃ z, z = x.getD k (0, 0) := ⟨_, rfl⟩
          rw [← hy] at x0 x1
          rw [← hz] at y0 y1
          have HYZ : Off (y = l.getD j (0, 0) ∧ z = x.getD k (0, 0)) := ⟨hy, hz⟩
          clear hy hz hxr hyr HBb
          cases b with
          | true =>
            have HR := Off.mk (HE.out.1 rfl true rfl)
            clear HE
            go_wp2
            refine wp_region_held_drew (S := (fun w' => (w'.cell? (ad.add (j * 2)) = some (.int .i64 y.1) ∧ w'.cell? ⟨(ad.add (j * 2)).block, (ad.add (j * 2)).off + 1, none⟩ = some (.int .i64 y.2)) ∧ (w'.cell? (bd.add (k * 2)) = some (.int .i64 z.1) ∧ w'.cell? ⟨(bd.add (k * 2)).block, (bd.add (k * 2)).off + 1, none⟩ = some (.int .i64 z.2)))) (by kernel_rfl) ⟨⟨x0, x1⟩, y0, y1⟩ (fun hHeld => ?_)
            refine wpAnyH_take (i := 0) (oi := ⟨some 70, _, _, _, _, _⟩) (v := ?_) rfl (by kernel_rfl) (by kernel_rfl) (by kernel_rfl) (fun _ _ _ h => h) (Or.inl ⟨by rfl, by intro w hSw; (try dsimp only at hSw); go_simp; try with_reducible rfl⟩) hHeld ?_
            try simp only [Act.put, List.setIfInBounds_toArray, List.set_cons_zero, List.set_cons_succ]
            refine wpAnyH_take (i := 1) (oi := ⟨some 71, _, _, _, _, _⟩) (v := ?_) rfl (by kernel_rfl) (by kernel_rfl) (by kernel_rfl) (fun _ _ _ h => h) (Or.inl ⟨by rfl, by intro w hSw; (try dsimp only at hSw); go_simp; try with_reducible rfl⟩) hHeld ?_
            try simp only [Act.put, List.setIfInBounds_toArray, List.set_cons_zero, List.set_cons_succ]
            refine wpAnyH_take (i := 2) (oi := ⟨some 72, _, _, _, _, _⟩) (v := undef) rfl (by kernel_rfl) (by kernel_rfl) (by kernel_rfl) (fun _ _ _ h => h) (Or.inr ⟨by rfl, rfl⟩) hHeld ?_
            try simp only [Act.put, List.setIfInBounds_toArray, List.set_cons_zero, List.set_cons_succ]
            refine wpAnyH_take (i := 3) (oi := ⟨some 73, _, _, _, _, _⟩) (v := undef) rfl (by kernel_rfl) (by kernel_rfl) (by kernel_rfl) (fun _ _ _ h => h) (Or.inr ⟨by rfl, rfl⟩) hHeld ?_
            try simp only [Act.put, List.setIfInBounds_toArray, List.set_cons_zero, List.set_cons_succ]
            refine wpAnyH_take (i := 4) (oi := ⟨some 74, _, _, _, _, _⟩) (v := undef) rfl (by kernel_rfl) (by kernel_rfl) (by kernel_rfl) (fun _ _ _ h => h) (Or.inr ⟨by rfl, rfl⟩) hHeld ?_
            try simp only [Act.put, List.setIfInBounds_toArray, List.set_cons_zero, List.set_cons_succ]
            refine wpAnyH_take (i := 5) (oi := ⟨some 75, _, _, _, _, _⟩) (v := undef) rfl (by kernel_rfl) (by kernel_rfl) (by kernel_rfl) (fun _ _ _ h => h) (Or.inr ⟨by rfl, rfl⟩) hHeld ?_
            try simp only [Act.put, List.setIfInBounds_toArray, List.set_cons_zero, List.set_cons_succ]
            refine wpAnyH_take (i := 6) (oi := ⟨some 76, _, _, _, _, _⟩) (v := undef) rfl (by kernel_rfl) (by kernel_rfl) (by kernel_rfl) (fun _ _ _ h => h) (Or.inr ⟨by rfl, rfl⟩) hHeld ?_
            try simp only [Act.put, List.setIfInBounds_toArray, List.set_cons_zero, List.set_cons_succ]
            refine wpAnyH_take (i := 7) (oi := ⟨some 77, _, _, _, _, _⟩) (v := undef) rfl (by kernel_rfl) (by kernel_rfl) (by kernel_rfl) (fun _ _ _ h => h) (Or.inr ⟨by rfl, rfl⟩) hHeld ?_
            try simp only [Act.put, List.setIfInBounds_toArray, List.set_cons_zero, List.set_cons_succ]
            refine wpAnyH_take (i := 8) (oi := ⟨some 78, _, _, _, _, _⟩) (v := undef) rfl (by kernel_rfl) (by kernel_rfl) (by kernel_rfl) (fun _ _ _ h => h) (Or.inr ⟨by rfl, rfl⟩) hHeld ?_
            try simp only [Act.put, List.setIfInBounds_toArray, List.set_cons_zero, List.set_cons_succ]
            refine wpAnyH_take (i := 9) (oi := ⟨some 79, _, _, _, _, _⟩) (v := undef) rfl (by kernel_rfl) (by kernel_rfl) (by kernel_rfl) (fun _ _ _ h => h) (Or.inr ⟨by rfl, rfl⟩) hHeld ?_
            try simp only [Act.put, List.setIfInBounds_toArray, List.set_cons_zero, List.set_cons_succ]
            refine wpAnyH_take (i := 10) (oi := ⟨some 80, _, _, _, _, _⟩) (v := undef) rfl (by kernel_rfl) (by kernel_rfl) (by kernel_rfl) (fun _ _ _ h => h) (Or.inr ⟨by rfl, rfl⟩) hHeld ?_
            try simp only [Act.put, List.setIfInBounds_toArray, List.set_cons_zero, List.set_cons_succ]
            refine wpAnyH_take (i := 11) (oi := ⟨some 81, _, _, _, _, _⟩) (v := ?_) rfl (by kernel_rfl) (by kernel_rfl) (by kernel_rfl) (fun _ _ _ h => h) (Or.inl ⟨by rfl, by intro w hSw; (try dsimp only at hSw); go_simp; try with_reducible rfl⟩) hHeld ?_
            try simp only [Act.put, List.setIfInBounds_toArray, List.set_cons_zero, List.set_cons_succ]
            refine wpAnyH_take (i := 12) (oi := ⟨some 13, _, _, _, _, _⟩) (v := ?_) rfl (by kernel_rfl) (by kernel_rfl) (by kernel_rfl) (fun _ _ _ h => h) (Or.inl ⟨by rfl, by intro w hSw; (try dsimp only at hSw); go_simp; try with_reducible rfl⟩) hHeld ?_
            try simp only [Act.put, List.setIfInBounds_toArray, List.set_cons_zero, List.set_cons_succ]
            refine wpAnyH_done (by kernel_rfl) ?_ _
            go_wp2
            go_roundw
            case rel => exact ⟨j + 1, by omega, by go_num, ⟨true, rfl, by first | exact HR | exact ⟨by simpa using HR.out⟩⟩, ⟨below_drew HBr.out⟩⟩
            case measure => simp only [intOf]; omega
          | false =>
            obtain ⟨v, hv⟩ : ∃ v, decide (y = z) = v := ⟨_, rfl⟩
            have HR := Off.mk (HE.out.2 rfl v (by rw [← HYZ.out.1, ← HYZ.out.2]; exact hv))
            have hc := eq_pair' y z v hv
            clear HE hv
            go_wp2
            refine wp_region_held_drew (S := (fun w' => (w'.cell? (ad.add (j * 2)) = some (.int .i64 y.1) ∧ w'.cell? ⟨(ad.add (j * 2)).block, (ad.add (j * 2)).off + 1, none⟩ = some (.int .i64 y.2)) ∧ (w'.cell? (bd.add (k * 2)) = some (.int .i64 z.1) ∧ w'.cell? ⟨(bd.add (k * 2)).block, (bd.add (k * 2)).off + 1, none⟩ = some (.int .i64 z.2)))) (by kernel_rfl) ⟨⟨x0, x1⟩, y0, y1⟩ (fun hHeld => ?_)
            refine wpAnyH_take (i := 0) (oi := ⟨some 70, _, _, _, _, _⟩) (v := ?_) rfl (by kernel_rfl) (by kernel_rfl) (by kernel_rfl) (fun _ _ _ h => h) (Or.inl ⟨by rfl, by intro w hSw; (try dsimp only at hSw); go_simp; try with_reducible rfl⟩) hHeld ?_
            try simp only [Act.put, List.setIfInBounds_toArray, List.set_cons_zero, List.set_cons_succ]
            refine wpAnyH_take (i := 1) (oi := ⟨some 71, _, _, _, _, _⟩) (v := ?_) rfl (by kernel_rfl) (by kernel_rfl) (by kernel_rfl) (fun _ _ _ h => h) (Or.inl ⟨by rfl, by intro w hSw; (try dsimp only at hSw); go_simp; try with_reducible rfl⟩) hHeld ?_
            try simp only [Act.put, List.setIfInBounds_toArray, List.set_cons_zero, List.set_cons_succ]
            refine wpAnyH_take (i := 2) (oi := ⟨some 72, _, _, _, _, _⟩) (v := ?_) rfl (by kernel_rfl) (by kernel_rfl) (by kernel_rfl) (fun _ _ _ h => h) (Or.inl ⟨by rfl, by intro w hSw; (try dsimp only at hSw); go_simp; try with_reducible rfl⟩) hHeld ?_
            try simp only [Act.put, List.setIfInBounds_toArray, List.set_cons_zero, List.set_cons_succ]
            refine wpAnyH_take (i := 3) (oi := ⟨some 73, _, _, _, _, _⟩) (v := ?_) rfl (by kernel_rfl) (by kernel_rfl) (by kernel_rfl) (fun _ _ _ h => h) (Or.inl ⟨by rfl, by intro w hSw; (try dsimp only at hSw); go_simp; try with_reducible rfl⟩) hHeld ?_
            try simp only [Act.put, List.setIfInBounds_toArray, List.set_cons_zero, List.set_cons_succ]
            refine wpAnyH_take (i := 4) (oi := ⟨some 74, _, _, _, _, _⟩) (v := ?_) rfl (by kernel_rfl) (by kernel_rfl) (by kernel_rfl) (fun _ _ _ h => h) (Or.inl ⟨by rfl, by intro w hSw; (try dsimp only at hSw); go_simp; try with_reducible rfl⟩) hHeld ?_
            try simp only [Act.put, List.setIfInBounds_toArray, List.set_cons_zero, List.set_cons_succ]
            refine wpAnyH_take (i := 5) (oi := ⟨some 75, _, _, _, _, _⟩) (v := ?_) rfl (by kernel_rfl) (by kernel_rfl) (by kernel_rfl) (fun _ _ _ h => h) (Or.inl ⟨by rfl, by intro w hSw; (try dsimp only at hSw); go_simp; try with_reducible rfl⟩) hHeld ?_
            try simp only [Act.put, List.setIfInBounds_toArray, List.set_cons_zero, List.set_cons_succ]
            refine wpAnyH_take (i := 6) (oi := ⟨some 76, _, _, _, _, _⟩) (v := ?_) rfl (by kernel_rfl) (by kernel_rfl) (by kernel_rfl) (fun _ _ _ h => h) (Or.inl ⟨by rfl, by intro w hSw; (try dsimp only at hSw); go_simp; try with_reducible rfl⟩) hHeld ?_
            try simp only [Act.put, List.setIfInBounds_toArray, List.set_cons_zero, List.set_cons_succ]
            refine wpAnyH_take (i := 7) (oi := ⟨some 77, _, _, _, _, _⟩) (v := ?_) rfl (by kernel_rfl) (by kernel_rfl) (by kernel_rfl) (fun _ _ _ h => h) (Or.inl ⟨by rfl, by intro w hSw; (try dsimp only at hSw); go_simp; try with_reducible rfl⟩) hHeld ?_
            try simp only [Act.put, List.setIfInBounds_toArray, List.set_cons_zero, List.set_cons_succ]
            refine wpAnyH_take (i := 8) (oi := ⟨some 78, _, _, _, _, _⟩) (v := ?_) rfl (by kernel_rfl) (by kernel_rfl) (by kernel_rfl) (fun _ _ _ h => h) (Or.inl ⟨by rfl, by intro w hSw; (try dsimp only at hSw); go_simp; try with_reducible rfl⟩) hHeld ?_
            try simp only [Act.put, List.setIfInBounds_toArray, List.set_cons_zero, List.set_cons_succ]
            refine wpAnyH_take (i := 9) (oi := ⟨some 79, _, _, _, _, _⟩) (v := ?_) rfl (by kernel_rfl) (by kernel_rfl) (by kernel_rfl) (fun _ _ _ h => h) (Or.inl ⟨by rfl, by intro w hSw; (try dsimp only at hSw); go_simp; try with_reducible rfl⟩) hHeld ?_
            try simp only [Act.put, List.setIfInBounds_toArray, List.set_cons_zero, List.set_cons_succ]
            refine wpAnyH_take (i := 10) (oi := ⟨some 80, _, _, _, _, _⟩) (v := ?_) rfl (by kernel_rfl) (by kernel_rfl) (by kernel_rfl) (fun _ _ _ h => h) (Or.inl ⟨by rfl, by intro w hSw; (try dsimp only at hSw); go_simp; try with_reducible rfl⟩) hHeld ?_
            try simp only [Act.put, List.setIfInBounds_toArray, List.set_cons_zero, List.set_cons_succ]
            refine wpAnyH_take (i := 11) (oi := ⟨some 81, _, _, _, _, _⟩) (v := ?_) rfl (by kernel_rfl) (by kernel_rfl) (by kernel_rfl) (fun _ _ _ h => h) (Or.inl ⟨by rfl, by intro w hSw; (try dsimp only at hSw); go_simp; try with_reducible rfl⟩) hHeld ?_
            try simp only [Act.put, List.setIfInBounds_toArray, List.set_cons_zero, List.set_cons_succ]
            refine wpAnyH_take (i := 12) (oi := ⟨some 13, _, _, _, _, _⟩) (v := ?_) rfl (by kernel_rfl) (by kernel_rfl) (by kernel_rfl) (fun _ _ _ h => h) (Or.inl ⟨by rfl, by intro w hSw; (try dsimp only at hSw); go_simp; try with_reducible rfl⟩) hHeld ?_
            try simp only [Act.put, List.setIfInBounds_toArray, List.set_cons_zero, List.set_cons_succ]
            refine wpAnyH_done (by kernel_rfl) ?_ _
            go_wp2
            go_roundw
            case rel => exact ⟨j + 1, by omega, by go_num, ⟨v, rfl, by first | exact HR | exact ⟨by simpa using HR.out⟩⟩, ⟨below_drew HBr.out⟩⟩
            case measure => simp only [intOf]; omega
        · obtain rfl : j = l.length := by omega
          have hb := HBb.out
          have HK := HIN.out k hkl
          by_cases hkt : k = t
          · obtain rfl : b = false := by
              cases b with
              | false => rfl
              | true =>
                obtain ⟨s, hs, e⟩ := hb.1 rfl
                exact (HK.2 hkt (by rw [← e]; exact pair_at hs)).elim
            have w1 : IntKind.i64.wrap (num0 + 1) = num0 + 1 := by rw [IntKind.wrap_i64]; omega
            have HR1 : Off ((k : Int) = atTo t (k + 1)) := ⟨by rw [atTo, if_pos (by omega), hkt]⟩
            have HR2 : Off (num0 + 1 = numTo t (k + 1)) := ⟨by rw [HNUM.out, numTo, numTo, if_neg (by omega : ¬ t < k), if_pos (by omega : t < k + 1)]; rfl⟩
            clear hb HK hkt HBb
            go_wp2
            go_roundw
            case rel => exact ⟨k + 1, by omega, by go_num, by rw [HR1.out], by rw [HR2.out], HBr⟩
            case measure => simp only [intOf]; omega
          · obtain rfl : b = true := by
              have := HK.1 hkt
              obtain ⟨s, hs, e⟩ := List.getElem_of_mem this
              exact hb.2 ⟨s, hs, by rw [← e, List.getD_eq_getElem?_getD, List.getElem?_eq_getElem hs]; rfl⟩
            have HR1 : Off (at0 = atTo t (k + 1)) := ⟨by rw [HAT.out, atTo, atTo]; split <;> split <;> omega⟩
            have HR2 : Off (num0 = numTo t (k + 1)) := ⟨by rw [HNUM.out, numTo, numTo]; split <;> split <;> omega⟩
            clear hb HK hkt HBb
            go_wp2
            go_roundw
            case rel => exact ⟨k + 1, by omega, by go_num, by rw [HR1.out], by rw [HR2.out], HBr⟩
            case measure => simp only [intOf]; omega
    · obtain rfl : k = x.length := by omega
      rw [show atTo t x.length = (t : Int) by rw [atTo, if_pos (by omega)], show numTo t x.length = 1 by rw [numTo, if_pos (by omega)]]
      obtain ⟨wo, hwo⟩ : ∃ wo : World, wo = wr := ⟨_, rfl⟩
      rw [← hwo] at HB ⊢
      clear hwo
      go_wp2
      go_loopw [15] (fun kv wr => ∃ k : Nat, k ≤ x.length ∧ kv = .int .i64 k ∧ Off (Below w3.heap.size w3 wr)) (fun kv _ => x.length - (intOf kv).toNat)
      case atStart => exact ⟨0, by omega, rfl, HB⟩
      case round =>
        obtain ⟨k, hk, rfl, HBr⟩ := hrel
        by_cases hkl : k < x.length
        · have hkI : (k : Int) < (x.length : Int) := by omega
          have hiI : (i : Int) < (l.length : Int) := by omega
          have hxr := HX3.out.below HBr.out
          have hyr := HP3.out.below HBr.out
          obtain ⟨ad, rfl, x0, x1⟩ := hxr.cell i hil
          obtain ⟨bd, rfl, y0, y1⟩ := hyr.cell k hkl
          have hne := HNO.out k hkl
          obtain ⟨y, hy⟩ : ∃ y, y = l.getD i (0, 0) := ⟨_, rfl⟩
          obtain ⟨z, hz⟩ : ∃ z, z = x.getD k (0, 0) := ⟨_, rfl⟩
          rw [← hy] at x0 x1 hne
          rw [← hz] at y0 y1 hne
          have hc := eq_pair' z y false (by rw [decide_eq_false_iff_not]; exact hne)
          clear hy hz hxr hyr hne
          go_wp2
          refine wp_region_held_drew (S := (fun w' => (w'.cell? (ad.add (i * 2)) = some (.int .i64 y.1) ∧ w'.cell? ⟨(ad.add (i * 2)).block, (ad.add (i * 2)).off + 1, none⟩ = some (.int .i64 y.2)) ∧ (w'.cell? (bd.add (k * 2)) = some (.int .i64 z.1) ∧ w'.cell? ⟨(bd.add (k * 2)).block, (bd.add (k * 2)).off + 1, none⟩ = some (.int .i64 z.2)))) (by kernel_rfl) ⟨⟨x0, x1⟩, y0, y1⟩ (fun hHeld => ?_)
          refine wpAnyH_take (i := 0) (oi := ⟨some 95, _, _, _, _, _⟩) (v := ?_) rfl (by kernel_rfl) (by kernel_rfl) (by kernel_rfl) (fun _ _ _ h => h) (Or.inl ⟨by rfl, by intro w hSw; (try dsimp only at hSw); go_simp; try with_reducible rfl⟩) hHeld ?_
          try simp only [Act.put, List.setIfInBounds_toArray, List.set_cons_zero, List.set_cons_succ]
          refine wpAnyH_take (i := 1) (oi := ⟨some 96, _, _, _, _, _⟩) (v := ?_) rfl (by kernel_rfl) (by kernel_rfl) (by kernel_rfl) (fun _ _ _ h => h) (Or.inl ⟨by rfl, by intro w hSw; (try dsimp only at hSw); go_simp; try with_reducible rfl⟩) hHeld ?_
          try simp only [Act.put, List.setIfInBounds_toArray, List.set_cons_zero, List.set_cons_succ]
          refine wpAnyH_take (i := 2) (oi := ⟨some 97, _, _, _, _, _⟩) (v := ?_) rfl (by kernel_rfl) (by kernel_rfl) (by kernel_rfl) (fun _ _ _ h => h) (Or.inl ⟨by rfl, by intro w hSw; (try dsimp only at hSw); go_simp; try with_reducible rfl⟩) hHeld ?_
          try simp only [Act.put, List.setIfInBounds_toArray, List.set_cons_zero, List.set_cons_succ]
          refine wpAnyH_take (i := 3) (oi := ⟨some 98, _, _, _, _, _⟩) (v := ?_) rfl (by kernel_rfl) (by kernel_rfl) (by kernel_rfl) (fun _ _ _ h => h) (Or.inl ⟨by rfl, by intro w hSw; (try dsimp only at hSw); go_simp; try with_reducible rfl⟩) hHeld ?_
          try simp only [Act.put, List.setIfInBounds_toArray, List.set_cons_zero, List.set_cons_succ]
          refine wpAnyH_take (i := 4) (oi := ⟨some 99, _, _, _, _, _⟩) (v := ?_) rfl (by kernel_rfl) (by kernel_rfl) (by kernel_rfl) (fun _ _ _ h => h) (Or.inl ⟨by rfl, by intro w hSw; (try dsimp only at hSw); go_simp; try with_reducible rfl⟩) hHeld ?_
          try simp only [Act.put, List.setIfInBounds_toArray, List.set_cons_zero, List.set_cons_succ]
          refine wpAnyH_take (i := 5) (oi := ⟨some 100, _, _, _, _, _⟩) (v := ?_) rfl (by kernel_rfl) (by kernel_rfl) (by kernel_rfl) (fun _ _ _ h => h) (Or.inl ⟨by rfl, by intro w hSw; (try dsimp only at hSw); go_simp; try with_reducible rfl⟩) hHeld ?_
          try simp only [Act.put, List.setIfInBounds_toArray, List.set_cons_zero, List.set_cons_succ]
          refine wpAnyH_take (i := 6) (oi := ⟨some 101, _, _, _, _, _⟩) (v := ?_) rfl (by kernel_rfl) (by kernel_rfl) (by kernel_rfl) (fun _ _ _ h => h) (Or.inl ⟨by rfl, by intro w hSw; (try dsimp only at hSw); go_simp; try with_reducible rfl⟩) hHeld ?_
          try simp only [Act.put, List.setIfInBounds_toArray, List.set_cons_zero, List.set_cons_succ]
          refine wpAnyH_take (i := 7) (oi := ⟨some 102, _, _, _, _, _⟩) (v := ?_) rfl (by kernel_rfl) (by kernel_rfl) (by kernel_rfl) (fun _ _ _ h => h) (Or.inl ⟨by rfl, by intro w hSw; (try dsimp only at hSw); go_simp; try with_reducible rfl⟩) hHeld ?_
          try simp only [Act.put, List.setIfInBounds_toArray, List.set_cons_zero, List.set_cons_succ]
          refine wpAnyH_take (i := 8) (oi := ⟨some 103, _, _, _, _, _⟩) (v := ?_) rfl (by kernel_rfl) (by kernel_rfl) (by kernel_rfl) (fun _ _ _ h => h) (Or.inl ⟨by rfl, by intro w hSw; (try dsimp only at hSw); go_simp; try with_reducible rfl⟩) hHeld ?_
          try simp only [Act.put, List.setIfInBounds_toArray, List.set_cons_zero, List.set_cons_succ]
          refine wpAnyH_done (by kernel_rfl) ?_ _
          go_wp2
          go_roundw
          case rel => exact ⟨k + 1, by omega, by go_num, ⟨below_drew HBr.out⟩⟩
          case measure => simp only [intOf]; omega
        · obtain rfl : k = x.length := by omega
          go_wp2_with fail
          refine (C3.out _ _ _ (HP3.out.below HBr.out) HD.out HN.out).mono ?_
          rintro e w5 ⟨B5, d5, rfl, hP5, _, _, hb5⟩
          have HP5 := Off.mk hP5
          have HB5 := Off.mk (belowC HB3.out (belowC HBr.out hb5))
          clear hP5 hb5 C3
          go_wp2_with fail
          refine (pairs_any l l B5 _ d5 c true (by simp) _ HP5.out (HX.out.below HB5.out)).mono ?_
          rintro e w6 ⟨rfl, hb6⟩
          have HB6 := Off.mk (belowC HB5.out hb6)
          clear hb6
          go_wp2_with (go_at_call 17; refine (alive_any _).mono ?_; rintro e w8 ⟨rfl, hb8⟩)
          go_ret
          exact ⟨rfl, belowC HB6.out hb8⟩
theorem flipped_walk (n : Int) (l : List (Int × Int)) (A : Option Addr) (c : Nat) (x : Int) (w : World) (hx : l.length ≤ 140737488351232 → PairsI w A l) (hlc : l.length ≤ c) (hA : A = none → c = 0) (h1 : 0 ≤ x ∧ x < 256) :
    Calls Try.prog 6 #[.int .i64 n, .slice A l.length c, .int .u8 x] w fun e w' => e = .returned (.bool true) ∧ Below w.heap.size w w' := by
  by_cases h60 : l.length ≤ 60
  · by_cases hn : n ≤ 3
    · exact flipped_small n l A c x w h60 hn
    · cases hv : brandB n l with
      | false => exact flipped_no n l A c x w h60 hn (by rw [← brand_eq]; exact hv) (hx (by omega))
      | true =>
        have hr := brand_range hv
        obtain ⟨m, rfl⟩ : ∃ m : Nat, n = (m : Int) := ⟨n.toNat, by omega⟩
        obtain ⟨a, rfl⟩ : ∃ a : Nat, x = (a : Int) := ⟨x.toNat, by omega⟩
        exact flipped_yes m l A c a w (by omega) hv (hx (by omega)) hlc hA (by omega)
  · exact flipped_many n l A c x w (by omega)
end Go.Proofs.Ytddcdopimpfhcaa
