/- The law BrandsConway: its walk. -/
import Derived.Test.YtddcdopimpfhcaaCp
import Derived.Test.YtddcdopimpfhcaaFh
namespace Go.Proofs.Ytddcdopimpfhcaa
open Go.RowKit Go.Shelf

theorem brandL_of {n : Int} {l : List (Int × Int)} (h : brandB n l = true) : BrandL n l := (brandL_iff n l).1 ((brand_iff n l).1 h)
theorem of_brandL {n : Int} {l : List (Int × Int)} (h : BrandL n l) : brandB n l = true := (brand_iff n l).2 ((brandL_iff n l).2 h)
theorem round_len (n : Nat) (l : List (Int × Int)) : (roundOf n l).length = n := by rw [roundOf, roundTo_len]
theorem round_round {n : Nat} {l : List (Int × Int)} (h : BrandL n l) : roundB (roundOf n l) = true := by
  have hs := h.size
  have hR := rd_round h
  rw [roundB_iff, round_len]
  refine ⟨by omega, fun j hj => ?_⟩
  have := hR.get j (by rw [natsI_len]; exact hj)
  have hc : cnt l ((natsI n).getD j 0) ≤ l.length := List.countP_le_length
  omega
def OfCap (w : World) (ms : List (Int × Int)) (e : Int) (r : Ending) (w' : World) : Prop := ∃ A c, r = .returned (.tuple #[.slice A ms.length c, .int .i64 e]) ∧ PairsI w' A ms ∧ ms.length ≤ c ∧ (A = none → c = 0) ∧ Below w.heap.size w w'
theorem ofCap_flip {w w' : World} {o : Option (List (Int × Int))} {r : Ending} (h : FlipPost w o r w') (hl : ∀ m, o = some m → m.length ≤ 140737488351232) : OfCap w (o.getD []) (if o.isSome then 0 else 10) r w' := by
  obtain ⟨hb, h⟩ := h
  cases o with
  | none => exact ⟨none, 0, h, pairs_nil _ _, Nat.le_refl _, fun _ => rfl, hb⟩
  | some m =>
    obtain ⟨v, e, hO⟩ := h
    obtain ⟨A, c, rfl, hI, h1, h2⟩ := ownQ_pairs hO (hl m rfl)
    exact ⟨A, c, e, hI, h1, h2, hb⟩
theorem of_post (q : List Int) (hv : roundB q = true) (A : Option Addr) (c : Nat) (w : World) (hl : IntsAt w A q) (hlc : q.length ≤ c) (hA : A = none → c = 0) :
    Calls Try.prog 36 #[.slice A q.length c] w (OfCap w ((ofL q).getD []) (if (ofL q).isSome then 0 else 10)) := by
  have h12 := (roundB_iff.1 hv).1.2
  exact (of_any q A c hv w hl hlc hA).mono fun e w1 h => ofCap_flip h (fun m hm => by have := ofL_len hm; omega)
theorem round_post (n : Nat) (l : List (Int × Int)) (hv : brandB n l = true) (A : Option Addr) (c : Nat) (w : World) (hx : PairsI w A l) (hlc : l.length ≤ c) :
    Calls Try.prog 30 #[.int .i64 (n : Int), .slice A l.length c] w fun e w' => ∃ A' c', e = .returned (.tuple #[.slice A' (roundOf n l).length c', .int .i64 0]) ∧ IntsAt w' A' (roundOf n l) ∧ (roundOf n l).length ≤ c' ∧ (A' = none → c' = 0) ∧ Below w.heap.size w w' := by
  have hr := brand_range hv
  refine (Round_yes n l A c hv w hx hlc).mono ?_
  rintro e w' ⟨v, rfl, hO, hb⟩
  obtain ⟨A', c', rfl, h1, h2, h3⟩ := own_ints' hO (by rw [round_len]; omega)
  exact ⟨A', c', rfl, h1, h2, h3, hb⟩
theorem conway_many (n : Int) (l : List (Int × Int)) (A : Option Addr) (c : Nat) (q : List Int) (B : Option Addr) (d : Nat) (w : World) (h60 : 60 < l.length) :
    Calls Try.prog 14 #[.int .i64 n, .slice A l.length c, .slice B q.length d] w fun e w' => e = .returned (.bool true) ∧ Below w.heap.size w w' := by
  go_enter Try.func14, Try.ntmps14
  go_wp2_with (go_at_call 17; refine (alive_any _).mono ?_; rintro e w2 ⟨rfl, hb2⟩)
  go_ret
  exact ⟨rfl, hb2⟩
theorem conway_many2 (n : Int) (l : List (Int × Int)) (A : Option Addr) (c : Nat) (q : List Int) (B : Option Addr) (d : Nat) (w : World) (h : l.length ≤ 60) (h60 : 60 < q.length) :
    Calls Try.prog 14 #[.int .i64 n, .slice A l.length c, .slice B q.length d] w fun e w' => e = .returned (.bool true) ∧ Below w.heap.size w w' := by
  have hf : decide ((60 : Int) < (l.length : Int)) = false := by rw [decide_eq_false_iff_not]; omega
  go_enter Try.func14, Try.ntmps14
  go_wp2_with (go_at_call 17; refine (alive_any _).mono ?_; rintro e w2 ⟨rfl, hb2⟩)
  go_ret
  exact ⟨rfl, hb2⟩
def psum (q : List Int) (k : Nat) : Int := (q.take k).sum
theorem psum_succ {q : List Int} {k : Nat} (hk : k < q.length) : psum q (k + 1) = psum q k + q.getD k 0 := by
  unfold psum
  rw [List.take_succ_eq_append_getElem hk, sum_app, List.getD_eq_getElem?_getD, List.getElem?_eq_getElem hk]
  simp
theorem psum_all (q : List Int) : psum q q.length = q.sum := by rw [psum, List.take_length]
theorem psum_range {q : List Int} (hg : ∀ j, j < q.length → 1 ≤ q.getD j 0 ∧ q.getD j 0 ≤ 12) : ∀ {k : Nat}, k ≤ q.length → 0 ≤ psum q k ∧ psum q k ≤ 12 * (k : Int)
  | 0, _ => by simp [psum]
  | k + 1, h => by
    have := psum_range hg (k := k) (by omega)
    have := hg k (by omega)
    rw [psum_succ (by omega)]
    omega
set_option maxHeartbeats 4000000 in
set_option maxRecDepth 100000 in
theorem conway_yes_no (n : Nat) (l : List (Int × Int)) (A : Option Addr) (c : Nat) (q : List Int) (B : Option Addr) (d : Nat) (w : World) (hv : brandB n l = true) (hq : roundB q = false) (hx : PairsI w A l) (hlc : l.length ≤ c) (hl : IntsAt w B q) (_ : l.length ≤ 60) (h60q : q.length ≤ 60) :
    Calls Try.prog 14 #[.int .i64 (n : Int), .slice A l.length c, .slice B q.length d] w fun e w' => e = .returned (.bool true) ∧ Below w.heap.size w w' := by
  have hbr := brandL_of hv
  have hR := Off.mk (round_round hbr)
  have hO := Off.mk (of_round hbr)
  have HX := Off.mk hx
  have C1 := Off.mk (round_post n l hv A c w hx hlc)
  have C2 := Off.mk (fun W (hW : Below w.heap.size w W) => isBrand_any n l A c true hv W (hx.below hW) hlc)
  clear hbr
  have C3 := Off.mk (fun W (hW : Below w.heap.size w W) => of_arg q B d hq W (hl.below hW))
  have C4 := Off.mk (fun W (hW : Below w.heap.size w W) => closed_no q B d hq W (hl.below hW))
  have C5 := Off.mk (fun W (hW : Below w.heap.size w W) => risRound_any q B d false hq W (hl.below hW))
  clear hv hq hx hl
  go_enter Try.func14, Try.ntmps14
  go_wp2_with fail
  refine C1.out.mono ?_
  rintro e w1 ⟨A1, c1, rfl, hI1, hc1, hA1, hb1⟩
  have HB1 := Off.mk hb1
  have CO := Off.mk (of_post (roundOf n l) hR.out A1 c1 w1 hI1 hc1 hA1)
  rw [hO.out] at CO
  clear hI1 hc1 hA1 hb1 C1
  go_wp2_with fail
  refine CO.out.mono ?_
  rintro e w2 ⟨A2, c2, rfl, hP2, _, _, hb2⟩
  have HP2 := Off.mk hP2
  have HB2 := Off.mk (belowC HB1.out hb2)
  clear hP2 hb2 CO
  go_wp2_with fail
  refine (pairs_any l l A2 A c2 c true (by simp) _ HP2.out (HX.out.below HB2.out)).mono ?_
  rintro e w3 ⟨rfl, hb3⟩
  have HB3 := Off.mk (belowC HB2.out hb3)
  clear hb3
  go_wp2_with fail
  refine (C2.out _ HB3.out).mono ?_
  rintro e w4 ⟨rfl, hb4⟩
  have HB4 := Off.mk (belowC HB3.out hb4)
  clear hb4 C2
  go_wp2_with fail
  refine (C3.out _ HB4.out).mono ?_
  rintro e w5 ⟨rfl, hw5⟩
  subst w5
  go_wp2_with fail
  refine (C4.out _ HB4.out).mono ?_
  rintro e w6 ⟨rfl, hw6⟩
  subst w6
  go_wp2_with fail
  refine (C5.out _ HB4.out).mono ?_
  rintro e w7 ⟨rfl, hw7⟩
  subst w7
  go_wp2_with (go_at_call 17; refine (alive_any _).mono ?_; rintro e w8 ⟨rfl, hb8⟩)
  go_ret
  exact ⟨rfl, belowC HB4.out hb8⟩
set_option maxHeartbeats 4000000 in
set_option maxRecDepth 100000 in
theorem conway_yes_some (n : Nat) (l : List (Int × Int)) (A : Option Addr) (c : Nat) (q : List Int) (B : Option Addr) (d : Nat) (w : World) (hv : brandB n l = true) (hq : roundB q = true) (res : List (Int × Int)) (hs : ofL q = some res) (hx : PairsI w A l) (hlc : l.length ≤ c) (hl : IntsAt w B q) (hdc : q.length ≤ d) (hB : B = none → d = 0) (_ : l.length ≤ 60) (h60q : q.length ≤ 60) :
    Calls Try.prog 14 #[.int .i64 (n : Int), .slice A l.length c, .slice B q.length d] w fun e w' => e = .returned (.bool true) ∧ Below w.heap.size w w' := by
  have hbr := brandL_of hv
  have hR := Off.mk (round_round hbr)
  have hO := Off.mk (of_round hbr)
  have HX := Off.mk hx
  have C1 := Off.mk (round_post n l hv A c w hx hlc)
  have C2 := Off.mk (fun W (hW : Below w.heap.size w W) => isBrand_any n l A c true hv W (hx.below hW) hlc)
  clear hbr
  have C3 := Off.mk (fun W (hW : Below w.heap.size w W) => of_post q hq B d W (hl.below hW) hdc hB)
  have hi := (of_iff hq).1 (by rw [hs]; rfl)
  have hc := hi.1
  obtain ⟨hBR, hRR⟩ := brand_of hq hs
  have HM := Off.mk hi.2
  have C6 := Off.mk (fun A' c' W (hW : PairsI W A' res) (hc' : res.length ≤ c') => round_post q.length res (of_brandL hBR) A' c' W hW hc')
  have HRR := Off.mk hRR
  clear hi hBR hRR
  have C4 := Off.mk (fun W (hW : Below w.heap.size w W) => closed_yes q B d true hc hq W (hl.below hW))
  have C5 := Off.mk (fun W (hW : Below w.heap.size w W) => risRound_any q B d true hq W (hl.below hW))
  have HQ := Off.mk hl
  have HG := Off.mk (roundB_iff.1 hq).2
  have h12 := (roundB_iff.1 hq).1.2
  rw [hs] at C3
  clear hv hq hx hl hdc hB hs hc
  go_enter Try.func14, Try.ntmps14
  go_wp2_with fail
  refine C1.out.mono ?_
  rintro e w1 ⟨A1, c1, rfl, hI1, hc1, hA1, hb1⟩
  have HB1 := Off.mk hb1
  have CO := Off.mk (of_post (roundOf n l) hR.out A1 c1 w1 hI1 hc1 hA1)
  rw [hO.out] at CO
  clear hI1 hc1 hA1 hb1 C1
  go_wp2_with fail
  refine CO.out.mono ?_
  rintro e w2 ⟨A2, c2, rfl, hP2, _, _, hb2⟩
  have HP2 := Off.mk hP2
  have HB2 := Off.mk (belowC HB1.out hb2)
  clear hP2 hb2 CO
  go_wp2_with fail
  refine (pairs_any l l A2 A c2 c true (by simp) _ HP2.out (HX.out.below HB2.out)).mono ?_
  rintro e w3 ⟨rfl, hb3⟩
  have HB3 := Off.mk (belowC HB2.out hb3)
  clear hb3
  go_wp2_with fail
  refine (C2.out _ HB3.out).mono ?_
  rintro e w4 ⟨rfl, hb4⟩
  have HB4 := Off.mk (belowC HB3.out hb4)
  clear hb4 C2
  go_wp2_with fail
  refine (C3.out _ HB4.out).mono ?_
  rintro e w5 ⟨A5, c5, rfl, hP5, hc5, _, hb5⟩
  have HP5 := Off.mk hP5
  have HC5 := Off.mk hc5
  have HB5 := Off.mk (belowC HB4.out hb5)
  clear hP5 hb5 hc5 C3
  go_wp2_with fail
  refine (C4.out _ HB5.out).mono ?_
  rintro e w6 ⟨rfl, hb6⟩
  have HP6 := Off.mk (HP5.out.below hb6)
  have HB6 := Off.mk (belowC HB5.out hb6)
  clear hb6 C4
  go_wp2_with fail
  refine (C5.out _ HB6.out).mono ?_
  rintro e w7 ⟨rfl, hw7⟩
  subst w7
  clear C5
  go_wp2
  have HQ6 := Off.mk (HQ.out.below HB6.out)
  go_loop [14, 15] (fun sv iv => ∃ k : Nat, k ≤ q.length ∧ iv = .int .i64 k ∧ sv = .int .i64 (psum q k)) (fun _ iv => q.length - (intOf iv).toNat)
  case atStart => exact ⟨0, by omega, rfl, rfl⟩
  case round =>
    obtain ⟨k, hk, rfl, rfl⟩ := hrel
    by_cases hlt : k < q.length
    · have hkI : (k : Int) < (q.length : Int) := by omega
      obtain ⟨ad, rfl, x0⟩ := HQ6.out.cell k hlt
      have HN := Off.mk (psum_succ hlt)
      have hb := psum_range HG.out (k := k) (by omega)
      have hx := HG.out k hlt
      obtain ⟨x, hxe⟩ : ∃ x, x = q.getD k 0 := ⟨_, rfl⟩
      obtain ⟨S, hS⟩ : ∃ S, S = psum q k := ⟨_, rfl⟩
      rw [← hxe] at x0 HN hx
      rw [← hS] at HN hb ⊢
      have w1 : IntKind.i64.wrap (S + x) = S + x := by rw [IntKind.wrap_i64]; omega
      have hk2 : k < 12 := by omega
      clear hxe hS
      go_wp2
      go_round
      case rel => exact ⟨k + 1, by omega, by go_num, by rw [HN.out]⟩
      case measure => simp only [intOf]; omega
    · obtain rfl : k = q.length := by omega
      have hb := psum_range HG.out (k := q.length) (by omega)
      obtain ⟨S, hS⟩ : ∃ S, psum q q.length = S := ⟨_, rfl⟩
      have hm : (S == 3 * (q.length : Int) - 6) = true := by rw [← hS, psum_all, HM.out]; simp
      have w1 : IntKind.i64.wrap (3 * (q.length : Int)) = 3 * (q.length : Int) := by rw [IntKind.wrap_i64]; omega
      have w2 : IntKind.i64.wrap (3 * (q.length : Int) - 6) = 3 * (q.length : Int) - 6 := by rw [IntKind.wrap_i64]; omega
      rw [hS] at hb ⊢
      clear hS HM
      go_wp2_with fail
      refine (C6.out A5 c5 _ HP6.out HC5.out).mono ?_
      rintro e w8 ⟨A8, c8, rfl, hI8, _, _, hb8⟩
      have HB8 := Off.mk (belowC HB6.out hb8)
      have HI8 := Off.mk hI8
      rw [HRR.out] at HI8
      clear hI8 hb8 C6
      go_wp2_with fail
      refine (same_any _ q A8 B c8 d true (by rw [HRR.out]; simp) _ (by rw [HRR.out]; exact HI8.out) (HQ.out.below HB8.out)).mono ?_
      rintro e w9 ⟨rfl, hb9⟩
      have HB9 := Off.mk (belowC HB8.out hb9)
      clear hb9
      go_wp2_with (go_at_call 17; refine (alive_any _).mono ?_; rintro e w10 ⟨rfl, hb10⟩)
      go_ret
      exact ⟨rfl, belowC HB9.out hb10⟩
set_option maxHeartbeats 4000000 in
set_option maxRecDepth 100000 in
theorem conway_yes_closed (n : Nat) (l : List (Int × Int)) (A : Option Addr) (c : Nat) (q : List Int) (B : Option Addr) (d : Nat) (w : World) (hv : brandB n l = true) (hq : roundB q = true) (hs : ofL q = none) (hc : closedB q = true) (hx : PairsI w A l) (hlc : l.length ≤ c) (hl : IntsAt w B q) (hdc : q.length ≤ d) (hB : B = none → d = 0) (_ : l.length ≤ 60) (h60q : q.length ≤ 60) :
    Calls Try.prog 14 #[.int .i64 (n : Int), .slice A l.length c, .slice B q.length d] w fun e w' => e = .returned (.bool true) ∧ Below w.heap.size w w' := by
  have hbr := brandL_of hv
  have hR := Off.mk (round_round hbr)
  have hO := Off.mk (of_round hbr)
  have HX := Off.mk hx
  have C1 := Off.mk (round_post n l hv A c w hx hlc)
  have C2 := Off.mk (fun W (hW : Below w.heap.size w W) => isBrand_any n l A c true hv W (hx.below hW) hlc)
  clear hbr
  have C3 := Off.mk (fun W (hW : Below w.heap.size w W) => of_post q hq B d W (hl.below hW) hdc hB)
  have HM : Off (q.sum ≠ 3 * (q.length : Int) - 6) := ⟨fun e => by
    have := (of_iff hq).2 ⟨hc, e⟩
    rw [hs] at this
    cases this⟩
  have C4 := Off.mk (fun W (hW : Below w.heap.size w W) => closed_yes q B d true hc hq W (hl.below hW))
  have C5 := Off.mk (fun W (hW : Below w.heap.size w W) => risRound_any q B d true hq W (hl.below hW))
  have HQ := Off.mk hl
  have HG := Off.mk (roundB_iff.1 hq).2
  have h12 := (roundB_iff.1 hq).1.2
  rw [hs] at C3
  clear hv hq hx hl hdc hB hs hc
  go_enter Try.func14, Try.ntmps14
  go_wp2_with fail
  refine C1.out.mono ?_
  rintro e w1 ⟨A1, c1, rfl, hI1, hc1, hA1, hb1⟩
  have HB1 := Off.mk hb1
  have CO := Off.mk (of_post (roundOf n l) hR.out A1 c1 w1 hI1 hc1 hA1)
  rw [hO.out] at CO
  clear hI1 hc1 hA1 hb1 C1
  go_wp2_with fail
  refine CO.out.mono ?_
  rintro e w2 ⟨A2, c2, rfl, hP2, _, _, hb2⟩
  have HP2 := Off.mk hP2
  have HB2 := Off.mk (belowC HB1.out hb2)
  clear hP2 hb2 CO
  go_wp2_with fail
  refine (pairs_any l l A2 A c2 c true (by simp) _ HP2.out (HX.out.below HB2.out)).mono ?_
  rintro e w3 ⟨rfl, hb3⟩
  have HB3 := Off.mk (belowC HB2.out hb3)
  clear hb3
  go_wp2_with fail
  refine (C2.out _ HB3.out).mono ?_
  rintro e w4 ⟨rfl, hb4⟩
  have HB4 := Off.mk (belowC HB3.out hb4)
  clear hb4 C2
  go_wp2_with fail
  refine (C3.out _ HB4.out).mono ?_
  rintro e w5 ⟨A5, c5, rfl, hP5, hc5, _, hb5⟩
  have HP5 := Off.mk hP5
  have HC5 := Off.mk hc5
  have HB5 := Off.mk (belowC HB4.out hb5)
  clear hP5 hb5 hc5 C3
  go_wp2_with fail
  refine (C4.out _ HB5.out).mono ?_
  rintro e w6 ⟨rfl, hb6⟩
  have HP6 := Off.mk (HP5.out.below hb6)
  have HB6 := Off.mk (belowC HB5.out hb6)
  clear hb6 C4
  go_wp2_with fail
  refine (C5.out _ HB6.out).mono ?_
  rintro e w7 ⟨rfl, hw7⟩
  subst w7
  clear C5
  go_wp2
  have HQ6 := Off.mk (HQ.out.below HB6.out)
  go_loop [14, 15] (fun sv iv => ∃ k : Nat, k ≤ q.length ∧ iv = .int .i64 k ∧ sv = .int .i64 (psum q k)) (fun _ iv => q.length - (intOf iv).toNat)
  case atStart => exact ⟨0, by omega, rfl, rfl⟩
  case round =>
    obtain ⟨k, hk, rfl, rfl⟩ := hrel
    by_cases hlt : k < q.length
    · have hkI : (k : Int) < (q.length : Int) := by omega
      obtain ⟨ad, rfl, x0⟩ := HQ6.out.cell k hlt
      have HN := Off.mk (psum_succ hlt)
      have hb := psum_range HG.out (k := k) (by omega)
      have hx := HG.out k hlt
      obtain ⟨x, hxe⟩ : ∃ x, x = q.getD k 0 := ⟨_, rfl⟩
      obtain ⟨S, hS⟩ : ∃ S, S = psum q k := ⟨_, rfl⟩
      rw [← hxe] at x0 HN hx
      rw [← hS] at HN hb ⊢
      have w1 : IntKind.i64.wrap (S + x) = S + x := by rw [IntKind.wrap_i64]; omega
      have hk2 : k < 12 := by omega
      clear hxe hS
      go_wp2
      go_round
      case rel => exact ⟨k + 1, by omega, by go_num, by rw [HN.out]⟩
      case measure => simp only [intOf]; omega
    · obtain rfl : k = q.length := by omega
      have hb := psum_range HG.out (k := q.length) (by omega)
      obtain ⟨S, hS⟩ : ∃ S, psum q q.length = S := ⟨_, rfl⟩
      have hm : (S == 3 * (q.length : Int) - 6) = false := by rw [beq_eq_false_iff_ne]; intro e; exact HM.out (by rw [← psum_all, hS, e])
      have w1 : IntKind.i64.wrap (3 * (q.length : Int)) = 3 * (q.length : Int) := by rw [IntKind.wrap_i64]; omega
      have w2 : IntKind.i64.wrap (3 * (q.length : Int) - 6) = 3 * (q.length : Int) - 6 := by rw [IntKind.wrap_i64]; omega
      rw [hS] at hb ⊢
      clear hS HM
      go_wp2_with (go_at_call 17; refine (alive_any _).mono ?_; rintro e w10 ⟨rfl, hb10⟩)
      go_ret
      exact ⟨rfl, belowC HB6.out hb10⟩
set_option maxHeartbeats 4000000 in
set_option maxRecDepth 100000 in
theorem conway_yes_open (n : Nat) (l : List (Int × Int)) (A : Option Addr) (c : Nat) (q : List Int) (B : Option Addr) (d : Nat) (w : World) (hv : brandB n l = true) (hq : roundB q = true) (hs : ofL q = none) (hc : closedB q = false) (hx : PairsI w A l) (hlc : l.length ≤ c) (hl : IntsAt w B q) (hdc : q.length ≤ d) (hB : B = none → d = 0) (_ : l.length ≤ 60) (h60q : q.length ≤ 60) :
    Calls Try.prog 14 #[.int .i64 (n : Int), .slice A l.length c, .slice B q.length d] w fun e w' => e = .returned (.bool true) ∧ Below w.heap.size w w' := by
  have hbr := brandL_of hv
  have hR := Off.mk (round_round hbr)
  have hO := Off.mk (of_round hbr)
  have HX := Off.mk hx
  have C1 := Off.mk (round_post n l hv A c w hx hlc)
  have C2 := Off.mk (fun W (hW : Below w.heap.size w W) => isBrand_any n l A c true hv W (hx.below hW) hlc)
  clear hbr
  have C3 := Off.mk (fun W (hW : Below w.heap.size w W) => of_post q hq B d W (hl.below hW) hdc hB)
  have C4 := Off.mk (fun W (hW : Below w.heap.size w W) => closed_yes q B d false hc hq W (hl.below hW))
  have C5 := Off.mk (fun W (hW : Below w.heap.size w W) => risRound_any q B d true hq W (hl.below hW))
  have HQ := Off.mk hl
  have HG := Off.mk (roundB_iff.1 hq).2
  have h12 := (roundB_iff.1 hq).1.2
  rw [hs] at C3
  clear hv hq hx hl hdc hB hs hc
  go_enter Try.func14, Try.ntmps14
  go_wp2_with fail
  refine C1.out.mono ?_
  rintro e w1 ⟨A1, c1, rfl, hI1, hc1, hA1, hb1⟩
  have HB1 := Off.mk hb1
  have CO := Off.mk (of_post (roundOf n l) hR.out A1 c1 w1 hI1 hc1 hA1)
  rw [hO.out] at CO
  clear hI1 hc1 hA1 hb1 C1
  go_wp2_with fail
  refine CO.out.mono ?_
  rintro e w2 ⟨A2, c2, rfl, hP2, _, _, hb2⟩
  have HP2 := Off.mk hP2
  have HB2 := Off.mk (belowC HB1.out hb2)
  clear hP2 hb2 CO
  go_wp2_with fail
  refine (pairs_any l l A2 A c2 c true (by simp) _ HP2.out (HX.out.below HB2.out)).mono ?_
  rintro e w3 ⟨rfl, hb3⟩
  have HB3 := Off.mk (belowC HB2.out hb3)
  clear hb3
  go_wp2_with fail
  refine (C2.out _ HB3.out).mono ?_
  rintro e w4 ⟨rfl, hb4⟩
  have HB4 := Off.mk (belowC HB3.out hb4)
  clear hb4 C2
  go_wp2_with fail
  refine (C3.out _ HB4.out).mono ?_
  rintro e w5 ⟨A5, c5, rfl, hP5, hc5, _, hb5⟩
  have HP5 := Off.mk hP5
  have HC5 := Off.mk hc5
  have HB5 := Off.mk (belowC HB4.out hb5)
  clear hP5 hb5 hc5 C3
  go_wp2_with fail
  refine (C4.out _ HB5.out).mono ?_
  rintro e w6 ⟨rfl, hb6⟩
  have HP6 := Off.mk (HP5.out.below hb6)
  have HB6 := Off.mk (belowC HB5.out hb6)
  clear hb6 C4
  go_wp2_with fail
  refine (C5.out _ HB6.out).mono ?_
  rintro e w7 ⟨rfl, hw7⟩
  subst w7
  clear C5
  go_wp2
  have HQ6 := Off.mk (HQ.out.below HB6.out)
  go_loop [14, 15] (fun sv iv => ∃ k : Nat, k ≤ q.length ∧ iv = .int .i64 k ∧ sv = .int .i64 (psum q k)) (fun _ iv => q.length - (intOf iv).toNat)
  case atStart => exact ⟨0, by omega, rfl, rfl⟩
  case round =>
    obtain ⟨k, hk, rfl, rfl⟩ := hrel
    by_cases hlt : k < q.length
    · have hkI : (k : Int) < (q.length : Int) := by omega
      obtain ⟨ad, rfl, x0⟩ := HQ6.out.cell k hlt
      have HN := Off.mk (psum_succ hlt)
      have hb := psum_range HG.out (k := k) (by omega)
      have hx := HG.out k hlt
      obtain ⟨x, hxe⟩ : ∃ x, x = q.getD k 0 := ⟨_, rfl⟩
      obtain ⟨S, hS⟩ : ∃ S, S = psum q k := ⟨_, rfl⟩
      rw [← hxe] at x0 HN hx
      rw [← hS] at HN hb ⊢
      have w1 : IntKind.i64.wrap (S + x) = S + x := by rw [IntKind.wrap_i64]; omega
      have hk2 : k < 12 := by omega
      clear hxe hS
      go_wp2
      go_round
      case rel => exact ⟨k + 1, by omega, by go_num, by rw [HN.out]⟩
      case measure => simp only [intOf]; omega
    · obtain rfl : k = q.length := by omega
      have hb := psum_range HG.out (k := q.length) (by omega)
      go_wp2_with (go_at_call 17; refine (alive_any _).mono ?_; rintro e w10 ⟨rfl, hb10⟩)
      go_ret
      exact ⟨rfl, belowC HB6.out hb10⟩
set_option maxHeartbeats 4000000 in
set_option maxRecDepth 100000 in
theorem conway_no_no (n : Int) (l : List (Int × Int)) (A : Option Addr) (c : Nat) (q : List Int) (B : Option Addr) (d : Nat) (w : World) (hv : brandB n l = false) (hq : roundB q = false) (hx : PairsI w A l) (hlc : l.length ≤ c) (hl : IntsAt w B q) (_ : l.length ≤ 60) (h60q : q.length ≤ 60) :
    Calls Try.prog 14 #[.int .i64 n, .slice A l.length c, .slice B q.length d] w fun e w' => e = .returned (.bool true) ∧ Below w.heap.size w w' := by
  have C1 := Off.mk (Round_no n l A c hv w hx hlc)
  have C3 := Off.mk (fun W (hW : Below w.heap.size w W) => of_arg q B d hq W (hl.below hW))
  have C4 := Off.mk (fun W (hW : Below w.heap.size w W) => closed_no q B d hq W (hl.below hW))
  have C5 := Off.mk (fun W (hW : Below w.heap.size w W) => risRound_any q B d false hq W (hl.below hW))
  clear hv hq hx hl
  go_enter Try.func14, Try.ntmps14
  go_wp2_with fail
  refine C1.out.mono ?_
  rintro e w4 ⟨rfl, hb4⟩
  have HB4 := Off.mk hb4
  clear hb4 C1
  go_wp2_with fail
  refine (C3.out _ HB4.out).mono ?_
  rintro e w5 ⟨rfl, hw5⟩
  subst w5
  go_wp2_with fail
  refine (C4.out _ HB4.out).mono ?_
  rintro e w6 ⟨rfl, hw6⟩
  subst w6
  go_wp2_with fail
  refine (C5.out _ HB4.out).mono ?_
  rintro e w7 ⟨rfl, hw7⟩
  subst w7
  go_wp2_with (go_at_call 17; refine (alive_any _).mono ?_; rintro e w8 ⟨rfl, hb8⟩)
  go_ret
  exact ⟨rfl, belowC HB4.out hb8⟩
set_option maxHeartbeats 4000000 in
set_option maxRecDepth 100000 in
theorem conway_no_some (n : Int) (l : List (Int × Int)) (A : Option Addr) (c : Nat) (q : List Int) (B : Option Addr) (d : Nat) (w : World) (hv : brandB n l = false) (hq : roundB q = true) (res : List (Int × Int)) (hs : ofL q = some res) (hx : PairsI w A l) (hlc : l.length ≤ c) (hl : IntsAt w B q) (hdc : q.length ≤ d) (hB : B = none → d = 0) (_ : l.length ≤ 60) (h60q : q.length ≤ 60) :
    Calls Try.prog 14 #[.int .i64 n, .slice A l.length c, .slice B q.length d] w fun e w' => e = .returned (.bool true) ∧ Below w.heap.size w w' := by
  have C1 := Off.mk (Round_no n l A c hv w hx hlc)
  have C3 := Off.mk (fun W (hW : Below w.heap.size w W) => of_post q hq B d W (hl.below hW) hdc hB)
  have hi := (of_iff hq).1 (by rw [hs]; rfl)
  have hc := hi.1
  obtain ⟨hBR, hRR⟩ := brand_of hq hs
  have HM := Off.mk hi.2
  have C6 := Off.mk (fun A' c' W (hW : PairsI W A' res) (hc' : res.length ≤ c') => round_post q.length res (of_brandL hBR) A' c' W hW hc')
  have HRR := Off.mk hRR
  clear hi hBR hRR
  have C4 := Off.mk (fun W (hW : Below w.heap.size w W) => closed_yes q B d true hc hq W (hl.below hW))
  have C5 := Off.mk (fun W (hW : Below w.heap.size w W) => risRound_any q B d true hq W (hl.below hW))
  have HQ := Off.mk hl
  have HG := Off.mk (roundB_iff.1 hq).2
  have h12 := (roundB_iff.1 hq).1.2
  rw [hs] at C3
  clear hv hq hx hl hdc hB hs hc
  go_enter Try.func14, Try.ntmps14
  go_wp2_with fail
  refine C1.out.mono ?_
  rintro e w4 ⟨rfl, hb4⟩
  have HB4 := Off.mk hb4
  clear hb4 C1
  go_wp2_with fail
  refine (C3.out _ HB4.out).mono ?_
  rintro e w5 ⟨A5, c5, rfl, hP5, hc5, _, hb5⟩
  have HP5 := Off.mk hP5
  have HC5 := Off.mk hc5
  have HB5 := Off.mk (belowC HB4.out hb5)
  clear hP5 hb5 hc5 C3
  go_wp2_with fail
  refine (C4.out _ HB5.out).mono ?_
  rintro e w6 ⟨rfl, hb6⟩
  have HP6 := Off.mk (HP5.out.below hb6)
  have HB6 := Off.mk (belowC HB5.out hb6)
  clear hb6 C4
  go_wp2_with fail
  refine (C5.out _ HB6.out).mono ?_
  rintro e w7 ⟨rfl, hw7⟩
  subst w7
  clear C5
  go_wp2
  have HQ6 := Off.mk (HQ.out.below HB6.out)
  go_loop [14, 15] (fun sv iv => ∃ k : Nat, k ≤ q.length ∧ iv = .int .i64 k ∧ sv = .int .i64 (psum q k)) (fun _ iv => q.length - (intOf iv).toNat)
  case atStart => exact ⟨0, by omega, rfl, rfl⟩
  case round =>
    obtain ⟨k, hk, rfl, rfl⟩ := hrel
    by_cases hlt : k < q.length
    · have hkI : (k : Int) < (q.length : Int) := by omega
      obtain ⟨ad, rfl, x0⟩ := HQ6.out.cell k hlt
      have HN := Off.mk (psum_succ hlt)
      have hb := psum_range HG.out (k := k) (by omega)
      have hx := HG.out k hlt
      obtain ⟨x, hxe⟩ : ∃ x, x = q.getD k 0 := ⟨_, rfl⟩
      obtain ⟨S, hS⟩ : ∃ S, S = psum q k := ⟨_, rfl⟩
      rw [← hxe] at x0 HN hx
      rw [← hS] at HN hb ⊢
      have w1 : IntKind.i64.wrap (S + x) = S + x := by rw [IntKind.wrap_i64]; omega
      have hk2 : k < 12 := by omega
      clear hxe hS
      go_wp2
      go_round
      case rel => exact ⟨k + 1, by omega, by go_num, by rw [HN.out]⟩
      case measure => simp only [intOf]; omega
    · obtain rfl : k = q.length := by omega
      have hb := psum_range HG.out (k := q.length) (by omega)
      obtain ⟨S, hS⟩ : ∃ S, psum q q.length = S := ⟨_, rfl⟩
      have hm : (S == 3 * (q.length : Int) - 6) = true := by rw [← hS, psum_all, HM.out]; simp
      have w1 : IntKind.i64.wrap (3 * (q.length : Int)) = 3 * (q.length : Int) := by rw [IntKind.wrap_i64]; omega
      have w2 : IntKind.i64.wrap (3 * (q.length : Int) - 6) = 3 * (q.length : Int) - 6 := by rw [IntKind.wrap_i64]; omega
      rw [hS] at hb ⊢
      clear hS HM
      go_wp2_with fail
      refine (C6.out A5 c5 _ HP6.out HC5.out).mono ?_
      rintro e w8 ⟨A8, c8, rfl, hI8, _, _, hb8⟩
      have HB8 := Off.mk (belowC HB6.out hb8)
      have HI8 := Off.mk hI8
      rw [HRR.out] at HI8
      clear hI8 hb8 C6
      go_wp2_with fail
      refine (same_any _ q A8 B c8 d true (by rw [HRR.out]; simp) _ (by rw [HRR.out]; exact HI8.out) (HQ.out.below HB8.out)).mono ?_
      rintro e w9 ⟨rfl, hb9⟩
      have HB9 := Off.mk (belowC HB8.out hb9)
      clear hb9
      go_wp2_with (go_at_call 17; refine (alive_any _).mono ?_; rintro e w10 ⟨rfl, hb10⟩)
      go_ret
      exact ⟨rfl, belowC HB9.out hb10⟩
set_option maxHeartbeats 4000000 in
set_option maxRecDepth 100000 in
theorem conway_no_closed (n : Int) (l : List (Int × Int)) (A : Option Addr) (c : Nat) (q : List Int) (B : Option Addr) (d : Nat) (w : World) (hv : brandB n l = false) (hq : roundB q = true) (hs : ofL q = none) (hc : closedB q = true) (hx : PairsI w A l) (hlc : l.length ≤ c) (hl : IntsAt w B q) (hdc : q.length ≤ d) (hB : B = none → d = 0) (_ : l.length ≤ 60) (h60q : q.length ≤ 60) :
    Calls Try.prog 14 #[.int .i64 n, .slice A l.length c, .slice B q.length d] w fun e w' => e = .returned (.bool true) ∧ Below w.heap.size w w' := by
  have C1 := Off.mk (Round_no n l A c hv w hx hlc)
  have C3 := Off.mk (fun W (hW : Below w.heap.size w W) => of_post q hq B d W (hl.below hW) hdc hB)
  have HM : Off (q.sum ≠ 3 * (q.length : Int) - 6) := ⟨fun e => by
    have := (of_iff hq).2 ⟨hc, e⟩
    rw [hs] at this
    cases this⟩
  have C4 := Off.mk (fun W (hW : Below w.heap.size w W) => closed_yes q B d true hc hq W (hl.below hW))
  have C5 := Off.mk (fun W (hW : Below w.heap.size w W) => risRound_any q B d true hq W (hl.below hW))
  have HQ := Off.mk hl
  have HG := Off.mk (roundB_iff.1 hq).2
  have h12 := (roundB_iff.1 hq).1.2
  rw [hs] at C3
  clear hv hq hx hl hdc hB hs hc
  go_enter Try.func14, Try.ntmps14
  go_wp2_with fail
  refine C1.out.mono ?_
  rintro e w4 ⟨rfl, hb4⟩
  have HB4 := Off.mk hb4
  clear hb4 C1
  go_wp2_with fail
  refine (C3.out _ HB4.out).mono ?_
  rintro e w5 ⟨A5, c5, rfl, hP5, hc5, _, hb5⟩
  have HP5 := Off.mk hP5
  have HC5 := Off.mk hc5
  have HB5 := Off.mk (belowC HB4.out hb5)
  clear hP5 hb5 hc5 C3
  go_wp2_with fail
  refine (C4.out _ HB5.out).mono ?_
  rintro e w6 ⟨rfl, hb6⟩
  have HP6 := Off.mk (HP5.out.below hb6)
  have HB6 := Off.mk (belowC HB5.out hb6)
  clear hb6 C4
  go_wp2_with fail
  refine (C5.out _ HB6.out).mono ?_
  rintro e w7 ⟨rfl, hw7⟩
  subst w7
  clear C5
  go_wp2
  have HQ6 := Off.mk (HQ.out.below HB6.out)
  go_loop [14, 15] (fun sv iv => ∃ k : Nat, k ≤ q.length ∧ iv = .int .i64 k ∧ sv = .int .i64 (psum q k)) (fun _ iv => q.length - (intOf iv).toNat)
  case atStart => exact ⟨0, by omega, rfl, rfl⟩
  case round =>
    obtain ⟨k, hk, rfl, rfl⟩ := hrel
    by_cases hlt : k < q.length
    · have hkI : (k : Int) < (q.length : Int) := by omega
      obtain ⟨ad, rfl, x0⟩ := HQ6.out.cell k hlt
      have HN := Off.mk (psum_succ hlt)
      have hb := psum_range HG.out (k := k) (by omega)
      have hx := HG.out k hlt
      obtain ⟨x, hxe⟩ : ∃ x, x = q.getD k 0 := ⟨_, rfl⟩
      obtain ⟨S, hS⟩ : ∃ S, S = psum q k := ⟨_, rfl⟩
      rw [← hxe] at x0 HN hx
      rw [← hS] at HN hb ⊢
      have w1 : IntKind.i64.wrap (S + x) = S + x := by rw [IntKind.wrap_i64]; omega
      have hk2 : k < 12 := by omega
      clear hxe hS
      go_wp2
      go_round
      case rel => exact ⟨k + 1, by omega, by go_num, by rw [HN.out]⟩
      case measure => simp only [intOf]; omega
    · obtain rfl : k = q.length := by omega
      have hb := psum_range HG.out (k := q.length) (by omega)
      obtain ⟨S, hS⟩ : ∃ S, psum q q.length = S := ⟨_, rfl⟩
      have hm : (S == 3 * (q.length : Int) - 6) = false := by rw [beq_eq_false_iff_ne]; intro e; exact HM.out (by rw [← psum_all, hS, e])
      have w1 : IntKind.i64.wrap (3 * (q.length : Int)) = 3 * (q.length : Int) := by rw [IntKind.wrap_i64]; omega
      have w2 : IntKind.i64.wrap (3 * (q.length : Int) - 6) = 3 * (q.length : Int) - 6 := by rw [IntKind.wrap_i64]; omega
      rw [hS] at hb ⊢
      clear hS HM
      go_wp2_with (go_at_call 17; refine (alive_any _).mono ?_; rintro e w10 ⟨rfl, hb10⟩)
      go_ret
      exact ⟨rfl, belowC HB6.out hb10⟩
set_option maxHeartbeats 4000000 in
set_option maxRecDepth 100000 in
theorem conway_no_open (n : Int) (l : List (Int × Int)) (A : Option Addr) (c : Nat) (q : List Int) (B : Option Addr) (d : Nat) (w : World) (hv : brandB n l = false) (hq : roundB q = true) (hs : ofL q = none) (hc : closedB q = false) (hx : PairsI w A l) (hlc : l.length ≤ c) (hl : IntsAt w B q) (hdc : q.length ≤ d) (hB : B = none → d = 0) (_ : l.length ≤ 60) (h60q : q.length ≤ 60) :
    Calls Try.prog 14 #[.int .i64 n, .slice A l.length c, .slice B q.length d] w fun e w' => e = .returned (.bool true) ∧ Below w.heap.size w w' := by
  have C1 := Off.mk (Round_no n l A c hv w hx hlc)
  have C3 := Off.mk (fun W (hW : Below w.heap.size w W) => of_post q hq B d W (hl.below hW) hdc hB)
  have C4 := Off.mk (fun W (hW : Below w.heap.size w W) => closed_yes q B d false hc hq W (hl.below hW))
  have C5 := Off.mk (fun W (hW : Below w.heap.size w W) => risRound_any q B d true hq W (hl.below hW))
  have HQ := Off.mk hl
  have HG := Off.mk (roundB_iff.1 hq).2
  have h12 := (roundB_iff.1 hq).1.2
  rw [hs] at C3
  clear hv hq hx hl hdc hB hs hc
  go_enter Try.func14, Try.ntmps14
  go_wp2_with fail
  refine C1.out.mono ?_
  rintro e w4 ⟨rfl, hb4⟩
  have HB4 := Off.mk hb4
  clear hb4 C1
  go_wp2_with fail
  refine (C3.out _ HB4.out).mono ?_
  rintro e w5 ⟨A5, c5, rfl, hP5, hc5, _, hb5⟩
  have HP5 := Off.mk hP5
  have HC5 := Off.mk hc5
  have HB5 := Off.mk (belowC HB4.out hb5)
  clear hP5 hb5 hc5 C3
  go_wp2_with fail
  refine (C4.out _ HB5.out).mono ?_
  rintro e w6 ⟨rfl, hb6⟩
  have HP6 := Off.mk (HP5.out.below hb6)
  have HB6 := Off.mk (belowC HB5.out hb6)
  clear hb6 C4
  go_wp2_with fail
  refine (C5.out _ HB6.out).mono ?_
  rintro e w7 ⟨rfl, hw7⟩
  subst w7
  clear C5
  go_wp2
  have HQ6 := Off.mk (HQ.out.below HB6.out)
  go_loop [14, 15] (fun sv iv => ∃ k : Nat, k ≤ q.length ∧ iv = .int .i64 k ∧ sv = .int .i64 (psum q k)) (fun _ iv => q.length - (intOf iv).toNat)
  case atStart => exact ⟨0, by omega, rfl, rfl⟩
  case round =>
    obtain ⟨k, hk, rfl, rfl⟩ := hrel
    by_cases hlt : k < q.length
    · have hkI : (k : Int) < (q.length : Int) := by omega
      obtain ⟨ad, rfl, x0⟩ := HQ6.out.cell k hlt
      have HN := Off.mk (psum_succ hlt)
      have hb := psum_range HG.out (k := k) (by omega)
      have hx := HG.out k hlt
      obtain ⟨x, hxe⟩ : ∃ x, x = q.getD k 0 := ⟨_, rfl⟩
      obtain ⟨S, hS⟩ : ∃ S, S = psum q k := ⟨_, rfl⟩
      rw [← hxe] at x0 HN hx
      rw [← hS] at HN hb ⊢
      have w1 : IntKind.i64.wrap (S + x) = S + x := by rw [IntKind.wrap_i64]; omega
      have hk2 : k < 12 := by omega
      clear hxe hS
      go_wp2
      go_round
      case rel => exact ⟨k + 1, by omega, by go_num, by rw [HN.out]⟩
      case measure => simp only [intOf]; omega
    · obtain rfl : k = q.length := by omega
      have hb := psum_range HG.out (k := q.length) (by omega)
      go_wp2_with (go_at_call 17; refine (alive_any _).mono ?_; rintro e w10 ⟨rfl, hb10⟩)
      go_ret
      exact ⟨rfl, belowC HB6.out hb10⟩
theorem conway_walk (n : Int) (l : List (Int × Int)) (A : Option Addr) (c : Nat) (q : List Int) (B : Option Addr) (d : Nat) (w : World) (hx : l.length ≤ 140737488351232 → PairsI w A l) (hlc : l.length ≤ c) (_ : A = none → c = 0) (hl : q.length ≤ 140737488351232 → IntsAt w B q) (hdc : q.length ≤ d) (hB : B = none → d = 0) :
    Calls Try.prog 14 #[.int .i64 n, .slice A l.length c, .slice B q.length d] w fun e w' => e = .returned (.bool true) ∧ Below w.heap.size w w' := by
  by_cases h60 : l.length ≤ 60
  · by_cases h60q : q.length ≤ 60
    · have hx' := hx (by omega)
      have hl' := hl (by omega)
      cases hv : brandB n l with
      | true =>
        have hr := brand_range hv
        obtain ⟨m, rfl⟩ : ∃ m : Nat, n = (m : Int) := ⟨n.toNat, by omega⟩
        cases hq : roundB q with
        | false => exact conway_yes_no m l A c q B d w hv hq hx' hlc hl' h60 h60q
        | true =>
          cases hs : ofL q with
          | some res => exact conway_yes_some m l A c q B d w hv hq res hs hx' hlc hl' hdc hB h60 h60q
          | none =>
            cases hc : closedB q with
            | true => exact conway_yes_closed m l A c q B d w hv hq hs hc hx' hlc hl' hdc hB h60 h60q
            | false => exact conway_yes_open m l A c q B d w hv hq hs hc hx' hlc hl' hdc hB h60 h60q
      | false =>
        cases hq : roundB q with
        | false => exact conway_no_no n l A c q B d w hv hq hx' hlc hl' h60 h60q
        | true =>
          cases hs : ofL q with
          | some res => exact conway_no_some n l A c q B d w hv hq res hs hx' hlc hl' hdc hB h60 h60q
          | none =>
            cases hc : closedB q with
            | true => exact conway_no_closed n l A c q B d w hv hq hs hc hx' hlc hl' hdc hB h60 h60q
            | false => exact conway_no_open n l A c q B d w hv hq hs hc hx' hlc hl' hdc hB h60 h60q
    · exact conway_many2 n l A c q B d w h60 (by omega)
  · exact conway_many n l A c q B d w (by omega)

end Go.Proofs.Ytddcdopimpfhcaa
