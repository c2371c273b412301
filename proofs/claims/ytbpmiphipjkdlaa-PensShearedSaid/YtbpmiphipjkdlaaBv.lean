/- The walk of PensSheared. -/
import Derived.Test.YtbpmiphipjkdlaaBu
import Derived.Test.YtbpmiphipjkdlaaBa
namespace Go.Proofs.Ytbpmiphipjkdlaa
open Go.RowKit Go.Shelf

theorem area_alike {xs ys : PtL} (h : Alike xs ys) (A : Option Addr) (c : Nat) (w : World) (hp : PairsI w A ys) :
    Calls Try.prog 21 #[.slice A ys.length c] w fun e w' => e = .returned (.tuple #[.int .i64 ((twiceP xs).natAbs : Nat), .int .i64 0]) ∧ Below w.heap.size w w' := by
  have := Area_any ys A c w hp
  rwa [if_pos h.read, h.area] at this
theorem count_alike {xs ys : PtL} (h : Alike xs ys) (A : Option Addr) (c : Nat) (w : World) (hp : PairsI w A ys) :
    Calls Try.prog 22 #[.slice A ys.length c] w fun e w' => e = .returned (.tuple #[.int .i64 (borderP xs), .int .i64 (insG xs 1), .int .i64 0]) ∧ Below w.heap.size w w' := by
  have := Count_any ys A c w hp
  rwa [if_pos h.read, h.border, h.ins] at this
theorem convex_alike {xs ys : PtL} (h : Alike xs ys) (A : Option Addr) (c : Nat) (w : World) (hp : PairsI w A ys) :
    Calls Try.prog 28 #[.slice A ys.length c] w fun e w' => e = .returned (.tuple #[.bool (convexP xs false), .int .i64 0]) ∧ Below w.heap.size w w' := by
  have := Convex_any ys A c w hp
  rwa [if_pos h.read, h.conv] at this
set_option maxRecDepth 100000 in
set_option maxHeartbeats 8000000 in
theorem sheared_walk (xs : PtL) (A : Option Addr) (c : Nat) (b0 b1 b2 b3 : Int) (u : Int) (w : World) (hx : xs.length ≤ 140737488351232 → PairsI w A xs) (hu : 0 ≤ u ∧ u < 256) :
    Calls Try.prog 11 #[.slice A xs.length c, .agg #[.int .i64 b0, .int .i64 b1, .int .i64 b2, .int .i64 b3], .int .u8 u] w fun e w' => e = .returned (.bool true) ∧ Below w.heap.size w w' := by
  obtain ⟨i0, hi, hz0, hz1, hz2⟩ := info_parts info34
  have hbx := belowA (Below.refl _ w) (.cells #[.int .i64 b0, .int .i64 b1, .int .i64 b2, .int .i64 b3] 45)
  have hbq := four_facts (block_new w (.cells #[.int .i64 b0, .int .i64 b1, .int .i64 b2, .int .i64 b3] 45))
  obtain ⟨W0, hW0⟩ : ∃ W, w.alloc (.cells #[.int .i64 b0, .int .i64 b1, .int .i64 b2, .int .i64 b3] 45) = W := ⟨_, rfl⟩
  rw [hW0] at hbx hbq
  obtain ⟨⟨c0, c1, c2, c3⟩, _⟩ := hbq
  have HB := Off.mk hbx
  by_cases hf : xs.length ≤ 60
  · have hx := hx (by omega)
    have CF := Off.mk (few_any xs A c true (decide_eq_true hf) W0)
    cases hv : readP xs with
    | false =>
      have CR := Off.mk (isPenR_read xs A c W0 false hv (hx.below hbx))
      clear hx hf hv hbx
      go_enter Try.func11, Try.ntmps11
      go_wp2_with fail
      refine CF.out.mono ?_
      rintro e w0 ⟨rfl, hw0⟩
      subst w0
      go_wp2_with fail
      refine CR.out.mono ?_
      rintro e w1 ⟨rfl, hb1⟩
      have HB1 := Off.mk (belowC HB.out hb1)
      clear hb1
      go_wp2_with fail
      refine (alive_any _).mono ?_
      rintro e w2 ⟨rfl, hb2⟩
      go_wp2
      go_ret
      exact ⟨rfl, belowC HB1.out hb2⟩
    | true =>
      have CR := Off.mk (isPenR_read xs A c W0 true hv (hx.below hbx))
      have hal : Alike xs xs := ⟨hv, rfl, rfl, rfl, rfl⟩
      have hn3 := (pen_of hv).n3
      have HX := Off.mk (hx.below hbx)
      have CA := Off.mk (fun W (hb : Below W0.heap.size W0 W) => area_alike hal A c W (HX.out.below hb))
      have CC := Off.mk (fun W (hb : Below W0.heap.size W0 W) => count_alike hal A c W (HX.out.below hb))
      have CV := Off.mk (fun W (hb : Below W0.heap.size W0 W) => convex_alike hal A c W (HX.out.below hb))
      have CS := Off.mk (fun W (hb : Below W0.heap.size W0 W) => Sheared_any xs A c b0 b1 b2 b3 W (HX.out.below hb))
      obtain ⟨f, rfl⟩ : ∃ f : Nat, u = f := ⟨u.toNat, by omega⟩
      have htu := turned_alike f hv
      have HT : Off (∀ T, T = turnTo f xs xs.length → Alike xs T) := ⟨fun T e => by rw [e]; exact htu⟩
      have HSh := Off.mk (fun hok => shear_alike (b0 := b0) (b1 := b1) (b2 := b2) (b3 := b3) hv hok)
      obtain ⟨ys, hys⟩ : ∃ ys, ys = shrA xs b0 b1 b2 b3 := ⟨_, rfl⟩
      rw [← hys] at CS
      have HYS : Off ((ys.2 = 0 ∧ Alike xs ys.1 ∧ ys.1.length ≤ 60) ∨ ys.2 = 2) := ⟨by
        rw [hys]
        unfold shrA
        by_cases hok : shrOk xs b0 b1 b2 b3 = true
        · rw [if_pos hok]; exact .inl ⟨rfl, HSh.out hok, by simpa using hf⟩
        · rw [if_neg hok]; exact .inr rfl⟩
      obtain ⟨a, ha⟩ : ∃ a : Int, a = (twiceP xs).natAbs := ⟨_, rfl⟩
      obtain ⟨b, hb⟩ : ∃ b, b = borderP xs := ⟨_, rfl⟩
      obtain ⟨i, hi'⟩ : ∃ i, i = insG xs 1 := ⟨_, rfl⟩
      obtain ⟨x, hx'⟩ : ∃ x, x = convexP xs false := ⟨_, rfl⟩
      have CAy := Off.mk (fun ys (h : Alike xs ys) A c W hp => area_alike h A c W hp)
      have CCy := Off.mk (fun ys (h : Alike xs ys) A c W hp => count_alike h A c W hp)
      have CVy := Off.mk (fun ys (h : Alike xs ys) A c W hp => convex_alike h A c W hp)
      rw [← ha] at CA CAy
      rw [← hb, ← hi'] at CC CCy
      rw [← hx'] at CV CVy
      have W01 : IntKind.i64.wrap (f : Int) = f := by rw [IntKind.wrap_i64]; omega
      have W02 : IntKind.i64.wrap ((f : Int) + (xs.length : Int)) = (f : Int) + (xs.length : Int) := by rw [IntKind.wrap_i64]; omega
      clear hx hv hbx hal htu hys ha hb hi' hx' HSh
      go_enter Try.func11, Try.ntmps11
      go_wp2_with fail
      refine CF.out.mono ?_
      rintro e w0 ⟨rfl, hw0⟩
      subst w0
      go_wp2_with fail
      refine CR.out.mono ?_
      rintro e w1 ⟨rfl, hb1⟩
      have c0 := cellB hb1 c0
      have c1 := cellB hb1 c1
      have c2 := cellB hb1 c2
      have c3 := cellB hb1 c3
      have HB1 := Off.mk hb1
      clear hb1 CR CF hW0
      go_wp2_with fail
      go_loopw [7, 8] (fun v kv wr => ∃ k : Nat, k ≤ xs.length ∧ kv = .int .i64 k ∧ Off (OwnQ 34 wr w1.heap.size v (turnTo f xs k)) ∧ Off (Below w1.heap.size w1 wr)) (fun _ kv _ => xs.length - (intOf kv).toNat)
      case atStart => exact ⟨0, by omega, rfl, ⟨ownQ_nil _ _ _⟩, ⟨Below.refl _ _⟩⟩
      case round =>
        obtain ⟨k, hk, rfl, HO, HBr⟩ := hrel
        obtain ⟨wo, hwo⟩ : ∃ wo : World, wo = wr := ⟨_, rfl⟩
        rw [← hwo] at HBr HO ⊢
        clear hwo
        by_cases hlt : k < xs.length
        · have hki : (k : Int) < (xs.length : Int) := by omega
          obtain ⟨m, hm⟩ : ∃ m, m = (f + xs.length - k) % xs.length := ⟨_, rfl⟩
          have hml : m < xs.length := by rw [hm]; exact Nat.mod_lt _ (by omega)
          have e5 : ((f : Int) + (xs.length : Int) - (k : Int)).tmod (xs.length : Int) = (m : Int) := by
            rw [Int.tmod_eq_emod_of_nonneg (by omega), hm, show (f : Int) + (xs.length : Int) - (k : Int) = ((f + xs.length - k : Nat) : Int) by omega]
            exact (Int.natCast_emod _ _).symm
          have e7 : ((f : Int) + (xs.length : Int) - (k : Int)) % (xs.length : Int) = (m : Int) := by rw [← Int.tmod_eq_emod_of_nonneg (by omega)]; exact e5
          have w5 : IntKind.i64.wrap ((f : Int) + (xs.length : Int) - (k : Int)) = (f : Int) + (xs.length : Int) - (k : Int) := by rw [IntKind.wrap_i64]; omega
          have hn0 : ¬ xs.length = 0 := by omega
          have hmI : (m : Int) < (xs.length : Int) := by omega
          obtain ⟨ad, rfl, cA, cB⟩ := ((HX.out.below HB1.out).below HBr.out).cell m hml
          have HTk : Off (turnTo f xs (k + 1) = turnTo f xs k ++ [((xs.getD m (0, 0)).1, (xs.getD m (0, 0)).2)]) := ⟨by rw [turnTo, ← hm]⟩
          have HLn : Off ((turnTo f xs k).length ≤ 1000) := ⟨by rw [turnTo_len]; omega⟩
          obtain ⟨z, hz⟩ : ∃ z, z = xs.getD m (0, 0) := ⟨_, rfl⟩
          rw [← hz] at cA cB HTk
          have HOa := Off.mk HO.out
          clear hz hm
          go_wp2_with (at_builtin; refine wpList_pair Try.underlying22 hi hz0 hz1 hz2 rfl rfl _ _ rfl w1.heap.size _ _ z.1 z.2 HOa.out HBr.out.size HLn.out rfl rfl ?_)
          intro v3 w3 hO3 hb3 _
          rw [← HTk.out] at hO3
          have HO3 := Off.mk hO3
          have HB3 := Off.mk (HBr.out.trans hb3)
          clear hO3 hb3
          go_wp2
          go_roundw
          case rel => exact ⟨k + 1, by omega, by go_num, HO3, HB3⟩
          case measure => simp only [intOf]; omega
        · obtain rfl : k = xs.length := by omega
          obtain ⟨T, hT⟩ : ∃ T, T = turnTo f xs xs.length := ⟨_, rfl⟩
          have HTA := Off.mk (HT.out T hT)
          have hTl : T.length = xs.length := by rw [hT, turnTo_len]
          have hO := HO.out
          rw [← hT] at hO
          obtain ⟨A1, k1, rfl, hI1, _⟩ := ownQ_pairs hO (by omega)
          have HI1 := Off.mk hI1
          have HB2 := Off.mk (Below.trans HB1.out (HBr.out.mono HB1.out.size))
          have c0 := cellB HBr.out c0
          have c1 := cellB HBr.out c1
          have c2 := cellB HBr.out c2
          have c3 := cellB HBr.out c3
          have CTA := Off.mk (fun W (hb : Below wo.heap.size wo W) => CAy.out T HTA.out A1 k1 W (HI1.out.below hb))
          have CTC := Off.mk (fun W (hb : Below wo.heap.size wo W) => CCy.out T HTA.out A1 k1 W (HI1.out.below hb))
          have CTV := Off.mk (fun W (hb : Below wo.heap.size wo W) => CVy.out T HTA.out A1 k1 W (HI1.out.below hb))
          have hlt' : ¬ (xs.length : Int) < (xs.length : Int) := by omega
          clear hT hTl hO hI1 HO
          go_wp2_with fail
          refine (CS.out _ HB2.out).mono ?_
          rintro e w4 ⟨hres, hb4⟩
          obtain ⟨us, rfl, hOs⟩ := hres
          have HB4 := Off.mk (belowC HB2.out hb4)
          have HR4 := Off.mk hb4
          have HOs := Off.mk hOs
          clear hb4 hOs
          rcases HYS.out with ⟨e0, hal, h60⟩ | e2
          · obtain ⟨A2, k2, rfl, hI2, _⟩ := ownQ_pairs HOs.out (by omega)
            have HAL := Off.mk hal
            have HI2 := Off.mk hI2
            have CYA := Off.mk (fun W (hb : Below w4.heap.size w4 W) => CAy.out ys.1 HAL.out A2 k2 W (HI2.out.below hb))
            have CYC := Off.mk (fun W (hb : Below w4.heap.size w4 W) => CCy.out ys.1 HAL.out A2 k2 W (HI2.out.below hb))
            have CYV := Off.mk (fun W (hb : Below w4.heap.size w4 W) => CVy.out ys.1 HAL.out A2 k2 W (HI2.out.below hb))
            clear hal hI2 h60
            have HS4 := Off.mk (Below.refl w4.heap.size w4)
            have HWo := HR4
            go_wp2_with fail
            refine (CA.out _ HB4.out).mono ?_
            rintro e w5 ⟨rfl, hb5⟩
            have HB5 := Off.mk (belowC HB4.out hb5)
            have HS5 := Off.mk (belowC HS4.out hb5)
            have HWo5 := Off.mk (belowC HWo.out hb5)
            clear hb5
            go_wp2_with fail
            refine (CC.out _ HB5.out).mono ?_
            rintro e w6 ⟨rfl, hb6⟩
            have HB6 := Off.mk (belowC HB5.out hb6)
            have HS6 := Off.mk (belowC HS5.out hb6)
            have HWo6 := Off.mk (belowC HWo5.out hb6)
            clear hb6
            go_wp2_with fail
            refine (CV.out _ HB6.out).mono ?_
            rintro e w7 ⟨rfl, hb7⟩
            have HB7 := Off.mk (belowC HB6.out hb7)
            have HS7 := Off.mk (belowC HS6.out hb7)
            have HWo7 := Off.mk (belowC HWo6.out hb7)
            clear hb7
            go_wp2_with fail
            refine (CYA.out _ HS7.out).mono ?_
            rintro e w8 ⟨rfl, hb8⟩
            have HB8 := Off.mk (belowC HB7.out hb8)
            have HS8 := Off.mk (belowC HS7.out hb8)
            have HWo8 := Off.mk (belowC HWo7.out hb8)
            clear hb8
            go_wp2_with fail
            refine (CYC.out _ HS8.out).mono ?_
            rintro e w9 ⟨rfl, hb9⟩
            have HB9 := Off.mk (belowC HB8.out hb9)
            have HS9 := Off.mk (belowC HS8.out hb9)
            have HWo9 := Off.mk (belowC HWo8.out hb9)
            clear hb9
            go_wp2_with fail
            refine (CYV.out _ HS9.out).mono ?_
            rintro e w10 ⟨rfl, hb10⟩
            have HB10 := Off.mk (belowC HB9.out hb10)
            have HS10 := Off.mk (belowC HS9.out hb10)
            have HWo10 := Off.mk (belowC HWo9.out hb10)
            clear hb10
            go_wp2_with fail
            refine (CTA.out _ HWo10.out).mono ?_
            rintro e w11 ⟨rfl, hb11⟩
            have HB11 := Off.mk (belowC HB10.out hb11)
            have HS11 := Off.mk (belowC HS10.out hb11)
            have HWo11 := Off.mk (belowC HWo10.out hb11)
            clear hb11
            go_wp2_with fail
            refine (CTC.out _ HWo11.out).mono ?_
            rintro e w12 ⟨rfl, hb12⟩
            have HB12 := Off.mk (belowC HB11.out hb12)
            have HS12 := Off.mk (belowC HS11.out hb12)
            have HWo12 := Off.mk (belowC HWo11.out hb12)
            clear hb12
            go_wp2_with fail
            refine (CTV.out _ HWo12.out).mono ?_
            rintro e w13 ⟨rfl, hb13⟩
            have HB13 := Off.mk (belowC HB12.out hb13)
            have HS13 := Off.mk (belowC HS12.out hb13)
            have HWo13 := Off.mk (belowC HWo12.out hb13)
            clear hb13
            go_wp2_with fail
            refine (alive_any _).mono ?_
            rintro e w15 ⟨rfl, hb15⟩
            go_wp2
            go_ret
            exact ⟨rfl, belowC (HB.out.trans (HB13.out.mono HB.out.size)) hb15⟩
          · have CYA := Off.mk (fun W (hb : Below w4.heap.size w4 W) => CTA.out W (belowC HR4.out hb))
            have CYC := Off.mk (fun W (hb : Below w4.heap.size w4 W) => CTC.out W (belowC HR4.out hb))
            have CYV := Off.mk (fun W (hb : Below w4.heap.size w4 W) => CTV.out W (belowC HR4.out hb))
            have HS4 := Off.mk (Below.refl w4.heap.size w4)
            have HWo := HR4
            go_wp2_with fail
            refine (CA.out _ HB4.out).mono ?_
            rintro e w5 ⟨rfl, hb5⟩
            have HB5 := Off.mk (belowC HB4.out hb5)
            have HS5 := Off.mk (belowC HS4.out hb5)
            have HWo5 := Off.mk (belowC HWo.out hb5)
            clear hb5
            go_wp2_with fail
            refine (CC.out _ HB5.out).mono ?_
            rintro e w6 ⟨rfl, hb6⟩
            have HB6 := Off.mk (belowC HB5.out hb6)
            have HS6 := Off.mk (belowC HS5.out hb6)
            have HWo6 := Off.mk (belowC HWo5.out hb6)
            clear hb6
            go_wp2_with fail
            refine (CV.out _ HB6.out).mono ?_
            rintro e w7 ⟨rfl, hb7⟩
            have HB7 := Off.mk (belowC HB6.out hb7)
            have HS7 := Off.mk (belowC HS6.out hb7)
            have HWo7 := Off.mk (belowC HWo6.out hb7)
            clear hb7
            go_wp2_with fail
            refine (CYA.out _ HS7.out).mono ?_
            rintro e w8 ⟨rfl, hb8⟩
            have HB8 := Off.mk (belowC HB7.out hb8)
            have HS8 := Off.mk (belowC HS7.out hb8)
            have HWo8 := Off.mk (belowC HWo7.out hb8)
            clear hb8
            go_wp2_with fail
            refine (CYC.out _ HS8.out).mono ?_
            rintro e w9 ⟨rfl, hb9⟩
            have HB9 := Off.mk (belowC HB8.out hb9)
            have HS9 := Off.mk (belowC HS8.out hb9)
            have HWo9 := Off.mk (belowC HWo8.out hb9)
            clear hb9
            go_wp2_with fail
            refine (CYV.out _ HS9.out).mono ?_
            rintro e w10 ⟨rfl, hb10⟩
            have HB10 := Off.mk (belowC HB9.out hb10)
            have HS10 := Off.mk (belowC HS9.out hb10)
            have HWo10 := Off.mk (belowC HWo9.out hb10)
            clear hb10
            go_wp2_with fail
            refine (CTA.out _ HWo10.out).mono ?_
            rintro e w11 ⟨rfl, hb11⟩
            have HB11 := Off.mk (belowC HB10.out hb11)
            have HS11 := Off.mk (belowC HS10.out hb11)
            have HWo11 := Off.mk (belowC HWo10.out hb11)
            clear hb11
            go_wp2_with fail
            refine (CTC.out _ HWo11.out).mono ?_
            rintro e w12 ⟨rfl, hb12⟩
            have HB12 := Off.mk (belowC HB11.out hb12)
            have HS12 := Off.mk (belowC HS11.out hb12)
            have HWo12 := Off.mk (belowC HWo11.out hb12)
            clear hb12
            go_wp2_with fail
            refine (CTV.out _ HWo12.out).mono ?_
            rintro e w13 ⟨rfl, hb13⟩
            have HB13 := Off.mk (belowC HB12.out hb13)
            have HS13 := Off.mk (belowC HS12.out hb13)
            have HWo13 := Off.mk (belowC HWo12.out hb13)
            clear hb13
            go_wp2_with fail
            refine (alive_any _).mono ?_
            rintro e w15 ⟨rfl, hb15⟩
            go_wp2
            go_ret
            exact ⟨rfl, belowC (HB.out.trans (HB13.out.mono HB.out.size)) hb15⟩
  · have CF := Off.mk (few_any xs A c false (decide_eq_false hf) W0)
    clear hx hf hbx
    go_enter Try.func11, Try.ntmps11
    go_wp2_with fail
    refine CF.out.mono ?_
    rintro e w0 ⟨rfl, hw0⟩
    subst w0
    go_wp2_with fail
    refine (alive_any _).mono ?_
    rintro e w3 ⟨rfl, hb3⟩
    go_wp2
    go_ret
    exact ⟨rfl, belowC HB.out hb3⟩
end Go.Proofs.Ytbpmiphipjkdlaa
