/- Contracts: the specification's triangles, Triangles, Round. -/
import Derived.Test.YtddcdopimpfhcaaCc
namespace Go.Proofs.Ytddcdopimpfhcaa
open Go.RowKit Go.Shelf

def rjn (n : Nat) (l : List (Int × Int)) (a b : Nat) : Bool := rnearB n l a b
set_option maxHeartbeats 4000000 in
theorem rtriangles_any (n : Nat) (l : List (Int × Int)) (A : Option Addr) (c : Nat) (hn : 3 ≤ n ∧ n ≤ 12) (w : World) (hx : PairsI w A l) :
    Calls Try.prog 52 #[.int .i64 (n : Int), .slice A l.length c] w fun e w' => ∃ v, e = .returned v ∧ OwnT w' w.heap.size v (trisOf (rjn n l) n) ∧ Below w.heap.size w w' := by
  obtain ⟨h3, h12⟩ := hn
  have CJ : Off (∀ W, Below w.heap.size w W → ∀ a b : Nat, a < n → b < n → ∀ v, rjn n l a b = v → Calls Try.prog 34 #[.int .i64 (n : Int), .slice A l.length c, .int .i64 (a : Int), .int .i64 (b : Int)] W fun e w' => e = .returned (.bool v) ∧ Below W.heap.size W w') :=
    ⟨fun W hW a b ha hb v hv => (near_any n a b l A c v hv (by omega) ha hb W (hx.below hW)).mono fun e w' ⟨h1, h2⟩ => ⟨h1, by subst h2; exact Below.refl _ _⟩⟩
  have HT : Off (trisOf (rjn n l) n = triA (rjn n l) n n) := ⟨rfl⟩
  obtain ⟨J, hJ⟩ : ∃ J, J = rjn n l := ⟨_, rfl⟩
  rw [← hJ] at CJ HT
  rw [show rjn n l = J from hJ.symm]
  clear hJ hx
  have hlens : Off (∀ a b k : Nat, a < n → b ≤ n → k ≤ n → (triA J n a ++ (triB J n a b ++ triC J a b k)).length ≤ 2500) := ⟨fun a b k ha hb hk => by
    have h1 := triA_len J n a
    have h2 := triB_len J n a b
    have h3 := triC_len J a b k
    have e1 : n * n ≤ 12 * 12 := Nat.mul_le_mul h12 h12
    have e2 : a * (n * n) ≤ 11 * (12 * 12) := Nat.mul_le_mul (by omega) e1
    have e3 : b * n ≤ 12 * 12 := Nat.mul_le_mul (by omega) h12
    simp only [List.length_append]
    omega⟩
  go_enter Try.func52, Try.ntmps52
  go_wp2
  go_loopw [5, 6] (fun v av wr => ∃ a : Nat, a ≤ n ∧ av = .int .i64 a ∧ Off (OwnT wr w.heap.size v (triA J n a)) ∧ Off (Below w.heap.size w wr)) (fun _ av _ => n - (intOf av).toNat)
  case atStart => exact ⟨0, by omega, rfl, ⟨ownT_nil _ _⟩, ⟨Below.refl _ _⟩⟩
  case round =>
    obtain ⟨a, ha, rfl, HO, HB⟩ := hrel
    obtain ⟨wa, rfl⟩ : ∃ wo : World, wo = wr := ⟨_, rfl⟩
    by_cases han : a < n
    · have HO1 : Off (OwnT wa w.heap.size u5 (triA J n a ++ triB J n a (a + 1))) := ⟨by rw [triB_low J n a (a + 1) (by omega), List.append_nil]; exact HO.out⟩
      clear HO
      go_wp2
      go_loopw [5, 7] (fun v bv wr => ∃ b : Nat, a < b ∧ b ≤ n ∧ bv = .int .i64 b ∧ Off (OwnT wr w.heap.size v (triA J n a ++ triB J n a b)) ∧ Off (Below w.heap.size w wr)) (fun _ bv _ => n - (intOf bv).toNat)
      case atStart => exact ⟨a + 1, by omega, by omega, by go_num, HO1, HB⟩
      case round =>
        clear HO1 HB
        obtain ⟨b, hab, hb, rfl, HO, HB⟩ := hrel
        obtain ⟨wb, rfl⟩ : ∃ wo : World, wo = wr := ⟨_, rfl⟩
        by_cases hbn : b < n
        · have HO1 : Off (OwnT wb w.heap.size u5 (triA J n a ++ (triB J n a b ++ triC J a b (b + 1)))) := ⟨by rw [triC_low J a b (b + 1) (by omega), List.append_nil]; exact HO.out⟩
          have HE : Off (triA J n a ++ triB J n a (b + 1) = triA J n a ++ (triB J n a b ++ triC J a b n)) := ⟨by rw [triB, if_pos hab]⟩
          clear HO
          go_wp2
          go_loopw [5, 8] (fun v cv wr => ∃ k : Nat, b < k ∧ k ≤ n ∧ cv = .int .i64 k ∧ Off (OwnT wr w.heap.size v (triA J n a ++ (triB J n a b ++ triC J a b k))) ∧ Off (Below w.heap.size w wr)) (fun _ cv _ => n - (intOf cv).toNat)
          case atStart => exact ⟨b + 1, by omega, by omega, by go_num, HO1, HB⟩
          case round =>
            clear HO1 HB
            obtain ⟨k, hbk, hk, rfl, HO, HB⟩ := hrel
            obtain ⟨wc, rfl⟩ : ∃ wo : World, wo = wr := ⟨_, rfl⟩
            by_cases hkn : k < n
            · have C1 := Off.mk (fun W hW => CJ.out W hW a b han hbn)
              have C2 := Off.mk (fun W hW => CJ.out W hW b k hbn hkn)
              have C3 := Off.mk (fun W hW => CJ.out W hW a k han hkn)
              have HS : Off (triA J n a ++ (triB J n a b ++ triC J a b (k + 1)) = (triA J n a ++ (triB J n a b ++ triC J a b k)) ++ if b < k ∧ J a b = true ∧ J b k = true ∧ J a k = true then [(a, b, k)] else []) := ⟨by rw [triC]; simp only [List.append_assoc]⟩
              have hl := hlens.out a b k han hb hk
              obtain ⟨ys, hys⟩ : ∃ ys, ys = triA J n a ++ (triB J n a b ++ triC J a b k) := ⟨_, rfl⟩
              rw [← hys] at HS HO hl
              clear hys HE
              obtain ⟨j1, h1⟩ : ∃ x, J a b = x := ⟨_, rfl⟩
              obtain ⟨j2, h2⟩ : ∃ x, J b k = x := ⟨_, rfl⟩
              obtain ⟨j3, h3'⟩ : ∃ x, J a k = x := ⟨_, rfl⟩
              have D1 := Off.mk (fun W hW => C1.out W hW j1 h1)
              have D2 := Off.mk (fun W hW => C2.out W hW j2 h2)
              have D3 := Off.mk (fun W hW => C3.out W hW j3 h3')
              rw [h1, h2, h3'] at HS
              clear C1 C2 C3 h1 h2 h3'
              cases j1
              · have HN : Off (triA J n a ++ (triB J n a b ++ triC J a b (k + 1)) = ys) := ⟨by rw [HS.out]; simp⟩
                clear D2 D3 HS
                go_wp2_with (go_at_call 34; refine (D1.out _ HB.out).mono ?_; rintro e w1 ⟨rfl, hb1⟩)
                go_roundw
                case rel => exact ⟨k + 1, by omega, by omega, by go_num, ⟨by rw [HN.out]; exact ownT_below HO.out hb1⟩, ⟨belowC HB.out hb1⟩⟩
                case measure => simp only [intOf]; omega
              · cases j2
                · have HN : Off (triA J n a ++ (triB J n a b ++ triC J a b (k + 1)) = ys) := ⟨by rw [HS.out]; simp⟩
                  clear D3 HS
                  go_wp2_with fail
                  refine (D1.out _ HB.out).mono ?_
                  rintro e w1 ⟨rfl, hb1⟩
                  have HB1 := Off.mk (belowC HB.out hb1)
                  have HO1 := Off.mk (ownT_below HO.out hb1)
                  clear hb1 HB HO
                  go_wp2_with (go_at_call 34; refine (D2.out _ HB1.out).mono ?_; rintro e w2 ⟨rfl, hb2⟩)
                  go_roundw
                  case rel => exact ⟨k + 1, by omega, by omega, by go_num, ⟨by rw [HN.out]; exact ownT_below HO1.out hb2⟩, ⟨belowC HB1.out hb2⟩⟩
                  case measure => simp only [intOf]; omega
                · go_wp2_with fail
                  refine (D1.out _ HB.out).mono ?_
                  rintro e w1 ⟨rfl, hb1⟩
                  have HB1 := Off.mk (belowC HB.out hb1)
                  have HO1 := Off.mk (ownT_below HO.out hb1)
                  clear hb1 HB HO
                  go_wp2_with fail
                  refine (D2.out _ HB1.out).mono ?_
                  rintro e w2 ⟨rfl, hb2⟩
                  have HB2 := Off.mk (belowC HB1.out hb2)
                  have HO2 := Off.mk (ownT_below HO1.out hb2)
                  clear hb2 HB1 HO1
                  go_wp2_with fail
                  refine (D3.out _ HB2.out).mono ?_
                  rintro e w3 ⟨rfl, hb3⟩
                  have HB3 := Off.mk (belowC HB2.out hb3)
                  have HO3 := Off.mk (ownT_below HO2.out hb3)
                  clear hb3 HB2 HO2 D1 D2 D3
                  cases j3
                  · have HN : Off (triA J n a ++ (triB J n a b ++ triC J a b (k + 1)) = ys) := ⟨by rw [HS.out]; simp⟩
                    clear HS
                    go_wp2
                    go_roundw
                    case rel => exact ⟨k + 1, by omega, by omega, by go_num, ⟨by rw [HN.out]; exact HO3.out⟩, HB3⟩
                    case measure => simp only [intOf]; omega
                  · have HN : Off (triA J n a ++ (triB J n a b ++ triC J a b (k + 1)) = ys ++ [(a, b, k)]) := ⟨by rw [HS.out]; simp [hbk]⟩
                    clear HS
                    go_wp2_with (at_builtin; refine wpList_tri rfl _ _ rfl w.heap.size _ ys a b k HO3.out HB3.out.size (by omega) rfl rfl ?_)
                    intro v5 w5 hO5 hb5
                    have HO5 := Off.mk hO5
                    have HB5 := Off.mk (HB3.out.trans hb5)
                    clear hO5 hb5 HB3 HO3
                    go_wp2
                    go_roundw
                    case rel => exact ⟨k + 1, by omega, by omega, by go_num, ⟨by rw [HN.out]; exact HO5.out⟩, HB5⟩
                    case measure => simp only [intOf]; omega
            · obtain rfl : k = n := by omega
              go_wp2
              go_roundw
              case rel => exact ⟨b + 1, by omega, by omega, by go_num, ⟨by rw [HE.out]; exact HO.out⟩, HB⟩
              case measure => simp only [intOf]; omega
        · obtain rfl : b = n := by omega
          have HE : Off (triA J b (a + 1) = triA J b a ++ triB J b a b) := ⟨rfl⟩
          go_wp2
          go_roundw
          case rel => exact ⟨a + 1, by omega, by go_num, ⟨by rw [HE.out]; exact HO.out⟩, HB⟩
          case measure => simp only [intOf]; omega
    · obtain rfl : a = n := by omega
      go_wp2
      go_ret
      exact ⟨_, rfl, by rw [HT.out]; exact HO.out, HB.out⟩
theorem rbrand_range {n : Int} {l : List (Int × Int)} (h : rbrandB n l = true) : 3 ≤ n ∧ n ≤ 12 ∧ (l.length : Int) = n - 3 := by
  rw [rbrandB, Bool.and_eq_true] at h
  exact of_decide_eq_true h.1
theorem rTri_no (n : Int) (l : List (Int × Int)) (A : Option Addr) (c : Nat) (hv : rbrandB n l = false) (w : World) (hx : PairsI w A l) :
    Calls Try.prog 29 #[.int .i64 n, .slice A l.length c] w fun e w' => e = .returned (.tuple #[.slice none 0 0, .int .i64 2]) ∧ Below w.heap.size w w' := by
  have CB := Off.mk (rbrand_any n l A c false hv w hx)
  clear hx hv
  go_enter Try.func29, Try.ntmps29
  go_wp2_with (go_at_call 25; refine CB.out.mono ?_; rintro e w1 ⟨rfl, hb1⟩)
  go_ret2
  exact ⟨rfl, hb1⟩
theorem rTri_yes (n : Nat) (l : List (Int × Int)) (A : Option Addr) (c : Nat) (hv : rbrandB n l = true) (w : World) (hx : PairsI w A l) :
    Calls Try.prog 29 #[.int .i64 (n : Int), .slice A l.length c] w fun e w' => ∃ v, e = .returned (.tuple #[v, .int .i64 0]) ∧ OwnT w' w.heap.size v (trisOf (rjn n l) n) ∧ Below w.heap.size w w' := by
  have hr := rbrand_range hv
  have CB := Off.mk (rbrand_any n l A c true hv w hx)
  have CT := Off.mk (fun W (hW : Below w.heap.size w W) => rtriangles_any n l A c (by omega) W (hx.below hW))
  obtain ⟨ts, hts⟩ : ∃ ts, ts = trisOf (rjn n l) n := ⟨_, rfl⟩
  rw [← hts] at CT ⊢
  clear hx hv hr hts
  go_enter Try.func29, Try.ntmps29
  go_wp2_with fail
  refine CB.out.mono ?_
  rintro e w1 ⟨rfl, hb1⟩
  have HB1 := Off.mk hb1
  clear hb1
  go_wp2_with (go_at_call 52; refine (CT.out _ HB1.out).mono ?_; rintro e w2 ⟨v2, rfl, hO2, hb2⟩)
  go_ret2
  exact ⟨v2, rfl, ownT_mono hO2 HB1.out.size, belowC HB1.out hb2⟩

/-- How many triangles of the specification have each corner. -/
def rroundOf (n : Nat) (l : List (Int × Int)) : List Int := roundTo (trisOf (rjn n l) n) n (trisOf (rjn n l) n).length
theorem rRound_no (n : Int) (l : List (Int × Int)) (A : Option Addr) (c : Nat) (hv : rbrandB n l = false) (w : World) (hx : PairsI w A l) :
    Calls Try.prog 31 #[.int .i64 n, .slice A l.length c] w fun e w' => e = .returned (.tuple #[.slice none 0 0, .int .i64 2]) ∧ Below w.heap.size w w' := by
  have CB := Off.mk (rbrand_any n l A c false hv w hx)
  clear hx hv
  go_enter Try.func31, Try.ntmps31
  go_wp2_with (go_at_call 25; refine CB.out.mono ?_; rintro e w1 ⟨rfl, hb1⟩)
  go_ret2
  exact ⟨rfl, hb1⟩
set_option maxHeartbeats 4000000 in
theorem rRound_yes (n : Nat) (l : List (Int × Int)) (A : Option Addr) (c : Nat) (hv : rbrandB n l = true) (w : World) (hx : PairsI w A l) :
    Calls Try.prog 31 #[.int .i64 (n : Int), .slice A l.length c] w fun e w' => ∃ v, e = .returned (.tuple #[v, .int .i64 0]) ∧ Own w' w.heap.size v (rroundOf n l) ∧ Below w.heap.size w w' := by
  have hr := rbrand_range hv
  have CB := Off.mk (rbrand_any n l A c true hv w hx)
  have CT := Off.mk (fun W (hW : Below w.heap.size w W) => rtriangles_any n l A c (by omega) W (hx.below hW))
  obtain ⟨i0, hi, hz0, hz1, hz2⟩ := info_parts info3
  have hl12 := trisOf_len (rjn n l) n (by omega)
  have HR : Off (∀ t, t ∈ trisOf (rjn n l) n → t.1 < n ∧ t.2.1 < n ∧ t.2.2 < n) := ⟨fun t h => trisOf_range _ _ h⟩
  have HD : Off (rroundOf n l = roundTo (trisOf (rjn n l) n) n (trisOf (rjn n l) n).length) := ⟨rfl⟩
  have hn12 : n ≤ 12 := by omega
  obtain ⟨ts, hts⟩ : ∃ ts, ts = trisOf (rjn n l) n := ⟨_, rfl⟩
  rw [← hts] at CT hl12 HR HD
  clear hx hv hr hts
  go_enter Try.func31, Try.ntmps31
  go_wp2_with fail
  refine CB.out.mono ?_
  rintro e w1 ⟨rfl, hb1⟩
  have HB1 := Off.mk hb1
  clear hb1 CB
  go_wp2_with (at_make; refine wpList_make_full _ rfl _ _ 45 rfl w.heap.size 3 i0 (.int .i64 0) 1 Try.underlying45 hi hz0 hz1 .i64 .i64 n n n rfl rfl rfl rfl (by rw [hz2]; omega) (by unfold maxLen; omega) HB1.out.size ?_; intro w2 hown2 hg2; rw [made_ints] at hown2)
  have hR2 : IRow w2 w.heap.size w1.heap.size n n (roundTo ts n 0) := ⟨roundTo_len _ _ _, by rw [roundTo, nums_replicate]; exact hown2⟩
  have HB2 := Off.mk (HB1.out.grown hg2 HB1.out.size (fun _ e => by cases e))
  obtain ⟨r, hr⟩ : ∃ r, r = w1.heap.size := ⟨_, rfl⟩
  have HR2 := Off.mk hR2
  rw [← hr] at HR2 ⊢
  have Hr : Off (w.heap.size ≤ r) := ⟨by rw [hr]; exact HB1.out.size⟩
  clear hown2 hg2 hr hR2
  go_wp2_with fail
  refine (CT.out _ HB2.out).mono ?_
  rintro e w3 ⟨v3, rfl, hO3, hb3⟩
  obtain ⟨A3, c3, rfl, hT3⟩ := ownT_tris hO3 (by omega)
  have HT3 := Off.mk hT3
  have HB3 := Off.mk (belowC HB2.out hb3)
  have HR3 := Off.mk (HR2.out.below hb3)
  have Hr3 : Off (r < w2.heap.size) := ⟨HR2.out.lt⟩
  have HN : Off (∀ j, j < ts.length → ∀ ad, A3 = some ad → ad.block ≠ r) := ⟨fun j hj ad e => by
    subst e
    have := ownT_base hO3 (k := ad.block) (by rcases hO3.out.2 with ⟨e, _⟩ | ⟨g, cap, cur, e, _⟩ <;> simp at e <;> simp [Value.ownBlock, e])
    have := Hr3.out
    omega⟩
  clear hO3 hT3 hb3 HB2 HR2 CT
  go_wp2
  have hz8 : ∀ x : Nat, x < n → (0 : Int) ≤ (x : Int) ∧ (x : Int) < (n : Int) := fun x hx => by omega
  have HZ8 := Off.mk hz8
  clear hz8
  go_loopw [8] (fun kv wr => ∃ k : Nat, k ≤ ts.length ∧ kv = .int .i64 k ∧ Off (IRow wr w.heap.size r n n (roundTo ts n k)) ∧ Off (Keeps r w3 wr)) (fun kv _ => ts.length - (intOf kv).toNat)
  case atStart => exact ⟨0, by omega, rfl, HR3, ⟨Keeps.refl _ _⟩⟩
  case round =>
    clear HR3
    obtain ⟨k, hk, rfl, HI, HK⟩ := hrel
    by_cases hkt : k < ts.length
    · obtain ⟨ad, rfl, c0, c1, c2⟩ := HT3.out.cell k hkt
      have hne := HN.out k hkt ad rfl
      have c0 := HK.out.cell c0 (by rw [addr_block]; exact hne)
      have c1 := HK.out.cell c1 (by show (ad.add (k * 3)).block ≠ r; rw [addr_block]; exact hne)
      have c2 := HK.out.cell c2 (by show (ad.add (k * 3)).block ≠ r; rw [addr_block]; exact hne)
      have ht : ts.getD k (0, 0, 0) ∈ ts := by rw [List.getD_eq_getElem?_getD, List.getElem?_eq_getElem hkt]; exact List.getElem_mem hkt
      have hrt := HR.out _ ht
      have HE : Off (roundTo ts n (k + 1) = bumps (roundTo ts n k) (ts.getD k (0, 0, 0)) 3) := ⟨rfl⟩
      obtain ⟨t, htt⟩ : ∃ t, t = ts.getD k (0, 0, 0) := ⟨_, rfl⟩
      rw [← htt] at c0 c1 c2 hrt HE
      have hrg := roundTo_range ts n k
      have hrlen := roundTo_len ts n k
      obtain ⟨o, ho⟩ : ∃ o, o = roundTo ts n k := ⟨_, rfl⟩
      rw [← ho] at hrg HE HI hrlen
      have HG : Off (∀ j i, 0 ≤ (bumps o t j).getD i 0 ∧ (bumps o t j).getD i 0 ≤ 10000) := ⟨fun j i => by
        have := bumps_range o t (3 * k) hrg j i
        omega⟩
      have HL : Off (o.length = n) := ⟨hrlen⟩
      have hkI : (k : Int) < (ts.length : Int) := by omega
      have HI0 : Off (IRow wr w.heap.size r n n (bumps o t 0)) := HI
      have HK0 := HK
      have HTA : Off (t.1 < n ∧ t.2.1 < n ∧ t.2.2 < n) := ⟨hrt⟩
      have HC := Off.mk (And.intro c0 (And.intro c1 c2))
      have HK00 := HK
      have HTW : Off (∀ W, Keeps r wr W → W.cell? (ad.add (k * 3)) = some (.int .i64 (t.1 : Int)) ∧ W.cell? ⟨(ad.add (k * 3)).block, (ad.add (k * 3)).off + 1, none⟩ = some (.int .i64 (t.2.1 : Int)) ∧ W.cell? ⟨(ad.add (k * 3)).block, (ad.add (k * 3)).off + 2, none⟩ = some (.int .i64 (t.2.2 : Int))) := ⟨fun W hW => ⟨hW.cell HC.out.1 (by rw [addr_block]; exact hne), hW.cell HC.out.2.1 (by show (ad.add (k * 3)).block ≠ r; rw [addr_block]; exact hne), hW.cell HC.out.2.2 (by show (ad.add (k * 3)).block ≠ r; rw [addr_block]; exact hne)⟩⟩
      have hk0 : (0 : Int) ≤ (k : Int) := by omega
      clear htt ho hrg hrlen ht hrt HI HC c0 c1 c2
      go_wp2
      go_loopw [9] (fun jv wq => ∃ j : Nat, j ≤ 3 ∧ jv = .int .i64 j ∧ Off (IRow wq w.heap.size r n n (bumps o t j)) ∧ Off (Keeps r wr wq)) (fun jv _ => 3 - (intOf jv).toNat)
      case atStart => exact ⟨0, by omega, rfl, HI0, ⟨Keeps.refl _ _⟩⟩
      case round =>
        clear HI0
        obtain ⟨j, hj, rfl, HI, HKj⟩ := hrel
        obtain ⟨c0, c1, c2⟩ := HTW.out _ HKj.out
        by_cases hj3 : j < 3
        · have HS := Off.mk (bumps_succ o t j hj3)
          have ha : triAt t j < n := by have := HTA.out; rcases j with _ | _ | _ | j <;> simp only [triAt] <;> omega
          have hx := HI.out.cell ha
          have hf := HI.out.frozen (triAt t j)
          have hg := HG.out j (triAt t j)
          have HB' : Off (bumps o t (j + 1) = (bumps o t j).set (triAt t j) ((bumps o t j).getD (triAt t j) 0 + 1)) := HS
          obtain ⟨x, hxx⟩ : ∃ x, x = (bumps o t j).getD (triAt t j) 0 := ⟨_, rfl⟩
          rw [← hxx] at hx hg HB'
          have ha2 := HZ8.out _ ha
          have ha0 := ha2.1
          have ha1 := ha2.2
          have HI2 := Off.mk (HI.out.stored (triAt t j) (x + 1))
          clear hxx HS ha2
          obtain rfl | rfl | rfl : j = 0 ∨ j = 1 ∨ j = 2 := by omega
          · simp only [triAt] at hx hf ha0 ha1 ha HI2 HB' hg
            go_wp2
            go_roundw
            case rel => exact ⟨1, by omega, by go_num, ⟨by rw [HB'.out]; exact HI2.out.1⟩, ⟨HKj.out.trans HI2.out.2⟩⟩
            case measure => simp only [intOf]; omega
          · simp only [triAt] at hx hf ha0 ha1 ha HI2 HB' hg
            go_wp2
            go_roundw
            case rel => exact ⟨2, by omega, by go_num, ⟨by rw [HB'.out]; exact HI2.out.1⟩, ⟨HKj.out.trans HI2.out.2⟩⟩
            case measure => simp only [intOf]; omega
          · simp only [triAt] at hx hf ha0 ha1 ha HI2 HB' hg
            go_wp2
            go_roundw
            case rel => exact ⟨3, by omega, by go_num, ⟨by rw [HB'.out]; exact HI2.out.1⟩, ⟨HKj.out.trans HI2.out.2⟩⟩
            case measure => simp only [intOf]; omega
        · obtain rfl : j = 3 := by omega
          go_wp2
          go_roundw
          case rel => exact ⟨k + 1, by omega, by go_num, ⟨by rw [HE.out]; exact HI.out⟩, ⟨HK00.out.trans HKj.out⟩⟩
          case measure => simp only [intOf]; omega
    · obtain rfl : k = ts.length := by omega
      have HF : Off (Below w.heap.size w wr) := ⟨Keeps.below HB3.out HK.out HB3.out.size Hr.out⟩
      go_wp2
      go_ret2
      exact ⟨_, rfl, by rw [HD.out]; exact HI.out.toOwn, HF.out⟩
end Go.Proofs.Ytddcdopimpfhcaa
