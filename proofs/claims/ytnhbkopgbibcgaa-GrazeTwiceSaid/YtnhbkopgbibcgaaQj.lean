/- The law GrazeTwice: its walk. -/
import Derived.Test.YtnhbkopgbibcgaaHr
import Derived.Test.YtnhbkopgbibcgaaHb
import Derived.Test.YtnhbkopgbibcgaaHv
import Derived.Test.YtnhbkopgbibcgaaHo
namespace Go.Proofs.Ytnhbkopgbibcgaa
open Go.RowKit Go.Shelf

/-- Turns hands back a list. -/
theorem turns_gets {a b : Int} {l : List Int} {xs : List (Int × Int)} {w : World} {e : Ending} {w' : World} (hE : turnsErr a b l xs = 0) (hl : l.length ≤ 100) (h : TurnsPost a b l xs w e w') : Gets (turnsP xs l) 0 w e w' := by
  obtain ⟨v, rfl, hO, hb⟩ := h
  rw [hE, if_pos rfl] at hO
  have hlen : (turnsP xs l).length = l.length := turnsTo_length _ _ _
  obtain ⟨A, c, rfl, hI, h2, h3⟩ := own_ints' hO (by omega)
  exact ⟨A, c, by rw [hE], hI, h2, h3, hb⟩
theorem err_two {n m : Nat} {l : List Int} {xs : List (Int × Int)} (hk : askedB n m l = true) (hx : xs.length ≤ 200) (ho : outB n m xs = false) : turnsErr n m l xs = 0 := by
  unfold turnsErr
  rw [hk, if_pos rfl, if_neg (by omega), ho]
  rfl
theorem pairs_lit (w : World) (x y z t : Int) : PairsI (w.alloc (.cells #[.int .i64 x, .int .i64 y, .int .i64 z, .int .i64 t] 43)) (some ⟨w.heap.size, 0, none⟩) [(x, y), (z, t)] := by
  obtain ⟨⟨c0, c1, c2, c3⟩, _⟩ := four_facts (block_new w (.cells #[.int .i64 x, .int .i64 y, .int .i64 z, .int .i64 t] 43))
  refine ⟨by simp, fun j hj => ⟨_, rfl, ?_, ?_⟩⟩
  · rw [Addr.add_lit, Nat.zero_add]
    match j, hj with
    | 0, _ => exact c0
    | 1, _ => exact c2
  · rw [Addr.add_lit, Nat.zero_add]
    match j, hj with
    | 0, _ => exact c1
    | 1, _ => exact c3

set_option maxHeartbeats 4000000 in
set_option maxRecDepth 100000 in
theorem twice_walk (a b : Int) (l : List Int) (A : Option Addr) (c : Nat) (f g : Int) (w : World) (hI : l.length ≤ 140737488351232 → IntsAt w A l) (hlc : l.length ≤ c) (hA : A = none → c = 0) (hf : 0 ≤ f ∧ f < 65536) (hg : 0 ≤ g ∧ g < 65536) :
    Calls Try.prog 8 #[.int .i64 a, .int .i64 b, .slice A l.length c, .int .u16 f, .int .u16 g] w fun e w' => e = .returned (.bool true) ∧ Below w.heap.size w w' := by
  by_cases h20 : 20 < l.length
  · clear hI hA hlc hf hg
    go_enter Try.func8, Try.ntmps8
    go_wp2_with (go_at_call 17; refine (alive_any _).mono ?_; rintro e w2 ⟨rfl, hb2⟩)
    go_ret
    exact ⟨rfl, hb2⟩
  · have hl := hI (by omega)
    cases hk : askedB a b l
    · have CG := Off.mk (good_any a b l A c false hk w hl)
      clear hk hI hA hlc hf hg
      go_enter Try.func8, Try.ntmps8
      go_wp2_with (first
        | (go_at_call 29; refine CG.out.mono ?_; rintro e w1 ⟨rfl, hb1⟩)
        | (go_at_call 17; refine (alive_any _).mono ?_; rintro e w2 ⟨rfl, hb2⟩))
      go_ret
      exact ⟨rfl, belowC hb1 hb2⟩
    · have CG := Off.mk (good_any a b l A c true hk w hl)
      obtain ⟨n, m, rfl, rfl, hn, hn1, hn6, hm1, hm6, hs⟩ := asked_nat hk
      obtain ⟨f, rfl⟩ : ∃ k : Nat, f = k := ⟨f.toNat, by omega⟩
      obtain ⟨g, rfl⟩ : ∃ k : Nat, g = k := ⟨g.toNat, by omega⟩
      obtain ⟨p, hp⟩ : ∃ p, p = f % n := ⟨_, rfl⟩
      obtain ⟨q, hq⟩ : ∃ q, q = f / 8 % m := ⟨_, rfl⟩
      obtain ⟨r, hr⟩ : ∃ r, r = g % n := ⟨_, rfl⟩
      obtain ⟨s, hs'⟩ : ∃ s, s = g / 8 % m := ⟨_, rfl⟩
      have hpn : p < n := by rw [hp]; exact Nat.mod_lt _ (by omega)
      have hqm : q < m := by rw [hq]; exact Nat.mod_lt _ (by omega)
      have hrn : r < n := by rw [hr]; exact Nat.mod_lt _ (by omega)
      have hsm : s < m := by rw [hs']; exact Nat.mod_lt _ (by omega)
      have has : ∀ x y : Nat, x < n → y < m → hasB n m x y = true := fun x y h1 h2 => decide_eq_true ⟨⟨by omega, by omega⟩, by omega, by omega⟩
      have hout : ∀ x y z t : Nat, x < n → y < m → z < n → t < m → outB n m [((x : Int), (y : Int)), ((z : Int), (t : Int))] = false := fun x y z t h1 h2 h3 h4 => by
        unfold outB
        simp [has x y h1 h2, has z t h3 h4]
      have hout1 : outB n m [((p : Int), (q : Int))] = false := by
        unfold outB
        simp [has p q hpn hqm]
      have tp : ∀ x y z t : Nat, turnsP [((x : Int), (y : Int)), ((z : Int), (t : Int))] l = turnS (turnS l x y) z t := fun x y z t => rfl
      have HT : Off (∀ (W : World) (P : Nat) (x y z t : Nat), x < n → y < m → z < n → t < m → Below w.heap.size w W → PairsI W (some ⟨P, 0, none⟩) [((x : Int), (y : Int)), ((z : Int), (t : Int))] → Calls Try.prog 30 #[.int .i64 (n : Int), .int .i64 (m : Int), .slice A l.length c, .slice (some ⟨P, 0, none⟩) 2 2] W fun e w' => Gets (turnS (turnS l x y) z t) 0 W e w') := ⟨fun W P x y z t h1 h2 h3 h4 hW hP => by
        have := (Turns_any n m l A c _ _ 2 W (hl.below hW) hlc hA hP).mono fun _ _ h => turns_gets (err_two hk (by simp) (hout x y z t h1 h2 h3 h4)) (by omega) h
        rw [tp] at this
        exact this⟩
      have H1 : Off (∀ (W : World), Below w.heap.size w W → Calls Try.prog 32 #[.int .i64 (n : Int), .int .i64 (m : Int), .slice A l.length c, .int .i64 (p : Int), .int .i64 (q : Int)] W fun e w' => Gets (turnS l p q) 0 W e w') := ⟨fun W hW =>
        (Turn_any n m l A c p q W (hl.below hW) hlc hA).mono fun _ _ h => turns_gets (err_two hk (by simp) hout1) (by omega) h⟩
      have hlp : l.length = n := hn
      have HS1 : Off (∀ A c W, IntsAt W A (turnS l p q) → Calls Try.prog 31 #[.int .i64 (n : Int), .int .i64 (m : Int), .slice A (turnS l p q).length c] W fun e w' => e = .returned (.bool true) ∧ Below W.heap.size W w') := ⟨fun A c W hI => by
        have := isState_any n m (turnS l p q) A c W hI
        rw [turnS_state hs p q (by omega) (by omega) (by omega)] at this
        exact this⟩
      have htw : turnS (turnS l p q) p q = l := turn_twice hs p q (by omega)
      have HTW := Off.mk htw
      have HC : Off (FarP p q r s → FarP r s p q → turnS (turnS l p q) r s = turnS (turnS l r s) p q) := ⟨turn_comm l p r q s (by omega)⟩
      obtain ⟨R1, hR1⟩ : ∃ R, R = turnS l p q := ⟨_, rfl⟩
      obtain ⟨R2, hR2⟩ : ∃ R, R = turnS (turnS l p q) r s := ⟨_, rfl⟩
      obtain ⟨R3, hR3⟩ : ∃ R, R = turnS (turnS l r s) p q := ⟨_, rfl⟩
      have Ta := Off.mk (fun W P => HT.out W P p q p q hpn hqm hpn hqm)
      have Tb := Off.mk (fun W P => HT.out W P p q r s hpn hqm hrn hsm)
      have Tc := Off.mk (fun W P => HT.out W P r s p q hrn hsm hpn hqm)
      rw [htw] at Ta
      rw [← hR2] at Tb HC
      rw [← hR3] at Tc HC
      rw [← hR1] at H1 HS1
      have V1 : Off ((f : Int).tmod (n : Int) = (p : Int)) := ⟨by rw [hp, Int.tmod_eq_emod_of_nonneg (by omega)]; simp⟩
      have V2 : Off ((IntKind.i64.wrap ((f : Int) / 8)).tmod (m : Int) = (q : Int)) := ⟨by rw [show IntKind.i64.wrap ((f : Int) / 8) = ((f / 8 : Nat) : Int) by rw [IntKind.wrap_i64]; omega, hq, Int.tmod_eq_emod_of_nonneg (by omega)]; simp⟩
      have V3 : Off ((g : Int).tmod (n : Int) = (r : Int)) := ⟨by rw [hr, Int.tmod_eq_emod_of_nonneg (by omega)]; simp⟩
      have V4 : Off ((IntKind.i64.wrap ((g : Int) / 8)).tmod (m : Int) = (s : Int)) := ⟨by rw [show IntKind.i64.wrap ((g : Int) / 8) = ((g / 8 : Nat) : Int) by rw [IntKind.wrap_i64]; omega, hs', Int.tmod_eq_emod_of_nonneg (by omega)]; simp⟩
      have HI := Off.mk hl
      clear hp hq hr hs' hR1 hR2 hR3 htw hout hout1 tp has hs hk hI HT hl hn hlp
      go_enter Try.func8, Try.ntmps8
      go_wp2_with (go_at_call 29; refine CG.out.mono ?_; rintro e w1 ⟨rfl, b1⟩)
      have X1 : IntKind.i64.wrap (f : Int) = (f : Int) := by rw [IntKind.wrap_i64]; omega
      have X2 : IntKind.i64.wrap (g : Int) = (g : Int) := by rw [IntKind.wrap_i64]; omega
      have n0 : ¬ n = 0 := by omega
      have m0 : ¬ m = 0 := by omega
      have HB := Off.mk b1
      have Q1 := Off.mk (pairs_lit)
      clear b1
      first
        | go_region_held3 (fun _ => True) (first | go_keep | trivial) (fail)
        | fail
      rw [V1.out, V2.out]
      have bp := block_new w1 (.cells #[.int .i64 (p : Int), .int .i64 (q : Int)] 43)
      have b2 := (belowA HB.out (.cells #[.int .i64 (p : Int), .int .i64 (q : Int)] 43)).drew
      obtain ⟨w2, hw2⟩ : ∃ w2, w2 = (w1.alloc (.cells #[.int .i64 (p : Int), .int .i64 (q : Int)] 43)).drew := ⟨_, rfl⟩
      have bp2 : w2.heap[w1.heap.size]? = some (.cells #[.int .i64 (p : Int), .int .i64 (q : Int)] 43 (0, 0)) := by rw [hw2]; exact bp
      rw [← hw2] at b2 ⊢
      obtain ⟨P1, hP1⟩ : ∃ P, P = w1.heap.size := ⟨_, rfl⟩
      rw [← hP1] at bp2 ⊢
      have HB := Off.mk b2
      have BP := Off.mk bp2
      clear hw2 hP1 bp b2 bp2
      go_wp2
      first
        | go_region_held3 (fun _ => True) (first | go_keep | trivial) (fail)
        | fail
      rw [V3.out, V4.out]
      have br := block_new w2 (.cells #[.int .i64 (r : Int), .int .i64 (s : Int)] 43)
      have b3 := (belowA HB.out (.cells #[.int .i64 (r : Int), .int .i64 (s : Int)] 43)).drew
      have bp3 := alloc_old (o' := .cells #[.int .i64 (r : Int), .int .i64 (s : Int)] 43) BP.out
      obtain ⟨w3, hw3⟩ : ∃ w3, w3 = (w2.alloc (.cells #[.int .i64 (r : Int), .int .i64 (s : Int)] 43)).drew := ⟨_, rfl⟩
      have br3 : w3.heap[w2.heap.size]? = some (.cells #[.int .i64 (r : Int), .int .i64 (s : Int)] 43 (0, 0)) := by rw [hw3]; exact br
      have bp3' : w3.heap[P1]? = some (.cells #[.int .i64 (p : Int), .int .i64 (q : Int)] 43 (0, 0)) := by rw [hw3]; exact bp3
      rw [← hw3] at b3 ⊢
      obtain ⟨P2, hP2⟩ : ∃ P, P = w2.heap.size := ⟨_, rfl⟩
      rw [← hP2] at br3 ⊢
      have B3 := Off.mk b3
      have BP := Off.mk bp3'
      have BR := Off.mk br3
      obtain ⟨⟨p0, p1⟩, _, _⟩ := two_facts BP.out
      obtain ⟨⟨r0, r1⟩, _, _⟩ := two_facts BR.out
      clear hw3 hP2 br b3 bp3 bp3' br3 HB
      go_wp2_with fail
      refine (Ta.out _ _ (belowA B3.out _) (pairs_lit w3 p q p q)).mono ?_
      rintro e w4 ⟨A4, c4, rfl, hI4, _, _, h4⟩
      have b4 := belowC (belowA B3.out _) h4
      have BP4 := Off.mk (blockB h4 (alloc_old BP.out))
      have BR4 := Off.mk (blockB h4 (alloc_old BR.out))
      obtain ⟨⟨p0, p1⟩, _, _⟩ := two_facts BP4.out
      obtain ⟨⟨r0, r1⟩, _, _⟩ := two_facts BR4.out
      have B4 := Off.mk b4
      have H4 := Off.mk hI4
      clear h4 b4 BP BR hI4
      go_wp2_with fail
      refine (Tb.out _ _ (belowA B4.out _) (pairs_lit w4 p q r s)).mono ?_
      rintro e w5 ⟨A5, c5, rfl, hI5, _, _, h5⟩
      have b5 := belowC (belowA B4.out _) h5
      have BP5 := Off.mk (blockB h5 (alloc_old BP4.out))
      have BR5 := Off.mk (blockB h5 (alloc_old BR4.out))
      obtain ⟨⟨p0, p1⟩, _, _⟩ := two_facts BP5.out
      obtain ⟨⟨r0, r1⟩, _, _⟩ := two_facts BR5.out
      have B5 := Off.mk b5
      have H4 := Off.mk ((H4.out.below ((Below.refl _ _).alloc (Nat.le_refl _) (.cells #[.int .i64 (p : Int), .int .i64 (q : Int), .int .i64 (r : Int), .int .i64 (s : Int)] 43))).below h5)
      have H5 := Off.mk hI5
      clear h5 b5 BP4 BR4 hI5 B4
      go_wp2_with fail
      refine (Tc.out _ _ (belowA B5.out _) (pairs_lit w5 r s p q)).mono ?_
      rintro e w6 ⟨A6, c6, rfl, hI6, _, _, h6⟩
      have b6 := belowC (belowA B5.out _) h6
      have BP6 := Off.mk (blockB h6 (alloc_old BP5.out))
      have BR6 := Off.mk (blockB h6 (alloc_old BR5.out))
      obtain ⟨⟨p0, p1⟩, _, _⟩ := two_facts BP6.out
      obtain ⟨⟨r0, r1⟩, _, _⟩ := two_facts BR6.out
      have B6 := Off.mk b6
      have hx := (Below.refl w5.heap.size w5).alloc (Nat.le_refl _) (.cells #[.int .i64 (r : Int), .int .i64 (s : Int), .int .i64 (p : Int), .int .i64 (q : Int)] 43)
      have H4 := Off.mk ((H4.out.below hx).below h6)
      have H5 := Off.mk ((H5.out.below hx).below h6)
      have H6 := Off.mk hI6
      clear h6 b6 BP5 BR5 hI6 B5 hx
      go_wp2_with fail
      refine (H1.out _ B6.out).mono ?_
      rintro e w7 ⟨A7, c7, rfl, hI7, _, _, h7⟩
      have b7 := belowC B6.out h7
      have BP7 := Off.mk (blockB h7 BP6.out)
      have BR7 := Off.mk (blockB h7 BR6.out)
      have H4 := Off.mk (H4.out.below h7)
      have H5 := Off.mk (H5.out.below h7)
      have H6 := Off.mk (H6.out.below h7)
      have H7 := Off.mk hI7
      have B7 := Off.mk b7
      clear h7 b7 BP6 BR6 hI7 B6
      go_wp2_with fail
      refine (same_self l _ _ _ _ _ H4.out (HI.out.below B7.out)).mono ?_
      rintro e w8 ⟨rfl, h8⟩
      have B8 := Off.mk (belowC B7.out h8)
      have H5 := Off.mk (H5.out.below h8)
      have H6 := Off.mk (H6.out.below h8)
      have H7 := Off.mk (H7.out.below h8)
      have BP8 := Off.mk (blockB h8 BP7.out)
      have BR8 := Off.mk (blockB h8 BR7.out)
      clear h8 B7 BP7 BR7
      go_wp2_with fail
      refine (HS1.out _ _ _ H7.out).mono ?_
      rintro e w9 ⟨rfl, h9⟩
      have B9 := Off.mk (belowC B8.out h9)
      have H5 := Off.mk (H5.out.below h9)
      have H6 := Off.mk (H6.out.below h9)
      have BP9 := Off.mk (blockB h9 BP8.out)
      have BR9 := Off.mk (blockB h9 BR8.out)
      obtain ⟨⟨p0, p1⟩, _, _⟩ := two_facts BP9.out
      obtain ⟨⟨r0, r1⟩, _, _⟩ := two_facts BR9.out
      clear h9 B8 BP8 BR8
      have HF : Off ((((p : Int) - r) * ((p : Int) - r) + ((q : Int) - s) * ((q : Int) - s) == 1) = false → R2 = R3) := ⟨fun he => by
        rw [beq_eq_false_iff_ne] at he
        refine HC.out (fun hf => he ?_) (fun hf => he ?_)
        all_goals
          rcases hf with ⟨e1, e2 | e2⟩ | ⟨e1, e2 | e2⟩
          all_goals
            first
              | (rw [show (p : Int) - r = 0 by omega, show (q : Int) - s = 1 by omega]; rfl)
              | (rw [show (p : Int) - r = 0 by omega, show (q : Int) - s = -1 by omega]; rfl)
              | (rw [show (q : Int) - s = 0 by omega, show (p : Int) - r = 1 by omega]; rfl)
              | (rw [show (q : Int) - s = 0 by omega, show (p : Int) - r = -1 by omega]; rfl)⟩
      have i1 : -6 < (p : Int) - r ∧ (p : Int) - r < 6 := by omega
      have j1 : -6 < (q : Int) - s ∧ (q : Int) - s < 6 := by omega
      obtain ⟨i, hi⟩ : ∃ i, i = (p : Int) - r := ⟨_, rfl⟩
      obtain ⟨j, hj⟩ : ∃ j, j = (q : Int) - s := ⟨_, rfl⟩
      have Wi : IntKind.i64.wrap ((p : Int) - r) = i := by rw [IntKind.wrap_i64]; omega
      have Wj : IntKind.i64.wrap ((q : Int) - s) = j := by rw [IntKind.wrap_i64]; omega
      have sq : ∀ t : Int, -6 < t ∧ t < 6 → 0 ≤ t * t ∧ t * t ≤ 25 := fun t ht => by
        have ht' : t = -5 ∨ t = -4 ∨ t = -3 ∨ t = -2 ∨ t = -1 ∨ t = 0 ∨ t = 1 ∨ t = 2 ∨ t = 3 ∨ t = 4 ∨ t = 5 := by omega
        rcases ht' with rfl | rfl | rfl | rfl | rfl | rfl | rfl | rfl | rfl | rfl | rfl <;> decide
      rw [← hi] at i1 HF
      rw [← hj] at j1 HF
      obtain ⟨s1, s2⟩ := sq i i1
      obtain ⟨s3, s4⟩ := sq j j1
      clear hi hj sq
      go_wp2_with fail
      first
        | go_quiet (fail)
        | fail
      have Bd : Off (Below w.heap.size w (w9.drewN nq)) := ⟨below_drewN' B9.out _⟩
      have H5 := Off.mk (H5.out.below (below_drewN' (Below.refl w9.heap.size w9) nq))
      have H6 := Off.mk (H6.out.below (below_drewN' (Below.refl w9.heap.size w9) nq))
      obtain ⟨wd, hwd⟩ : ∃ wd, wd = w9.drewN nq := ⟨_, rfl⟩
      rw [← hwd] at Bd H5 H6 ⊢
      clear hwd
      cases he : (i * i + j * j == 1)
      · have HR := HF.out he
        rw [← HR] at H6
        have K := Off.mk (fun W h k => same_self R2 A5 A6 c5 c6 W h k)
        have HRR := Off.mk HR
        rw [← HR]
        clear HR
        go_wp2_with fail
        refine (K.out _ H5.out H6.out).mono ?_
        rintro e w10 ⟨rfl, h10⟩
        have b10 := belowC Bd.out h10
        go_wp2_with (go_at_call 17; refine (alive_any _).mono ?_; rintro e w12 ⟨rfl, hb12⟩)
        go_ret
        exact ⟨rfl, belowC b10 hb12⟩
      · go_wp2_with (go_at_call 17; refine (alive_any _).mono ?_; rintro e w12 ⟨rfl, hb12⟩)
        go_ret
        exact ⟨rfl, belowC Bd.out hb12⟩
end Go.Proofs.Ytnhbkopgbibcgaa
