/- The walk of PensEhrhart. -/
import Derived.Test.YtbpmiphipjkdlaaBi
namespace Go.Proofs.Ytbpmiphipjkdlaa
open Go.RowKit Go.Shelf
attribute [local go_sem] Oper.semAt_some

/-- A point more in a list of points, in any order of a region. -/
theorem append_pairP {F : Fence} {n : Nat} {a : Act} {w : World} {K : Act → World → Prop} {Q : Exit → Act → World → Prop} {o : Oper} {i j : Int} (s x : Operand)
    (ho : o.op = .call { callee := .builtin .append, args := #[s, x], argTypes := #[22, 22] }) (base : Nat) (v : Value) (xs : List (Int × Int)) (hO : OwnQ 34 w base v xs) (h100 : xs.length ≤ 1000) (hb : base ≤ w.heap.size)
    (hs : a.eval s = v) (hx : a.eval x = .slice (some ⟨w.heap.size, 0, none⟩) 1 1)
    (h : ∀ v' w', OwnQ 34 w' base v' (xs ++ [(i, j)]) → Below base w w' → K (a.put o.dst v') w') :
    Oper.wpIn F n Try.prog o a (w.alloc (.cells #[.int .i64 i, .int .i64 j] 34)) K Q := by
  obtain ⟨i0, hi, hz0, hz1, hz2⟩ := info_parts info34
  have c1 : ∀ k u, ([.int .i64 i, .int .i64 j] : List Value)[k]? = some u → (w.alloc (.cells #[.int .i64 i, .int .i64 j] 34)).cell? ((⟨w.heap.size, 0, none⟩ : Addr).add k) = some u := by
    intro k u hk
    match k, hk with
    | 0, hk => simp at hk; subst hk; simp [Addr.add_lit]
    | 1, hk => simp at hk; subst hk; simp [Addr.add_lit]
  have c2 : ∀ u ∈ ([.int .i64 i, .int .i64 j] : List Value), u.oneCell' = true := by intro u hu; simp at hu; rcases hu with rfl | rfl <;> rfl
  obtain ⟨v', w', hr, h2, h3, h4⟩ := run_append_own (P := Try.prog) _ base 22 o.type 34 i0 _ 2 16 Try.underlying22 hi hz0 hz1 hz2 rfl (by decide) v xs.length _ (hO.out.alloc _) ⟨w.heap.size, 0, none⟩ 1 1 _ rfl c1 c2 (by unfold maxLen; omega) (by omega) (by simp; omega)
  refine ⟨fun f hf => ?_, ?_⟩
  · simp [Oper.about, ho, resolve, Sem.run_pure, go_sem] at hf
  · rw [Oper.semAt_eq _ _ _ (fun c => by rw [ho]; simp)]
    unfold execOp
    simp only [ho, resolve, invoke, builtin, Sem.run_bind, Sem.run_pure, Result.andThen_ok, List.map_toArray, List.map_cons, List.map_nil, hs, hx, hr]
    exact h v' w' ⟨by rw [List.length_append]; simpa [pairCells] using h2⟩ (((Below.refl _ w).alloc hb _).grown h3 (by simp; omega) (fun k e => ownQ_base hO e))
theorem big_take (t : Int) (xs : PtL) (k : Nat) (h : k < xs.length) : bigL t (xs.take (k + 1)) = bigL t (xs.take k) ++ [(t * (xs.getD k (0, 0)).1, t * (xs.getD k (0, 0)).2)] := by
  unfold bigL
  rw [List.take_succ_eq_append_getElem h, List.map_append, List.getD_eq_getElem?_getD, List.getElem?_eq_getElem h]
  rfl
set_option maxRecDepth 100000 in
set_option maxHeartbeats 8000000 in
theorem ehrhart_walk (xs : PtL) (A : Option Addr) (c : Nat) (u : Int) (w : World) (hx : xs.length ≤ 140737488351232 → PairsI w A xs) (hu : 0 ≤ u ∧ u < 65536) :
    Calls Try.prog 4 #[.slice A xs.length c, .int .u16 u] w fun e w' => e = .returned (.bool true) ∧ Below w.heap.size w w' := by
  by_cases hf : xs.length ≤ 60
  · have hx := hx (by omega)
    have CF := Off.mk (few_any xs A c true (decide_eq_true hf) w)
    cases hv : readP xs with
    | false =>
      have CR := Off.mk (isPenR_read xs A c w false hv hx)
      clear hx hf hv
      go_enter Try.func4, Try.ntmps4
      go_wp2_with fail
      refine CF.out.mono ?_
      rintro e w0 ⟨rfl, rfl⟩
      go_wp2_with fail
      refine CR.out.mono ?_
      rintro e w1 ⟨rfl, hb1⟩
      go_wp2_with fail
      refine (alive_any _).mono ?_
      rintro e w2 ⟨rfl, hb2⟩
      go_wp2
      go_ret
      exact ⟨rfl, belowC hb1 hb2⟩
    | true =>
      obtain ⟨t, ht⟩ : ∃ t, t = 1 + u.tmod 1000 := ⟨_, rfl⟩
      have hm : u.tmod 1000 = u % 1000 := Int.tmod_eq_emod_of_nonneg hu.1
      have htb : 1 ≤ t ∧ t ≤ 1000 := by omega
      have W01 : IntKind.i64.wrap u = u := by rw [IntKind.wrap_i64]; omega
      have W02 : IntKind.i64.wrap (u.tmod 1000) = u.tmod 1000 := by rw [IntKind.wrap_i64]; omega
      have W03 : IntKind.i64.wrap (1 + u.tmod 1000) = t := by rw [← ht, IntKind.wrap_i64]; omega
      have W04 : IntKind.i64.wrap (u % 1000) = u % 1000 := by rw [IntKind.wrap_i64]; omega
      have W05 : IntKind.i64.wrap (1 + u % 1000) = t := by rw [← hm, ← ht, IntKind.wrap_i64]; omega
      have CR := Off.mk (isPenR_read xs A c w true hv hx)
      have CA := Off.mk (fun W (hb : Below w.heap.size w W) => Area_any xs A c W (hx.below hb))
      have CC := Off.mk (fun W (hb : Below w.heap.size w W) => Count_any xs A c W (hx.below hb))
      have CG := Off.mk (fun W (hb : Below w.heap.size w W) => Grown_any xs A c t W (hx.below hb))
      have C1 := Off.mk (fun W (hb : Below w.heap.size w W) => Grown_any xs A c 1 W (hx.below hb))
      rw [hv] at CA CC CG C1
      simp only [if_true, htb.1, htb.2, and_self, true_and] at CA CC CG C1
      simp only [Int.le_refl, show (1 : Int) ≤ 1000 by decide, and_self, if_true] at C1
      obtain ⟨hn, h3, h10⟩ := near_all hv
      have e2 := two_ins xs (by omega) t
      have e3 := two_all xs (by omega) t
      have e4 := ins_all xs (by omega) t
      have e5 := ins_all xs (by omega) 1
      have e6 := two_ins xs (by omega) 1
      simp only [Int.mul_one] at e5 e6
      have hb1 := twiceP_in hn (by omega)
      have hb2 := borderP_in hn (by omega)
      have HBI : Off (insG (bigL t xs) 1 = insG xs t ∧ borderP (bigL t xs) = borderP xs * t) := ⟨big_ins t (by omega) xs, big_border t (by omega) xs⟩
      obtain ⟨a, ha⟩ : ∃ a : Int, a = (twiceP xs).natAbs := ⟨_, rfl⟩
      obtain ⟨b, hb⟩ : ∃ b, b = borderP xs := ⟨_, rfl⟩
      obtain ⟨i, hi⟩ : ∃ i, i = insG xs 1 := ⟨_, rfl⟩
      obtain ⟨p, hp⟩ : ∃ p, p = allG xs t := ⟨_, rfl⟩
      obtain ⟨q, hq⟩ : ∃ q, q = insG xs t := ⟨_, rfl⟩
      obtain ⟨y, hy⟩ : ∃ y, y = allG xs 1 := ⟨_, rfl⟩
      rw [← ha] at CA e2 e3 e6
      rw [← hb] at CC e2 e3 e4 e5 e6 hb2 HBI
      rw [← hi] at CC C1 e5 e6
      rw [← hp] at CG e3 e4
      rw [← hq] at CG e2 e4 HBI
      rw [← hy] at C1 e5
      have hab : -300000 ≤ a ∧ a ≤ 300000 := by omega
      clear ha hb hi hp hq hy hb1
      have m1 := mul_in (a := 300000) (b := 1000) hab (show -1000 ≤ t ∧ t ≤ 1000 by omega) (by omega) (by omega)
      have m2 := mul_in (a := 300000 * 1000) (b := 1000) m1 (show -1000 ≤ t ∧ t ≤ 1000 by omega) (by omega) (by omega)
      have m3 := mul_in (a := 300000) (b := 1000) hb2 (show -1000 ≤ t ∧ t ≤ 1000 by omega) (by omega) (by omega)
      have W1 : IntKind.i64.wrap (a * t) = a * t := by rw [IntKind.wrap_i64]; omega
      have W2 : IntKind.i64.wrap (a * t * t) = a * t * t := by rw [IntKind.wrap_i64]; omega
      have W3 : IntKind.i64.wrap (b * t) = b * t := by rw [IntKind.wrap_i64]; omega
      have W4 : IntKind.i64.wrap (a * t * t + b * t) = a * t * t + b * t := by rw [IntKind.wrap_i64]; omega
      have W5 : IntKind.i64.wrap (a * t * t + b * t + 2) = 2 * p := by rw [e3, IntKind.wrap_i64]; omega
      have W6 : IntKind.i64.wrap (a * t * t - b * t) = a * t * t - b * t := by rw [IntKind.wrap_i64]; omega
      have W7 : IntKind.i64.wrap (a * t * t - b * t + 2) = 2 * q := by rw [e2, IntKind.wrap_i64]; omega
      have W8 : IntKind.i64.wrap (2 * p) = 2 * p := by rw [IntKind.wrap_i64]; omega
      have W9 : IntKind.i64.wrap (2 * q) = 2 * q := by rw [IntKind.wrap_i64]; omega
      have W10 : IntKind.i64.wrap (b + i) = y := by rw [IntKind.wrap_i64]; omega
      have W11 : IntKind.i64.wrap (b * t + q) = p := by rw [IntKind.wrap_i64]; omega
      have g1 : ((2 * p : Int) != 2 * p) = false := by simp
      have g2 : ((2 * q : Int) != 2 * q) = false := by simp
      have g3 : ((y : Int) != y) = false := by simp
      have g4 : ((i : Int) != i) = false := by simp
      have HXX := Off.mk hx
      have HN := Off.mk hn
      clear hx hf hv e2 e3 e4 e5 e6 m1 m2 m3 hb2 hab hn hm ht
      go_enter Try.func4, Try.ntmps4
      go_wp2_with fail
      refine CF.out.mono ?_
      rintro e w ⟨rfl, rfl⟩
      go_wp2_with fail
      refine CR.out.mono ?_
      rintro e w1 ⟨rfl, hb1⟩
      go_wp2_with fail
      refine (CA.out _ hb1).mono ?_
      rintro e w2 ⟨rfl, hb2⟩
      have hb2 := belowC hb1 hb2
      go_wp2_with fail
      refine (CC.out _ hb2).mono ?_
      rintro e w3 ⟨rfl, hb3⟩
      have hb3 := belowC hb2 hb3
      go_wp2_with fail
      refine (CG.out _ hb3).mono ?_
      rintro e w4 ⟨rfl, hb4⟩
      have hb4 := belowC hb3 hb4
      go_wp2_with fail
      refine (C1.out _ hb4).mono ?_
      rintro e w5 ⟨rfl, hb5⟩
      have HB5 := Off.mk (belowC hb4 hb5)
      clear hb1 hb2 hb3 hb4 hb5
      go_wp2_with fail
      refine (wpIn_wide (n := 9)).1 ?_
      gi_loopw [17, 18] (fun u17 kv wr => ∃ k : Nat, k ≤ xs.length ∧ kv = .int .i64 k ∧ Off (OwnQ 34 wr w.heap.size u17 (bigL t (xs.take k))) ∧ Off (Below w.heap.size w wr)) (fun _ kv _ => xs.length - (intOf kv).toNat)
      case atStart => exact ⟨0, by omega, rfl, ⟨ownQ_nil _ _ _⟩, HB5⟩
      case round =>
        clear HB5
        obtain ⟨k, hk, rfl, HO, HB⟩ := hrel
        by_cases hlt : k < xs.length
        · have hkI : (k : Int) < (xs.length : Int) := by omega
          obtain ⟨ad, rfl, z0, z1⟩ := (HXX.out.below HB.out).cell k hlt
          have hz50 := HN.out k
          have HT := Off.mk (big_take t xs k hlt)
          have hl100 : (bigL t (xs.take k)).length ≤ 1000 := by rw [big_len, List.length_take]; omega
          obtain ⟨z, hz⟩ : ∃ z, z = xs.getD k (0, 0) := ⟨_, rfl⟩
          rw [← hz] at z0 z1 hz50 HT
          clear hz
          unfold inB at hz50
          have q1 := mul_in (a := 1000) (b := 50) (show -1000 ≤ t ∧ t ≤ 1000 by omega) hz50.1 (by omega) (by omega)
          have q2 := mul_in (a := 1000) (b := 50) (show -1000 ≤ t ∧ t ≤ 1000 by omega) hz50.2 (by omega) (by omega)
          have V1 : IntKind.i64.wrap (t * z.1) = t * z.1 := by rw [IntKind.wrap_i64]; omega
          have V2 : IntKind.i64.wrap (t * z.2) = t * z.2 := by rw [IntKind.wrap_i64]; omega
          have V3 : IntKind.i64.wrap ((k : Int) + 1) = (k : Int) + 1 := by rw [IntKind.wrap_i64]; omega
          have hba : Below wr.drew.heap.size wr.drew (wr.drew.alloc (.cells #[.int .i64 (t * z.1), .int .i64 (t * z.2)] 34)) := (Below.refl _ _).alloc (Nat.le_refl _) _
          have HO0 : Off (OwnQ 34 wr.drew w.heap.size u17 (bigL t (xs.take k))) := ⟨⟨HO.out.out⟩⟩
          have hs0 : w.heap.size ≤ wr.drew.heap.size := HB.out.size
          clear q1 q2 hz50
          gi_wp2_with fail
          refine region_anyS' (S := (fun w' => w'.cell? (ad.add (k * 2)) = some (.int .i64 z.1) ∧ w'.cell? ⟨(ad.add (k * 2)).block, (ad.add (k * 2)).off + 1, none⟩ = some (.int .i64 z.2))) 17 (by kernel_rfl) ⟨z0, z1⟩ (fun hInv hHeld => ?_)
          refine anyS_take (i := 0) (oi := ⟨some 120, _, _, _, _, _⟩) (v := ?_) (by kernel_rfl) rfl (by kernel_rfl) (by kernel_rfl) (by kernel_rfl) (by kernel_rfl) (fun _ _ _ h => h) (Or.inl ⟨by rfl, by intro w hSw; (try dsimp only at hSw); go_simp; try with_reducible rfl⟩) (fun _ => by first | rfl | simp [Oper.about, resolve, go_sem]) hInv hHeld (fun hInv hHeld => ?_)
          try simp only [Act.put, List.setIfInBounds_toArray, List.set_cons_zero, List.set_cons_succ]
          refine anyS_take (i := 1) (oi := ⟨some 121, _, _, _, _, _⟩) (v := ?_) (by kernel_rfl) rfl (by kernel_rfl) (by kernel_rfl) (by kernel_rfl) (by kernel_rfl) (fun _ _ _ h => h) (Or.inl ⟨by rfl, by intro w hSw; (try dsimp only at hSw); go_simp; try with_reducible rfl⟩) (fun _ => by first | rfl | simp [Oper.about, resolve, go_sem]) hInv hHeld (fun hInv hHeld => ?_)
          try simp only [Act.put, List.setIfInBounds_toArray, List.set_cons_zero, List.set_cons_succ]
          refine anyS_take (i := 2) (oi := ⟨some 122, _, _, _, _, _⟩) (v := ?_) (by kernel_rfl) rfl (by kernel_rfl) (by kernel_rfl) (by kernel_rfl) (by kernel_rfl) (fun _ _ _ h => h) (Or.inl ⟨by rfl, by intro w hSw; (try dsimp only at hSw); go_simp; try with_reducible rfl⟩) (fun _ => by first | rfl | simp [Oper.about, resolve, go_sem]) hInv hHeld (fun hInv hHeld => ?_)
          try simp only [Act.put, List.setIfInBounds_toArray, List.set_cons_zero, List.set_cons_succ]
          refine anyS_take (i := 3) (oi := ⟨some 123, _, _, _, _, _⟩) (v := ?_) (by kernel_rfl) rfl (by kernel_rfl) (by kernel_rfl) (by kernel_rfl) (by kernel_rfl) (fun _ _ _ h => h) (Or.inl ⟨by rfl, by intro w hSw; (try dsimp only at hSw); go_simp; try with_reducible rfl⟩) (fun _ => by first | rfl | simp [Oper.about, resolve, go_sem]) hInv hHeld (fun hInv hHeld => ?_)
          try simp only [Act.put, List.setIfInBounds_toArray, List.set_cons_zero, List.set_cons_succ]
          refine anyS_take (i := 4) (oi := ⟨some 124, _, _, _, _, _⟩) (v := ?_) (by kernel_rfl) rfl (by kernel_rfl) (by kernel_rfl) (by kernel_rfl) (by kernel_rfl) (fun _ _ _ h => h) (Or.inl ⟨by rfl, by intro w hSw; (try dsimp only at hSw); go_simp; try with_reducible rfl⟩) (fun _ => by first | rfl | simp [Oper.about, resolve, go_sem]) hInv hHeld (fun hInv hHeld => ?_)
          try simp only [Act.put, List.setIfInBounds_toArray, List.set_cons_zero, List.set_cons_succ]
          refine anyS_take (i := 5) (oi := ⟨some 125, _, _, _, _, _⟩) (v := ?_) (by kernel_rfl) rfl (by kernel_rfl) (by kernel_rfl) (by kernel_rfl) (by kernel_rfl) (fun _ _ _ h => h) (Or.inl ⟨by rfl, by intro w hSw; (try dsimp only at hSw); go_simp; try with_reducible rfl⟩) (fun _ => by first | rfl | simp [Oper.about, resolve, go_sem]) hInv hHeld (fun hInv hHeld => ?_)
          try simp only [Act.put, List.setIfInBounds_toArray, List.set_cons_zero, List.set_cons_succ]
          refine anyS_take (i := 6) (oi := ⟨some 126, _, _, _, _, _⟩) (v := ?_) (by kernel_rfl) rfl (by kernel_rfl) (by kernel_rfl) (by kernel_rfl) (by kernel_rfl) (fun _ _ _ h => h) (Or.inl ⟨by rfl, by intro w hSw; (try dsimp only at hSw); go_simp; try with_reducible rfl⟩) (fun _ => by first | rfl | simp [Oper.about, resolve, go_sem]) hInv hHeld (fun hInv hHeld => ?_)
          try simp only [Act.put, List.setIfInBounds_toArray, List.set_cons_zero, List.set_cons_succ]
          refine anyS_take (i := 7) (oi := ⟨some 127, _, _, _, _, _⟩) (v := ?_) (by kernel_rfl) rfl (by kernel_rfl) (by kernel_rfl) (by kernel_rfl) (by kernel_rfl) (fun _ _ _ h => h) (Or.inl ⟨by rfl, by intro w hSw; (try dsimp only at hSw); go_simp; try with_reducible rfl⟩) (fun _ => by first | rfl | simp [Oper.about, resolve, go_sem]) hInv hHeld (fun hInv hHeld => ?_)
          try simp only [Act.put, List.setIfInBounds_toArray, List.set_cons_zero, List.set_cons_succ]
          refine anyS_take (i := 8) (oi := ⟨some 128, _, _, _, _, _⟩) (v := ?_) (by kernel_rfl) rfl (by kernel_rfl) (by kernel_rfl) (by kernel_rfl) (by kernel_rfl) (fun _ _ _ h => h) (Or.inl ⟨by rfl, by intro w hSw; (try dsimp only at hSw); go_simp; try with_reducible rfl⟩) (fun _ => by first | rfl | simp [Oper.about, resolve, go_sem]) hInv hHeld (fun hInv hHeld => ?_)
          try simp only [Act.put, List.setIfInBounds_toArray, List.set_cons_zero, List.set_cons_succ]
          refine anyS_take (i := 9) (oi := ⟨some 129, _, _, _, _, _⟩) (v := ?_) (by kernel_rfl) rfl (by kernel_rfl) (by kernel_rfl) (by kernel_rfl) (by kernel_rfl) (fun _ _ _ h => h) (Or.inl ⟨by rfl, by intro w hSw; (try dsimp only at hSw); go_simp; try with_reducible rfl⟩) (fun _ => by first | rfl | simp [Oper.about, resolve, go_sem]) hInv hHeld (fun hInv hHeld => ?_)
          try simp only [Act.put, List.setIfInBounds_toArray, List.set_cons_zero, List.set_cons_succ]
          refine anyS_take (i := 10) (oi := ⟨some 130, _, _, _, _, _⟩) (v := ?_) (by kernel_rfl) rfl (by kernel_rfl) (by kernel_rfl) (by kernel_rfl) (by kernel_rfl) (fun _ _ _ h => h) (Or.inl ⟨by rfl, by intro w hSw; (try dsimp only at hSw); go_simp; try with_reducible rfl⟩) (fun _ => by first | rfl | simp [Oper.about, resolve, go_sem]) hInv hHeld (fun hInv hHeld => ?_)
          try simp only [Act.put, List.setIfInBounds_toArray, List.set_cons_zero, List.set_cons_succ]
          refine anyS_take (i := 11) (oi := ⟨some 131, _, _, _, _, _⟩) (v := ?_) (by kernel_rfl) rfl (by kernel_rfl) (by kernel_rfl) (by kernel_rfl) (by kernel_rfl) (fun _ _ _ h => h) (Or.inl ⟨by rfl, by intro w hSw; (try dsimp only at hSw); go_simp; try with_reducible rfl⟩) (fun _ => by first | rfl | simp [Oper.about, resolve, go_sem]) hInv hHeld (fun hInv hHeld => ?_)
          try simp only [Act.put, List.setIfInBounds_toArray, List.set_cons_zero, List.set_cons_succ]
          refine anyS_take (i := 12) (oi := ⟨some 132, _, _, _, _, _⟩) (v := ?_) (by kernel_rfl) rfl (by kernel_rfl) (by kernel_rfl) (by kernel_rfl) (by kernel_rfl) (fun _ _ _ h => h) (Or.inl ⟨by rfl, by intro w hSw; (try dsimp only at hSw); go_simp; try with_reducible rfl⟩) (fun _ => by first | rfl | simp [Oper.about, resolve, go_sem]) hInv hHeld (fun hInv hHeld => ?_)
          try simp only [Act.put, List.setIfInBounds_toArray, List.set_cons_zero, List.set_cons_succ]
          refine anyS_take (i := 13) (oi := ⟨some 133, _, _, _, _, _⟩) (v := ?_) (by kernel_rfl) rfl (by kernel_rfl) (by kernel_rfl) (by kernel_rfl) (by kernel_rfl) (fun _ _ _ h => h) (Or.inl ⟨by rfl, by intro w hSw; (try dsimp only at hSw); go_simp; try with_reducible rfl⟩) (fun _ => by first | rfl | simp [Oper.about, resolve, go_sem]) hInv hHeld (fun hInv hHeld => ?_)
          try simp only [Act.put, List.setIfInBounds_toArray, List.set_cons_zero, List.set_cons_succ]
          refine anyS_take (i := 14) (oi := ⟨some 134, _, _, _, _, _⟩) (v := ?_) (by kernel_rfl) rfl (by kernel_rfl) (by kernel_rfl) (by kernel_rfl) (by kernel_rfl) (fun _ _ _ h => h) (Or.inl ⟨by rfl, by intro w hSw; (try dsimp only at hSw); go_simp; try with_reducible rfl⟩) (fun _ => by first | rfl | simp [Oper.about, resolve, go_sem]) hInv hHeld (fun hInv hHeld => ?_)
          try simp only [Act.put, List.setIfInBounds_toArray, List.set_cons_zero, List.set_cons_succ]
          refine anyS_take (i := 15) (oi := ⟨some 135, _, _, _, _, _⟩) (v := ?_) (by kernel_rfl) rfl (by kernel_rfl) (by kernel_rfl) (by kernel_rfl) (by kernel_rfl) (fun _ _ _ h => h) (Or.inl ⟨by rfl, by intro w hSw; (try dsimp only at hSw); go_simp; try with_reducible rfl⟩) (fun _ => by first | rfl | simp [Oper.about, resolve, go_sem]) hInv hHeld (fun hInv hHeld => ?_)
          try simp only [Act.put, List.setIfInBounds_toArray, List.set_cons_zero, List.set_cons_succ]
          refine anyS_one (i := 16) (o := ⟨some 136, _, _, _, _, _⟩) (by kernel_rfl) rfl hInv (fun K hK => ?_)
          go_simp
          refine hK.out _ _ (fun _ => ⟨cellB hba z0, cellB hba z1⟩) (fun hInv hHeld => ?_)
          clear hK K
          try simp only [Act.put, List.setIfInBounds_toArray, List.set_cons_zero, List.set_cons_succ]
          refine anyS_one (i := 17) (o := ⟨some 137, _, _, _, _, _⟩) (by kernel_rfl) rfl hInv (fun K hK => ?_)
          refine append_pairP (i := t * z.1) (j := t * z.2) _ _ rfl w.heap.size u17 (bigL t (xs.take k)) HO0.out hl100 hs0 rfl rfl ?_
          intro v' w6 hO6 hb6
          clear hHeld
          refine hK.out _ _ (fun e => absurd (show true = false from e) (by decide)) (fun hInv hHeld => ?_)
          clear hK K
          try simp only [Act.put, List.setIfInBounds_toArray, List.set_cons_zero, List.set_cons_succ]
          refine anyS_pure (i := 18) (oi := ⟨some 17, _, _, _, _, _⟩) (v := ?_) (by kernel_rfl) rfl (by kernel_rfl) (by kernel_rfl) (by kernel_rfl) (by decide) (fun _ _ _ h => h) (Or.inl ⟨by rfl, by intro w hSw; (try dsimp only at hSw); go_simp; try with_reducible rfl⟩) (fun _ => by first | rfl | simp [Oper.about, resolve, go_sem]) hInv hHeld (fun hInv hHeld => ?_)
          try simp only [Act.put, List.setIfInBounds_toArray, List.set_cons_zero, List.set_cons_succ]
          refine anyS_done (by kernel_rfl) ?_ _
          have HB6 := Off.mk ((below_drew HB.out).trans hb6)
          have HO6 : Off (OwnQ 34 w6 w.heap.size v' (bigL t (xs.take (k + 1)))) := ⟨by rw [HT.out]; exact hO6⟩
          clear hO6 hb6
          gi_wp2
          go_roundw
          case rel => exact ⟨k + 1, by omega, by go_num, HO6, HB6⟩
          case measure => simp only [intOf]; omega
        · obtain rfl : k = xs.length := by omega
          have hOb : OwnQ 34 wr w.heap.size u17 (bigL t xs) := by have := HO.out; rwa [List.take_length] at this
          have hbl : (bigL t xs).length ≤ 140737488351232 := by rw [big_len]; omega
          obtain ⟨A', c', rfl, hpr, _⟩ := ownQ_pairs hOb hbl
          have CC' := Off.mk (fun W (hb : Below wr.heap.size wr W) => Count_any (bigL t xs) A' c' W (hpr.below hb))
          cases hvb : readP (bigL t xs) with
          | false =>
            have CR' := Off.mk (isPenR_read (bigL t xs) A' c' wr false hvb hpr)
            clear hOb hpr HO
            gi_wp2_with fail
            go_wp2_with fail
            refine CR'.out.mono ?_
            rintro e w6 ⟨rfl, hb6⟩
            have HB6 := Off.mk (belowC HB.out hb6)
            go_wp2_with fail
            refine (alive_any _).mono ?_
            rintro e w7 ⟨rfl, hb7⟩
            go_wp2
            go_ret
            exact ⟨rfl, belowC HB6.out hb7⟩
          | true =>
            have CR' := Off.mk (isPenR_read (bigL t xs) A' c' wr true hvb hpr)
            rw [hvb] at CC'
            simp only [if_true] at CC'
            rw [HBI.out.1, HBI.out.2] at CC'
            clear hOb hpr HO hvb
            gi_wp2_with fail
            go_wp2_with fail
            refine CR'.out.mono ?_
            rintro e w6 ⟨rfl, hb6⟩
            go_wp2_with fail
            refine (CC'.out _ hb6).mono ?_
            rintro e w7 ⟨rfl, hb7⟩
            have HB7 := Off.mk (belowC (belowC HB.out hb6) hb7)
            clear hb6 hb7
            go_wp2_with fail
            refine (alive_any _).mono ?_
            rintro e w8 ⟨rfl, hb8⟩
            go_wp2
            go_ret
            exact ⟨rfl, belowC HB7.out hb8⟩
  · have CF := Off.mk (few_any xs A c false (decide_eq_false hf) w)
    clear hx hf
    go_enter Try.func4, Try.ntmps4
    go_wp2_with fail
    refine CF.out.mono ?_
    rintro e w0 ⟨rfl, rfl⟩
    go_wp2_with fail
    refine (alive_any _).mono ?_
    rintro e w3 ⟨rfl, hb3⟩
    go_wp2
    go_ret
    exact ⟨rfl, hb3⟩
end Go.Proofs.Ytbpmiphipjkdlaa
