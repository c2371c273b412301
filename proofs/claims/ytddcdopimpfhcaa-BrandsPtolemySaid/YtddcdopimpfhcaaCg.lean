/- Contracts: Without, the specification's Flip; the law BrandsFlips, its walk. -/
import Derived.Test.YtddcdopimpfhcaaEc
namespace Go.Proofs.Ytddcdopimpfhcaa
open Go.RowKit Go.Shelf

theorem erase_eq (l : List (Int × Int)) (i : Nat) : l.take i ++ l.drop (i + 1) = l.eraseIdx i := (List.eraseIdx_eq_take_drop_succ l i).symm
set_option maxHeartbeats 4000000 in
set_option maxRecDepth 100000 in
theorem without_any (l : List (Int × Int)) (ad : Addr) (c i : Nat) (hi : i < l.length) (w : World) (hx : PairsI w (some ad) l) (hlc : l.length ≤ c) (h60 : l.length ≤ 60) :
    Calls Try.prog 59 #[.slice (some ad) l.length c, .int .i64 (i : Int)] w fun e w' => ∃ v, e = .returned v ∧ OwnQ w' w.heap.size v (l.eraseIdx i) ∧ Below w.heap.size w w' := by
  have HX := Off.mk hx
  have HE := Off.mk (erase_eq l i)
  have HL1 : Off ((l.take i).length = i) := ⟨by rw [List.length_take]; omega⟩
  have HL2 : Off ((l.drop (i + 1)).length = l.length - (i + 1)) := ⟨by rw [List.length_drop]⟩
  have hi0 : (0 : Int) ≤ (i : Int) := by omega
  have hi1 : (i : Int) + 1 ≤ (l.length : Int) := by omega
  have hi2 : (i : Int) ≤ (c : Int) := by omega
  have hi3 : (0 : Int) ≤ (i : Int) + 1 := by omega
  have hi4 : (i : Int) + 1 ≤ (c : Int) := by omega
  obtain ⟨A2, hA2, hS2⟩ : ∃ A2 : Addr, (if c = i + 1 then some ad else some (ad.add ((i + 1) * 2))) = some A2 ∧ Off (SrcQ w (some A2) (l.drop (i + 1))) := by
    by_cases h1 : c = i + 1
    · refine ⟨ad, by simp [h1], ⟨?_⟩⟩
      rw [List.drop_of_length_le (by omega)]
      exact srcQ_nil _ _
    · exact ⟨_, by simp [h1], ⟨srcQ_drop HX.out (i + 1)⟩⟩
  clear hx
  go_enter Try.func59, Try.ntmps59
  go_wp2_with (at_builtin; refine wpList_appQ rfl _ _ rfl w.heap.size _ [] (ownQ_nil _ _) (Nat.le_refl _) (some ad) (l.take i) i c HL1.out (srcQ_take HX.out i) (fun e => by cases e) (by simp) (by omega) rfl rfl ?_)
  intro v3 w3 hO3 hb3
  have HO3 : Off (OwnQ w3 w.heap.size v3 (l.take i)) := ⟨by simpa using hO3⟩
  have hS3 := Off.mk (hS2.out.below hb3)
  have HB3 := Off.mk hb3
  clear hO3 hb3 hS2
  go_wp2_with (at_builtin; refine wpList_appQ rfl _ _ rfl w.heap.size _ (l.take i) HO3.out HB3.out.size (some A2) (l.drop (i + 1)) (l.length - (i + 1)) (c - (i + 1)) HL2.out hS3.out (fun e => by cases e) (by rw [HL1.out]; omega) (by omega) rfl rfl ?_)
  intro v5 w5 hO5 hb5
  rw [HE.out] at hO5
  have HO5 := Off.mk hO5
  have HB5 := Off.mk (HB3.out.trans hb5)
  clear hO5 hb5
  go_wp2
  go_ret
  exact ⟨_, rfl, HO5.out, HB5.out⟩
theorem rflip_arg (n : Int) (l : List (Int × Int)) (A : Option Addr) (c : Nat) (i : Int) (h : ¬ (rbrandB n l = true ∧ 0 ≤ i ∧ i < l.length)) (w : World) (hx : PairsI w A l) :
    Calls Try.prog 21 #[.int .i64 n, .slice A l.length c, .int .i64 i] w fun e w' => e = .returned (.tuple #[.slice none 0 0, .int .i64 2]) ∧ Below w.heap.size w w' := by
  have CB := Off.mk (fun v hv => rbrand_any n l A c v hv w hx)
  by_cases hb : rbrandB n l = true
  · have CB' := Off.mk (CB.out _ hb)
    clear CB hx
    by_cases h0 : i < 0
    · clear h hb
      go_enter Try.func21, Try.ntmps21
      go_wp2_with (go_at_call 25; refine CB'.out.mono ?_; rintro e w1 ⟨rfl, hb1⟩)
      go_ret2
      exact ⟨rfl, hb1⟩
    · have h1 : (l.length : Int) ≤ i := by
        by_cases e : i < l.length
        · exact (h ⟨hb, by omega, e⟩).elim
        · omega
      clear h hb
      go_enter Try.func21, Try.ntmps21
      go_wp2_with (go_at_call 25; refine CB'.out.mono ?_; rintro e w1 ⟨rfl, hb1⟩)
      go_ret2
      exact ⟨rfl, hb1⟩
  · have CB' := Off.mk (CB.out _ (by simpa using hb))
    clear CB hx h hb
    go_enter Try.func21, Try.ntmps21
    go_wp2_with (go_at_call 25; refine CB'.out.mono ?_; rintro e w1 ⟨rfl, hb1⟩)
    go_ret2
    exact ⟨rfl, hb1⟩
theorem rputL_len (l : List (Int × Int)) (x : Int × Int) : (rputL l x).length = l.length + 1 := by
  rw [(rputL_perm l x).length_eq, List.length_append]
  rfl
theorem rput_any (xs : List (Int × Int)) (A : Option Addr) (c : Nat) (x0 x1 : Int) (w : World) (hx : PairsI w A xs) (hlc : xs.length ≤ c) (hA : A = none → c = 0) (h60 : xs.length ≤ 60) :
    Calls Try.prog 58 #[.slice A xs.length c, .agg #[.int .i64 x0, .int .i64 x1]] w fun e w' => ∃ v, e = .returned v ∧ OwnQ w' w.heap.size v (rputL xs (x0, x1)) ∧ Below w.heap.size w w' := by
  cases A with
  | some ad => exact rput_some xs ad c x0 x1 w hx hlc h60
  | none =>
    obtain rfl := hA rfl
    obtain rfl : xs = [] := List.length_eq_zero_iff.1 (by omega)
    have hP := block_new w (.cells #[.int .i64 x0, .int .i64 x1] 36)
    have hB0 : Below w.heap.size w (w.alloc (.cells #[.int .i64 x0, .int .i64 x1] 36)) := (Below.refl _ _).alloc (Nat.le_refl _) _
    obtain ⟨⟨q0, q1⟩, _, _⟩ := two_facts hP
    obtain ⟨w1, hw1⟩ : ∃ w1, w1 = w.alloc (.cells #[.int .i64 x0, .int .i64 x1] 36) := ⟨_, rfl⟩
    obtain ⟨z, hz⟩ : ∃ z, z = w.heap.size := ⟨_, rfl⟩
    rw [← hw1, ← hz] at q0 q1
    rw [← hw1] at hB0
    have HB0 := Off.mk hB0
    have HZl : Off (w.heap.size ≤ w1.heap.size) := ⟨hB0.size⟩
    clear hx hP hB0
    go_enter Try.func58, Try.ntmps58
    go_wp2
    rw [← hw1, ← hz]
    clear hw1 hz
    refine wp_loop_rounds 1 ?_
    rw [rounds_succ]
    go_wp2
    refine wp_region_held_drew (S := (fun _ => True)) (by kernel_rfl) trivial (fun hHeld => ?_)
    refine wpAnyH_take (i := 0) (oi := ⟨some 7, _, _, _, _, _⟩) (v := ?_) rfl (by kernel_rfl) (by kernel_rfl) (by kernel_rfl) (fun _ _ _ h => h) (Or.inl ⟨by rfl, by intro w hSw; (try dsimp only at hSw); go_simp; try with_reducible rfl⟩) hHeld ?_
    try simp only [Act.put, List.setIfInBounds_toArray, List.set_cons_zero, List.set_cons_succ]
    refine wpAnyH_take (i := 1) (oi := ⟨some 8, _, _, _, _, _⟩) (v := ?_) rfl (by kernel_rfl) (by kernel_rfl) (by kernel_rfl) (fun _ _ _ h => h) (Or.inl ⟨by rfl, by intro w hSw; (try dsimp only at hSw); go_simp; try with_reducible rfl⟩) hHeld ?_
    try simp only [Act.put, List.setIfInBounds_toArray, List.set_cons_zero, List.set_cons_succ]
    refine wpAnyH_take (i := 2) (oi := ⟨some 9, _, _, _, _, _⟩) (v := ?_) rfl (by kernel_rfl) (by kernel_rfl) (by kernel_rfl) (fun _ _ _ h => h) (Or.inl ⟨by rfl, by intro w hSw; (try dsimp only at hSw); go_simp; try with_reducible rfl⟩) hHeld ?_
    try simp only [Act.put, List.setIfInBounds_toArray, List.set_cons_zero, List.set_cons_succ]
    refine wpAnyH_take (i := 3) (oi := ⟨some 10, _, _, _, _, _⟩) (v := ?_) rfl (by kernel_rfl) (by kernel_rfl) (by kernel_rfl) (fun _ _ _ h => h) (Or.inl ⟨by rfl, by intro w hSw; (try dsimp only at hSw); go_simp; try with_reducible rfl⟩) hHeld ?_
    try simp only [Act.put, List.setIfInBounds_toArray, List.set_cons_zero, List.set_cons_succ]
    refine wpAnyH_take (i := 4) (oi := ⟨some 11, _, _, _, _, _⟩) (v := ?_) rfl (by kernel_rfl) (by kernel_rfl) (by kernel_rfl) (fun _ _ _ h => h) (Or.inl ⟨by rfl, by intro w hSw; (try dsimp only at hSw); go_simp; try with_reducible rfl⟩) hHeld ?_
    try simp only [Act.put, List.setIfInBounds_toArray, List.set_cons_zero, List.set_cons_succ]
    refine wpAnyH_take (i := 5) (oi := ⟨some 12, _, _, _, _, _⟩) (v := undef) rfl (by kernel_rfl) (by kernel_rfl) (by kernel_rfl) (fun _ _ _ h => h) (Or.inr ⟨by rfl, rfl⟩) hHeld ?_
    try simp only [Act.put, List.setIfInBounds_toArray, List.set_cons_zero, List.set_cons_succ]
    refine wpAnyH_take (i := 6) (oi := ⟨some 13, _, _, _, _, _⟩) (v := undef) rfl (by kernel_rfl) (by kernel_rfl) (by kernel_rfl) (fun _ _ _ h => h) (Or.inr ⟨by rfl, rfl⟩) hHeld ?_
    try simp only [Act.put, List.setIfInBounds_toArray, List.set_cons_zero, List.set_cons_succ]
    refine wpAnyH_take (i := 7) (oi := ⟨some 14, _, _, _, _, _⟩) (v := undef) rfl (by kernel_rfl) (by kernel_rfl) (by kernel_rfl) (fun _ _ _ h => h) (Or.inr ⟨by rfl, rfl⟩) hHeld ?_
    try simp only [Act.put, List.setIfInBounds_toArray, List.set_cons_zero, List.set_cons_succ]
    refine wpAnyH_take (i := 8) (oi := ⟨some 15, _, _, _, _, _⟩) (v := undef) rfl (by kernel_rfl) (by kernel_rfl) (by kernel_rfl) (fun _ _ _ h => h) (Or.inr ⟨by rfl, rfl⟩) hHeld ?_
    try simp only [Act.put, List.setIfInBounds_toArray, List.set_cons_zero, List.set_cons_succ]
    refine wpAnyH_take (i := 9) (oi := ⟨some 16, _, _, _, _, _⟩) (v := undef) rfl (by kernel_rfl) (by kernel_rfl) (by kernel_rfl) (fun _ _ _ h => h) (Or.inr ⟨by rfl, rfl⟩) hHeld ?_
    try simp only [Act.put, List.setIfInBounds_toArray, List.set_cons_zero, List.set_cons_succ]
    refine wpAnyH_take (i := 10) (oi := ⟨some 17, _, _, _, _, _⟩) (v := undef) rfl (by kernel_rfl) (by kernel_rfl) (by kernel_rfl) (fun _ _ _ h => h) (Or.inr ⟨by rfl, rfl⟩) hHeld ?_
    try simp only [Act.put, List.setIfInBounds_toArray, List.set_cons_zero, List.set_cons_succ]
    refine wpAnyH_take (i := 11) (oi := ⟨some 18, _, _, _, _, _⟩) (v := ?_) rfl (by kernel_rfl) (by kernel_rfl) (by kernel_rfl) (fun _ _ _ h => h) (Or.inl ⟨by rfl, by intro w hSw; (try dsimp only at hSw); go_simp; try with_reducible rfl⟩) hHeld ?_
    try simp only [Act.put, List.setIfInBounds_toArray, List.set_cons_zero, List.set_cons_succ]
    refine wpAnyH_done (by kernel_rfl) ?_ _
    have HBd := Off.mk (below_drew HB0.out)
    obtain ⟨wd, hwd⟩ : ∃ wd, wd = w1.drew := ⟨_, rfl⟩
    have r0 : wd.cell? ⟨z, 0, none⟩ = some (.int .i64 x0) := by rw [hwd]; exact q0
    have r1 : wd.cell? ⟨z, 1, none⟩ = some (.int .i64 x1) := by rw [hwd]; exact q1
    rw [← hwd] at HBd ⊢
    clear hwd hHeld q0 q1
    go_wp2_with (at_builtin; refine wpList_appQ rfl _ _ rfl wd.heap.size _ [] (ownQ_nil _ _) (Nat.le_refl _) none [] 0 0 rfl (srcQ_nil _ _) (fun _ => ⟨rfl, rfl⟩) (by simp) (by omega) rfl rfl ?_)
    intro v3 w3 hO3 hb3
    have HO3 : Off (OwnQ w3 wd.heap.size v3 []) := ⟨by simpa using hO3⟩
    have HB3 := Off.mk (belowC HBd.out hb3)
    have r0 := cellB hb3 r0
    have r1 := cellB hb3 r1
    have HG3 : Off (wd.heap.size ≤ w3.heap.size) := ⟨hb3.size⟩
    clear hO3 hb3
    go_wp2_with (at_builtin; refine wpList_pair rfl _ _ rfl wd.heap.size _ [] x0 x1 HO3.out HG3.out (by simp) rfl rfl ?_)
    intro v4 w4 hO4 hb4 _
    have HO4 : Off (OwnQ w4 wd.heap.size v4 [(x0, x1)]) := ⟨by simpa using hO4⟩
    have HB4 := Off.mk (HB3.out.trans (hb4.mono HBd.out.size))
    have HG4 : Off (wd.heap.size ≤ w4.heap.size) := ⟨Nat.le_trans HG3.out hb4.size⟩
    clear hO4 hb4
    go_wp2_with (at_builtin; refine wpList_appQ rfl _ _ rfl wd.heap.size _ [(x0, x1)] HO4.out HG4.out none [] 0 0 rfl (srcQ_nil _ _) (fun _ => ⟨rfl, rfl⟩) (by simp) (by omega) rfl rfl ?_)
    intro v5 w5 hO5 hb5
    have HO5 : Off (OwnQ w5 w.heap.size v5 (rputL [] (x0, x1))) := ⟨by
      refine ownQ_mono ?_ HBd.out.size
      simpa [rputL, rankP] using hO5⟩
    have HB5 := Off.mk (HB4.out.trans (hb5.mono HBd.out.size))
    clear hO5 hb5
    go_wp2
    go_ret
    exact ⟨_, rfl, HO5.out, HB5.out⟩
def rflipB (n : Nat) (l : List (Int × Int)) (i a b : Nat) : Bool := !(decide ((a : Int) = (l.getD i (0, 0)).1) && decide ((b : Int) = (l.getD i (0, 0)).2)) && rbrandB n (rputL (l.eraseIdx i) (a, b))
/-- The brand with another line, as the specification has it. -/
def rflipL (n : Nat) (l : List (Int × Int)) (i : Nat) : Option (List (Int × Int)) := (flipAt n (rflipB n l i) n).map fun p => rputL (l.eraseIdx i) ((p.1 : Int), (p.2 : Int))
set_option linter.unusedSimpArgs false in
set_option maxHeartbeats 8000000 in
set_option maxRecDepth 100000 in
theorem rflip_yes (n : Nat) (l : List (Int × Int)) (A : Option Addr) (c i : Nat) (hv : rbrandB n l = true) (hi : i < l.length) (w : World) (hx : PairsI w A l) (hlc : l.length ≤ c) :
    Calls Try.prog 21 #[.int .i64 (n : Int), .slice A l.length c, .int .i64 (i : Int)] w fun e w' => FlipPost w (rflipL n l i) e w' := by
  have hr := rbrand_range hv
  have CB := Off.mk (rbrand_any n l A c true hv w hx)
  have HF : Off (rflipL n l i = (flipAt n (rflipB n l i) n).map fun p => rputL (l.eraseIdx i) ((p.1 : Int), (p.2 : Int))) := ⟨rfl⟩
  have HT : Off (∀ a b : Nat, rflipB n l i a b = (!(decide ((a : Int) = (l.getD i (0, 0)).1) && decide ((b : Int) = (l.getD i (0, 0)).2)) && rbrandB n (rputL (l.eraseIdx i) (a, b)))) := ⟨fun _ _ => rfl⟩
  obtain ⟨T, hT⟩ : ∃ T, T = rflipB n l i := ⟨_, rfl⟩
  rw [← hT] at HT HF
  have hel : (l.eraseIdx i).length = l.length - 1 := List.length_eraseIdx_of_lt hi
  have h3 : 3 ≤ n := by omega
  have h12 : n ≤ 12 := by omega
  have hl9 : l.length ≤ 9 := by omega
  have HX := Off.mk hx
  have hi0 : (0 : Int) ≤ (i : Int) := by omega
  have hi1 : (i : Int) < (l.length : Int) := by omega
  obtain ⟨ad, hAe, p0, p1⟩ := hx.cell i hi
  subst hAe
  have CW := Off.mk (fun W (hW : Below w.heap.size w W) => without_any l ad c i hi W (HX.out.below hW) hlc (by omega))
  obtain ⟨os, hos⟩ : ∃ os, os = l.eraseIdx i := ⟨_, rfl⟩
  rw [← hos] at HT HF hel CW
  have HEL := Off.mk hel
  obtain ⟨q, hq⟩ : ∃ q, q = l.getD i (0, 0) := ⟨_, rfl⟩
  rw [← hq] at p0 p1 HT
  have hdi : decide (l.length ≤ i) = false := by rw [decide_eq_false_iff_not]; omega
  have hdi2 : decide ((i : Int) < 0) = false := by rw [decide_eq_false_iff_not]; omega
  clear hT hos hv hr hel hq
  go_enter Try.func21, Try.ntmps21
  go_wp2_with fail
  refine CB.out.mono ?_
  rintro e w1 ⟨rfl, hb1⟩
  have HB1 := Off.mk hb1
  clear hb1 CB
  go_wp2
  go_loopw [8] (fun av wr => ∃ a : Nat, a ≤ n ∧ av = .int .i64 a ∧ Off (flipAt n T a = none) ∧ Off (Below w1.heap.size w1 wr)) (fun av _ => n - (intOf av).toNat)
  case atStart => exact ⟨0, by omega, rfl, ⟨rfl⟩, ⟨Below.refl _ _⟩⟩
  case round =>
    obtain ⟨a, ha, rfl, HN, HB⟩ := hrel
    by_cases han : a < n
    · have hI0 : Off (flipIn n T a (a + 2) = none) := ⟨flipIn_low n T a (a + 2) (by omega)⟩
      go_wp2
      go_loopw [9] (fun bv wr => ∃ b : Nat, a + 2 ≤ b ∧ (b ≤ n ∨ b = a + 2) ∧ bv = .int .i64 b ∧ Off (flipIn n T a b = none) ∧ Off (Below w1.heap.size w1 wr)) (fun bv _ => n - (intOf bv).toNat)
      case atStart => exact ⟨a + 2, by omega, .inr rfl, by go_num, hI0, HB⟩
      case round =>
        clear HB hI0
        obtain ⟨b, hb0, hb1, rfl, HI, HB⟩ := hrel
        have HBw := Off.mk (belowC HB1.out HB.out)
        by_cases hbn : b < n
        · have HIs : Off (flipIn n T a (b + 1) = if a + 2 ≤ b ∧ T a b = true then some (a, b) else none) := ⟨by
            have := HI.out
            unfold flipIn at this ⊢
            rw [firstV_none _ this]⟩
          have HTab := Off.mk (HT.out a b)
          have c0 := cellB HBw.out p0
          have c1 := cellB HBw.out p1
          have hbl := block_new wr (.cells #[.int .i64 (a : Int), .int .i64 (b : Int)] 36)
          obtain ⟨⟨q0, q1⟩, _, _⟩ := two_facts hbl
          have hBp : Below wr.heap.size wr (wr.alloc (.cells #[.int .i64 (a : Int), .int .i64 (b : Int)] 36)) := (Below.refl _ _).alloc (Nat.le_refl _) _
          have c0 := cellB hBp c0
          have c1 := cellB hBp c1
          obtain ⟨z, hz⟩ : ∃ z, z = wr.heap.size := ⟨_, rfl⟩
          obtain ⟨w4, hw4⟩ : ∃ w4, w4 = wr.alloc (.cells #[.int .i64 (a : Int), .int .i64 (b : Int)] 36) := ⟨_, rfl⟩
          rw [← hz, ← hw4] at q0 q1
          rw [← hw4] at hBp c0 c1
          have HB4 := Off.mk (belowC HBw.out hBp)
          have HB4' := Off.mk (belowC HB.out hBp)
          clear hbl hBp
          go_wp2
          rw [← hw4, ← hz]
          clear hw4 hz
          refine wp_region_held_drew (S := (fun w' => (w'.cell? ⟨z, 0, none⟩ = some (.int .i64 (a : Int)) ∧ w'.cell? ⟨z, 1, none⟩ = some (.int .i64 (b : Int))) ∧ (w'.cell? (ad.add (i * 2)) = some (.int .i64 q.1) ∧ w'.cell? ⟨(ad.add (i * 2)).block, (ad.add (i * 2)).off + 1, none⟩ = some (.int .i64 q.2)))) (by kernel_rfl) ⟨⟨q0, q1⟩, c0, c1⟩ (fun hHeld => ?_)
          refine wpAnyH_take (i := 0) (oi := ⟨some 41, _, _, _, _, _⟩) (v := ?_) rfl (by kernel_rfl) (by kernel_rfl) (by kernel_rfl) (fun _ _ _ h => h) (Or.inl ⟨by rfl, by intro w hSw; (try dsimp only at hSw); go_simp; try with_reducible rfl⟩) hHeld ?_
          try simp only [Act.put, List.setIfInBounds_toArray, List.set_cons_zero, List.set_cons_succ]
          refine wpAnyH_take (i := 1) (oi := ⟨some 42, _, _, _, _, _⟩) (v := ?_) rfl (by kernel_rfl) (by kernel_rfl) (by kernel_rfl) (fun _ _ _ h => h) (Or.inl ⟨by rfl, by intro w hSw; (try dsimp only at hSw); go_simp; try with_reducible rfl⟩) hHeld ?_
          try simp only [Act.put, List.setIfInBounds_toArray, List.set_cons_zero, List.set_cons_succ]
          refine wpAnyH_take (i := 3) (oi := ⟨some 44, _, _, _, _, _⟩) (v := ?_) rfl (by kernel_rfl) (by kernel_rfl) (by kernel_rfl) (fun _ _ _ h => h) (Or.inl ⟨by rfl, by intro w hSw; (try dsimp only at hSw); go_simp; try with_reducible rfl⟩) hHeld ?_
          try simp only [Act.put, List.setIfInBounds_toArray, List.set_cons_zero, List.set_cons_succ]
          refine wpAnyH_ready (rs := [2]) (by kernel_rfl) (by simp) ?_
          refine AllReadyH.cons (o := ⟨some 43, _, _, _, _, _⟩) rfl (fun K hK => ?_) AllReadyH.nil
          go_simp
          go_at_call 59
          refine (CW.out _ (below_drew HB4.out)).mono ?_
          rintro e w5 ⟨v5, rfl, hO5, hb5⟩
          obtain ⟨A5, c5, rfl, hP5, hc5, hA5⟩ := ownQ_pairs hO5 (by rw [HEL.out]; omega)
          have CPut := Off.mk (rput_any os A5 c5 a b w5 hP5 hc5 hA5 (by rw [HEL.out]; omega))
          have HB5 := Off.mk (belowC (below_drew HB4.out) hb5)
          have HB5' := Off.mk (belowC (below_drew HB4'.out) hb5)
          clear hO5
          go_wp2_with fail
          refine hK.out _ _ ⟨⟨cellB hb5 hHeld.1.1, cellB hb5 hHeld.1.2⟩, cellB hb5 hHeld.2.1, cellB hb5 hHeld.2.2⟩ (fun hHeld => ?_)
          clear hK K
          try simp only [Act.put, List.setIfInBounds_toArray, List.set_cons_zero, List.set_cons_succ]
          refine wpAnyH_ready (rs := [4]) (by kernel_rfl) (by simp) ?_
          refine AllReadyH.cons (o := ⟨some 45, _, _, _, _, _⟩) rfl (fun K hK => ?_) AllReadyH.nil
          go_simp
          go_at_call 58
          refine CPut.out.mono ?_
          rintro e w6 ⟨v6, rfl, hO6, hb6⟩
          have HO6 := Off.mk hO6
          have HB6 := Off.mk (belowC HB5.out hb6)
          have HB6' := Off.mk (belowC HB5'.out hb6)
          clear hO6
          go_wp2_with fail
          refine hK.out _ _ ⟨⟨cellB hb6 hHeld.1.1, cellB hb6 hHeld.1.2⟩, cellB hb6 hHeld.2.1, cellB hb6 hHeld.2.2⟩ (fun hHeld => ?_)
          clear hK K
          try simp only [Act.put, List.setIfInBounds_toArray, List.set_cons_zero, List.set_cons_succ]
          refine wpAnyH_take (i := 5) (oi := ⟨some 11, _, _, _, _, _⟩) (v := ?_) rfl (by kernel_rfl) (by kernel_rfl) (by kernel_rfl) (fun _ _ _ h => h) (Or.inl ⟨by rfl, by intro w hSw; (try dsimp only at hSw); go_simp; try with_reducible rfl⟩) hHeld ?_
          try simp only [Act.put, List.setIfInBounds_toArray, List.set_cons_zero, List.set_cons_succ]
          refine wpAnyH_done (by kernel_rfl) ?_ _
          obtain ⟨⟨q0, q1⟩, c0, c1⟩ := hHeld
          obtain ⟨A6, c6, rfl, hP6, hc6, _⟩ := ownQ_pairs HO6.out (by rw [rputL_len, HEL.out]; omega)
          have HP6 := Off.mk hP6
          have HM : Off (OwnQ w6 w.heap.size (.slice A6 (rputL os ((a : Int), (b : Int))).length c6) (rputL os ((a : Int), (b : Int)))) := ⟨ownQ_mono HO6.out HB5.out.size⟩
          have hml : (rputL os ((a : Int), (b : Int))).length ≤ 9 := by rw [rputL_len, HEL.out]; omega
          have HFm : Off (flipAt n T n = some (a, b) → rflipL n l i = some (rputL os ((a : Int), (b : Int)))) := ⟨fun h => by rw [HF.out, h]; rfl⟩
          obtain ⟨ms, hms⟩ : ∃ ms, ms = rputL os ((a : Int), (b : Int)) := ⟨_, rfl⟩
          rw [← hms] at HP6 HM hml HFm HTab ⊢
          have HMS := Off.mk hms
          clear hP6 hc6 CPut hms HO6
          by_cases hpq : (a : Int) = q.1 ∧ (b : Int) = q.2
          · have hne : ∀ W, Sem.run Try.prog (binOp .neq 36 (.agg #[.int .i64 (a : Int), .int .i64 (b : Int)]) (.agg #[.int .i64 q.1, .int .i64 q.2])) W = .ok (.bool false) W := fun W => neq_pair _ _ _ _ _ (by rw [decide_eq_true hpq.1, decide_eq_true hpq.2]; rfl) W
            have HN' : Off (flipIn n T a (b + 1) = none) := ⟨by rw [HIs.out, HTab.out, decide_eq_true hpq.1, decide_eq_true hpq.2]; simp⟩
            clear hpq HIs HTab
            go_wp2
            refine wp_region_held_drew (S := (fun w' => (w'.cell? ⟨z, 0, none⟩ = some (.int .i64 (a : Int)) ∧ w'.cell? ⟨z, 1, none⟩ = some (.int .i64 (b : Int))) ∧ (w'.cell? (ad.add (i * 2)) = some (.int .i64 q.1) ∧ w'.cell? ⟨(ad.add (i * 2)).block, (ad.add (i * 2)).off + 1, none⟩ = some (.int .i64 q.2)))) (by kernel_rfl) ⟨⟨q0, q1⟩, c0, c1⟩ (fun hHeld => ?_)
            refine wpAnyH_take (i := 0) (oi := ⟨some 46, _, _, _, _, _⟩) (v := ?_) rfl (by kernel_rfl) (by kernel_rfl) (by kernel_rfl) (fun _ _ _ h => h) (Or.inl ⟨by rfl, by intro w hSw; (try dsimp only at hSw); go_simp; try with_reducible rfl⟩) hHeld ?_
            try simp only [Act.put, List.setIfInBounds_toArray, List.set_cons_zero, List.set_cons_succ]
            refine wpAnyH_take (i := 1) (oi := ⟨some 47, _, _, _, _, _⟩) (v := ?_) rfl (by kernel_rfl) (by kernel_rfl) (by kernel_rfl) (fun _ _ _ h => h) (Or.inl ⟨by rfl, by intro w hSw; (try dsimp only at hSw); go_simp; try with_reducible rfl⟩) hHeld ?_
            try simp only [Act.put, List.setIfInBounds_toArray, List.set_cons_zero, List.set_cons_succ]
            refine wpAnyH_take (i := 2) (oi := ⟨some 48, _, _, _, _, _⟩) (v := ?_) rfl (by kernel_rfl) (by kernel_rfl) (by kernel_rfl) (fun _ _ _ h => h) (Or.inl ⟨by rfl, by intro w hSw; (try dsimp only at hSw); go_simp; try with_reducible rfl⟩) hHeld ?_
            try simp only [Act.put, List.setIfInBounds_toArray, List.set_cons_zero, List.set_cons_succ]
            refine wpAnyH_take (i := 3) (oi := ⟨some 49, _, _, _, _, _⟩) (v := ?_) rfl (by kernel_rfl) (by kernel_rfl) (by kernel_rfl) (fun _ _ _ h => h) (Or.inl ⟨by rfl, by intro w hSw; (try dsimp only at hSw); go_simp; try with_reducible rfl⟩) hHeld ?_
            try simp only [Act.put, List.setIfInBounds_toArray, List.set_cons_zero, List.set_cons_succ]
            refine wpAnyH_take (i := 4) (oi := ⟨some 50, _, _, _, _, _⟩) (v := ?_) rfl (by kernel_rfl) (by kernel_rfl) (by kernel_rfl) (fun _ _ _ h => h) (Or.inl ⟨by rfl, by intro w hSw; (try dsimp only at hSw); go_simp; try with_reducible rfl⟩) hHeld ?_
            try simp only [Act.put, List.setIfInBounds_toArray, List.set_cons_zero, List.set_cons_succ]
            refine wpAnyH_take (i := 5) (oi := ⟨some 51, _, _, _, _, _⟩) (v := ?_) rfl (by kernel_rfl) (by kernel_rfl) (by kernel_rfl) (fun _ _ _ h => h) (Or.inl ⟨by rfl, by intro w hSw; (try dsimp only at hSw); go_simp; try with_reducible rfl⟩) hHeld ?_
            try simp only [Act.put, List.setIfInBounds_toArray, List.set_cons_zero, List.set_cons_succ]
            refine wpAnyH_take (i := 6) (oi := ⟨some 52, _, _, _, _, _⟩) (v := ?_) rfl (by kernel_rfl) (by kernel_rfl) (by kernel_rfl) (fun _ _ _ h => h) (Or.inl ⟨by rfl, by intro w hSw; (try dsimp only at hSw); go_simp; try with_reducible rfl⟩) hHeld ?_
            try simp only [Act.put, List.setIfInBounds_toArray, List.set_cons_zero, List.set_cons_succ]
            refine wpAnyH_take (i := 7) (oi := ⟨some 53, _, _, _, _, _⟩) (v := undef) rfl (by kernel_rfl) (by kernel_rfl) (by kernel_rfl) (fun _ _ _ h => h) (Or.inr ⟨by rfl, rfl⟩) hHeld ?_
            try simp only [Act.put, List.setIfInBounds_toArray, List.set_cons_zero, List.set_cons_succ]
            refine wpAnyH_take (i := 8) (oi := ⟨some 54, _, _, _, _, _⟩) (v := undef) rfl (by kernel_rfl) (by kernel_rfl) (by kernel_rfl) (fun _ _ _ h => h) (Or.inr ⟨by rfl, rfl⟩) hHeld ?_
            try simp only [Act.put, List.setIfInBounds_toArray, List.set_cons_zero, List.set_cons_succ]
            refine wpAnyH_take (i := 9) (oi := ⟨some 55, _, _, _, _, _⟩) (v := undef) rfl (by kernel_rfl) (by kernel_rfl) (by kernel_rfl) (fun _ _ _ h => h) (Or.inr ⟨by rfl, rfl⟩) hHeld ?_
            try simp only [Act.put, List.setIfInBounds_toArray, List.set_cons_zero, List.set_cons_succ]
            refine wpAnyH_take (i := 10) (oi := ⟨some 56, _, _, _, _, _⟩) (v := ?_) rfl (by kernel_rfl) (by kernel_rfl) (by kernel_rfl) (fun _ _ _ h => h) (Or.inl ⟨by rfl, by intro w hSw; (try dsimp only at hSw); go_simp; try with_reducible rfl⟩) hHeld ?_
            try simp only [Act.put, List.setIfInBounds_toArray, List.set_cons_zero, List.set_cons_succ]
            refine wpAnyH_done (by kernel_rfl) ?_ _
            go_wp2
            go_roundw
            case rel => exact ⟨b + 1, by omega, .inl (by omega), by go_num, HN', ⟨below_drew HB6'.out⟩⟩
            case measure => simp only [intOf]; omega
          · have hnb : (!(decide ((a : Int) = q.1) && decide ((b : Int) = q.2))) = true := by
              by_cases e1 : (a : Int) = q.1
              · rw [decide_eq_false (fun e2 => hpq ⟨e1, e2⟩)]; simp
              · rw [decide_eq_false e1]; simp
            have hne : ∀ W, Sem.run Try.prog (binOp .neq 36 (.agg #[.int .i64 (a : Int), .int .i64 (b : Int)]) (.agg #[.int .i64 q.1, .int .i64 q.2])) W = .ok (.bool true) W := fun W => neq_pair _ _ _ _ _ hnb W
            have HTab' : Off (T a b = rbrandB n ms) := ⟨by rw [HTab.out, hnb, Bool.true_and]⟩
            obtain ⟨f, hf⟩ : ∃ f, rbrandB n ms = f := ⟨_, rfl⟩
            have CF' := Off.mk (rbrand_any n ms A6 c6 f hf w6.drew ⟨HP6.out.len, HP6.out.cell⟩)
            rw [hf] at HTab'
            clear hpq HTab hf hnb
            cases f
            · have HN' : Off (flipIn n T a (b + 1) = none) := ⟨by rw [HIs.out, HTab'.out]; simp⟩
              clear HIs HTab'
              go_wp2
              refine wp_region_held_drew (S := (fun w' => (w'.cell? ⟨z, 0, none⟩ = some (.int .i64 (a : Int)) ∧ w'.cell? ⟨z, 1, none⟩ = some (.int .i64 (b : Int))) ∧ (w'.cell? (ad.add (i * 2)) = some (.int .i64 q.1) ∧ w'.cell? ⟨(ad.add (i * 2)).block, (ad.add (i * 2)).off + 1, none⟩ = some (.int .i64 q.2)))) (by kernel_rfl) ⟨⟨q0, q1⟩, c0, c1⟩ (fun hHeld => ?_)
              refine wpAnyH_take (i := 0) (oi := ⟨some 46, _, _, _, _, _⟩) (v := ?_) rfl (by kernel_rfl) (by kernel_rfl) (by kernel_rfl) (fun _ _ _ h => h) (Or.inl ⟨by rfl, by intro w hSw; (try dsimp only at hSw); go_simp; try with_reducible rfl⟩) hHeld ?_
              try simp only [Act.put, List.setIfInBounds_toArray, List.set_cons_zero, List.set_cons_succ]
              refine wpAnyH_take (i := 1) (oi := ⟨some 47, _, _, _, _, _⟩) (v := ?_) rfl (by kernel_rfl) (by kernel_rfl) (by kernel_rfl) (fun _ _ _ h => h) (Or.inl ⟨by rfl, by intro w hSw; (try dsimp only at hSw); go_simp; try with_reducible rfl⟩) hHeld ?_
              try simp only [Act.put, List.setIfInBounds_toArray, List.set_cons_zero, List.set_cons_succ]
              refine wpAnyH_take (i := 2) (oi := ⟨some 48, _, _, _, _, _⟩) (v := ?_) rfl (by kernel_rfl) (by kernel_rfl) (by kernel_rfl) (fun _ _ _ h => h) (Or.inl ⟨by rfl, by intro w hSw; (try dsimp only at hSw); go_simp; try with_reducible rfl⟩) hHeld ?_
              try simp only [Act.put, List.setIfInBounds_toArray, List.set_cons_zero, List.set_cons_succ]
              refine wpAnyH_take (i := 3) (oi := ⟨some 49, _, _, _, _, _⟩) (v := ?_) rfl (by kernel_rfl) (by kernel_rfl) (by kernel_rfl) (fun _ _ _ h => h) (Or.inl ⟨by rfl, by intro w hSw; (try dsimp only at hSw); go_simp; try with_reducible rfl⟩) hHeld ?_
              try simp only [Act.put, List.setIfInBounds_toArray, List.set_cons_zero, List.set_cons_succ]
              refine wpAnyH_take (i := 4) (oi := ⟨some 50, _, _, _, _, _⟩) (v := ?_) rfl (by kernel_rfl) (by kernel_rfl) (by kernel_rfl) (fun _ _ _ h => h) (Or.inl ⟨by rfl, by intro w hSw; (try dsimp only at hSw); go_simp; try with_reducible rfl⟩) hHeld ?_
              try simp only [Act.put, List.setIfInBounds_toArray, List.set_cons_zero, List.set_cons_succ]
              refine wpAnyH_take (i := 5) (oi := ⟨some 51, _, _, _, _, _⟩) (v := ?_) rfl (by kernel_rfl) (by kernel_rfl) (by kernel_rfl) (fun _ _ _ h => h) (Or.inl ⟨by rfl, by intro w hSw; (try dsimp only at hSw); go_simp; try with_reducible rfl⟩) hHeld ?_
              try simp only [Act.put, List.setIfInBounds_toArray, List.set_cons_zero, List.set_cons_succ]
              refine wpAnyH_take (i := 6) (oi := ⟨some 52, _, _, _, _, _⟩) (v := ?_) rfl (by kernel_rfl) (by kernel_rfl) (by kernel_rfl) (fun _ _ _ h => h) (Or.inl ⟨by rfl, by intro w hSw; (try dsimp only at hSw); go_simp; try with_reducible rfl⟩) hHeld ?_
              try simp only [Act.put, List.setIfInBounds_toArray, List.set_cons_zero, List.set_cons_succ]
              refine wpAnyH_take (i := 7) (oi := ⟨some 53, _, _, _, _, _⟩) (v := ?_) rfl (by kernel_rfl) (by kernel_rfl) (by kernel_rfl) (fun _ _ _ h => h) (Or.inl ⟨by rfl, by intro w hSw; (try dsimp only at hSw); go_simp; try with_reducible rfl⟩) hHeld ?_
              try simp only [Act.put, List.setIfInBounds_toArray, List.set_cons_zero, List.set_cons_succ]
              refine wpAnyH_take (i := 8) (oi := ⟨some 54, _, _, _, _, _⟩) (v := ?_) rfl (by kernel_rfl) (by kernel_rfl) (by kernel_rfl) (fun _ _ _ h => h) (Or.inl ⟨by rfl, by intro w hSw; (try dsimp only at hSw); go_simp; try with_reducible rfl⟩) hHeld ?_
              try simp only [Act.put, List.setIfInBounds_toArray, List.set_cons_zero, List.set_cons_succ]
              refine wpAnyH_ready (rs := [9]) (by kernel_rfl) (by simp) ?_
              refine AllReadyH.cons (o := ⟨some 55, _, _, _, _, _⟩) rfl (fun K hK => ?_) AllReadyH.nil
              go_simp
              go_at_call 25
              refine CF'.out.mono ?_
              rintro e w7 ⟨rfl, hb7⟩
              have HB7 := Off.mk (belowC (below_drew HB6.out) hb7)
              have HB7' := Off.mk (belowC (below_drew HB6'.out) hb7)
              go_wp2_with fail
              refine hK.out _ _ ⟨⟨cellB hb7 hHeld.1.1, cellB hb7 hHeld.1.2⟩, cellB hb7 hHeld.2.1, cellB hb7 hHeld.2.2⟩ (fun hHeld => ?_)
              clear hK K
              try simp only [Act.put, List.setIfInBounds_toArray, List.set_cons_zero, List.set_cons_succ]
              refine wpAnyH_take (i := 10) (oi := ⟨some 56, _, _, _, _, _⟩) (v := ?_) rfl (by kernel_rfl) (by kernel_rfl) (by kernel_rfl) (fun _ _ _ h => h) (Or.inl ⟨by rfl, by intro w hSw; (try dsimp only at hSw); go_simp; try with_reducible rfl⟩) hHeld ?_
              try simp only [Act.put, List.setIfInBounds_toArray, List.set_cons_zero, List.set_cons_succ]
              refine wpAnyH_done (by kernel_rfl) ?_ _
              go_wp2
              go_roundw
              case rel => exact ⟨b + 1, by omega, .inl (by omega), by go_num, HN', HB7'⟩
              case measure => simp only [intOf]; omega
            · have HY : Off (flipAt n T n = some (a, b)) := ⟨by
                have h1 : flipIn n T a (b + 1) = some (a, b) := by rw [HIs.out, HTab'.out]; simp [hb0]
                have h2 : flipIn n T a n = some (a, b) := firstV_up _ h1 (by omega)
                have h3 : flipAt n T (a + 1) = some (a, b) := by
                  have := HN.out
                  unfold flipAt at this ⊢
                  rw [firstV_none _ this]
                  exact h2
                exact firstV_up _ h3 (by omega)⟩
              clear HIs HTab'
              go_wp2
              refine wp_region_held_drew (S := (fun w' => (w'.cell? ⟨z, 0, none⟩ = some (.int .i64 (a : Int)) ∧ w'.cell? ⟨z, 1, none⟩ = some (.int .i64 (b : Int))) ∧ (w'.cell? (ad.add (i * 2)) = some (.int .i64 q.1) ∧ w'.cell? ⟨(ad.add (i * 2)).block, (ad.add (i * 2)).off + 1, none⟩ = some (.int .i64 q.2)))) (by kernel_rfl) ⟨⟨q0, q1⟩, c0, c1⟩ (fun hHeld => ?_)
              refine wpAnyH_take (i := 0) (oi := ⟨some 46, _, _, _, _, _⟩) (v := ?_) rfl (by kernel_rfl) (by kernel_rfl) (by kernel_rfl) (fun _ _ _ h => h) (Or.inl ⟨by rfl, by intro w hSw; (try dsimp only at hSw); go_simp; try with_reducible rfl⟩) hHeld ?_
              try simp only [Act.put, List.setIfInBounds_toArray, List.set_cons_zero, List.set_cons_succ]
              refine wpAnyH_take (i := 1) (oi := ⟨some 47, _, _, _, _, _⟩) (v := ?_) rfl (by kernel_rfl) (by kernel_rfl) (by kernel_rfl) (fun _ _ _ h => h) (Or.inl ⟨by rfl, by intro w hSw; (try dsimp only at hSw); go_simp; try with_reducible rfl⟩) hHeld ?_
              try simp only [Act.put, List.setIfInBounds_toArray, List.set_cons_zero, List.set_cons_succ]
              refine wpAnyH_take (i := 2) (oi := ⟨some 48, _, _, _, _, _⟩) (v := ?_) rfl (by kernel_rfl) (by kernel_rfl) (by kernel_rfl) (fun _ _ _ h => h) (Or.inl ⟨by rfl, by intro w hSw; (try dsimp only at hSw); go_simp; try with_reducible rfl⟩) hHeld ?_
              try simp only [Act.put, List.setIfInBounds_toArray, List.set_cons_zero, List.set_cons_succ]
              refine wpAnyH_take (i := 3) (oi := ⟨some 49, _, _, _, _, _⟩) (v := ?_) rfl (by kernel_rfl) (by kernel_rfl) (by kernel_rfl) (fun _ _ _ h => h) (Or.inl ⟨by rfl, by intro w hSw; (try dsimp only at hSw); go_simp; try with_reducible rfl⟩) hHeld ?_
              try simp only [Act.put, List.setIfInBounds_toArray, List.set_cons_zero, List.set_cons_succ]
              refine wpAnyH_take (i := 4) (oi := ⟨some 50, _, _, _, _, _⟩) (v := ?_) rfl (by kernel_rfl) (by kernel_rfl) (by kernel_rfl) (fun _ _ _ h => h) (Or.inl ⟨by rfl, by intro w hSw; (try dsimp only at hSw); go_simp; try with_reducible rfl⟩) hHeld ?_
              try simp only [Act.put, List.setIfInBounds_toArray, List.set_cons_zero, List.set_cons_succ]
              refine wpAnyH_take (i := 5) (oi := ⟨some 51, _, _, _, _, _⟩) (v := ?_) rfl (by kernel_rfl) (by kernel_rfl) (by kernel_rfl) (fun _ _ _ h => h) (Or.inl ⟨by rfl, by intro w hSw; (try dsimp only at hSw); go_simp; try with_reducible rfl⟩) hHeld ?_
              try simp only [Act.put, List.setIfInBounds_toArray, List.set_cons_zero, List.set_cons_succ]
              refine wpAnyH_take (i := 6) (oi := ⟨some 52, _, _, _, _, _⟩) (v := ?_) rfl (by kernel_rfl) (by kernel_rfl) (by kernel_rfl) (fun _ _ _ h => h) (Or.inl ⟨by rfl, by intro w hSw; (try dsimp only at hSw); go_simp; try with_reducible rfl⟩) hHeld ?_
              try simp only [Act.put, List.setIfInBounds_toArray, List.set_cons_zero, List.set_cons_succ]
              refine wpAnyH_take (i := 7) (oi := ⟨some 53, _, _, _, _, _⟩) (v := ?_) rfl (by kernel_rfl) (by kernel_rfl) (by kernel_rfl) (fun _ _ _ h => h) (Or.inl ⟨by rfl, by intro w hSw; (try dsimp only at hSw); go_simp; try with_reducible rfl⟩) hHeld ?_
              try simp only [Act.put, List.setIfInBounds_toArray, List.set_cons_zero, List.set_cons_succ]
              refine wpAnyH_take (i := 8) (oi := ⟨some 54, _, _, _, _, _⟩) (v := ?_) rfl (by kernel_rfl) (by kernel_rfl) (by kernel_rfl) (fun _ _ _ h => h) (Or.inl ⟨by rfl, by intro w hSw; (try dsimp only at hSw); go_simp; try with_reducible rfl⟩) hHeld ?_
              try simp only [Act.put, List.setIfInBounds_toArray, List.set_cons_zero, List.set_cons_succ]
              refine wpAnyH_ready (rs := [9]) (by kernel_rfl) (by simp) ?_
              refine AllReadyH.cons (o := ⟨some 55, _, _, _, _, _⟩) rfl (fun K hK => ?_) AllReadyH.nil
              go_simp
              go_at_call 25
              refine CF'.out.mono ?_
              rintro e w7 ⟨rfl, hb7⟩
              have HB7 := Off.mk (belowC (below_drew HB6.out) hb7)
              have HB7' := Off.mk (belowC (below_drew HB6'.out) hb7)
              go_wp2_with fail
              refine hK.out _ _ ⟨⟨cellB hb7 hHeld.1.1, cellB hb7 hHeld.1.2⟩, cellB hb7 hHeld.2.1, cellB hb7 hHeld.2.2⟩ (fun hHeld => ?_)
              clear hK K
              try simp only [Act.put, List.setIfInBounds_toArray, List.set_cons_zero, List.set_cons_succ]
              refine wpAnyH_take (i := 10) (oi := ⟨some 56, _, _, _, _, _⟩) (v := ?_) rfl (by kernel_rfl) (by kernel_rfl) (by kernel_rfl) (fun _ _ _ h => h) (Or.inl ⟨by rfl, by intro w hSw; (try dsimp only at hSw); go_simp; try with_reducible rfl⟩) hHeld ?_
              try simp only [Act.put, List.setIfInBounds_toArray, List.set_cons_zero, List.set_cons_succ]
              refine wpAnyH_done (by kernel_rfl) ?_ _
              have HM7 := Off.mk (ownQ_below (w := w6.drew) ⟨HM.out.out.drew⟩ hb7)
              go_wp2
              go_ret2
              rw [HFm.out HY.out]
              exact ⟨HB7.out, _, rfl, HM7.out⟩
        · have HN1 : Off (flipAt n T (a + 1) = none) := ⟨by
            have h1 := HN.out
            unfold flipAt at h1 ⊢
            rw [firstV_none _ h1]
            rcases hb1 with h | h
            · obtain rfl : b = n := by omega
              exact HI.out
            · exact flipIn_low n T a n (by omega)⟩
          go_wp2
          go_roundw
          case rel => exact ⟨a + 1, by omega, by go_num, HN1, HB⟩
          case measure => simp only [intOf]; omega
    · obtain rfl : a = n := by omega
      go_wp2
      go_ret2
      have hE : rflipL a l i = none := by rw [HF.out, HN.out]; rfl
      rw [hE]
      exact ⟨belowC HB1.out HB.out, rfl⟩
theorem flipIn_congr {n : Nat} {T T' : Nat → Nat → Bool} {a : Nat} (h : ∀ b, a + 2 ≤ b → b < n → T a b = T' a b) : ∀ k, k ≤ n → flipIn n T a k = flipIn n T' a k
  | 0, _ => rfl
  | k + 1, hk => by
    have ih := flipIn_congr h k (by omega)
    unfold flipIn at ih ⊢
    rw [firstV, firstV, ih]
    by_cases e : a + 2 ≤ k
    · rw [h k e (by omega)]
    · rw [if_neg (fun x => e x.1), if_neg (fun x => e x.1)]
theorem flipAt_congr {n : Nat} {T T' : Nat → Nat → Bool} (h : ∀ a b, a < n → a + 2 ≤ b → b < n → T a b = T' a b) : ∀ k, k ≤ n → flipAt n T k = flipAt n T' k
  | 0, _ => rfl
  | k + 1, hk => by
    have ih := flipAt_congr h k (by omega)
    unfold flipAt at ih ⊢
    rw [firstV, firstV, ih, flipIn_congr (fun b h1 h2 => h k b (by omega) h1 h2) n (Nat.le_refl _)]
theorem flipIn_some {n : Nat} {T : Nat → Nat → Bool} {a k : Nat} {p : Nat × Nat} (h : flipIn n T a k = some p) : p.1 = a ∧ a + 2 ≤ p.2 ∧ p.2 < k ∧ T p.1 p.2 = true ∧ ∀ b, a + 2 ≤ b → b < p.2 → T a b = false := by
  obtain ⟨j, hj, h1, h2⟩ := firstV_some _ h
  split at h1
  · rename_i hc
    cases h1
    refine ⟨rfl, hc.1, hj, hc.2, fun b hb1 hb2 => ?_⟩
    have := h2 b hb2
    split at this
    · cases this
    · rename_i hc2
      cases ht : T a b
      · rfl
      · exact (hc2 ⟨hb1, ht⟩).elim
  · cases h1
theorem flipAt_some {n : Nat} {T : Nat → Nat → Bool} {p : Nat × Nat} (h : flipAt n T n = some p) : p.1 + 2 ≤ p.2 ∧ p.2 < n ∧ T p.1 p.2 = true := by
  obtain ⟨j, hj, h1, _⟩ := firstV_some _ h
  obtain ⟨h2, h3, h4, h5, _⟩ := flipIn_some h1
  rw [h2] at h5 ⊢
  exact ⟨h3, h4, h5⟩
/-- Flip of the program and of the specification. -/
theorem flip_eq {n : Nat} {l : List (Int × Int)} {i : Nat} (hv : brandB n l = true) (hi : i < l.length) : flipL n l i = rflipL n l i := by
  have hb := (brandL_iff _ _).1 ((brand_iff _ _).1 hv)
  have hn := hb.size
  have hT : ∀ a b, a < n → a + 2 ≤ b → b < n → flipB n l i a b = rflipB n l i a b := fun a b h1 h2 h3 => by
    unfold flipB rflipB
    rw [fits_put hb hi _ (by unfold inR; constructor <;> simp only <;> omega)]
  unfold flipL rflipL
  rw [flipAt_congr hT n (Nat.le_refl _)]
  cases h : flipAt n (rflipB n l i) n with
  | none => rfl
  | some p =>
    obtain ⟨h1, h2, _⟩ := flipAt_some h
    simp only [Option.map_some]
    congr 1
    exact sort_put (hb.srt.sublist (List.eraseIdx_sublist _ _)) (fun y hy => line_inR hn.2.1 (hb.line y (List.mem_of_mem_eraseIdx hy))) (by unfold inR; constructor <;> simp only <;> omega)
theorem flips_many (n : Int) (l : List (Int × Int)) (A : Option Addr) (c : Nat) (i : Int) (w : World) (h60 : 60 < l.length) :
    Calls Try.prog 4 #[.int .i64 n, .slice A l.length c, .int .i64 i] w fun e w' => e = .returned (.bool true) ∧ Below w.heap.size w w' := by
  go_enter Try.func4, Try.ntmps4
  go_wp2_with (go_at_call 17; refine (alive_any _).mono ?_; rintro e w2 ⟨rfl, hb2⟩)
  go_ret
  exact ⟨rfl, hb2⟩
theorem pairs_nil (w : World) (A : Option Addr) : PairsI w A [] := ⟨by simp, fun j hj => by simp at hj⟩
set_option maxHeartbeats 8000000 in
set_option maxRecDepth 100000 in
theorem flips_few (n : Int) (l : List (Int × Int)) (A : Option Addr) (c : Nat) (i : Int) (w : World) (hx : PairsI w A l) (hlc : l.length ≤ c) (hA : A = none → c = 0) (h60 : l.length ≤ 60) :
    Calls Try.prog 4 #[.int .i64 n, .slice A l.length c, .int .i64 i] w fun e w' => e = .returned (.bool true) ∧ Below w.heap.size w w' := by
  have HX := Off.mk hx
  go_enter Try.func4, Try.ntmps4
  go_wp2_with (at_builtin; refine wpList_copyQ rfl _ _ rfl A l c hx hlc h60 hA rfl rfl ?_)
  intro v1 w1 hO1 hb1
  obtain ⟨A1, c1, rfl, hI1, hc1, hA1⟩ := ownQ_pairs hO1 (by omega)
  have HI1 := Off.mk hI1
  have HB1 := Off.mk hb1
  clear hO1 hI1 hb1 hx
  by_cases hyes : brandB n l = true ∧ 0 ≤ i ∧ i < l.length
  · obtain ⟨hb, h0, h1⟩ := hyes
    have hr := brand_range hb
    obtain ⟨m, rfl⟩ : ∃ m : Nat, n = m := ⟨n.toNat, by omega⟩
    obtain ⟨j, rfl⟩ : ∃ j : Nat, i = j := ⟨i.toNat, by omega⟩
    have hrb : rbrandB m l = true := by rw [← brand_eq, hb]
    have C1 := Off.mk (flip_yes m l A1 c1 j hb (by omega) w1 HI1.out hc1 hA1)
    have C2 := Off.mk (fun W (hW : Below w.heap.size w W) => rflip_yes m l A c j hrb (by omega) W (HX.out.below hW) hlc)
    rw [← flip_eq hb (by omega)] at C2
    have hfl : ∀ ms, flipL m l j = some ms → ms.length ≤ 60 := fun ms h => by
      unfold flipL at h
      rw [Option.map_eq_some_iff] at h
      obtain ⟨p, _, rfl⟩ := h
      rw [sortL, sortTo_len, List.length_append, List.length_eraseIdx_of_lt (by omega)]
      simp
      omega
    obtain ⟨o, ho⟩ : ∃ o, o = flipL m l j := ⟨_, rfl⟩
    rw [← ho] at C1 C2 hfl
    clear hb hrb hr ho h0 h1
    cases o with
    | none =>
      clear hfl
      go_wp2_with fail
      refine C1.out.mono ?_
      rintro e w2 ⟨hb2, rfl⟩
      have HB2 := Off.mk (belowC HB1.out hb2)
      have H12 := Off.mk hb2
      clear hb2 C1
      go_wp2_with fail
      refine (C2.out _ HB2.out).mono ?_
      rintro e w3 ⟨hb3, rfl⟩
      have HB3 := Off.mk (belowC HB2.out hb3)
      have H13 := Off.mk (belowC H12.out hb3)
      clear hb3 C2
      go_wp2_with fail
      refine (pairs_any [] [] none none 0 0 true (by decide) _ (pairs_nil _ _) (pairs_nil _ _)).mono ?_
      rintro e w4 ⟨rfl, hb4⟩
      have HB4 := Off.mk (belowC HB3.out hb4)
      have H14 := Off.mk (belowC H13.out hb4)
      clear hb4
      go_wp2_with fail
      refine (pairs_any l l A1 A c1 c true (by simp) _ (HI1.out.below H14.out) (HX.out.below HB4.out)).mono ?_
      rintro e w5 ⟨rfl, hb5⟩
      have HB5 := Off.mk (belowC HB4.out hb5)
      clear hb5
      go_wp2_with (go_at_call 17; refine (alive_any _).mono ?_; rintro e w6 ⟨rfl, hb6⟩)
      go_ret
      exact ⟨rfl, belowC HB5.out hb6⟩
    | some ms =>
      have hml := hfl ms rfl
      clear hfl
      go_wp2_with fail
      refine C1.out.mono ?_
      rintro e w2 ⟨hb2, v2, rfl, hO2⟩
      obtain ⟨A2, c2, rfl, hI2, _⟩ := ownQ_pairs hO2 (by omega)
      have HB2 := Off.mk (belowC HB1.out hb2)
      have H12 := Off.mk hb2
      have HI2 := Off.mk hI2
      clear hb2 C1 hO2 hI2
      go_wp2_with fail
      refine (C2.out _ HB2.out).mono ?_
      rintro e w3 ⟨hb3, v3, rfl, hO3⟩
      obtain ⟨A3, c3, rfl, hI3, _⟩ := ownQ_pairs hO3 (by omega)
      have HB3 := Off.mk (belowC HB2.out hb3)
      have H13 := Off.mk (belowC H12.out hb3)
      have HI2 := Off.mk (HI2.out.below hb3)
      have HI3 := Off.mk hI3
      clear hb3 C2 hO3 hI3
      go_wp2_with fail
      refine (pairs_any ms ms A2 A3 c2 c3 true (by simp) _ HI2.out HI3.out).mono ?_
      rintro e w4 ⟨rfl, hb4⟩
      have HB4 := Off.mk (belowC HB3.out hb4)
      have H14 := Off.mk (belowC H13.out hb4)
      clear hb4
      go_wp2_with fail
      refine (pairs_any l l A1 A c1 c true (by simp) _ (HI1.out.below H14.out) (HX.out.below HB4.out)).mono ?_
      rintro e w5 ⟨rfl, hb5⟩
      have HB5 := Off.mk (belowC HB4.out hb5)
      clear hb5
      go_wp2_with (go_at_call 17; refine (alive_any _).mono ?_; rintro e w6 ⟨rfl, hb6⟩)
      go_ret
      exact ⟨rfl, belowC HB5.out hb6⟩
  · have hno2 : ¬ (rbrandB n l = true ∧ 0 ≤ i ∧ i < l.length) := by rw [← brand_eq]; exact hyes
    have C1 := Off.mk (flip_arg n l A1 c1 i hyes w1 HI1.out hc1)
    have C2 := Off.mk (fun W (hW : Below w.heap.size w W) => rflip_arg n l A c i hno2 W (HX.out.below hW))
    clear hyes hno2
    go_wp2_with fail
    refine C1.out.mono ?_
    rintro e w2 ⟨rfl, hb2⟩
    have HB2 := Off.mk (belowC HB1.out hb2)
    have H12 := Off.mk hb2
    clear hb2 C1
    go_wp2_with fail
    refine (C2.out _ HB2.out).mono ?_
    rintro e w3 ⟨rfl, hb3⟩
    have HB3 := Off.mk (belowC HB2.out hb3)
    have H13 := Off.mk (belowC H12.out hb3)
    clear hb3 C2
    go_wp2_with fail
    refine (pairs_any [] [] none none 0 0 true (by decide) _ (pairs_nil _ _) (pairs_nil _ _)).mono ?_
    rintro e w4 ⟨rfl, hb4⟩
    have HB4 := Off.mk (belowC HB3.out hb4)
    have H14 := Off.mk (belowC H13.out hb4)
    clear hb4
    go_wp2_with fail
    refine (pairs_any l l A1 A c1 c true (by simp) _ (HI1.out.below H14.out) (HX.out.below HB4.out)).mono ?_
    rintro e w5 ⟨rfl, hb5⟩
    have HB5 := Off.mk (belowC HB4.out hb5)
    clear hb5
    go_wp2_with (go_at_call 17; refine (alive_any _).mono ?_; rintro e w6 ⟨rfl, hb6⟩)
    go_ret
    exact ⟨rfl, belowC HB5.out hb6⟩
theorem flips_walk (n : Int) (l : List (Int × Int)) (A : Option Addr) (c : Nat) (i : Int) (w : World) (hx : l.length ≤ 140737488351232 → PairsI w A l) (hlc : l.length ≤ c) (hA : A = none → c = 0) :
    Calls Try.prog 4 #[.int .i64 n, .slice A l.length c, .int .i64 i] w fun e w' => e = .returned (.bool true) ∧ Below w.heap.size w w' := by
  by_cases h60 : l.length ≤ 60
  · exact flips_few n l A c i w (hx (by omega)) hlc hA h60
  · exact flips_many n l A c i w (by omega)
end Go.Proofs.Ytddcdopimpfhcaa
