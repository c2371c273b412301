/- Contracts of the specification: convex, Convex, Area, Count, Where. -/
import Derived.Test.YtbpmiphipjkdlaaBm
import Derived.Test.YtbpmiphipjkdlaaBi
import Derived.Test.YtbpmiphipjkdlaaAr
namespace Go.Proofs.Ytbpmiphipjkdlaa
open Go.RowKit Go.Shelf
attribute [local go_sem] Oper.semAt_some

/-- Do some of the first k posts turn to the left (1), to the right (-1)? -/
def hitTo (xs : PtL) (s : Int) : Nat → Bool
  | 0 => false
  | k + 1 => hitTo xs s k || decide (turnAt xs k = s)
theorem hitT_to (xs : PtL) (s : Int) : hitT xs s (List.finRange xs.length) = hitTo xs s xs.length := by
  have h : ∀ k, (hk : k ≤ xs.length) → hitT xs s ((List.finRange xs.length).take k) = hitTo xs s k := by
    intro k
    induction k with
    | zero => intro _; rfl
    | succ k ih =>
      intro hk
      have hfin : (List.finRange xs.length).take (k + 1) = (List.finRange xs.length).take k ++ [⟨k, by omega⟩] := by
        rw [List.take_succ_eq_append_getElem (by rw [List.length_finRange]; omega)]
        congr 1
        simp
      rw [hfin, hitT_more, ih (by omega), hitTo]
      congr 1
  have := h xs.length (Nat.le_refl _)
  rwa [List.take_of_length_le (by rw [List.length_finRange]; exact Nat.le_refl _)] at this
theorem signI_pos (x : Int) : decide (signI x = 1) = decide (0 < x) := by
  unfold signI
  apply decide_eq_decide.2
  repeat' split
  all_goals omega
theorem signI_neg (x : Int) : decide (signI x = -1) = decide (x < 0) := by
  unfold signI
  apply decide_eq_decide.2
  repeat' split
  all_goals omega
def convexR (xs : PtL) : Bool := !(hitTo xs 1 xs.length) || !(hitTo xs (-1) xs.length)
set_option maxRecDepth 100000 in
set_option maxHeartbeats 4000000 in
theorem convexR_any (xs : PtL) (A : Option Addr) (c : Nat) (w : World) (h60 : xs.length ≤ 60) (hN : ∀ i, inB 50 (xs.getD i (0, 0))) (hx : PairsI w A xs) :
    Calls Try.prog 60 #[.slice A xs.length c] w fun e w' => e = .returned (.bool (convexR xs)) ∧ Below w.heap.size w w' := by
  have HX := Off.mk hx
  have HN := Off.mk hN
  clear hx hN
  refine (callsIn_wide (n := 9)).1 ?_
  refine callsIn_of_wp Try.func60 rfl trivial ?_ rfl
  simp only [Try.ntmps60, List.size_toArray, List.length_cons, List.length_nil, Nat.reduceAdd, Nat.reduceSub, Array.replicate_succ, Array.replicate_zero, List.push_toArray, List.append_toArray, List.nil_append, List.cons_append]
  gi_wp2
  gi_loopw [3, 4, 5] (fun lv rv kv wr => ∃ (l r : Bool) (k : Nat), k ≤ xs.length ∧ lv = .bool l ∧ rv = .bool r ∧ kv = .int .i64 k ∧ Off (l = hitTo xs 1 k ∧ r = hitTo xs (-1) k) ∧ Off (Below w.heap.size w wr)) (fun _ _ kv _ => xs.length - (intOf kv).toNat)
  case atStart => exact ⟨false, false, 0, by omega, rfl, rfl, rfl, ⟨rfl, rfl⟩, ⟨Below.refl _ _⟩⟩
  case round =>
    obtain ⟨l, r0, k, hk, rfl, rfl, rfl, HH, HB⟩ := hrel
    by_cases hlt : k < xs.length
    · have hkI : (k : Int) < (xs.length : Int) := by omega
      obtain ⟨m, hm⟩ : ∃ m, m = (k + 1) % xs.length := ⟨_, rfl⟩
      have hml : m < xs.length := by rw [hm]; exact Nat.mod_lt _ (by omega)
      have e5 : ((k : Int) + 1).tmod (xs.length : Int) = (m : Int) := by
        rw [Int.tmod_eq_emod_of_nonneg (by omega), hm, show (k : Int) + 1 = ((k + 1 : Nat) : Int) by omega]
        exact (Int.natCast_emod _ _).symm
      have e7 : ((k : Int) + 1) % (xs.length : Int) = (m : Int) := by rw [← Int.tmod_eq_emod_of_nonneg (by omega)]; exact e5
      have w5 : IntKind.i64.wrap ((k : Int) + 1) = (k : Int) + 1 := by rw [IntKind.wrap_i64]; omega
      obtain ⟨m2, hm2⟩ : ∃ m, m = (k + 2) % xs.length := ⟨_, rfl⟩
      have hml2 : m2 < xs.length := by rw [hm2]; exact Nat.mod_lt _ (by omega)
      have e52 : ((k : Int) + 2).tmod (xs.length : Int) = (m2 : Int) := by
        rw [Int.tmod_eq_emod_of_nonneg (by omega), hm2, show (k : Int) + 2 = ((k + 2 : Nat) : Int) by omega]
        exact (Int.natCast_emod _ _).symm
      have e72 : ((k : Int) + 2) % (xs.length : Int) = (m2 : Int) := by rw [← Int.tmod_eq_emod_of_nonneg (by omega)]; exact e52
      have w52 : IntKind.i64.wrap ((k : Int) + 2) = (k : Int) + 2 := by rw [IntKind.wrap_i64]; omega
      have hn0 : ¬ xs.length = 0 := by omega
      have hmI : (m : Int) < (xs.length : Int) := by omega
      have hmI2 : (m2 : Int) < (xs.length : Int) := by omega
      have hxr := HX.out.below HB.out
      obtain ⟨ad, rfl, x0, x1⟩ := hxr.cell k hlt
      obtain ⟨ad', e, z0, z1⟩ := hxr.cell m hml
      cases e
      obtain ⟨ad', e, y0, y1⟩ := hxr.cell m2 hml2
      cases e
      obtain ⟨p, hp⟩ : ∃ p, p = xs.getD k (0, 0) := ⟨_, rfl⟩
      obtain ⟨q, hq⟩ : ∃ q, q = xs.getD m (0, 0) := ⟨_, rfl⟩
      obtain ⟨r, hr⟩ : ∃ r, r = xs.getD m2 (0, 0) := ⟨_, rfl⟩
      have hpl : inB 2097152 p := by rw [hp]; exact inB_mono (HN.out _) (by decide)
      have hql : inB 2097152 q := by rw [hq]; exact inB_mono (HN.out _) (by decide)
      have hrl : inB 2097152 r := by rw [hr]; exact inB_mono (HN.out _) (by decide)
      have ht : turnAt xs k = signI (crossR p q r) := by unfold turnAt sideAt; simp only; rw [← hm, ← hm2, ← hp, ← hq, ← hr, crossR_turn]
      have HT : Off (∀ x, crossR p q r = x → ((l || decide (0 < x)) = hitTo xs 1 (k + 1) ∧ (r0 || decide (x < 0)) = hitTo xs (-1) (k + 1))) := ⟨fun x hx => by
        rw [hitTo, hitTo, HH.out.1, HH.out.2, ht, hx, signI_pos, signI_neg]
        exact ⟨rfl, rfl⟩⟩
      have C1 : Off (∀ W, Calls Try.prog 43 #[ptV p, ptV q, ptV r] W fun e w' => e = .returned (.int .i64 (crossR p q r)) ∧ Below W.heap.size W w') := ⟨fun W => crossR_any p q r hpl hql hrl W⟩
      rw [← hp] at x0 x1
      rw [← hq] at z0 z1
      rw [← hr] at y0 y1
      obtain ⟨x, hx⟩ : ∃ x, crossR p q r = x := ⟨_, rfl⟩
      have HTX := Off.mk (HT.out x hx)
      rw [hx] at C1
      clear hp hq hr hm hm2 hxr hpl hql hrl ht HT HH hx
      gi_wp2
      refine region_anyS' (S := (fun w' => (w'.cell? (ad.add (k * 2)) = some (.int .i64 p.1) ∧ w'.cell? ⟨(ad.add (k * 2)).block, (ad.add (k * 2)).off + 1, none⟩ = some (.int .i64 p.2)) ∧ (w'.cell? (ad.add (m * 2)) = some (.int .i64 q.1) ∧ w'.cell? ⟨(ad.add (m * 2)).block, (ad.add (m * 2)).off + 1, none⟩ = some (.int .i64 q.2)) ∧ (w'.cell? (ad.add (m2 * 2)) = some (.int .i64 r.1) ∧ w'.cell? ⟨(ad.add (m2 * 2)).block, (ad.add (m2 * 2)).off + 1, none⟩ = some (.int .i64 r.2)))) 20 (by kernel_rfl) ⟨⟨x0, x1⟩, ⟨z0, z1⟩, y0, y1⟩ (fun hInv hHeld => ?_)
      refine anyS_take (i := 0) (oi := ⟨some 13, _, _, _, _, _⟩) (v := ?_) (by kernel_rfl) rfl (by kernel_rfl) (by kernel_rfl) (by kernel_rfl) (by kernel_rfl) (fun _ _ _ h => h) (Or.inl ⟨by rfl, by intro w hSw; (try dsimp only at hSw); go_simp; try with_reducible rfl⟩) (fun _ => by first | rfl | simp [Oper.about, resolve, go_sem]) hInv hHeld (fun hInv hHeld => ?_)
      try simp only [Act.put, List.setIfInBounds_toArray, List.set_cons_zero, List.set_cons_succ]
      refine anyS_take (i := 1) (oi := ⟨some 14, _, _, _, _, _⟩) (v := ?_) (by kernel_rfl) rfl (by kernel_rfl) (by kernel_rfl) (by kernel_rfl) (by kernel_rfl) (fun _ _ _ h => h) (Or.inl ⟨by rfl, by intro w hSw; (try dsimp only at hSw); go_simp; try with_reducible rfl⟩) (fun _ => by first | rfl | simp [Oper.about, resolve, go_sem]) hInv hHeld (fun hInv hHeld => ?_)
      try simp only [Act.put, List.setIfInBounds_toArray, List.set_cons_zero, List.set_cons_succ]
      refine anyS_take (i := 2) (oi := ⟨some 15, _, _, _, _, _⟩) (v := ?_) (by kernel_rfl) rfl (by kernel_rfl) (by kernel_rfl) (by kernel_rfl) (by kernel_rfl) (fun _ _ _ h => h) (Or.inl ⟨by rfl, by intro w hSw; (try dsimp only at hSw); go_simp; try with_reducible rfl⟩) (fun _ => by first | rfl | simp [Oper.about, resolve, go_sem]) hInv hHeld (fun hInv hHeld => ?_)
      try simp only [Act.put, List.setIfInBounds_toArray, List.set_cons_zero, List.set_cons_succ]
      refine anyS_take (i := 3) (oi := ⟨some 16, _, _, _, _, _⟩) (v := ?_) (by kernel_rfl) rfl (by kernel_rfl) (by kernel_rfl) (by kernel_rfl) (by kernel_rfl) (fun _ _ _ h => h) (Or.inl ⟨by rfl, by intro w hSw; (try dsimp only at hSw); go_simp; try with_reducible rfl⟩) (fun _ => by first | rfl | simp [Oper.about, resolve, go_sem]) hInv hHeld (fun hInv hHeld => ?_)
      try simp only [Act.put, List.setIfInBounds_toArray, List.set_cons_zero, List.set_cons_succ]
      refine anyS_take (i := 4) (oi := ⟨some 17, _, _, _, _, _⟩) (v := ?_) (by kernel_rfl) rfl (by kernel_rfl) (by kernel_rfl) (by kernel_rfl) (by kernel_rfl) (fun _ _ _ h => h) (Or.inl ⟨by rfl, by intro w hSw; (try dsimp only at hSw); go_simp; try with_reducible rfl⟩) (fun _ => by first | rfl | simp [Oper.about, resolve, go_sem]) hInv hHeld (fun hInv hHeld => ?_)
      try simp only [Act.put, List.setIfInBounds_toArray, List.set_cons_zero, List.set_cons_succ]
      refine anyS_take (i := 5) (oi := ⟨some 18, _, _, _, _, _⟩) (v := ?_) (by kernel_rfl) rfl (by kernel_rfl) (by kernel_rfl) (by kernel_rfl) (by kernel_rfl) (fun _ _ _ h => h) (Or.inl ⟨by rfl, by intro w hSw; (try dsimp only at hSw); go_simp; try with_reducible rfl⟩) (fun _ => by first | rfl | simp [Oper.about, resolve, go_sem]) hInv hHeld (fun hInv hHeld => ?_)
      try simp only [Act.put, List.setIfInBounds_toArray, List.set_cons_zero, List.set_cons_succ]
      refine anyS_take (i := 6) (oi := ⟨some 19, _, _, _, _, _⟩) (v := ?_) (by kernel_rfl) rfl (by kernel_rfl) (by kernel_rfl) (by kernel_rfl) (by kernel_rfl) (fun _ _ _ h => h) (Or.inl ⟨by rfl, by intro w hSw; (try dsimp only at hSw); go_simp; try with_reducible rfl⟩) (fun _ => by first | rfl | simp [Oper.about, resolve, go_sem]) hInv hHeld (fun hInv hHeld => ?_)
      try simp only [Act.put, List.setIfInBounds_toArray, List.set_cons_zero, List.set_cons_succ]
      refine anyS_take (i := 7) (oi := ⟨some 20, _, _, _, _, _⟩) (v := ?_) (by kernel_rfl) rfl (by kernel_rfl) (by kernel_rfl) (by kernel_rfl) (by kernel_rfl) (fun _ _ _ h => h) (Or.inl ⟨by rfl, by intro w hSw; (try dsimp only at hSw); go_simp; try with_reducible rfl⟩) (fun _ => by first | rfl | simp [Oper.about, resolve, go_sem]) hInv hHeld (fun hInv hHeld => ?_)
      try simp only [Act.put, List.setIfInBounds_toArray, List.set_cons_zero, List.set_cons_succ]
      refine anyS_take (i := 8) (oi := ⟨some 21, _, _, _, _, _⟩) (v := ?_) (by kernel_rfl) rfl (by kernel_rfl) (by kernel_rfl) (by kernel_rfl) (by kernel_rfl) (fun _ _ _ h => h) (Or.inl ⟨by rfl, by intro w hSw; (try dsimp only at hSw); go_simp; try with_reducible rfl⟩) (fun _ => by first | rfl | simp [Oper.about, resolve, go_sem]) hInv hHeld (fun hInv hHeld => ?_)
      try simp only [Act.put, List.setIfInBounds_toArray, List.set_cons_zero, List.set_cons_succ]
      refine anyS_take (i := 9) (oi := ⟨some 22, _, _, _, _, _⟩) (v := ?_) (by kernel_rfl) rfl (by kernel_rfl) (by kernel_rfl) (by kernel_rfl) (by kernel_rfl) (fun _ _ _ h => h) (Or.inl ⟨by rfl, by intro w hSw; (try dsimp only at hSw); go_simp; try with_reducible rfl⟩) (fun _ => by first | rfl | simp [Oper.about, resolve, go_sem]) hInv hHeld (fun hInv hHeld => ?_)
      try simp only [Act.put, List.setIfInBounds_toArray, List.set_cons_zero, List.set_cons_succ]
      refine anyS_take (i := 10) (oi := ⟨some 23, _, _, _, _, _⟩) (v := ?_) (by kernel_rfl) rfl (by kernel_rfl) (by kernel_rfl) (by kernel_rfl) (by kernel_rfl) (fun _ _ _ h => h) (Or.inl ⟨by rfl, by intro w hSw; (try dsimp only at hSw); go_simp; try with_reducible rfl⟩) (fun _ => by first | rfl | simp [Oper.about, resolve, go_sem]) hInv hHeld (fun hInv hHeld => ?_)
      try simp only [Act.put, List.setIfInBounds_toArray, List.set_cons_zero, List.set_cons_succ]
      refine anyS_take (i := 11) (oi := ⟨some 24, _, _, _, _, _⟩) (v := ?_) (by kernel_rfl) rfl (by kernel_rfl) (by kernel_rfl) (by kernel_rfl) (by kernel_rfl) (fun _ _ _ h => h) (Or.inl ⟨by rfl, by intro w hSw; (try dsimp only at hSw); go_simp; try with_reducible rfl⟩) (fun _ => by first | rfl | simp [Oper.about, resolve, go_sem]) hInv hHeld (fun hInv hHeld => ?_)
      try simp only [Act.put, List.setIfInBounds_toArray, List.set_cons_zero, List.set_cons_succ]
      refine anyS_take (i := 12) (oi := ⟨some 25, _, _, _, _, _⟩) (v := ?_) (by kernel_rfl) rfl (by kernel_rfl) (by kernel_rfl) (by kernel_rfl) (by kernel_rfl) (fun _ _ _ h => h) (Or.inl ⟨by rfl, by intro w hSw; (try dsimp only at hSw); go_simp; try with_reducible rfl⟩) (fun _ => by first | rfl | simp [Oper.about, resolve, go_sem]) hInv hHeld (fun hInv hHeld => ?_)
      try simp only [Act.put, List.setIfInBounds_toArray, List.set_cons_zero, List.set_cons_succ]
      refine anyS_take (i := 13) (oi := ⟨some 26, _, _, _, _, _⟩) (v := ?_) (by kernel_rfl) rfl (by kernel_rfl) (by kernel_rfl) (by kernel_rfl) (by kernel_rfl) (fun _ _ _ h => h) (Or.inl ⟨by rfl, by intro w hSw; (try dsimp only at hSw); go_simp; try with_reducible rfl⟩) (fun _ => by first | rfl | simp [Oper.about, resolve, go_sem]) hInv hHeld (fun hInv hHeld => ?_)
      try simp only [Act.put, List.setIfInBounds_toArray, List.set_cons_zero, List.set_cons_succ]
      refine anyS_take (i := 14) (oi := ⟨some 27, _, _, _, _, _⟩) (v := ?_) (by kernel_rfl) rfl (by kernel_rfl) (by kernel_rfl) (by kernel_rfl) (by kernel_rfl) (fun _ _ _ h => h) (Or.inl ⟨by rfl, by intro w hSw; (try dsimp only at hSw); go_simp; try with_reducible rfl⟩) (fun _ => by first | rfl | simp [Oper.about, resolve, go_sem]) hInv hHeld (fun hInv hHeld => ?_)
      try simp only [Act.put, List.setIfInBounds_toArray, List.set_cons_zero, List.set_cons_succ]
      refine anyS_take (i := 15) (oi := ⟨some 28, _, _, _, _, _⟩) (v := ?_) (by kernel_rfl) rfl (by kernel_rfl) (by kernel_rfl) (by kernel_rfl) (by kernel_rfl) (fun _ _ _ h => h) (Or.inl ⟨by rfl, by intro w hSw; (try dsimp only at hSw); go_simp; try with_reducible rfl⟩) (fun _ => by first | rfl | simp [Oper.about, resolve, go_sem]) hInv hHeld (fun hInv hHeld => ?_)
      try simp only [Act.put, List.setIfInBounds_toArray, List.set_cons_zero, List.set_cons_succ]
      refine anyS_take (i := 16) (oi := ⟨some 29, _, _, _, _, _⟩) (v := ?_) (by kernel_rfl) rfl (by kernel_rfl) (by kernel_rfl) (by kernel_rfl) (by kernel_rfl) (fun _ _ _ h => h) (Or.inl ⟨by rfl, by intro w hSw; (try dsimp only at hSw); go_simp; try with_reducible rfl⟩) (fun _ => by first | rfl | simp [Oper.about, resolve, go_sem]) hInv hHeld (fun hInv hHeld => ?_)
      try simp only [Act.put, List.setIfInBounds_toArray, List.set_cons_zero, List.set_cons_succ]
      refine anyS_take (i := 17) (oi := ⟨some 30, _, _, _, _, _⟩) (v := ?_) (by kernel_rfl) rfl (by kernel_rfl) (by kernel_rfl) (by kernel_rfl) (by kernel_rfl) (fun _ _ _ h => h) (Or.inl ⟨by rfl, by intro w hSw; (try dsimp only at hSw); go_simp; try with_reducible rfl⟩) (fun _ => by first | rfl | simp [Oper.about, resolve, go_sem]) hInv hHeld (fun hInv hHeld => ?_)
      try simp only [Act.put, List.setIfInBounds_toArray, List.set_cons_zero, List.set_cons_succ]
      refine anyS_take (i := 18) (oi := ⟨some 31, _, _, _, _, _⟩) (v := ?_) (by kernel_rfl) rfl (by kernel_rfl) (by kernel_rfl) (by kernel_rfl) (by kernel_rfl) (fun _ _ _ h => h) (Or.inl ⟨by rfl, by intro w hSw; (try dsimp only at hSw); go_simp; try with_reducible rfl⟩) (fun _ => by first | rfl | simp [Oper.about, resolve, go_sem]) hInv hHeld (fun hInv hHeld => ?_)
      try simp only [Act.put, List.setIfInBounds_toArray, List.set_cons_zero, List.set_cons_succ]
      refine anyS_take (i := 19) (oi := ⟨some 32, _, _, _, _, _⟩) (v := ?_) (by kernel_rfl) rfl (by kernel_rfl) (by kernel_rfl) (by kernel_rfl) (by kernel_rfl) (fun _ _ _ h => h) (Or.inl ⟨by rfl, by intro w hSw; (try dsimp only at hSw); go_simp; try with_reducible rfl⟩) (fun _ => by first | rfl | simp [Oper.about, resolve, go_sem]) hInv hHeld (fun hInv hHeld => ?_)
      try simp only [Act.put, List.setIfInBounds_toArray, List.set_cons_zero, List.set_cons_succ]
      refine anyS_one (i := 20) (o := ⟨some 33, _, _, _, _, _⟩) (by kernel_rfl) rfl hInv (fun K hK => ?_)
      go_simp
      refine ⟨trivial, ?_⟩
      refine (callsIn_wide.2 (C1.out _)).mono ?_
      rintro e V1 ⟨rfl, hv1⟩
      refine hK.out _ _ (fun e => absurd (show true = false from e) (by decide)) (fun hInv hHeld => ?_)
      clear hK K
      try simp only [Act.put, List.setIfInBounds_toArray, List.set_cons_zero, List.set_cons_succ]
      refine anyS_pure (i := 21) (oi := ⟨some 6, _, _, _, _, _⟩) (v := ?_) (by kernel_rfl) rfl (by kernel_rfl) (by kernel_rfl) (by kernel_rfl) (by decide) (fun _ _ _ h => h) (Or.inl ⟨by rfl, by intro w hSw; (try dsimp only at hSw); go_simp; try with_reducible rfl⟩) (fun _ => by first | rfl | simp [Oper.about, resolve, go_sem]) hInv hHeld (fun hInv hHeld => ?_)
      try simp only [Act.put, List.setIfInBounds_toArray, List.set_cons_zero, List.set_cons_succ]
      refine anyS_done (by kernel_rfl) ?_ _
      have HBV := Off.mk (belowC (below_drew HB.out) hv1)
      clear hv1
      obtain ⟨d1, hd1⟩ : ∃ d, decide (0 < x) = d := ⟨_, rfl⟩
      obtain ⟨d2, hd2⟩ : ∃ d, decide (x < 0) = d := ⟨_, rfl⟩
      rw [hd1, hd2] at HTX
      cases l <;> cases r0 <;> gi_wp2 <;> go_roundw
      all_goals first
        | exact ⟨_, _, k + 1, by omega, rfl, rfl, by go_num, ⟨by simpa using HTX.out⟩, HBV⟩
        | (simp only [intOf]; omega)
    · obtain rfl : k = xs.length := by omega
      have HR : Off (convexR xs = (!l || !r0)) := ⟨by unfold convexR; rw [← HH.out.1, ← HH.out.2]⟩
      cases l <;> cases r0 <;> gi_wp2
      all_goals
        go_ret
        exact ⟨ret_bool (by rw [HR.out]; rfl), HB.out⟩
end Go.Proofs.Ytbpmiphipjkdlaa
