/- Contracts of the specification: Straight. Contracts: Opposite where there is none. Contracts of the specification: Opposite. -/
import Derived.Test.YtbpmiphipjkdlaaBo
import Derived.Test.YtbpmiphipjkdlaaAu
import Derived.Test.YtbpmiphipjkdlaaBs
import Derived.Test.YtbpmiphipjkdlaaBl
namespace Go.Proofs.Ytbpmiphipjkdlaa
section
open Go.RowKit Go.Shelf
attribute [local go_sem] Oper.semAt_some

set_option maxRecDepth 100000 in
set_option maxHeartbeats 4000000 in
theorem straight_any (xs : PtL) (A : Option Addr) (c : Nat) (w : World) (h60 : xs.length ≤ 60) (hN : ∀ i, inB 50 (xs.getD i (0, 0))) (hx : PairsI w A xs) :
    Calls Try.prog 42 #[.slice A xs.length c] w fun e w' => e = .returned (.bool (hitTo xs 0 xs.length)) ∧ Below w.heap.size w w' := by
  have HX := Off.mk hx
  have HN := Off.mk hN
  clear hx hN
  refine (callsIn_wide (n := 9)).1 ?_
  refine callsIn_of_wp Try.func42 rfl trivial ?_ rfl
  simp only [Try.ntmps42, List.size_toArray, List.length_cons, List.length_nil, Nat.reduceAdd, Nat.reduceSub, Array.replicate_succ, Array.replicate_zero, List.push_toArray, List.append_toArray, List.nil_append, List.cons_append]
  gi_wp2
  gi_loopw [3] (fun kv wr => ∃ k : Nat, k ≤ xs.length ∧ kv = .int .i64 k ∧ Off (hitTo xs 0 k = false) ∧ Off (Below w.heap.size w wr)) (fun kv _ => xs.length - (intOf kv).toNat)
  case atStart => exact ⟨0, by omega, rfl, ⟨rfl⟩, ⟨Below.refl _ _⟩⟩
  case round =>
    obtain ⟨k, hk, rfl, HH, HB⟩ := hrel
    by_cases hlt : k < xs.length
    · have hkI : (k : Int) < (xs.length : Int) := by omega
      obtain ⟨m, hm⟩ : ∃ m, m = (k + 1) % xs.length := ⟨_, rfl⟩
      have hml : m < xs.length := by rw [hm]; exact Nat.mod_lt _ (by omega)
      have e5 : ((k : Int) + 1).tmod (xs.length : Int) = (m : Int) := by
        rw [Int.tmod_eq_emod_of_nonneg (by omega), hm, show (k : Int) + 1 = ((k + 1 : Nat) : Int) by omega]
        exact (Int.natCast_emod _ _).symm
      have e7 : ((k : Int) + 1) % (xs.length : Int) = (m : Int) := by rw [← Int.tmod_eq_emod_of_nonneg (by omega)]; exact e5
      have w5 : IntKind.i64.wrap ((k : Int) + 1) = (k : Int) + 1 := by rw [IntKind.wrap_i64]; omega
      obtain ⟨m2, hm2⟩ : ∃ m, m = (k + 2) % xs.length := ⟨_, rfl⟩
      have hml2 : m2 < xs.length := by rw [hm2]; exact Nat.mod_lt _ (by omega)
      have e52 : ((k : Int) + 2).tmod (xs.length : Int) = (m2 : Int) := by
        rw [Int.tmod_eq_emod_of_nonneg (by omega), hm2, show (k : Int) + 2 = ((k + 2 : Nat) : Int) by omega]
        exact (Int.natCast_emod _ _).symm
      have e72 : ((k : Int) + 2) % (xs.length : Int) = (m2 : Int) := by rw [← Int.tmod_eq_emod_of_nonneg (by omega)]; exact e52
      have w52 : IntKind.i64.wrap ((k : Int) + 2) = (k : Int) + 2 := by rw [IntKind.wrap_i64]; omega
      have hn0 : ¬ xs.length = 0 := by omega
      have hmI : (m : Int) < (xs.length : Int) := by omega
      have hmI2 : (m2 : Int) < (xs.length : Int) := by omega
      have hxr := HX.out.below HB.out
      obtain ⟨ad, rfl, x0, x1⟩ := hxr.cell k hlt
      obtain ⟨ad', e, z0, z1⟩ := hxr.cell m hml
      cases e
      obtain ⟨ad', e, y0, y1⟩ := hxr.cell m2 hml2
      cases e
      obtain ⟨p, hp⟩ : ∃ p, p = xs.getD k (0, 0) := ⟨_, rfl⟩
      obtain ⟨q, hq⟩ : ∃ q, q = xs.getD m (0, 0) := ⟨_, rfl⟩
      obtain ⟨r, hr⟩ : ∃ r, r = xs.getD m2 (0, 0) := ⟨_, rfl⟩
      have hpl : inB 2097152 p := by rw [hp]; exact inB_mono (HN.out _) (by decide)
      have hql : inB 2097152 q := by rw [hq]; exact inB_mono (HN.out _) (by decide)
      have hrl : inB 2097152 r := by rw [hr]; exact inB_mono (HN.out _) (by decide)
      have ht : turnAt xs k = signI (crossR p q r) := by unfold turnAt sideAt; simp only; rw [← hm, ← hm2, ← hp, ← hq, ← hr, crossR_turn]
      have HT : Off (∀ x, crossR p q r = x → (x ≠ 0 → hitTo xs 0 (k + 1) = false) ∧ (x = 0 → hitTo xs 0 xs.length = true)) := ⟨fun x hx => ⟨fun h0 => by
        rw [hitTo, HH.out, ht, hx, Bool.false_or]
        refine decide_eq_false fun e => h0 ?_
        unfold signI at e
        split at e
        · omega
        · split at e <;> omega, fun h0 => (hitTo_iff xs 0 _).2 ⟨k, hlt, by rw [ht, hx, h0]; rfl⟩⟩⟩
      have C1 : Off (∀ W, Calls Try.prog 43 #[ptV p, ptV q, ptV r] W fun e w' => e = .returned (.int .i64 (crossR p q r)) ∧ Below W.heap.size W w') := ⟨fun W => crossR_any p q r hpl hql hrl W⟩
      rw [← hp] at x0 x1
      rw [← hq] at z0 z1
      rw [← hr] at y0 y1
      obtain ⟨x, hx⟩ : ∃ x, crossR p q r = x := ⟨_, rfl⟩
      have HTX := Off.mk (HT.out x hx)
      rw [hx] at C1
      clear hp hq hr hm hm2 hxr hpl hql hrl ht HT HH hx
      gi_wp2
      refine region_anyS' (S := (fun w' => (w'.cell? (ad.add (k * 2)) = some (.int .i64 p.1) ∧ w'.cell? ⟨(ad.add (k * 2)).block, (ad.add (k * 2)).off + 1, none⟩ = some (.int .i64 p.2)) ∧ (w'.cell? (ad.add (m * 2)) = some (.int .i64 q.1) ∧ w'.cell? ⟨(ad.add (m * 2)).block, (ad.add (m * 2)).off + 1, none⟩ = some (.int .i64 q.2)) ∧ (w'.cell? (ad.add (m2 * 2)) = some (.int .i64 r.1) ∧ w'.cell? ⟨(ad.add (m2 * 2)).block, (ad.add (m2 * 2)).off + 1, none⟩ = some (.int .i64 r.2)))) 20 (by kernel_rfl) ⟨⟨x0, x1⟩, ⟨z0, z1⟩, y0, y1⟩ (fun hInv hHeld => ?_)
      refine anyS_take (i := 0) (oi := ⟨some 10, _, _, _, _, _⟩) (v := ?_) (by kernel_rfl) rfl (by kernel_rfl) (by kernel_rfl) (by kernel_rfl) (by kernel_rfl) (fun _ _ _ h => h) (Or.inl ⟨by rfl, by intro w hSw; (try dsimp only at hSw); go_simp; try with_reducible rfl⟩) (fun _ => by first | rfl | simp [Oper.about, resolve, go_sem]) hInv hHeld (fun hInv hHeld => ?_)
      try simp only [Act.put, List.setIfInBounds_toArray, List.set_cons_zero, List.set_cons_succ]
      refine anyS_take (i := 1) (oi := ⟨some 11, _, _, _, _, _⟩) (v := ?_) (by kernel_rfl) rfl (by kernel_rfl) (by kernel_rfl) (by kernel_rfl) (by kernel_rfl) (fun _ _ _ h => h) (Or.inl ⟨by rfl, by intro w hSw; (try dsimp only at hSw); go_simp; try with_reducible rfl⟩) (fun _ => by first | rfl | simp [Oper.about, resolve, go_sem]) hInv hHeld (fun hInv hHeld => ?_)
      try simp only [Act.put, List.setIfInBounds_toArray, List.set_cons_zero, List.set_cons_succ]
      refine anyS_take (i := 2) (oi := ⟨some 12, _, _, _, _, _⟩) (v := ?_) (by kernel_rfl) rfl (by kernel_rfl) (by kernel_rfl) (by kernel_rfl) (by kernel_rfl) (fun _ _ _ h => h) (Or.inl ⟨by rfl, by intro w hSw; (try dsimp only at hSw); go_simp; try with_reducible rfl⟩) (fun _ => by first | rfl | simp [Oper.about, resolve, go_sem]) hInv hHeld (fun hInv hHeld => ?_)
      try simp only [Act.put, List.setIfInBounds_toArray, List.set_cons_zero, List.set_cons_succ]
      refine anyS_take (i := 3) (oi := ⟨some 13, _, _, _, _, _⟩) (v := ?_) (by kernel_rfl) rfl (by kernel_rfl) (by kernel_rfl) (by kernel_rfl) (by kernel_rfl) (fun _ _ _ h => h) (Or.inl ⟨by rfl, by intro w hSw; (try dsimp only at hSw); go_simp; try with_reducible rfl⟩) (fun _ => by first | rfl | simp [Oper.about, resolve, go_sem]) hInv hHeld (fun hInv hHeld => ?_)
      try simp only [Act.put, List.setIfInBounds_toArray, List.set_cons_zero, List.set_cons_succ]
      refine anyS_take (i := 4) (oi := ⟨some 14, _, _, _, _, _⟩) (v := ?_) (by kernel_rfl) rfl (by kernel_rfl) (by kernel_rfl) (by kernel_rfl) (by kernel_rfl) (fun _ _ _ h => h) (Or.inl ⟨by rfl, by intro w hSw; (try dsimp only at hSw); go_simp; try with_reducible rfl⟩) (fun _ => by first | rfl | simp [Oper.about, resolve, go_sem]) hInv hHeld (fun hInv hHeld => ?_)
      try simp only [Act.put, List.setIfInBounds_toArray, List.set_cons_zero, List.set_cons_succ]
      refine anyS_take (i := 5) (oi := ⟨some 15, _, _, _, _, _⟩) (v := ?_) (by kernel_rfl) rfl (by kernel_rfl) (by kernel_rfl) (by kernel_rfl) (by kernel_rfl) (fun _ _ _ h => h) (Or.inl ⟨by rfl, by intro w hSw; (try dsimp only at hSw); go_simp; try with_reducible rfl⟩) (fun _ => by first | rfl | simp [Oper.about, resolve, go_sem]) hInv hHeld (fun hInv hHeld => ?_)
      try simp only [Act.put, List.setIfInBounds_toArray, List.set_cons_zero, List.set_cons_succ]
      refine anyS_take (i := 6) (oi := ⟨some 16, _, _, _, _, _⟩) (v := ?_) (by kernel_rfl) rfl (by kernel_rfl) (by kernel_rfl) (by kernel_rfl) (by kernel_rfl) (fun _ _ _ h => h) (Or.inl ⟨by rfl, by intro w hSw; (try dsimp only at hSw); go_simp; try with_reducible rfl⟩) (fun _ => by first | rfl | simp [Oper.about, resolve, go_sem]) hInv hHeld (fun hInv hHeld => ?_)
      try simp only [Act.put, List.setIfInBounds_toArray, List.set_cons_zero, List.set_cons_succ]
      refine anyS_take (i := 7) (oi := ⟨some 17, _, _, _, _, _⟩) (v := ?_) (by kernel_rfl) rfl (by kernel_rfl) (by kernel_rfl) (by kernel_rfl) (by kernel_rfl) (fun _ _ _ h => h) (Or.inl ⟨by rfl, by intro w hSw; (try dsimp only at hSw); go_simp; try with_reducible rfl⟩) (fun _ => by first | rfl | simp [Oper.about, resolve, go_sem]) hInv hHeld (fun hInv hHeld => ?_)
      try simp only [Act.put, List.setIfInBounds_toArray, List.set_cons_zero, List.set_cons_succ]
      refine anyS_take (i := 8) (oi := ⟨some 18, _, _, _, _, _⟩) (v := ?_) (by kernel_rfl) rfl (by kernel_rfl) (by kernel_rfl) (by kernel_rfl) (by kernel_rfl) (fun _ _ _ h => h) (Or.inl ⟨by rfl, by intro w hSw; (try dsimp only at hSw); go_simp; try with_reducible rfl⟩) (fun _ => by first | rfl | simp [Oper.about, resolve, go_sem]) hInv hHeld (fun hInv hHeld => ?_)
      try simp only [Act.put, List.setIfInBounds_toArray, List.set_cons_zero, List.set_cons_succ]
      refine anyS_take (i := 9) (oi := ⟨some 19, _, _, _, _, _⟩) (v := ?_) (by kernel_rfl) rfl (by kernel_rfl) (by kernel_rfl) (by kernel_rfl) (by kernel_rfl) (fun _ _ _ h => h) (Or.inl ⟨by rfl, by intro w hSw; (try dsimp only at hSw); go_simp; try with_reducible rfl⟩) (fun _ => by first | rfl | simp [Oper.about, resolve, go_sem]) hInv hHeld (fun hInv hHeld => ?_)
      try simp only [Act.put, List.setIfInBounds_toArray, List.set_cons_zero, List.set_cons_succ]
      refine anyS_take (i := 10) (oi := ⟨some 20, _, _, _, _, _⟩) (v := ?_) (by kernel_rfl) rfl (by kernel_rfl) (by kernel_rfl) (by kernel_rfl) (by kernel_rfl) (fun _ _ _ h => h) (Or.inl ⟨by rfl, by intro w hSw; (try dsimp only at hSw); go_simp; try with_reducible rfl⟩) (fun _ => by first | rfl | simp [Oper.about, resolve, go_sem]) hInv hHeld (fun hInv hHeld => ?_)
      try simp only [Act.put, List.setIfInBounds_toArray, List.set_cons_zero, List.set_cons_succ]
      refine anyS_take (i := 11) (oi := ⟨some 21, _, _, _, _, _⟩) (v := ?_) (by kernel_rfl) rfl (by kernel_rfl) (by kernel_rfl) (by kernel_rfl) (by kernel_rfl) (fun _ _ _ h => h) (Or.inl ⟨by rfl, by intro w hSw; (try dsimp only at hSw); go_simp; try with_reducible rfl⟩) (fun _ => by first | rfl | simp [Oper.about, resolve, go_sem]) hInv hHeld (fun hInv hHeld => ?_)
      try simp only [Act.put, List.setIfInBounds_toArray, List.set_cons_zero, List.set_cons_succ]
      refine anyS_take (i := 12) (oi := ⟨some 22, _, _, _, _, _⟩) (v := ?_) (by kernel_rfl) rfl (by kernel_rfl) (by kernel_rfl) (by kernel_rfl) (by kernel_rfl) (fun _ _ _ h => h) (Or.inl ⟨by rfl, by intro w hSw; (try dsimp only at hSw); go_simp; try with_reducible rfl⟩) (fun _ => by first | rfl | simp [Oper.about, resolve, go_sem]) hInv hHeld (fun hInv hHeld => ?_)
      try simp only [Act.put, List.setIfInBounds_toArray, List.set_cons_zero, List.set_cons_succ]
      refine anyS_take (i := 13) (oi := ⟨some 23, _, _, _, _, _⟩) (v := ?_) (by kernel_rfl) rfl (by kernel_rfl) (by kernel_rfl) (by kernel_rfl) (by kernel_rfl) (fun _ _ _ h => h) (Or.inl ⟨by rfl, by intro w hSw; (try dsimp only at hSw); go_simp; try with_reducible rfl⟩) (fun _ => by first | rfl | simp [Oper.about, resolve, go_sem]) hInv hHeld (fun hInv hHeld => ?_)
      try simp only [Act.put, List.setIfInBounds_toArray, List.set_cons_zero, List.set_cons_succ]
      refine anyS_take (i := 14) (oi := ⟨some 24, _, _, _, _, _⟩) (v := ?_) (by kernel_rfl) rfl (by kernel_rfl) (by kernel_rfl) (by kernel_rfl) (by kernel_rfl) (fun _ _ _ h => h) (Or.inl ⟨by rfl, by intro w hSw; (try dsimp only at hSw); go_simp; try with_reducible rfl⟩) (fun _ => by first | rfl | simp [Oper.about, resolve, go_sem]) hInv hHeld (fun hInv hHeld => ?_)
      try simp only [Act.put, List.setIfInBounds_toArray, List.set_cons_zero, List.set_cons_succ]
      refine anyS_take (i := 15) (oi := ⟨some 25, _, _, _, _, _⟩) (v := ?_) (by kernel_rfl) rfl (by kernel_rfl) (by kernel_rfl) (by kernel_rfl) (by kernel_rfl) (fun _ _ _ h => h) (Or.inl ⟨by rfl, by intro w hSw; (try dsimp only at hSw); go_simp; try with_reducible rfl⟩) (fun _ => by first | rfl | simp [Oper.about, resolve, go_sem]) hInv hHeld (fun hInv hHeld => ?_)
      try simp only [Act.put, List.setIfInBounds_toArray, List.set_cons_zero, List.set_cons_succ]
      refine anyS_take (i := 16) (oi := ⟨some 26, _, _, _, _, _⟩) (v := ?_) (by kernel_rfl) rfl (by kernel_rfl) (by kernel_rfl) (by kernel_rfl) (by kernel_rfl) (fun _ _ _ h => h) (Or.inl ⟨by rfl, by intro w hSw; (try dsimp only at hSw); go_simp; try with_reducible rfl⟩) (fun _ => by first | rfl | simp [Oper.about, resolve, go_sem]) hInv hHeld (fun hInv hHeld => ?_)
      try simp only [Act.put, List.setIfInBounds_toArray, List.set_cons_zero, List.set_cons_succ]
      refine anyS_take (i := 17) (oi := ⟨some 27, _, _, _, _, _⟩) (v := ?_) (by kernel_rfl) rfl (by kernel_rfl) (by kernel_rfl) (by kernel_rfl) (by kernel_rfl) (fun _ _ _ h => h) (Or.inl ⟨by rfl, by intro w hSw; (try dsimp only at hSw); go_simp; try with_reducible rfl⟩) (fun _ => by first | rfl | simp [Oper.about, resolve, go_sem]) hInv hHeld (fun hInv hHeld => ?_)
      try simp only [Act.put, List.setIfInBounds_toArray, List.set_cons_zero, List.set_cons_succ]
      refine anyS_take (i := 18) (oi := ⟨some 28, _, _, _, _, _⟩) (v := ?_) (by kernel_rfl) rfl (by kernel_rfl) (by kernel_rfl) (by kernel_rfl) (by kernel_rfl) (fun _ _ _ h => h) (Or.inl ⟨by rfl, by intro w hSw; (try dsimp only at hSw); go_simp; try with_reducible rfl⟩) (fun _ => by first | rfl | simp [Oper.about, resolve, go_sem]) hInv hHeld (fun hInv hHeld => ?_)
      try simp only [Act.put, List.setIfInBounds_toArray, List.set_cons_zero, List.set_cons_succ]
      refine anyS_take (i := 19) (oi := ⟨some 29, _, _, _, _, _⟩) (v := ?_) (by kernel_rfl) rfl (by kernel_rfl) (by kernel_rfl) (by kernel_rfl) (by kernel_rfl) (fun _ _ _ h => h) (Or.inl ⟨by rfl, by intro w hSw; (try dsimp only at hSw); go_simp; try with_reducible rfl⟩) (fun _ => by first | rfl | simp [Oper.about, resolve, go_sem]) hInv hHeld (fun hInv hHeld => ?_)
      try simp only [Act.put, List.setIfInBounds_toArray, List.set_cons_zero, List.set_cons_succ]
      refine anyS_one (i := 20) (o := ⟨some 30, _, _, _, _, _⟩) (by kernel_rfl) rfl hInv (fun K hK => ?_)
      go_simp
      refine ⟨trivial, ?_⟩
      refine (callsIn_wide.2 (C1.out _)).mono ?_
      rintro e V1 ⟨rfl, hv1⟩
      refine hK.out _ _ (fun e => absurd (show true = false from e) (by decide)) (fun hInv hHeld => ?_)
      clear hK K
      try simp only [Act.put, List.setIfInBounds_toArray, List.set_cons_zero, List.set_cons_succ]
      refine anyS_pure (i := 21) (oi := ⟨some 31, _, _, _, _, _⟩) (v := ?_) (by kernel_rfl) rfl (by kernel_rfl) (by kernel_rfl) (by kernel_rfl) (by decide) (fun _ _ _ h => h) (Or.inl ⟨by rfl, by intro w hSw; (try dsimp only at hSw); go_simp; try with_reducible rfl⟩) (fun _ => by first | rfl | simp [Oper.about, resolve, go_sem]) hInv hHeld (fun hInv hHeld => ?_)
      try simp only [Act.put, List.setIfInBounds_toArray, List.set_cons_zero, List.set_cons_succ]
      refine anyS_done (by kernel_rfl) ?_ _
      have HBV := Off.mk (belowC (below_drew HB.out) hv1)
      clear hv1
      by_cases h0 : x = 0
      · have HR := Off.mk (HTX.out.2 h0)
        subst h0
        clear HTX
        gi_wp2
        go_ret
        exact ⟨ret_bool HR.out.symm, HBV.out⟩
      · have HN := Off.mk (HTX.out.1 h0)
        have h0' : (x == 0) = false := by simpa using h0
        clear HTX
        gi_wp2
        go_roundw
        case rel => exact ⟨k + 1, by omega, by go_num, HN, HBV⟩
        case measure => simp only [intOf]; omega
    · obtain rfl : k = xs.length := by omega
      gi_wp2
      go_ret
      exact ⟨ret_bool HH.out.symm, HB.out⟩
end
section
section
open Go.RowKit Go.Shelf

/-- What Opposite answers. -/
def oppA (xs : PtL) : PtL × Int := if readP xs = true then (if hasOpp xs = true then (oppL xs, 0) else ([], 9)) else ([], 2)
theorem Opposite_no (xs : PtL) (A : Option Addr) (c : Nat) (w : World) (hx : PairsI w A xs) (hv : readP xs = false) :
    Calls Try.prog 23 #[.slice A xs.length c] w fun e w' => PtsRes w' w.heap.size e (oppA xs) ∧ Below w.heap.size w w' := by
  have HR : Off (oppA xs = ([], 2)) := ⟨by unfold oppA; rw [hv]; rfl⟩
  have CR := Off.mk (read_any xs A c w false hv hx)
  clear hx hv
  go_enter Try.func23, Try.ntmps23
  go_wp2_with fail
  refine CR.out.mono ?_
  rintro e w1 ⟨⟨u, rfl, _, _⟩, hb1⟩
  go_wp2
  refine bodyPost_ret (v := .tuple #[.slice none 0 0, .int .i64 2]) (by simp [results, Try.results23, go_sem]) rfl ⟨by rw [HR.out]; exact ⟨_, rfl, ownQ_nil _ _ _⟩, hb1⟩
theorem Opposite_state (xs : PtL) (A : Option Addr) (c : Nat) (w : World) (hx : PairsI w A xs) (hv : readP xs = true) (hop : hasOpp xs = false) :
    Calls Try.prog 23 #[.slice A xs.length c] w fun e w' => PtsRes w' w.heap.size e (oppA xs) ∧ Below w.heap.size w w' := by
  have HR : Off (oppA xs = ([], 9)) := ⟨by unfold oppA; rw [if_pos hv, hop]; rfl⟩
  have CR := Off.mk (read_any xs A c w true hv hx)
  have HV := Off.mk hv
  unfold hasOpp at hop
  have HO := Off.mk hop
  clear hx hv hop
  go_enter Try.func23, Try.ntmps23
  go_wp2_with fail
  refine CR.out.mono ?_
  rintro e w1 ⟨⟨u, rfl, h1, _⟩, hb1⟩
  obtain ⟨g, cg, rfl, _, hp⟩ := penAt_read HV.out (h1 trivial)
  have C1 : Off (∀ c, Calls Try.prog 47 #[.slice (some ⟨g, 0, none⟩) xs.length c, .int .i64 1] w1 fun e w' => e = .returned (.tuple #[.int .i64 (allG xs 1), .int .i64 (insG xs 1)]) ∧ Below w1.heap.size w1 w') := ⟨fun c => grown_any xs g c w1 1 (by omega) hp⟩
  have C2 : Off (∀ W c, Below w1.heap.size w1 W → Calls Try.prog 54 #[.slice (some ⟨g, 0, none⟩) xs.length c, .bool true] W fun e w' => e = .returned (.bool (convexP xs true)) ∧ Below W.heap.size W w') := ⟨fun W c hb => convex_any xs g c true W (hp.below hb)⟩
  have C3 : Off (∀ W c, Below w1.heap.size w1 W → Calls Try.prog 55 #[.slice (some ⟨g, 0, none⟩) xs.length c, .agg #[.int .i64 0, .int .i64 0]] W fun e w' => e = .returned (.int .i64 (whereP xs (0, 0))) ∧ Below W.heap.size W w') := ⟨fun W c hb => where_pen xs g c (0, 0) W (hp.below hb) (by decide)⟩
  obtain ⟨al, hal⟩ : ∃ al, al = allG xs 1 := ⟨_, rfl⟩
  obtain ⟨ins, hins⟩ : ∃ al, al = insG xs 1 := ⟨_, rfl⟩
  obtain ⟨cv, hcv⟩ : ∃ al, al = convexP xs true := ⟨_, rfl⟩
  obtain ⟨wh, hwh⟩ : ∃ al, al = whereP xs (0, 0) := ⟨_, rfl⟩
  rw [← hal, ← hins] at C1
  rw [← hcv] at C2
  rw [← hwh] at C3
  rw [← hins, ← hcv, ← hwh] at HO
  have HB1 := Off.mk hb1
  clear h1 hp hal hb1 hins hcv hwh
  by_cases k1 : ins = 1
  · subst k1
    cases cv with
    | false =>
      go_wp2_with fail
      refine (C1.out _).mono ?_
      rintro e w2 ⟨rfl, hb2⟩
      have HB2 := Off.mk hb2
      clear hb2
      go_wp2_with fail
      refine (C2.out _ _ HB2.out).mono ?_
      rintro e w3 ⟨rfl, hb3⟩
      have HB3 := Off.mk (belowC HB2.out hb3)
      clear hb3
      go_wp2
      refine bodyPost_ret (v := .tuple #[.slice none 0 0, .int .i64 9]) (by simp [results, Try.results23, go_sem]) rfl ⟨by rw [HR.out]; exact ⟨_, rfl, ownQ_nil _ _ _⟩, HB1.out.trans (HB3.out.mono HB1.out.size)⟩
    | true =>
      have k3 : ¬ wh = 1 := by have := HO.out; simpa using this
      have g3 : (wh != 1) = true := by simpa using k3
      clear k3
      go_wp2_with fail
      refine (C1.out _).mono ?_
      rintro e w2 ⟨rfl, hb2⟩
      have HB2 := Off.mk hb2
      clear hb2
      go_wp2_with fail
      refine (C2.out _ _ HB2.out).mono ?_
      rintro e w3 ⟨rfl, hb3⟩
      have HB3 := Off.mk (belowC HB2.out hb3)
      clear hb3
      go_wp2_with fail
      refine (C3.out _ _ HB3.out).mono ?_
      rintro e w4 ⟨rfl, hb4⟩
      have HB4 := Off.mk (belowC HB3.out hb4)
      clear hb4
      go_wp2
      refine bodyPost_ret (v := .tuple #[.slice none 0 0, .int .i64 9]) (by simp [results, Try.results23, go_sem]) rfl ⟨by rw [HR.out]; exact ⟨_, rfl, ownQ_nil _ _ _⟩, HB1.out.trans (HB4.out.mono HB1.out.size)⟩
  · have g1 : (ins != 1) = true := by simpa using k1
    clear k1
    go_wp2_with fail
    refine (C1.out _).mono ?_
    rintro e w2 ⟨rfl, hb2⟩
    have HB2 := Off.mk hb2
    clear hb2
    go_wp2
    refine bodyPost_ret (v := .tuple #[.slice none 0 0, .int .i64 9]) (by simp [results, Try.results23, go_sem]) rfl ⟨by rw [HR.out]; exact ⟨_, rfl, ownQ_nil _ _ _⟩, HB1.out.trans (HB2.out.mono HB1.out.size)⟩
theorem Opposite_any (xs : PtL) (A : Option Addr) (c : Nat) (w : World) (hx : PairsI w A xs) (hd : readP xs = true → hasOpp xs = true → ∀ i, i < xs.length → crossP (sideAt xs i).1 (sideAt xs i).2 ≠ 0) :
    Calls Try.prog 23 #[.slice A xs.length c] w fun e w' => PtsRes w' w.heap.size e (oppA xs) ∧ Below w.heap.size w w' := by
  cases hv : readP xs with
  | false => exact Opposite_no xs A c w hx hv
  | true =>
    cases hop : hasOpp xs with
    | false => exact Opposite_state xs A c w hx hv hop
    | true =>
      refine (Opposite_yes xs A c w hx hv hop (hd hv hop)).mono ?_
      rintro e w' ⟨⟨u, rfl, hO⟩, hb⟩
      have HR : oppA xs = (oppL xs, 0) := by unfold oppA; rw [if_pos hv, if_pos hop]
      rw [HR]
      exact ⟨⟨u, rfl, hO⟩, hb⟩
end
section
open Go.RowKit Go.Shelf
attribute [local go_sem] Oper.semAt_some

/-- The points for the first k sides. -/
def oppTo (xs : PtL) : Nat → PtL
  | 0 => []
  | k + 1 => oppTo xs k ++ [((oppAt xs k).1, (oppAt xs k).2)]
theorem oppTo_len (xs : PtL) : ∀ k, (oppTo xs k).length = k
  | 0 => rfl
  | k + 1 => by rw [oppTo, List.length_append, oppTo_len xs k]; rfl
theorem oppTo_all (xs : PtL) : oppTo xs xs.length = oppL xs := by
  have h : ∀ k, oppTo xs k = (List.range k).map fun i => oppAt xs i := by
    intro k
    induction k with
    | zero => rfl
    | succ k ih => rw [oppTo, ih, List.range_succ, List.map_append]; rfl
  rw [h]
  unfold oppL
  apply List.ext_getElem
  · simp
  · intro i h1 h2
    simp
theorem convexP_true {xs : PtL} (h : readP xs = true) : convexP xs true = (convexR xs && !(hitTo xs 0 xs.length)) := by
  rw [← convex_eq h]
  unfold convexP
  rw [hitT_to, hitT_to, hitT_to]
  simp
set_option maxRecDepth 100000 in
set_option maxHeartbeats 8000000 in
theorem OppositeR_any (xs : PtL) (A : Option Addr) (c : Nat) (w : World) (hx : PairsI w A xs) (hd : readP xs = true → hasOpp xs = true → ∀ i, i < xs.length → crossP (sideAt xs i).1 (sideAt xs i).2 ≠ 0) :
    Calls Try.prog 34 #[.slice A xs.length c] w fun e w' => PtsRes w' w.heap.size e (oppA xs) ∧ Below w.heap.size w w' := by
  have CC := Off.mk (CountR_any xs A c w hx)
  cases hv : readP xs with
  | false =>
    have HR : Off (oppA xs = ([], 2)) := ⟨by unfold oppA; rw [hv]; rfl⟩
    rw [hv] at CC
    simp only [Bool.false_eq_true, if_false] at CC
    clear hx hv hd
    go_enter Try.func34, Try.ntmps34
    go_wp2_with fail
    refine CC.out.mono ?_
    rintro e w1 ⟨rfl, hb1⟩
    go_wp2
    refine bodyPost_ret (v := .tuple #[.slice none 0 0, .int .i64 2]) (by simp [results, Try.results34, go_sem]) rfl ⟨by rw [HR.out]; exact ⟨_, rfl, ownQ_nil _ _ _⟩, hb1⟩
  | true =>
  obtain ⟨hn, h3, h10⟩ := near_all hv
  have hcv := convexP_true hv
  have HO1 : Off (hasOpp xs = (decide (insG xs 1 = 1) && (convexR xs && !(hitTo xs 0 xs.length)) && decide (whereP xs (0, 0) = 1))) := ⟨by unfold hasOpp; rw [hcv]⟩
  have HR : Off (hasOpp xs = false → oppA xs = ([], 9)) := ⟨fun h => by unfold oppA; rw [if_pos hv, h]; rfl⟩
  have HY : Off (hasOpp xs = true → oppA xs = (oppL xs, 0)) := ⟨fun h => by unfold oppA; rw [if_pos hv, if_pos h]⟩
  have C1 := Off.mk (fun W (hb : Below w.heap.size w W) => convexR_any xs A c W (by omega) hn (hx.below hb))
  have C2 := Off.mk (fun W (hb : Below w.heap.size w W) => straight_any xs A c W (by omega) hn (hx.below hb))
  have C3 := Off.mk (fun W (hb : Below w.heap.size w W) => place_read xs A c (0, 0) W hv (by decide) (hx.below hb))
  have HX := Off.mk hx
  have HP := Off.mk hn
  have HD := Off.mk (fun h => hd hv h)
  rw [hv] at CC
  simp only [if_true] at CC
  obtain ⟨ins, hins⟩ : ∃ al, al = insG xs 1 := ⟨_, rfl⟩
  obtain ⟨cv, hcv⟩ : ∃ al, al = convexR xs := ⟨_, rfl⟩
  obtain ⟨st, hst⟩ : ∃ al, al = hitTo xs 0 xs.length := ⟨_, rfl⟩
  obtain ⟨wh, hwh⟩ : ∃ al, al = whereP xs (0, 0) := ⟨_, rfl⟩
  obtain ⟨bo, hbo⟩ : ∃ al, al = borderP xs := ⟨_, rfl⟩
  rw [← hins, ← hbo] at CC
  rw [← hcv] at C1
  rw [← hst] at C2
  rw [← hwh] at C3
  rw [← hins, ← hcv, ← hst, ← hwh] at HO1
  clear hx hv hn hins hcv hst hwh hbo hd
  go_enter Try.func34, Try.ntmps34
  go_wp2_with fail
  refine CC.out.mono ?_
  rintro e w1 ⟨rfl, hb1⟩
  have HB1 := Off.mk hb1
  clear hb1 CC
  cases cv with
  | false =>
    have HR := Off.mk (HR.out (by rw [HO1.out]; simp))
    clear HO1 HY HD C2 C3
    go_wp2_with fail
    refine (C1.out _ HB1.out).mono ?_
    rintro e w2 ⟨rfl, hb2⟩
    have HB2 := Off.mk (belowC HB1.out hb2)
    clear hb2
    go_wp2
    refine bodyPost_ret (v := .tuple #[.slice none 0 0, .int .i64 9]) (by simp [results, Try.results34, go_sem]) rfl ⟨by rw [HR.out]; exact ⟨_, rfl, ownQ_nil _ _ _⟩, HB2.out⟩
  | true =>
  cases st with
  | true =>
    have HR := Off.mk (HR.out (by rw [HO1.out]; simp))
    clear HO1 HY HD C3
    go_wp2_with fail
    refine (C1.out _ HB1.out).mono ?_
    rintro e w2 ⟨rfl, hb2⟩
    have HB2 := Off.mk (belowC HB1.out hb2)
    clear hb2
    go_wp2_with fail
    refine (C2.out _ HB2.out).mono ?_
    rintro e w3 ⟨rfl, hb3⟩
    have HB3 := Off.mk (belowC HB2.out hb3)
    clear hb3
    go_wp2
    refine bodyPost_ret (v := .tuple #[.slice none 0 0, .int .i64 9]) (by simp [results, Try.results34, go_sem]) rfl ⟨by rw [HR.out]; exact ⟨_, rfl, ownQ_nil _ _ _⟩, HB3.out⟩
  | false =>
  by_cases k1 : ins = 1
  · subst k1
    by_cases k3 : wh = 1
    · subst k3
      have hop : hasOpp xs = true := by rw [HO1.out]; simp
      have HY := Off.mk (HY.out hop)
      have HD := Off.mk (HD.out hop)
      clear HR HO1 hop
      go_wp2_with fail
      refine (C1.out _ HB1.out).mono ?_
      rintro e w2 ⟨rfl, hb2⟩
      have HB2 := Off.mk (belowC HB1.out hb2)
      clear hb2
      go_wp2_with fail
      refine (C2.out _ HB2.out).mono ?_
      rintro e w3 ⟨rfl, hb3⟩
      have HB3 := Off.mk (belowC HB2.out hb3)
      clear hb3
      go_wp2_with fail
      refine (C3.out _ HB3.out).mono ?_
      rintro e w2 ⟨rfl, hb4⟩
      have HB4 := Off.mk (belowC HB3.out hb4)
      clear hb4
      go_wp2_with fail
      refine (wpIn_wide (n := 9)).1 ?_
      gi_loopw [7, 8] (fun u7 kv wr => ∃ k : Nat, k ≤ xs.length ∧ kv = .int .i64 k ∧ Off (OwnQ 34 wr w2.heap.size u7 (oppTo xs k)) ∧ Off (Below w2.heap.size w2 wr)) (fun _ kv _ => xs.length - (intOf kv).toNat)
      case atStart => exact ⟨0, by omega, rfl, ⟨ownQ_nil _ _ _⟩, ⟨Below.refl _ _⟩⟩
      case round =>
        obtain ⟨k, hk, rfl, HO, HB⟩ := hrel
        by_cases hlt : k < xs.length
        · have hkI : (k : Int) < (xs.length : Int) := by omega
          obtain ⟨m, hm⟩ : ∃ m, m = (k + 1) % xs.length := ⟨_, rfl⟩
          have hml : m < xs.length := by rw [hm]; exact Nat.mod_lt _ (by omega)
          have e5 : ((k : Int) + 1).tmod (xs.length : Int) = (m : Int) := by
            rw [Int.tmod_eq_emod_of_nonneg (by omega), hm, show (k : Int) + 1 = ((k + 1 : Nat) : Int) by omega]
            exact (Int.natCast_emod _ _).symm
          have e7 : ((k : Int) + 1) % (xs.length : Int) = (m : Int) := by rw [← Int.tmod_eq_emod_of_nonneg (by omega)]; exact e5
          have w5 : IntKind.i64.wrap ((k : Int) + 1) = (k : Int) + 1 := by rw [IntKind.wrap_i64]; omega
          have hn0 : ¬ xs.length = 0 := by omega
          have hmI : (m : Int) < (xs.length : Int) := by omega
          have hxr := (HX.out.below HB4.out).below HB.out
          obtain ⟨ad, rfl, x0, x1⟩ := hxr.cell k hlt
          obtain ⟨ad', e, z0, z1⟩ := hxr.cell m hml
          cases e
          obtain ⟨p, hp⟩ : ∃ p, p = xs.getD k (0, 0) := ⟨_, rfl⟩
          obtain ⟨q, hq⟩ : ∃ q, q = xs.getD m (0, 0) := ⟨_, rfl⟩
          have hp50 : inB 50 p := by rw [hp]; exact HP.out _
          have hq50 : inB 50 q := by rw [hq]; exact HP.out _
          have hSd : sideAt xs k = (p, q) := by unfold sideAt; rw [← hm, ← hp, ← hq]
          have HDk := HD.out k hlt
          rw [hSd] at HDk
          obtain ⟨d, hdd⟩ : ∃ d, d = crossP p q := ⟨_, rfl⟩
          rw [← hdd] at HDk
          obtain ⟨o, ho⟩ : ∃ o, o = oppAt xs k := ⟨_, rfl⟩
          have HT : Off (oppTo xs (k + 1) = oppTo xs k ++ [(o.1, o.2)]) := ⟨by rw [oppTo, ho]⟩
          have hl100 : (oppTo xs k).length ≤ 1000 := by rw [oppTo_len]; omega
          have ho1 : (q.2 - p.2).tdiv d = o.1 := by rw [ho, hdd]; unfold oppAt; rw [hSd]
          have ho2 : (p.1 - q.1).tdiv d = o.2 := by rw [ho, hdd]; unfold oppAt; rw [hSd]
          have m1 := mul_in (x := p.1) (y := q.2) (a := 50) (b := 50) (by unfold inB at hp50; omega) (by unfold inB at hq50; omega) (by omega) (by omega)
          have m2 := mul_in (x := q.1) (y := p.2) (a := 50) (b := 50) (by unfold inB at hq50; omega) (by unfold inB at hp50; omega) (by omega) (by omega)
          have hd2 : p.1 * q.2 - q.1 * p.2 = d := by rw [hdd]; unfold crossP; rw [Int.mul_comm q.1 p.2]
          have W1 : IntKind.i64.wrap (p.1 * q.2) = p.1 * q.2 := by rw [IntKind.wrap_i64]; omega
          have W2 : IntKind.i64.wrap (q.1 * p.2) = q.1 * p.2 := by rw [IntKind.wrap_i64]; omega
          have W3 : IntKind.i64.wrap (p.1 * q.2 - q.1 * p.2) = d := by rw [IntKind.wrap_i64]; omega
          have W4 : IntKind.i64.wrap (q.2 - p.2) = q.2 - p.2 := by unfold inB at hp50 hq50; rw [IntKind.wrap_i64]; omega
          have W5 : IntKind.i64.wrap (p.1 - q.1) = p.1 - q.1 := by unfold inB at hp50 hq50; rw [IntKind.wrap_i64]; omega
          have Z1 := Int.natAbs_tdiv_le_natAbs (q.2 - p.2) d
          have Z2 := Int.natAbs_tdiv_le_natAbs (p.1 - q.1) d
          have W6 : IntKind.i64.wrap ((q.2 - p.2).tdiv d) = o.1 := by rw [← ho1]; unfold inB at hp50 hq50; rw [IntKind.wrap_i64]; omega
          have W7 : IntKind.i64.wrap ((p.1 - q.1).tdiv d) = o.2 := by rw [← ho2]; unfold inB at hp50 hq50; rw [IntKind.wrap_i64]; omega
          have hd0 : ¬ d = 0 := HDk
          rw [← hp] at x0 x1
          rw [← hq] at z0 z1
          clear hp hq hm hxr HDk hdd ho hSd hp50 hq50 ho1 ho2 m1 m2 hd2 Z1 Z2
          gi_wp2_with fail
          have SS : (fun w' => (w'.cell? (ad.add (k * 2)) = some (.int .i64 p.1) ∧ w'.cell? ⟨(ad.add (k * 2)).block, (ad.add (k * 2)).off + 1, none⟩ = some (.int .i64 p.2)) ∧ (w'.cell? (ad.add (m * 2)) = some (.int .i64 q.1) ∧ w'.cell? ⟨(ad.add (m * 2)).block, (ad.add (m * 2)).off + 1, none⟩ = some (.int .i64 q.2))) wr := ⟨⟨x0, x1⟩, z0, z1⟩
          have keepS : ∀ {v : World}, Below wr.heap.size wr v → (fun w' => (w'.cell? (ad.add (k * 2)) = some (.int .i64 p.1) ∧ w'.cell? ⟨(ad.add (k * 2)).block, (ad.add (k * 2)).off + 1, none⟩ = some (.int .i64 p.2)) ∧ (w'.cell? (ad.add (m * 2)) = some (.int .i64 q.1) ∧ w'.cell? ⟨(ad.add (m * 2)).block, (ad.add (m * 2)).off + 1, none⟩ = some (.int .i64 q.2))) wr → (fun w' => (w'.cell? (ad.add (k * 2)) = some (.int .i64 p.1) ∧ w'.cell? ⟨(ad.add (k * 2)).block, (ad.add (k * 2)).off + 1, none⟩ = some (.int .i64 p.2)) ∧ (w'.cell? (ad.add (m * 2)) = some (.int .i64 q.1) ∧ w'.cell? ⟨(ad.add (m * 2)).block, (ad.add (m * 2)).off + 1, none⟩ = some (.int .i64 q.2))) v := fun hb ⟨⟨x0, x1⟩, z0, z1⟩ => ⟨⟨cellB hb x0, cellB hb x1⟩, cellB hb z0, cellB hb z1⟩
          refine region_anyS' (S := (fun w' => (w'.cell? (ad.add (k * 2)) = some (.int .i64 p.1) ∧ w'.cell? ⟨(ad.add (k * 2)).block, (ad.add (k * 2)).off + 1, none⟩ = some (.int .i64 p.2)) ∧ (w'.cell? (ad.add (m * 2)) = some (.int .i64 q.1) ∧ w'.cell? ⟨(ad.add (m * 2)).block, (ad.add (m * 2)).off + 1, none⟩ = some (.int .i64 q.2)))) 15 (by kernel_rfl) SS (fun hInv hHeld => ?_)
          refine anyS_take (i := 0) (oi := ⟨some 44, _, _, _, _, _⟩) (v := ?_) (by kernel_rfl) rfl (by kernel_rfl) (by kernel_rfl) (by kernel_rfl) (by kernel_rfl) (fun _ _ _ h => h) (Or.inl ⟨by rfl, by intro w hSw; (try dsimp only at hSw); go_simp; try with_reducible rfl⟩) (fun _ => by first | rfl | simp [Oper.about, resolve, go_sem]) hInv hHeld (fun hInv hHeld => ?_)
          try simp only [Act.put, List.setIfInBounds_toArray, List.set_cons_zero, List.set_cons_succ]
          refine anyS_take (i := 1) (oi := ⟨some 45, _, _, _, _, _⟩) (v := ?_) (by kernel_rfl) rfl (by kernel_rfl) (by kernel_rfl) (by kernel_rfl) (by kernel_rfl) (fun _ _ _ h => h) (Or.inl ⟨by rfl, by intro w hSw; (try dsimp only at hSw); go_simp; try with_reducible rfl⟩) (fun _ => by first | rfl | simp [Oper.about, resolve, go_sem]) hInv hHeld (fun hInv hHeld => ?_)
          try simp only [Act.put, List.setIfInBounds_toArray, List.set_cons_zero, List.set_cons_succ]
          refine anyS_take (i := 2) (oi := ⟨some 46, _, _, _, _, _⟩) (v := ?_) (by kernel_rfl) rfl (by kernel_rfl) (by kernel_rfl) (by kernel_rfl) (by kernel_rfl) (fun _ _ _ h => h) (Or.inl ⟨by rfl, by intro w hSw; (try dsimp only at hSw); go_simp; try with_reducible rfl⟩) (fun _ => by first | rfl | simp [Oper.about, resolve, go_sem]) hInv hHeld (fun hInv hHeld => ?_)
          try simp only [Act.put, List.setIfInBounds_toArray, List.set_cons_zero, List.set_cons_succ]
          refine anyS_take (i := 3) (oi := ⟨some 47, _, _, _, _, _⟩) (v := ?_) (by kernel_rfl) rfl (by kernel_rfl) (by kernel_rfl) (by kernel_rfl) (by kernel_rfl) (fun _ _ _ h => h) (Or.inl ⟨by rfl, by intro w hSw; (try dsimp only at hSw); go_simp; try with_reducible rfl⟩) (fun _ => by first | rfl | simp [Oper.about, resolve, go_sem]) hInv hHeld (fun hInv hHeld => ?_)
          try simp only [Act.put, List.setIfInBounds_toArray, List.set_cons_zero, List.set_cons_succ]
          refine anyS_take (i := 4) (oi := ⟨some 48, _, _, _, _, _⟩) (v := ?_) (by kernel_rfl) rfl (by kernel_rfl) (by kernel_rfl) (by kernel_rfl) (by kernel_rfl) (fun _ _ _ h => h) (Or.inl ⟨by rfl, by intro w hSw; (try dsimp only at hSw); go_simp; try with_reducible rfl⟩) (fun _ => by first | rfl | simp [Oper.about, resolve, go_sem]) hInv hHeld (fun hInv hHeld => ?_)
          try simp only [Act.put, List.setIfInBounds_toArray, List.set_cons_zero, List.set_cons_succ]
          refine anyS_take (i := 5) (oi := ⟨some 49, _, _, _, _, _⟩) (v := ?_) (by kernel_rfl) rfl (by kernel_rfl) (by kernel_rfl) (by kernel_rfl) (by kernel_rfl) (fun _ _ _ h => h) (Or.inl ⟨by rfl, by intro w hSw; (try dsimp only at hSw); go_simp; try with_reducible rfl⟩) (fun _ => by first | rfl | simp [Oper.about, resolve, go_sem]) hInv hHeld (fun hInv hHeld => ?_)
          try simp only [Act.put, List.setIfInBounds_toArray, List.set_cons_zero, List.set_cons_succ]
          refine anyS_take (i := 6) (oi := ⟨some 50, _, _, _, _, _⟩) (v := ?_) (by kernel_rfl) rfl (by kernel_rfl) (by kernel_rfl) (by kernel_rfl) (by kernel_rfl) (fun _ _ _ h => h) (Or.inl ⟨by rfl, by intro w hSw; (try dsimp only at hSw); go_simp; try with_reducible rfl⟩) (fun _ => by first | rfl | simp [Oper.about, resolve, go_sem]) hInv hHeld (fun hInv hHeld => ?_)
          try simp only [Act.put, List.setIfInBounds_toArray, List.set_cons_zero, List.set_cons_succ]
          refine anyS_take (i := 7) (oi := ⟨some 51, _, _, _, _, _⟩) (v := ?_) (by kernel_rfl) rfl (by kernel_rfl) (by kernel_rfl) (by kernel_rfl) (by kernel_rfl) (fun _ _ _ h => h) (Or.inl ⟨by rfl, by intro w hSw; (try dsimp only at hSw); go_simp; try with_reducible rfl⟩) (fun _ => by first | rfl | simp [Oper.about, resolve, go_sem]) hInv hHeld (fun hInv hHeld => ?_)
          try simp only [Act.put, List.setIfInBounds_toArray, List.set_cons_zero, List.set_cons_succ]
          refine anyS_take (i := 8) (oi := ⟨some 52, _, _, _, _, _⟩) (v := ?_) (by kernel_rfl) rfl (by kernel_rfl) (by kernel_rfl) (by kernel_rfl) (by kernel_rfl) (fun _ _ _ h => h) (Or.inl ⟨by rfl, by intro w hSw; (try dsimp only at hSw); go_simp; try with_reducible rfl⟩) (fun _ => by first | rfl | simp [Oper.about, resolve, go_sem]) hInv hHeld (fun hInv hHeld => ?_)
          try simp only [Act.put, List.setIfInBounds_toArray, List.set_cons_zero, List.set_cons_succ]
          refine anyS_take (i := 9) (oi := ⟨some 53, _, _, _, _, _⟩) (v := ?_) (by kernel_rfl) rfl (by kernel_rfl) (by kernel_rfl) (by kernel_rfl) (by kernel_rfl) (fun _ _ _ h => h) (Or.inl ⟨by rfl, by intro w hSw; (try dsimp only at hSw); go_simp; try with_reducible rfl⟩) (fun _ => by first | rfl | simp [Oper.about, resolve, go_sem]) hInv hHeld (fun hInv hHeld => ?_)
          try simp only [Act.put, List.setIfInBounds_toArray, List.set_cons_zero, List.set_cons_succ]
          refine anyS_take (i := 10) (oi := ⟨some 54, _, _, _, _, _⟩) (v := ?_) (by kernel_rfl) rfl (by kernel_rfl) (by kernel_rfl) (by kernel_rfl) (by kernel_rfl) (fun _ _ _ h => h) (Or.inl ⟨by rfl, by intro w hSw; (try dsimp only at hSw); go_simp; try with_reducible rfl⟩) (fun _ => by first | rfl | simp [Oper.about, resolve, go_sem]) hInv hHeld (fun hInv hHeld => ?_)
          try simp only [Act.put, List.setIfInBounds_toArray, List.set_cons_zero, List.set_cons_succ]
          refine anyS_take (i := 11) (oi := ⟨some 55, _, _, _, _, _⟩) (v := ?_) (by kernel_rfl) rfl (by kernel_rfl) (by kernel_rfl) (by kernel_rfl) (by kernel_rfl) (fun _ _ _ h => h) (Or.inl ⟨by rfl, by intro w hSw; (try dsimp only at hSw); go_simp; try with_reducible rfl⟩) (fun _ => by first | rfl | simp [Oper.about, resolve, go_sem]) hInv hHeld (fun hInv hHeld => ?_)
          try simp only [Act.put, List.setIfInBounds_toArray, List.set_cons_zero, List.set_cons_succ]
          obtain ⟨V0, hV0⟩ : ∃ V, wr.drew = V := ⟨_, rfl⟩
          have hb0 : Below wr.heap.size wr V0 := by rw [← hV0]; exact (Below.refl _ wr).drew
          rw [hV0] at hHeld ⊢
          clear hV0
          refine anyS_two (i := 12) (o := ⟨some 9, _, _, _, _, _⟩) (j := 13) (p := ⟨some 10, _, _, _, _, _⟩) (by kernel_rfl) rfl rfl hInv (fun K hK => ?_) (fun K hK => ?_)
          · go_simp
            have hb1 := belowA hb0 (.cells #[.int .i64 0, .int .i64 0] 34)
            refine hK.out _ _ (fun _ => keepS hb1 SS) (fun hInv hHeld => ?_)
            clear hK K
            try simp only [Act.put, List.setIfInBounds_toArray, List.set_cons_zero, List.set_cons_succ]
            have bA := block_new V0 (.cells #[.int .i64 0, .int .i64 0] 34)
            have szA := hb0.size
            obtain ⟨U1, hU⟩ : ∃ U, (V0.alloc (.cells #[.int .i64 0, .int .i64 0] 34)) = U := ⟨_, rfl⟩
            rw [hU] at hb1 bA ⊢
            rw [hU] at hHeld
            clear hU
            refine anyS_one (i := 13) (o := ⟨some 10, _, _, _, _, _⟩) (by kernel_rfl) rfl hInv (fun K hK => ?_)
            go_simp
            have hb2 := belowA hb1 (.cells #[.int .i64 0, .int .i64 0] 34)
            refine hK.out _ _ (fun _ => keepS hb2 SS) (fun hInv hHeld => ?_)
            clear hK K
            try simp only [Act.put, List.setIfInBounds_toArray, List.set_cons_zero, List.set_cons_succ]
            have hlt2 := (Array.getElem?_eq_some_iff.1 bA).1
            have bA := alloc_old (o' := (.cells #[.int .i64 0, .int .i64 0] 34)) bA
            have bB := block_new U1 (.cells #[.int .i64 0, .int .i64 0] 34)
            have szB := hb1.size
            obtain ⟨U2, hU⟩ : ∃ U, (U1.alloc (.cells #[.int .i64 0, .int .i64 0] 34)) = U := ⟨_, rfl⟩
            rw [hU] at hb2 bB bA ⊢
            rw [hU] at hHeld
            clear hU
            have hne : V0.heap.size ≠ U1.heap.size := by omega
            obtain ⟨⟨x0, x1⟩, y0, y1⟩ := two_facts bA
            obtain ⟨⟨z0, z1⟩, u0, u1⟩ := two_facts bB
            have hne' := Ne.symm hne
            refine anyS_one (i := 14) (o := ⟨none, _, _, _, _, _⟩) (by kernel_rfl) rfl hInv (fun K hK => ?_)
            go_simp
            refine hK.out _ _ (fun _ => keepS ((hb2.setCell (p := ⟨V0.heap.size, 0, none⟩) szA _).setCell (p := ⟨V0.heap.size, 1, none⟩) szA _) SS) (fun hInv hHeld => ?_)
            clear hK K
            try simp only [Act.put, List.setIfInBounds_toArray, List.set_cons_zero, List.set_cons_succ]
            refine anyS_one (i := 15) (o := ⟨none, _, _, _, _, _⟩) (by kernel_rfl) rfl hInv (fun K hK => ?_)
            go_simp
            refine hK.out _ _ (fun e => absurd (show true = false from e) (by decide)) (fun hInv hHeld => ?_)
            clear hK K
            try simp only [Act.put, List.setIfInBounds_toArray, List.set_cons_zero, List.set_cons_succ]
            have ST := two_blocksT 34 p q hb2 szA szB hne bA bB
            clear hInv hHeld x0 x1 y0 y1 z0 z1 u0 u1 bA bB SS keepS
            refine anyS_done (by kernel_rfl) ?_ _
            generalize (((U2.setCell ⟨V0.heap.size, 0, none⟩ (.int .i64 p.1)).setCell ⟨V0.heap.size, 1, none⟩ (.int .i64 p.2)).setCell ⟨U1.heap.size, 0, none⟩ (.int .i64 q.1)).setCell ⟨U1.heap.size, 1, none⟩ (.int .i64 q.2) = V at ST ⊢
            obtain ⟨La, hLa⟩ : ∃ L, V0.heap.size = L := ⟨_, rfl⟩
            rw [hLa] at ST hne hne' szA ⊢
            clear hLa
            obtain ⟨Lb, hLb⟩ : ∃ L, U1.heap.size = L := ⟨_, rfl⟩
            rw [hLb] at ST hne hne' szB ⊢
            clear hLb
            obtain ⟨⟨l0, l1⟩, _⟩ := two_facts ST.1.1
            obtain ⟨⟨h0, h1⟩, _⟩ := two_facts ST.1.2
            have HBV := Off.mk (HB.out.trans (ST.2.mono HB.out.size))
            have HOV := Off.mk (ownQ_below HO.out ST.2)
            have hs0 := HBV.out.size
            clear ST
            gi_wp2_with fail
            have HO0 : Off (OwnQ 34 V.drew w2.heap.size u7 (oppTo xs k)) := ⟨⟨HOV.out.out⟩⟩
            have hba : Below V.drew.heap.size V.drew (V.drew.alloc (.cells #[.int .i64 o.1, .int .i64 o.2] 34)) := (Below.refl _ _).alloc (Nat.le_refl _) _
            have hs1 : w2.heap.size ≤ V.drew.heap.size := hs0
            refine region_anyS' (S := (fun w' => (w'.cell? ⟨La, 0, none⟩ = some (.int .i64 p.1) ∧ w'.cell? ⟨La, 1, none⟩ = some (.int .i64 p.2)) ∧ (w'.cell? ⟨Lb, 0, none⟩ = some (.int .i64 q.1) ∧ w'.cell? ⟨Lb, 1, none⟩ = some (.int .i64 q.2)))) 17 (by kernel_rfl) ⟨⟨l0, l1⟩, h0, h1⟩ (fun hInv hHeld => ?_)
            refine anyS_take (i := 0) (oi := ⟨some 67, _, _, _, _, _⟩) (v := ?_) (by kernel_rfl) rfl (by kernel_rfl) (by kernel_rfl) (by kernel_rfl) (by kernel_rfl) (fun _ _ _ h => h) (Or.inl ⟨by rfl, by intro w hSw; (try dsimp only at hSw); go_simp; try with_reducible rfl⟩) (fun _ => by first | rfl | simp [Oper.about, resolve, go_sem]) hInv hHeld (fun hInv hHeld => ?_)
            try simp only [Act.put, List.setIfInBounds_toArray, List.set_cons_zero, List.set_cons_succ]
            refine anyS_take (i := 1) (oi := ⟨some 68, _, _, _, _, _⟩) (v := ?_) (by kernel_rfl) rfl (by kernel_rfl) (by kernel_rfl) (by kernel_rfl) (by kernel_rfl) (fun _ _ _ h => h) (Or.inl ⟨by rfl, by intro w hSw; (try dsimp only at hSw); go_simp; try with_reducible rfl⟩) (fun _ => by first | rfl | simp [Oper.about, resolve, go_sem]) hInv hHeld (fun hInv hHeld => ?_)
            try simp only [Act.put, List.setIfInBounds_toArray, List.set_cons_zero, List.set_cons_succ]
            refine anyS_take (i := 2) (oi := ⟨some 69, _, _, _, _, _⟩) (v := ?_) (by kernel_rfl) rfl (by kernel_rfl) (by kernel_rfl) (by kernel_rfl) (by kernel_rfl) (fun _ _ _ h => h) (Or.inl ⟨by rfl, by intro w hSw; (try dsimp only at hSw); go_simp; try with_reducible rfl⟩) (fun _ => by first | rfl | simp [Oper.about, resolve, go_sem]) hInv hHeld (fun hInv hHeld => ?_)
            try simp only [Act.put, List.setIfInBounds_toArray, List.set_cons_zero, List.set_cons_succ]
            refine anyS_take (i := 3) (oi := ⟨some 70, _, _, _, _, _⟩) (v := ?_) (by kernel_rfl) rfl (by kernel_rfl) (by kernel_rfl) (by kernel_rfl) (by kernel_rfl) (fun _ _ _ h => h) (Or.inl ⟨by rfl, by intro w hSw; (try dsimp only at hSw); go_simp; try with_reducible rfl⟩) (fun _ => by first | rfl | simp [Oper.about, resolve, go_sem]) hInv hHeld (fun hInv hHeld => ?_)
            try simp only [Act.put, List.setIfInBounds_toArray, List.set_cons_zero, List.set_cons_succ]
            refine anyS_take (i := 4) (oi := ⟨some 71, _, _, _, _, _⟩) (v := ?_) (by kernel_rfl) rfl (by kernel_rfl) (by kernel_rfl) (by kernel_rfl) (by kernel_rfl) (fun _ _ _ h => h) (Or.inl ⟨by rfl, by intro w hSw; (try dsimp only at hSw); go_simp; try with_reducible rfl⟩) (fun _ => by first | rfl | simp [Oper.about, resolve, go_sem]) hInv hHeld (fun hInv hHeld => ?_)
            try simp only [Act.put, List.setIfInBounds_toArray, List.set_cons_zero, List.set_cons_succ]
            refine anyS_take (i := 5) (oi := ⟨some 72, _, _, _, _, _⟩) (v := ?_) (by kernel_rfl) rfl (by kernel_rfl) (by kernel_rfl) (by kernel_rfl) (by kernel_rfl) (fun _ _ _ h => h) (Or.inl ⟨by rfl, by intro w hSw; (try dsimp only at hSw); go_simp; try with_reducible rfl⟩) (fun _ => by first | rfl | simp [Oper.about, resolve, go_sem]) hInv hHeld (fun hInv hHeld => ?_)
            try simp only [Act.put, List.setIfInBounds_toArray, List.set_cons_zero, List.set_cons_succ]
            refine anyS_take (i := 6) (oi := ⟨some 73, _, _, _, _, _⟩) (v := ?_) (by kernel_rfl) rfl (by kernel_rfl) (by kernel_rfl) (by kernel_rfl) (by kernel_rfl) (fun _ _ _ h => h) (Or.inl ⟨by rfl, by intro w hSw; (try dsimp only at hSw); go_simp; try with_reducible rfl⟩) (fun _ => by first | rfl | simp [Oper.about, resolve, go_sem]) hInv hHeld (fun hInv hHeld => ?_)
            try simp only [Act.put, List.setIfInBounds_toArray, List.set_cons_zero, List.set_cons_succ]
            refine anyS_take (i := 7) (oi := ⟨some 74, _, _, _, _, _⟩) (v := ?_) (by kernel_rfl) rfl (by kernel_rfl) (by kernel_rfl) (by kernel_rfl) (by kernel_rfl) (fun _ _ _ h => h) (Or.inl ⟨by rfl, by intro w hSw; (try dsimp only at hSw); go_simp; try with_reducible rfl⟩) (fun _ => by first | rfl | simp [Oper.about, resolve, go_sem]) hInv hHeld (fun hInv hHeld => ?_)
            try simp only [Act.put, List.setIfInBounds_toArray, List.set_cons_zero, List.set_cons_succ]
            refine anyS_take (i := 8) (oi := ⟨some 75, _, _, _, _, _⟩) (v := ?_) (by kernel_rfl) rfl (by kernel_rfl) (by kernel_rfl) (by kernel_rfl) (by kernel_rfl) (fun _ _ _ h => h) (Or.inl ⟨by rfl, by intro w hSw; (try dsimp only at hSw); go_simp; try with_reducible rfl⟩) (fun _ => by first | rfl | simp [Oper.about, resolve, go_sem]) hInv hHeld (fun hInv hHeld => ?_)
            try simp only [Act.put, List.setIfInBounds_toArray, List.set_cons_zero, List.set_cons_succ]
            refine anyS_take (i := 9) (oi := ⟨some 76, _, _, _, _, _⟩) (v := ?_) (by kernel_rfl) rfl (by kernel_rfl) (by kernel_rfl) (by kernel_rfl) (by kernel_rfl) (fun _ _ _ h => h) (Or.inl ⟨by rfl, by intro w hSw; (try dsimp only at hSw); go_simp; try with_reducible rfl⟩) (fun _ => by first | rfl | simp [Oper.about, resolve, go_sem]) hInv hHeld (fun hInv hHeld => ?_)
            try simp only [Act.put, List.setIfInBounds_toArray, List.set_cons_zero, List.set_cons_succ]
            refine anyS_take (i := 10) (oi := ⟨some 77, _, _, _, _, _⟩) (v := ?_) (by kernel_rfl) rfl (by kernel_rfl) (by kernel_rfl) (by kernel_rfl) (by kernel_rfl) (fun _ _ _ h => h) (Or.inl ⟨by rfl, by intro w hSw; (try dsimp only at hSw); go_simp; try with_reducible rfl⟩) (fun _ => by first | rfl | simp [Oper.about, resolve, go_sem]) hInv hHeld (fun hInv hHeld => ?_)
            try simp only [Act.put, List.setIfInBounds_toArray, List.set_cons_zero, List.set_cons_succ]
            refine anyS_take (i := 11) (oi := ⟨some 78, _, _, _, _, _⟩) (v := ?_) (by kernel_rfl) rfl (by kernel_rfl) (by kernel_rfl) (by kernel_rfl) (by kernel_rfl) (fun _ _ _ h => h) (Or.inl ⟨by rfl, by intro w hSw; (try dsimp only at hSw); go_simp; try with_reducible rfl⟩) (fun _ => by first | rfl | simp [Oper.about, resolve, go_sem]) hInv hHeld (fun hInv hHeld => ?_)
            try simp only [Act.put, List.setIfInBounds_toArray, List.set_cons_zero, List.set_cons_succ]
            refine anyS_take (i := 12) (oi := ⟨some 79, _, _, _, _, _⟩) (v := ?_) (by kernel_rfl) rfl (by kernel_rfl) (by kernel_rfl) (by kernel_rfl) (by kernel_rfl) (fun _ _ _ h => h) (Or.inl ⟨by rfl, by intro w hSw; (try dsimp only at hSw); go_simp; try with_reducible rfl⟩) (fun _ => by first | rfl | simp [Oper.about, resolve, go_sem]) hInv hHeld (fun hInv hHeld => ?_)
            try simp only [Act.put, List.setIfInBounds_toArray, List.set_cons_zero, List.set_cons_succ]
            refine anyS_take (i := 13) (oi := ⟨some 80, _, _, _, _, _⟩) (v := ?_) (by kernel_rfl) rfl (by kernel_rfl) (by kernel_rfl) (by kernel_rfl) (by kernel_rfl) (fun _ _ _ h => h) (Or.inl ⟨by rfl, by intro w hSw; (try dsimp only at hSw); go_simp; try with_reducible rfl⟩) (fun _ => by first | rfl | simp [Oper.about, resolve, go_sem]) hInv hHeld (fun hInv hHeld => ?_)
            try simp only [Act.put, List.setIfInBounds_toArray, List.set_cons_zero, List.set_cons_succ]
            refine anyS_take (i := 14) (oi := ⟨some 81, _, _, _, _, _⟩) (v := ?_) (by kernel_rfl) rfl (by kernel_rfl) (by kernel_rfl) (by kernel_rfl) (by kernel_rfl) (fun _ _ _ h => h) (Or.inl ⟨by rfl, by intro w hSw; (try dsimp only at hSw); go_simp; try with_reducible rfl⟩) (fun _ => by first | rfl | simp [Oper.about, resolve, go_sem]) hInv hHeld (fun hInv hHeld => ?_)
            try simp only [Act.put, List.setIfInBounds_toArray, List.set_cons_zero, List.set_cons_succ]
            refine anyS_take (i := 15) (oi := ⟨some 82, _, _, _, _, _⟩) (v := ?_) (by kernel_rfl) rfl (by kernel_rfl) (by kernel_rfl) (by kernel_rfl) (by kernel_rfl) (fun _ _ _ h => h) (Or.inl ⟨by rfl, by intro w hSw; (try dsimp only at hSw); go_simp; try with_reducible rfl⟩) (fun _ => by first | rfl | simp [Oper.about, resolve, go_sem]) hInv hHeld (fun hInv hHeld => ?_)
            try simp only [Act.put, List.setIfInBounds_toArray, List.set_cons_zero, List.set_cons_succ]
            refine anyS_one (i := 16) (o := ⟨some 83, _, _, _, _, _⟩) (by kernel_rfl) rfl hInv (fun K hK => ?_)
            go_simp
            refine hK.out _ _ (fun _ => ⟨⟨cellB hba l0, cellB hba l1⟩, cellB hba h0, cellB hba h1⟩) (fun hInv hHeld => ?_)
            clear hK K
            try simp only [Act.put, List.setIfInBounds_toArray, List.set_cons_zero, List.set_cons_succ]
            refine anyS_one (i := 17) (o := ⟨some 84, _, _, _, _, _⟩) (by kernel_rfl) rfl hInv (fun K hK => ?_)
            refine append_pairP (i := o.1) (j := o.2) _ _ rfl w2.heap.size u7 (oppTo xs k) HO0.out hl100 hs1 rfl rfl ?_
            intro v' w6 hO6 hb6
            clear hHeld
            refine hK.out _ _ (fun e => absurd (show true = false from e) (by decide)) (fun hInv hHeld => ?_)
            clear hK K
            try simp only [Act.put, List.setIfInBounds_toArray, List.set_cons_zero, List.set_cons_succ]
            refine anyS_pure (i := 18) (oi := ⟨some 7, _, _, _, _, _⟩) (v := ?_) (by kernel_rfl) rfl (by kernel_rfl) (by kernel_rfl) (by kernel_rfl) (by decide) (fun _ _ _ h => h) (Or.inl ⟨by rfl, by intro w hSw; (try dsimp only at hSw); go_simp; try with_reducible rfl⟩) (fun _ => by first | rfl | simp [Oper.about, resolve, go_sem]) hInv hHeld (fun hInv hHeld => ?_)
            try simp only [Act.put, List.setIfInBounds_toArray, List.set_cons_zero, List.set_cons_succ]
            refine anyS_done (by kernel_rfl) ?_ _
            have HB6 := Off.mk ((below_drew HBV.out).trans hb6)
            have HO6 : Off (OwnQ 34 w6 w2.heap.size v' (oppTo xs (k + 1))) := ⟨by rw [HT.out]; exact hO6⟩
            clear hO6 hb6
            gi_wp2
            go_roundw
            case rel => exact ⟨k + 1, by omega, by go_num, HO6, HB6⟩
            case measure => simp only [intOf]; omega
          · go_simp
            have hb1 := belowA hb0 (.cells #[.int .i64 0, .int .i64 0] 34)
            refine hK.out _ _ (fun _ => keepS hb1 SS) (fun hInv hHeld => ?_)
            clear hK K
            try simp only [Act.put, List.setIfInBounds_toArray, List.set_cons_zero, List.set_cons_succ]
            have bB := block_new V0 (.cells #[.int .i64 0, .int .i64 0] 34)
            have szB := hb0.size
            obtain ⟨U1, hU⟩ : ∃ U, (V0.alloc (.cells #[.int .i64 0, .int .i64 0] 34)) = U := ⟨_, rfl⟩
            rw [hU] at hb1 bB ⊢
            rw [hU] at hHeld
            clear hU
            refine anyS_one (i := 12) (o := ⟨some 9, _, _, _, _, _⟩) (by kernel_rfl) rfl hInv (fun K hK => ?_)
            go_simp
            have hb2 := belowA hb1 (.cells #[.int .i64 0, .int .i64 0] 34)
            refine hK.out _ _ (fun _ => keepS hb2 SS) (fun hInv hHeld => ?_)
            clear hK K
            try simp only [Act.put, List.setIfInBounds_toArray, List.set_cons_zero, List.set_cons_succ]
            have hlt2 := (Array.getElem?_eq_some_iff.1 bB).1
            have bB := alloc_old (o' := (.cells #[.int .i64 0, .int .i64 0] 34)) bB
            have bA := block_new U1 (.cells #[.int .i64 0, .int .i64 0] 34)
            have szA := hb1.size
            obtain ⟨U2, hU⟩ : ∃ U, (U1.alloc (.cells #[.int .i64 0, .int .i64 0] 34)) = U := ⟨_, rfl⟩
            rw [hU] at hb2 bA bB ⊢
            rw [hU] at hHeld
            clear hU
            have hne : U1.heap.size ≠ V0.heap.size := by omega
            obtain ⟨⟨x0, x1⟩, y0, y1⟩ := two_facts bA
            obtain ⟨⟨z0, z1⟩, u0, u1⟩ := two_facts bB
            have hne' := Ne.symm hne
            refine anyS_one (i := 14) (o := ⟨none, _, _, _, _, _⟩) (by kernel_rfl) rfl hInv (fun K hK => ?_)
            go_simp
            refine hK.out _ _ (fun _ => keepS ((hb2.setCell (p := ⟨U1.heap.size, 0, none⟩) szA _).setCell (p := ⟨U1.heap.size, 1, none⟩) szA _) SS) (fun hInv hHeld => ?_)
            clear hK K
            try simp only [Act.put, List.setIfInBounds_toArray, List.set_cons_zero, List.set_cons_succ]
            refine anyS_one (i := 15) (o := ⟨none, _, _, _, _, _⟩) (by kernel_rfl) rfl hInv (fun K hK => ?_)
            go_simp
            refine hK.out _ _ (fun e => absurd (show true = false from e) (by decide)) (fun hInv hHeld => ?_)
            clear hK K
            try simp only [Act.put, List.setIfInBounds_toArray, List.set_cons_zero, List.set_cons_succ]
            have ST := two_blocksT 34 p q hb2 szA szB hne bA bB
            clear hInv hHeld x0 x1 y0 y1 z0 z1 u0 u1 bA bB SS keepS
            refine anyS_done (by kernel_rfl) ?_ _
            generalize (((U2.setCell ⟨U1.heap.size, 0, none⟩ (.int .i64 p.1)).setCell ⟨U1.heap.size, 1, none⟩ (.int .i64 p.2)).setCell ⟨V0.heap.size, 0, none⟩ (.int .i64 q.1)).setCell ⟨V0.heap.size, 1, none⟩ (.int .i64 q.2) = V at ST ⊢
            obtain ⟨La, hLa⟩ : ∃ L, U1.heap.size = L := ⟨_, rfl⟩
            rw [hLa] at ST hne hne' szA ⊢
            clear hLa
            obtain ⟨Lb, hLb⟩ : ∃ L, V0.heap.size = L := ⟨_, rfl⟩
            rw [hLb] at ST hne hne' szB ⊢
            clear hLb
            obtain ⟨⟨l0, l1⟩, _⟩ := two_facts ST.1.1
            obtain ⟨⟨h0, h1⟩, _⟩ := two_facts ST.1.2
            have HBV := Off.mk (HB.out.trans (ST.2.mono HB.out.size))
            have HOV := Off.mk (ownQ_below HO.out ST.2)
            have hs0 := HBV.out.size
            clear ST
            gi_wp2_with fail
            have HO0 : Off (OwnQ 34 V.drew w2.heap.size u7 (oppTo xs k)) := ⟨⟨HOV.out.out⟩⟩
            have hba : Below V.drew.heap.size V.drew (V.drew.alloc (.cells #[.int .i64 o.1, .int .i64 o.2] 34)) := (Below.refl _ _).alloc (Nat.le_refl _) _
            have hs1 : w2.heap.size ≤ V.drew.heap.size := hs0
            refine region_anyS' (S := (fun w' => (w'.cell? ⟨La, 0, none⟩ = some (.int .i64 p.1) ∧ w'.cell? ⟨La, 1, none⟩ = some (.int .i64 p.2)) ∧ (w'.cell? ⟨Lb, 0, none⟩ = some (.int .i64 q.1) ∧ w'.cell? ⟨Lb, 1, none⟩ = some (.int .i64 q.2)))) 17 (by kernel_rfl) ⟨⟨l0, l1⟩, h0, h1⟩ (fun hInv hHeld => ?_)
            refine anyS_take (i := 0) (oi := ⟨some 67, _, _, _, _, _⟩) (v := ?_) (by kernel_rfl) rfl (by kernel_rfl) (by kernel_rfl) (by kernel_rfl) (by kernel_rfl) (fun _ _ _ h => h) (Or.inl ⟨by rfl, by intro w hSw; (try dsimp only at hSw); go_simp; try with_reducible rfl⟩) (fun _ => by first | rfl | simp [Oper.about, resolve, go_sem]) hInv hHeld (fun hInv hHeld => ?_)
            try simp only [Act.put, List.setIfInBounds_toArray, List.set_cons_zero, List.set_cons_succ]
            refine anyS_take (i := 1) (oi := ⟨some 68, _, _, _, _, _⟩) (v := ?_) (by kernel_rfl) rfl (by kernel_rfl) (by kernel_rfl) (by kernel_rfl) (by kernel_rfl) (fun _ _ _ h => h) (Or.inl ⟨by rfl, by intro w hSw; (try dsimp only at hSw); go_simp; try with_reducible rfl⟩) (fun _ => by first | rfl | simp [Oper.about, resolve, go_sem]) hInv hHeld (fun hInv hHeld => ?_)
            try simp only [Act.put, List.setIfInBounds_toArray, List.set_cons_zero, List.set_cons_succ]
            refine anyS_take (i := 2) (oi := ⟨some 69, _, _, _, _, _⟩) (v := ?_) (by kernel_rfl) rfl (by kernel_rfl) (by kernel_rfl) (by kernel_rfl) (by kernel_rfl) (fun _ _ _ h => h) (Or.inl ⟨by rfl, by intro w hSw; (try dsimp only at hSw); go_simp; try with_reducible rfl⟩) (fun _ => by first | rfl | simp [Oper.about, resolve, go_sem]) hInv hHeld (fun hInv hHeld => ?_)
            try simp only [Act.put, List.setIfInBounds_toArray, List.set_cons_zero, List.set_cons_succ]
            refine anyS_take (i := 3) (oi := ⟨some 70, _, _, _, _, _⟩) (v := ?_) (by kernel_rfl) rfl (by kernel_rfl) (by kernel_rfl) (by kernel_rfl) (by kernel_rfl) (fun _ _ _ h => h) (Or.inl ⟨by rfl, by intro w hSw; (try dsimp only at hSw); go_simp; try with_reducible rfl⟩) (fun _ => by first | rfl | simp [Oper.about, resolve, go_sem]) hInv hHeld (fun hInv hHeld => ?_)
            try simp only [Act.put, List.setIfInBounds_toArray, List.set_cons_zero, List.set_cons_succ]
            refine anyS_take (i := 4) (oi := ⟨some 71, _, _, _, _, _⟩) (v := ?_) (by kernel_rfl) rfl (by kernel_rfl) (by kernel_rfl) (by kernel_rfl) (by kernel_rfl) (fun _ _ _ h => h) (Or.inl ⟨by rfl, by intro w hSw; (try dsimp only at hSw); go_simp; try with_reducible rfl⟩) (fun _ => by first | rfl | simp [Oper.about, resolve, go_sem]) hInv hHeld (fun hInv hHeld => ?_)
            try simp only [Act.put, List.setIfInBounds_toArray, List.set_cons_zero, List.set_cons_succ]
            refine anyS_take (i := 5) (oi := ⟨some 72, _, _, _, _, _⟩) (v := ?_) (by kernel_rfl) rfl (by kernel_rfl) (by kernel_rfl) (by kernel_rfl) (by kernel_rfl) (fun _ _ _ h => h) (Or.inl ⟨by rfl, by intro w hSw; (try dsimp only at hSw); go_simp; try with_reducible rfl⟩) (fun _ => by first | rfl | simp [Oper.about, resolve, go_sem]) hInv hHeld (fun hInv hHeld => ?_)
            try simp only [Act.put, List.setIfInBounds_toArray, List.set_cons_zero, List.set_cons_succ]
            refine anyS_take (i := 6) (oi := ⟨some 73, _, _, _, _, _⟩) (v := ?_) (by kernel_rfl) rfl (by kernel_rfl) (by kernel_rfl) (by kernel_rfl) (by kernel_rfl) (fun _ _ _ h => h) (Or.inl ⟨by rfl, by intro w hSw; (try dsimp only at hSw); go_simp; try with_reducible rfl⟩) (fun _ => by first | rfl | simp [Oper.about, resolve, go_sem]) hInv hHeld (fun hInv hHeld => ?_)
            try simp only [Act.put, List.setIfInBounds_toArray, List.set_cons_zero, List.set_cons_succ]
            refine anyS_take (i := 7) (oi := ⟨some 74, _, _, _, _, _⟩) (v := ?_) (by kernel_rfl) rfl (by kernel_rfl) (by kernel_rfl) (by kernel_rfl) (by kernel_rfl) (fun _ _ _ h => h) (Or.inl ⟨by rfl, by intro w hSw; (try dsimp only at hSw); go_simp; try with_reducible rfl⟩) (fun _ => by first | rfl | simp [Oper.about, resolve, go_sem]) hInv hHeld (fun hInv hHeld => ?_)
            try simp only [Act.put, List.setIfInBounds_toArray, List.set_cons_zero, List.set_cons_succ]
            refine anyS_take (i := 8) (oi := ⟨some 75, _, _, _, _, _⟩) (v := ?_) (by kernel_rfl) rfl (by kernel_rfl) (by kernel_rfl) (by kernel_rfl) (by kernel_rfl) (fun _ _ _ h => h) (Or.inl ⟨by rfl, by intro w hSw; (try dsimp only at hSw); go_simp; try with_reducible rfl⟩) (fun _ => by first | rfl | simp [Oper.about, resolve, go_sem]) hInv hHeld (fun hInv hHeld => ?_)
            try simp only [Act.put, List.setIfInBounds_toArray, List.set_cons_zero, List.set_cons_succ]
            refine anyS_take (i := 9) (oi := ⟨some 76, _, _, _, _, _⟩) (v := ?_) (by kernel_rfl) rfl (by kernel_rfl) (by kernel_rfl) (by kernel_rfl) (by kernel_rfl) (fun _ _ _ h => h) (Or.inl ⟨by rfl, by intro w hSw; (try dsimp only at hSw); go_simp; try with_reducible rfl⟩) (fun _ => by first | rfl | simp [Oper.about, resolve, go_sem]) hInv hHeld (fun hInv hHeld => ?_)
            try simp only [Act.put, List.setIfInBounds_toArray, List.set_cons_zero, List.set_cons_succ]
            refine anyS_take (i := 10) (oi := ⟨some 77, _, _, _, _, _⟩) (v := ?_) (by kernel_rfl) rfl (by kernel_rfl) (by kernel_rfl) (by kernel_rfl) (by kernel_rfl) (fun _ _ _ h => h) (Or.inl ⟨by rfl, by intro w hSw; (try dsimp only at hSw); go_simp; try with_reducible rfl⟩) (fun _ => by first | rfl | simp [Oper.about, resolve, go_sem]) hInv hHeld (fun hInv hHeld => ?_)
            try simp only [Act.put, List.setIfInBounds_toArray, List.set_cons_zero, List.set_cons_succ]
            refine anyS_take (i := 11) (oi := ⟨some 78, _, _, _, _, _⟩) (v := ?_) (by kernel_rfl) rfl (by kernel_rfl) (by kernel_rfl) (by kernel_rfl) (by kernel_rfl) (fun _ _ _ h => h) (Or.inl ⟨by rfl, by intro w hSw; (try dsimp only at hSw); go_simp; try with_reducible rfl⟩) (fun _ => by first | rfl | simp [Oper.about, resolve, go_sem]) hInv hHeld (fun hInv hHeld => ?_)
            try simp only [Act.put, List.setIfInBounds_toArray, List.set_cons_zero, List.set_cons_succ]
            refine anyS_take (i := 12) (oi := ⟨some 79, _, _, _, _, _⟩) (v := ?_) (by kernel_rfl) rfl (by kernel_rfl) (by kernel_rfl) (by kernel_rfl) (by kernel_rfl) (fun _ _ _ h => h) (Or.inl ⟨by rfl, by intro w hSw; (try dsimp only at hSw); go_simp; try with_reducible rfl⟩) (fun _ => by first | rfl | simp [Oper.about, resolve, go_sem]) hInv hHeld (fun hInv hHeld => ?_)
            try simp only [Act.put, List.setIfInBounds_toArray, List.set_cons_zero, List.set_cons_succ]
            refine anyS_take (i := 13) (oi := ⟨some 80, _, _, _, _, _⟩) (v := ?_) (by kernel_rfl) rfl (by kernel_rfl) (by kernel_rfl) (by kernel_rfl) (by kernel_rfl) (fun _ _ _ h => h) (Or.inl ⟨by rfl, by intro w hSw; (try dsimp only at hSw); go_simp; try with_reducible rfl⟩) (fun _ => by first | rfl | simp [Oper.about, resolve, go_sem]) hInv hHeld (fun hInv hHeld => ?_)
            try simp only [Act.put, List.setIfInBounds_toArray, List.set_cons_zero, List.set_cons_succ]
            refine anyS_take (i := 14) (oi := ⟨some 81, _, _, _, _, _⟩) (v := ?_) (by kernel_rfl) rfl (by kernel_rfl) (by kernel_rfl) (by kernel_rfl) (by kernel_rfl) (fun _ _ _ h => h) (Or.inl ⟨by rfl, by intro w hSw; (try dsimp only at hSw); go_simp; try with_reducible rfl⟩) (fun _ => by first | rfl | simp [Oper.about, resolve, go_sem]) hInv hHeld (fun hInv hHeld => ?_)
            try simp only [Act.put, List.setIfInBounds_toArray, List.set_cons_zero, List.set_cons_succ]
            refine anyS_take (i := 15) (oi := ⟨some 82, _, _, _, _, _⟩) (v := ?_) (by kernel_rfl) rfl (by kernel_rfl) (by kernel_rfl) (by kernel_rfl) (by kernel_rfl) (fun _ _ _ h => h) (Or.inl ⟨by rfl, by intro w hSw; (try dsimp only at hSw); go_simp; try with_reducible rfl⟩) (fun _ => by first | rfl | simp [Oper.about, resolve, go_sem]) hInv hHeld (fun hInv hHeld => ?_)
            try simp only [Act.put, List.setIfInBounds_toArray, List.set_cons_zero, List.set_cons_succ]
            refine anyS_one (i := 16) (o := ⟨some 83, _, _, _, _, _⟩) (by kernel_rfl) rfl hInv (fun K hK => ?_)
            go_simp
            refine hK.out _ _ (fun _ => ⟨⟨cellB hba l0, cellB hba l1⟩, cellB hba h0, cellB hba h1⟩) (fun hInv hHeld => ?_)
            clear hK K
            try simp only [Act.put, List.setIfInBounds_toArray, List.set_cons_zero, List.set_cons_succ]
            refine anyS_one (i := 17) (o := ⟨some 84, _, _, _, _, _⟩) (by kernel_rfl) rfl hInv (fun K hK => ?_)
            refine append_pairP (i := o.1) (j := o.2) _ _ rfl w2.heap.size u7 (oppTo xs k) HO0.out hl100 hs1 rfl rfl ?_
            intro v' w6 hO6 hb6
            clear hHeld
            refine hK.out _ _ (fun e => absurd (show true = false from e) (by decide)) (fun hInv hHeld => ?_)
            clear hK K
            try simp only [Act.put, List.setIfInBounds_toArray, List.set_cons_zero, List.set_cons_succ]
            refine anyS_pure (i := 18) (oi := ⟨some 7, _, _, _, _, _⟩) (v := ?_) (by kernel_rfl) rfl (by kernel_rfl) (by kernel_rfl) (by kernel_rfl) (by decide) (fun _ _ _ h => h) (Or.inl ⟨by rfl, by intro w hSw; (try dsimp only at hSw); go_simp; try with_reducible rfl⟩) (fun _ => by first | rfl | simp [Oper.about, resolve, go_sem]) hInv hHeld (fun hInv hHeld => ?_)
            try simp only [Act.put, List.setIfInBounds_toArray, List.set_cons_zero, List.set_cons_succ]
            refine anyS_done (by kernel_rfl) ?_ _
            have HB6 := Off.mk ((below_drew HBV.out).trans hb6)
            have HO6 : Off (OwnQ 34 w6 w2.heap.size v' (oppTo xs (k + 1))) := ⟨by rw [HT.out]; exact hO6⟩
            clear hO6 hb6
            gi_wp2
            go_roundw
            case rel => exact ⟨k + 1, by omega, by go_num, HO6, HB6⟩
            case measure => simp only [intOf]; omega
        · obtain rfl : k = xs.length := by omega
          have hO := HO.out
          rw [oppTo_all] at hO
          have HOE := Off.mk hO
          have HBE := Off.mk (HB4.out.trans (HB.out.mono HB4.out.size))
          clear hO HO
          gi_wp2_with fail
          go_wp2
          refine bodyPost_ret (v := .tuple #[u7, .int .i64 0]) (by simp [results, Try.results34, go_sem]) rfl ⟨by rw [HY.out]; exact ⟨_, rfl, ownQ_mono HOE.out HB4.out.size⟩, HBE.out⟩
    · have HR := Off.mk (HR.out (by rw [HO1.out]; simp [k3]))
      have g3 : (wh != 1) = true := by simpa using k3
      clear HO1 HY HD k3
      go_wp2_with fail
      refine (C1.out _ HB1.out).mono ?_
      rintro e w2 ⟨rfl, hb2⟩
      have HB2 := Off.mk (belowC HB1.out hb2)
      clear hb2
      go_wp2_with fail
      refine (C2.out _ HB2.out).mono ?_
      rintro e w3 ⟨rfl, hb3⟩
      have HB3 := Off.mk (belowC HB2.out hb3)
      clear hb3
      go_wp2_with fail
      refine (C3.out _ HB3.out).mono ?_
      rintro e w4 ⟨rfl, hb4⟩
      have HB4 := Off.mk (belowC HB3.out hb4)
      clear hb4
      go_wp2
      refine bodyPost_ret (v := .tuple #[.slice none 0 0, .int .i64 9]) (by simp [results, Try.results34, go_sem]) rfl ⟨by rw [HR.out]; exact ⟨_, rfl, ownQ_nil _ _ _⟩, HB4.out⟩
  · have HR := Off.mk (HR.out (by rw [HO1.out]; simp [k1]))
    have g1 : (ins != 1) = true := by simpa using k1
    clear HO1 HY HD k1 C3
    go_wp2_with fail
    refine (C1.out _ HB1.out).mono ?_
    rintro e w2 ⟨rfl, hb2⟩
    have HB2 := Off.mk (belowC HB1.out hb2)
    clear hb2
    go_wp2_with fail
    refine (C2.out _ HB2.out).mono ?_
    rintro e w3 ⟨rfl, hb3⟩
    have HB3 := Off.mk (belowC HB2.out hb3)
    clear hb3
    go_wp2
    refine bodyPost_ret (v := .tuple #[.slice none 0 0, .int .i64 9]) (by simp [results, Try.results34, go_sem]) rfl ⟨by rw [HR.out]; exact ⟨_, rfl, ownQ_nil _ _ _⟩, HB3.out⟩
end
end
end Go.Proofs.Ytbpmiphipjkdlaa
