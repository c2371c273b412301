/- Contracts of the specification: Gcd, signed, border. -/
import Derived.Test.YtbpmiphipjkdlaaBb
import Derived.Test.YtbpmiphipjkdlaaAq
import Derived.Test.YtbpmiphipjkdlaaAw
namespace Go.Proofs.Ytbpmiphipjkdlaa
open Go.RowKit Go.Shelf
attribute [local go_sem] Oper.semAt_some

theorem two_blocksT (t : TypeId) {n : Nat} {w0 w : World} {A B : Nat} {x y z u : Value} (p q : Int × Int) (hb : Below n w0 w) (hA : n ≤ A) (hB : n ≤ B) (hne : A ≠ B) (bA : w.heap[A]? = some (.cells #[x, y] t (0, 0))) (bB : w.heap[B]? = some (.cells #[z, u] t (0, 0))) :
    (((((w.setCell ⟨A, 0, none⟩ (.int .i64 p.1)).setCell ⟨A, 1, none⟩ (.int .i64 p.2)).setCell ⟨B, 0, none⟩ (.int .i64 q.1)).setCell ⟨B, 1, none⟩ (.int .i64 q.2)).heap[A]? = some (.cells #[.int .i64 p.1, .int .i64 p.2] t (0, 0)) ∧
    ((((w.setCell ⟨A, 0, none⟩ (.int .i64 p.1)).setCell ⟨A, 1, none⟩ (.int .i64 p.2)).setCell ⟨B, 0, none⟩ (.int .i64 q.1)).setCell ⟨B, 1, none⟩ (.int .i64 q.2)).heap[B]? = some (.cells #[.int .i64 q.1, .int .i64 q.2] t (0, 0))) ∧
    Below n w0 ((((w.setCell ⟨A, 0, none⟩ (.int .i64 p.1)).setCell ⟨A, 1, none⟩ (.int .i64 p.2)).setCell ⟨B, 0, none⟩ (.int .i64 q.1)).setCell ⟨B, 1, none⟩ (.int .i64 q.2)) := by
  refine ⟨⟨?_, ?_⟩, ?_⟩
  · rw [heap_setCell_other _ _ _ _ hne, heap_setCell_other _ _ _ _ hne]
    exact heap_setCell_same _ A 1 _ _ _ (heap_setCell_same w A 0 _ _ _ bA)
  · have h1 : ((w.setCell ⟨A, 0, none⟩ (.int .i64 p.1)).setCell ⟨A, 1, none⟩ (.int .i64 p.2)).heap[B]? = some (.cells #[z, u] t (0, 0)) := by
      rw [heap_setCell_other _ _ _ _ (Ne.symm hne), heap_setCell_other _ _ _ _ (Ne.symm hne)]
      exact bB
    exact heap_setCell_same _ B 1 _ _ _ (heap_setCell_same _ B 0 _ _ _ h1)
  · exact (((hb.setCell (p := ⟨A, 0, none⟩) hA _).setCell (p := ⟨A, 1, none⟩) hA _).setCell (p := ⟨B, 0, none⟩) hB _).setCell (p := ⟨B, 1, none⟩) hB _
theorem gcd_mod (a b : Int) (h : 0 ≤ a) (hb : 0 < b) : Int.gcd b (a % b) = Int.gcd a b := by
  rw [Int.gcd_comm a b]
  have h1 := Int.emod_nonneg a (show b ≠ 0 by omega)
  simp only [Int.gcd]
  rw [show (a % b).natAbs = a.natAbs % b.natAbs by
    obtain ⟨m, rfl⟩ := Int.eq_ofNat_of_zero_le h
    obtain ⟨k, rfl⟩ := Int.eq_ofNat_of_zero_le (Int.le_of_lt hb)
    exact (by rfl)]
  rw [Nat.gcd_comm b.natAbs a.natAbs, Nat.gcd_comm b.natAbs (a.natAbs % b.natAbs), ← Nat.gcd_rec, Nat.gcd_comm]
theorem gcdR_any (x y : Int) (hx : -16777216 ≤ x ∧ x ≤ 16777216) (hy : -16777216 ≤ y ∧ y ≤ 16777216) (w : World) :
    Calls Try.prog 87 #[.int .i64 x, .int .i64 y] w fun e w' => e = .returned (.int .i64 (Int.gcd x y : Nat)) ∧ Below w.heap.size w w' := by
  have hwx : IntKind.i64.wrap (-x) = -x := by rw [IntKind.wrap_i64]; omega
  have hwy : IntKind.i64.wrap (-y) = -y := by rw [IntKind.wrap_i64]; omega
  obtain ⟨x', hx'⟩ : ∃ x', max x (-x) = x' := ⟨_, rfl⟩
  obtain ⟨y', hy'⟩ : ∃ y', max y (-y) = y' := ⟨_, rfl⟩
  have hg : Int.gcd x y = Int.gcd x' y' := by
    have e1 : x' = (x.natAbs : Int) := by omega
    have e2 : y' = (y.natAbs : Int) := by omega
    rw [e1, e2]
    simp [Int.gcd]
  have hxb : 0 ≤ x' ∧ x' ≤ 16777216 := by omega
  have hyb : 0 ≤ y' ∧ y' ≤ 16777216 := by omega
  obtain ⟨g, hgg⟩ : ∃ g, g = Int.gcd x y := ⟨_, rfl⟩
  have HG : Off (g = Int.gcd x' y') := ⟨hgg.trans hg⟩
  rw [← hgg]
  clear hg hgg hx hy
  go_enter Try.func87, Try.ntmps87
  go_wp2
  go_loopw [0, 1] (fun xv yv wr => ∃ a b : Int, xv = .int .i64 a ∧ yv = .int .i64 b ∧ (0 ≤ a ∧ a ≤ 16777216) ∧ (0 ≤ b ∧ b ≤ 16777216) ∧ Off (g = Int.gcd a b) ∧ Off (Below w.heap.size w wr)) (fun _ yv _ => (intOf yv).toNat)
  case atStart => exact ⟨x', y', rfl, rfl, hxb, hyb, HG, ⟨Below.refl _ _⟩⟩
  case round =>
    obtain ⟨a, b, rfl, rfl, ha, hb, HGa, HB⟩ := hrel
    by_cases h0 : 0 < b
    · have h1 := Int.emod_nonneg a (show b ≠ 0 by omega)
      have h2 := Int.emod_lt_of_pos a h0
      have e1 : a.tmod b = a % b := Int.tmod_eq_emod_of_nonneg ha.1
      have W1 : IntKind.i64.wrap (a % b) = a % b := by rw [IntKind.wrap_i64]; omega
      have hne : ¬ b = 0 := by omega
      have HGb : Off (g = Int.gcd b (a % b)) := ⟨by rw [HGa.out, gcd_mod a b ha.1 h0]⟩
      obtain ⟨r, hr⟩ : ∃ r, a % b = r := ⟨_, rfl⟩
      rw [hr] at h1 h2 e1 W1 HGb
      clear hr HGa
      go_wp2
      go_roundw
      case rel => exact ⟨b, r, rfl, rfl, hb, by omega, HGb, HB⟩
      case measure => simp only [intOf]; omega
    · obtain rfl : b = 0 := by omega
      have HGz : Off ((g : Int) = a) := ⟨by have := HGa.out; rw [Int.gcd_zero_right] at this; omega⟩
      clear HGa
      go_wp2
      go_ret
      exact ⟨ret_int HGz.out.symm, HB.out⟩
/-- A sum over the sides ahead of side k. -/
def sumTo (f : (Int × Int) × (Int × Int) → Int) (xs : PtL) : Nat → Int
  | 0 => 0
  | k + 1 => sumTo f xs k + f (sideAt xs k)
theorem sumTo_in (f : (Int × Int) × (Int × Int) → Int) {xs : PtL} (b : Nat) (h : ∀ i, -(b : Int) ≤ f (sideAt xs i) ∧ f (sideAt xs i) ≤ b) : ∀ k : Nat, -(k * b : Nat) ≤ sumTo f xs k ∧ sumTo f xs k ≤ (k * b : Nat)
  | 0 => by simp [sumTo]
  | k + 1 => by
    have h1 := sumTo_in f b h k
    have h2 := h k
    rw [sumTo, Nat.add_mul]
    omega
theorem sumF_sumTo (f : (Int × Int) × (Int × Int) → Int) (xs : PtL) : sumF f xs (List.finRange xs.length) = sumTo f xs xs.length := by
  have h : ∀ k, sumTo f xs k = ((List.range k).map fun i => f (sideAt xs i)).sum := by
    intro k
    induction k with
    | zero => rfl
    | succ k ih => rw [sumTo, ih, List.range_succ, List.map_append, List.sum_append]; simp
  rw [h]
  unfold sumF
  have : (List.finRange xs.length).map (fun i => f (sideAt xs i.val)) = (List.range xs.length).map fun i => f (sideAt xs i) := by
    apply List.ext_getElem
    · simp
    · intro i h1 h2
      simp
  rw [this]
/-- Twice the part of the area at a side. -/
def crossS (s : (Int × Int) × (Int × Int)) : Int := crossP s.1 s.2
/-- The points on a side, as the specification counts them. -/
def gcdS (s : (Int × Int) × (Int × Int)) : Int := (Int.gcd (s.1.1 - s.2.1) (s.1.2 - s.2.2) : Nat)
set_option maxRecDepth 100000 in
set_option maxHeartbeats 4000000 in
theorem signedR_any (xs : PtL) (A : Option Addr) (c : Nat) (w : World) (h60 : xs.length ≤ 60) (hP : ∀ i, inB 50 (xs.getD i (0, 0))) (hx : PairsI w A xs) :
    Calls Try.prog 48 #[.slice A xs.length c] w fun e w' => e = .returned (.int .i64 (sumTo crossS xs xs.length)) ∧ Below w.heap.size w w' := by
  have HX := Off.mk hx
  have HP := Off.mk hP
  clear hx hP
  refine (callsIn_wide (n := 9)).1 ?_
  refine callsIn_of_wp Try.func48 rfl trivial ?_ rfl
  simp only [Try.ntmps48, List.size_toArray, List.length_cons, List.length_nil, Nat.reduceAdd, Nat.reduceSub, Array.replicate_succ, Array.replicate_zero, List.push_toArray, List.append_toArray, List.nil_append, List.cons_append]
  gi_wp2
  gi_loopw [3, 4] (fun sv kv wr => ∃ (s : Int) (k : Nat), k ≤ xs.length ∧ sv = .int .i64 s ∧ kv = .int .i64 k ∧ (-(60 * 5000) ≤ s ∧ s ≤ 60 * 5000) ∧ Off (s = sumTo crossS xs k) ∧ Off (Below w.heap.size w wr)) (fun _ kv _ => xs.length - (intOf kv).toNat)
  case atStart => exact ⟨0, 0, by omega, rfl, rfl, by omega, ⟨rfl⟩, ⟨Below.refl _ _⟩⟩
  case round =>
    obtain ⟨s, k, hk, rfl, rfl, hs, HS, HB⟩ := hrel
    by_cases hlt : k < xs.length
    · have hkI : (k : Int) < (xs.length : Int) := by omega
      obtain ⟨m, hm⟩ : ∃ m, m = (k + 1) % xs.length := ⟨_, rfl⟩
      have hml : m < xs.length := by rw [hm]; exact Nat.mod_lt _ (by omega)
      have e5 : ((k : Int) + 1).tmod (xs.length : Int) = (m : Int) := by
        rw [Int.tmod_eq_emod_of_nonneg (by omega), hm, show (k : Int) + 1 = ((k + 1 : Nat) : Int) by omega]
        exact (Int.natCast_emod _ _).symm
      have e7 : ((k : Int) + 1) % (xs.length : Int) = (m : Int) := by rw [← Int.tmod_eq_emod_of_nonneg (by omega)]; exact e5
      have w5 : IntKind.i64.wrap ((k : Int) + 1) = (k : Int) + 1 := by rw [IntKind.wrap_i64]; omega
      have hn0 : ¬ xs.length = 0 := by omega
      have hmI : (m : Int) < (xs.length : Int) := by omega
      have hxr := HX.out.below HB.out
      obtain ⟨ad, rfl, x0, x1⟩ := hxr.cell k hlt
      obtain ⟨ad', e, z0, z1⟩ := hxr.cell m hml
      cases e
      obtain ⟨p, hp⟩ : ∃ p, p = xs.getD k (0, 0) := ⟨_, rfl⟩
      obtain ⟨q, hq⟩ : ∃ q, q = xs.getD m (0, 0) := ⟨_, rfl⟩
      have hp50 : inB 50 p := by rw [hp]; exact HP.out _
      have hq50 : inB 50 q := by rw [hq]; exact HP.out _
      have HSd : Off (sideAt xs k = (p, q)) := ⟨by unfold sideAt; rw [← hm, ← hp, ← hq]⟩
      rw [← hp] at x0 x1
      rw [← hq] at z0 z1
      clear hp hq hm hxr
      have m1 := mul_in (x := p.1) (y := q.2) (a := 50) (b := 50) (by unfold inB at hp50; omega) (by unfold inB at hq50; omega) (by omega) (by omega)
      have m2 := mul_in (x := q.1) (y := p.2) (a := 50) (b := 50) (by unfold inB at hq50; omega) (by unfold inB at hp50; omega) (by omega) (by omega)
      have hf : sumTo crossS xs (k + 1) = s + (p.1 * q.2 - q.1 * p.2) := by rw [sumTo, HSd.out, HS.out]; unfold crossS crossP; rw [Int.mul_comm q.1 p.2]
      have hbd := sumTo_in crossS (xs := xs) 5000 (fun i => cross_50 (HP.out _) (HP.out _)) (k + 1)
      have hbd2 : -(60 * 5000) ≤ s + (p.1 * q.2 - q.1 * p.2) ∧ s + (p.1 * q.2 - q.1 * p.2) ≤ 60 * 5000 := by rw [← hf]; omega
      have HF := Off.mk hf
      have W1 : IntKind.i64.wrap (p.1 * q.2) = p.1 * q.2 := by rw [IntKind.wrap_i64]; omega
      have W2 : IntKind.i64.wrap (q.1 * p.2) = q.1 * p.2 := by rw [IntKind.wrap_i64]; omega
      have W3 : IntKind.i64.wrap (p.1 * q.2 - q.1 * p.2) = p.1 * q.2 - q.1 * p.2 := by rw [IntKind.wrap_i64]; omega
      have W4 : IntKind.i64.wrap (s + (p.1 * q.2 - q.1 * p.2)) = s + (p.1 * q.2 - q.1 * p.2) := by rw [IntKind.wrap_i64]; omega
      have HBD := Off.mk hbd2
      clear hf hbd hbd2 m1 m2 hp50 hq50
      gi_wp2
      have SS : (fun w' => (w'.cell? (ad.add (k * 2)) = some (.int .i64 p.1) ∧ w'.cell? ⟨(ad.add (k * 2)).block, (ad.add (k * 2)).off + 1, none⟩ = some (.int .i64 p.2)) ∧ (w'.cell? (ad.add (m * 2)) = some (.int .i64 q.1) ∧ w'.cell? ⟨(ad.add (m * 2)).block, (ad.add (m * 2)).off + 1, none⟩ = some (.int .i64 q.2))) wr := ⟨⟨x0, x1⟩, z0, z1⟩
      have keepS : ∀ {v : World}, Below wr.heap.size wr v → (fun w' => (w'.cell? (ad.add (k * 2)) = some (.int .i64 p.1) ∧ w'.cell? ⟨(ad.add (k * 2)).block, (ad.add (k * 2)).off + 1, none⟩ = some (.int .i64 p.2)) ∧ (w'.cell? (ad.add (m * 2)) = some (.int .i64 q.1) ∧ w'.cell? ⟨(ad.add (m * 2)).block, (ad.add (m * 2)).off + 1, none⟩ = some (.int .i64 q.2))) wr → (fun w' => (w'.cell? (ad.add (k * 2)) = some (.int .i64 p.1) ∧ w'.cell? ⟨(ad.add (k * 2)).block, (ad.add (k * 2)).off + 1, none⟩ = some (.int .i64 p.2)) ∧ (w'.cell? (ad.add (m * 2)) = some (.int .i64 q.1) ∧ w'.cell? ⟨(ad.add (m * 2)).block, (ad.add (m * 2)).off + 1, none⟩ = some (.int .i64 q.2))) v := fun hb ⟨⟨x0, x1⟩, z0, z1⟩ => ⟨⟨cellB hb x0, cellB hb x1⟩, cellB hb z0, cellB hb z1⟩
      refine region_anyS' (S := (fun w' => (w'.cell? (ad.add (k * 2)) = some (.int .i64 p.1) ∧ w'.cell? ⟨(ad.add (k * 2)).block, (ad.add (k * 2)).off + 1, none⟩ = some (.int .i64 p.2)) ∧ (w'.cell? (ad.add (m * 2)) = some (.int .i64 q.1) ∧ w'.cell? ⟨(ad.add (m * 2)).block, (ad.add (m * 2)).off + 1, none⟩ = some (.int .i64 q.2)))) 15 (by kernel_rfl) SS (fun hInv hHeld => ?_)
      refine anyS_take (i := 0) (oi := ⟨some 13, _, _, _, _, _⟩) (v := ?_) (by kernel_rfl) rfl (by kernel_rfl) (by kernel_rfl) (by kernel_rfl) (by kernel_rfl) (fun _ _ _ h => h) (Or.inl ⟨by rfl, by intro w hSw; (try dsimp only at hSw); go_simp; try with_reducible rfl⟩) (fun _ => by first | rfl | simp [Oper.about, resolve, go_sem]) hInv hHeld (fun hInv hHeld => ?_)
      try simp only [Act.put, List.setIfInBounds_toArray, List.set_cons_zero, List.set_cons_succ]
      refine anyS_take (i := 1) (oi := ⟨some 14, _, _, _, _, _⟩) (v := ?_) (by kernel_rfl) rfl (by kernel_rfl) (by kernel_rfl) (by kernel_rfl) (by kernel_rfl) (fun _ _ _ h => h) (Or.inl ⟨by rfl, by intro w hSw; (try dsimp only at hSw); go_simp; try with_reducible rfl⟩) (fun _ => by first | rfl | simp [Oper.about, resolve, go_sem]) hInv hHeld (fun hInv hHeld => ?_)
      try simp only [Act.put, List.setIfInBounds_toArray, List.set_cons_zero, List.set_cons_succ]
      refine anyS_take (i := 2) (oi := ⟨some 15, _, _, _, _, _⟩) (v := ?_) (by kernel_rfl) rfl (by kernel_rfl) (by kernel_rfl) (by kernel_rfl) (by kernel_rfl) (fun _ _ _ h => h) (Or.inl ⟨by rfl, by intro w hSw; (try dsimp only at hSw); go_simp; try with_reducible rfl⟩) (fun _ => by first | rfl | simp [Oper.about, resolve, go_sem]) hInv hHeld (fun hInv hHeld => ?_)
      try simp only [Act.put, List.setIfInBounds_toArray, List.set_cons_zero, List.set_cons_succ]
      refine anyS_take (i := 3) (oi := ⟨some 16, _, _, _, _, _⟩) (v := ?_) (by kernel_rfl) rfl (by kernel_rfl) (by kernel_rfl) (by kernel_rfl) (by kernel_rfl) (fun _ _ _ h => h) (Or.inl ⟨by rfl, by intro w hSw; (try dsimp only at hSw); go_simp; try with_reducible rfl⟩) (fun _ => by first | rfl | simp [Oper.about, resolve, go_sem]) hInv hHeld (fun hInv hHeld => ?_)
      try simp only [Act.put, List.setIfInBounds_toArray, List.set_cons_zero, List.set_cons_succ]
      refine anyS_take (i := 4) (oi := ⟨some 17, _, _, _, _, _⟩) (v := ?_) (by kernel_rfl) rfl (by kernel_rfl) (by kernel_rfl) (by kernel_rfl) (by kernel_rfl) (fun _ _ _ h => h) (Or.inl ⟨by rfl, by intro w hSw; (try dsimp only at hSw); go_simp; try with_reducible rfl⟩) (fun _ => by first | rfl | simp [Oper.about, resolve, go_sem]) hInv hHeld (fun hInv hHeld => ?_)
      try simp only [Act.put, List.setIfInBounds_toArray, List.set_cons_zero, List.set_cons_succ]
      refine anyS_take (i := 5) (oi := ⟨some 18, _, _, _, _, _⟩) (v := ?_) (by kernel_rfl) rfl (by kernel_rfl) (by kernel_rfl) (by kernel_rfl) (by kernel_rfl) (fun _ _ _ h => h) (Or.inl ⟨by rfl, by intro w hSw; (try dsimp only at hSw); go_simp; try with_reducible rfl⟩) (fun _ => by first | rfl | simp [Oper.about, resolve, go_sem]) hInv hHeld (fun hInv hHeld => ?_)
      try simp only [Act.put, List.setIfInBounds_toArray, List.set_cons_zero, List.set_cons_succ]
      refine anyS_take (i := 6) (oi := ⟨some 19, _, _, _, _, _⟩) (v := ?_) (by kernel_rfl) rfl (by kernel_rfl) (by kernel_rfl) (by kernel_rfl) (by kernel_rfl) (fun _ _ _ h => h) (Or.inl ⟨by rfl, by intro w hSw; (try dsimp only at hSw); go_simp; try with_reducible rfl⟩) (fun _ => by first | rfl | simp [Oper.about, resolve, go_sem]) hInv hHeld (fun hInv hHeld => ?_)
      try simp only [Act.put, List.setIfInBounds_toArray, List.set_cons_zero, List.set_cons_succ]
      refine anyS_take (i := 7) (oi := ⟨some 20, _, _, _, _, _⟩) (v := ?_) (by kernel_rfl) rfl (by kernel_rfl) (by kernel_rfl) (by kernel_rfl) (by kernel_rfl) (fun _ _ _ h => h) (Or.inl ⟨by rfl, by intro w hSw; (try dsimp only at hSw); go_simp; try with_reducible rfl⟩) (fun _ => by first | rfl | simp [Oper.about, resolve, go_sem]) hInv hHeld (fun hInv hHeld => ?_)
      try simp only [Act.put, List.setIfInBounds_toArray, List.set_cons_zero, List.set_cons_succ]
      refine anyS_take (i := 8) (oi := ⟨some 21, _, _, _, _, _⟩) (v := ?_) (by kernel_rfl) rfl (by kernel_rfl) (by kernel_rfl) (by kernel_rfl) (by kernel_rfl) (fun _ _ _ h => h) (Or.inl ⟨by rfl, by intro w hSw; (try dsimp only at hSw); go_simp; try with_reducible rfl⟩) (fun _ => by first | rfl | simp [Oper.about, resolve, go_sem]) hInv hHeld (fun hInv hHeld => ?_)
      try simp only [Act.put, List.setIfInBounds_toArray, List.set_cons_zero, List.set_cons_succ]
      refine anyS_take (i := 9) (oi := ⟨some 22, _, _, _, _, _⟩) (v := ?_) (by kernel_rfl) rfl (by kernel_rfl) (by kernel_rfl) (by kernel_rfl) (by kernel_rfl) (fun _ _ _ h => h) (Or.inl ⟨by rfl, by intro w hSw; (try dsimp only at hSw); go_simp; try with_reducible rfl⟩) (fun _ => by first | rfl | simp [Oper.about, resolve, go_sem]) hInv hHeld (fun hInv hHeld => ?_)
      try simp only [Act.put, List.setIfInBounds_toArray, List.set_cons_zero, List.set_cons_succ]
      refine anyS_take (i := 10) (oi := ⟨some 23, _, _, _, _, _⟩) (v := ?_) (by kernel_rfl) rfl (by kernel_rfl) (by kernel_rfl) (by kernel_rfl) (by kernel_rfl) (fun _ _ _ h => h) (Or.inl ⟨by rfl, by intro w hSw; (try dsimp only at hSw); go_simp; try with_reducible rfl⟩) (fun _ => by first | rfl | simp [Oper.about, resolve, go_sem]) hInv hHeld (fun hInv hHeld => ?_)
      try simp only [Act.put, List.setIfInBounds_toArray, List.set_cons_zero, List.set_cons_succ]
      refine anyS_take (i := 11) (oi := ⟨some 24, _, _, _, _, _⟩) (v := ?_) (by kernel_rfl) rfl (by kernel_rfl) (by kernel_rfl) (by kernel_rfl) (by kernel_rfl) (fun _ _ _ h => h) (Or.inl ⟨by rfl, by intro w hSw; (try dsimp only at hSw); go_simp; try with_reducible rfl⟩) (fun _ => by first | rfl | simp [Oper.about, resolve, go_sem]) hInv hHeld (fun hInv hHeld => ?_)
      try simp only [Act.put, List.setIfInBounds_toArray, List.set_cons_zero, List.set_cons_succ]
      obtain ⟨V0, hV0⟩ : ∃ V, wr.drew = V := ⟨_, rfl⟩
      have hb0 : Below wr.heap.size wr V0 := by rw [← hV0]; exact (Below.refl _ wr).drew
      rw [hV0] at hHeld ⊢
      clear hV0
      refine anyS_two (i := 12) (o := ⟨some 5, _, _, _, _, _⟩) (j := 13) (p := ⟨some 6, _, _, _, _, _⟩) (by kernel_rfl) rfl rfl hInv (fun K hK => ?_) (fun K hK => ?_)
      · go_simp
        have hb1 := belowA hb0 (.cells #[.int .i64 0, .int .i64 0] 34)
        refine hK.out _ _ (fun _ => keepS hb1 SS) (fun hInv hHeld => ?_)
        clear hK K
        try simp only [Act.put, List.setIfInBounds_toArray, List.set_cons_zero, List.set_cons_succ]
        have bA := block_new V0 (.cells #[.int .i64 0, .int .i64 0] 34)
        have szA := hb0.size
        obtain ⟨U1, hU⟩ : ∃ U, (V0.alloc (.cells #[.int .i64 0, .int .i64 0] 34)) = U := ⟨_, rfl⟩
        rw [hU] at hb1 bA ⊢
        rw [hU] at hHeld
        clear hU
        refine anyS_one (i := 13) (o := ⟨some 6, _, _, _, _, _⟩) (by kernel_rfl) rfl hInv (fun K hK => ?_)
        go_simp
        have hb2 := belowA hb1 (.cells #[.int .i64 0, .int .i64 0] 34)
        refine hK.out _ _ (fun _ => keepS hb2 SS) (fun hInv hHeld => ?_)
        clear hK K
        try simp only [Act.put, List.setIfInBounds_toArray, List.set_cons_zero, List.set_cons_succ]
        have hlt2 := (Array.getElem?_eq_some_iff.1 bA).1
        have bA := alloc_old (o' := (.cells #[.int .i64 0, .int .i64 0] 34)) bA
        have bB := block_new U1 (.cells #[.int .i64 0, .int .i64 0] 34)
        have szB := hb1.size
        obtain ⟨U2, hU⟩ : ∃ U, (U1.alloc (.cells #[.int .i64 0, .int .i64 0] 34)) = U := ⟨_, rfl⟩
        rw [hU] at hb2 bB bA ⊢
        rw [hU] at hHeld
        clear hU
        have hne : V0.heap.size ≠ U1.heap.size := by omega
        obtain ⟨⟨x0, x1⟩, y0, y1⟩ := two_facts bA
        obtain ⟨⟨z0, z1⟩, u0, u1⟩ := two_facts bB
        have hne' := Ne.symm hne
        refine anyS_one (i := 14) (o := ⟨none, _, _, _, _, _⟩) (by kernel_rfl) rfl hInv (fun K hK => ?_)
        go_simp
        refine hK.out _ _ (fun _ => keepS ((hb2.setCell (p := ⟨V0.heap.size, 0, none⟩) szA _).setCell (p := ⟨V0.heap.size, 1, none⟩) szA _) SS) (fun hInv hHeld => ?_)
        clear hK K
        try simp only [Act.put, List.setIfInBounds_toArray, List.set_cons_zero, List.set_cons_succ]
        refine anyS_one (i := 15) (o := ⟨none, _, _, _, _, _⟩) (by kernel_rfl) rfl hInv (fun K hK => ?_)
        go_simp
        refine hK.out _ _ (fun e => absurd (show true = false from e) (by decide)) (fun hInv hHeld => ?_)
        clear hK K
        try simp only [Act.put, List.setIfInBounds_toArray, List.set_cons_zero, List.set_cons_succ]
        have ST := two_blocksT 34 p q hb2 szA szB hne bA bB
        clear hInv hHeld x0 x1 y0 y1 z0 z1 u0 u1 bA bB SS keepS
        refine anyS_done (by kernel_rfl) ?_ _
        generalize (((U2.setCell ⟨V0.heap.size, 0, none⟩ (.int .i64 p.1)).setCell ⟨V0.heap.size, 1, none⟩ (.int .i64 p.2)).setCell ⟨U1.heap.size, 0, none⟩ (.int .i64 q.1)).setCell ⟨U1.heap.size, 1, none⟩ (.int .i64 q.2) = V at ST ⊢
        obtain ⟨La, hLa⟩ : ∃ L, V0.heap.size = L := ⟨_, rfl⟩
        rw [hLa] at ST hne hne' szA ⊢
        clear hLa
        obtain ⟨Lb, hLb⟩ : ∃ L, U1.heap.size = L := ⟨_, rfl⟩
        rw [hLb] at ST hne hne' szB ⊢
        clear hLb
        obtain ⟨⟨l0, l1⟩, _⟩ := two_facts ST.1.1
        obtain ⟨⟨h0, h1⟩, _⟩ := two_facts ST.1.2
        have HBV := Off.mk (HB.out.trans (ST.2.mono HB.out.size))
        clear ST
        gi_wp2
        go_roundw
        case rel => exact ⟨_, k + 1, by omega, rfl, by go_num, HBD.out, ⟨HF.out.symm⟩, HBV⟩
        case measure => simp only [intOf]; omega
      · go_simp
        have hb1 := belowA hb0 (.cells #[.int .i64 0, .int .i64 0] 34)
        refine hK.out _ _ (fun _ => keepS hb1 SS) (fun hInv hHeld => ?_)
        clear hK K
        try simp only [Act.put, List.setIfInBounds_toArray, List.set_cons_zero, List.set_cons_succ]
        have bB := block_new V0 (.cells #[.int .i64 0, .int .i64 0] 34)
        have szB := hb0.size
        obtain ⟨U1, hU⟩ : ∃ U, (V0.alloc (.cells #[.int .i64 0, .int .i64 0] 34)) = U := ⟨_, rfl⟩
        rw [hU] at hb1 bB ⊢
        rw [hU] at hHeld
        clear hU
        refine anyS_one (i := 12) (o := ⟨some 5, _, _, _, _, _⟩) (by kernel_rfl) rfl hInv (fun K hK => ?_)
        go_simp
        have hb2 := belowA hb1 (.cells #[.int .i64 0, .int .i64 0] 34)
        refine hK.out _ _ (fun _ => keepS hb2 SS) (fun hInv hHeld => ?_)
        clear hK K
        try simp only [Act.put, List.setIfInBounds_toArray, List.set_cons_zero, List.set_cons_succ]
        have hlt2 := (Array.getElem?_eq_some_iff.1 bB).1
        have bB := alloc_old (o' := (.cells #[.int .i64 0, .int .i64 0] 34)) bB
        have bA := block_new U1 (.cells #[.int .i64 0, .int .i64 0] 34)
        have szA := hb1.size
        obtain ⟨U2, hU⟩ : ∃ U, (U1.alloc (.cells #[.int .i64 0, .int .i64 0] 34)) = U := ⟨_, rfl⟩
        rw [hU] at hb2 bA bB ⊢
        rw [hU] at hHeld
        clear hU
        have hne : U1.heap.size ≠ V0.heap.size := by omega
        obtain ⟨⟨x0, x1⟩, y0, y1⟩ := two_facts bA
        obtain ⟨⟨z0, z1⟩, u0, u1⟩ := two_facts bB
        have hne' := Ne.symm hne
        refine anyS_one (i := 14) (o := ⟨none, _, _, _, _, _⟩) (by kernel_rfl) rfl hInv (fun K hK => ?_)
        go_simp
        refine hK.out _ _ (fun _ => keepS ((hb2.setCell (p := ⟨U1.heap.size, 0, none⟩) szA _).setCell (p := ⟨U1.heap.size, 1, none⟩) szA _) SS) (fun hInv hHeld => ?_)
        clear hK K
        try simp only [Act.put, List.setIfInBounds_toArray, List.set_cons_zero, List.set_cons_succ]
        refine anyS_one (i := 15) (o := ⟨none, _, _, _, _, _⟩) (by kernel_rfl) rfl hInv (fun K hK => ?_)
        go_simp
        refine hK.out _ _ (fun e => absurd (show true = false from e) (by decide)) (fun hInv hHeld => ?_)
        clear hK K
        try simp only [Act.put, List.setIfInBounds_toArray, List.set_cons_zero, List.set_cons_succ]
        have ST := two_blocksT 34 p q hb2 szA szB hne bA bB
        clear hInv hHeld x0 x1 y0 y1 z0 z1 u0 u1 bA bB SS keepS
        refine anyS_done (by kernel_rfl) ?_ _
        generalize (((U2.setCell ⟨U1.heap.size, 0, none⟩ (.int .i64 p.1)).setCell ⟨U1.heap.size, 1, none⟩ (.int .i64 p.2)).setCell ⟨V0.heap.size, 0, none⟩ (.int .i64 q.1)).setCell ⟨V0.heap.size, 1, none⟩ (.int .i64 q.2) = V at ST ⊢
        obtain ⟨La, hLa⟩ : ∃ L, U1.heap.size = L := ⟨_, rfl⟩
        rw [hLa] at ST hne hne' szA ⊢
        clear hLa
        obtain ⟨Lb, hLb⟩ : ∃ L, V0.heap.size = L := ⟨_, rfl⟩
        rw [hLb] at ST hne hne' szB ⊢
        clear hLb
        obtain ⟨⟨l0, l1⟩, _⟩ := two_facts ST.1.1
        obtain ⟨⟨h0, h1⟩, _⟩ := two_facts ST.1.2
        have HBV := Off.mk (HB.out.trans (ST.2.mono HB.out.size))
        clear ST
        gi_wp2
        go_roundw
        case rel => exact ⟨_, k + 1, by omega, rfl, by go_num, HBD.out, ⟨HF.out.symm⟩, HBV⟩
        case measure => simp only [intOf]; omega
    · obtain rfl : k = xs.length := by omega
      have HR := HS.out
      gi_wp2
      refine bodyPost_ret (v := .int .i64 s) (by simp [results, Try.results48, go_sem]) rfl ⟨ret_int HR, HB.out⟩
set_option maxRecDepth 100000 in
set_option maxHeartbeats 4000000 in
theorem borderR_any (xs : PtL) (A : Option Addr) (c : Nat) (w : World) (h60 : xs.length ≤ 60) (hP : ∀ i, inB 50 (xs.getD i (0, 0))) (hx : PairsI w A xs) :
    Calls Try.prog 49 #[.slice A xs.length c] w fun e w' => e = .returned (.int .i64 (sumTo gcdS xs xs.length)) ∧ Below w.heap.size w w' := by
  have HX := Off.mk hx
  have HP := Off.mk hP
  clear hx hP
  refine (callsIn_wide (n := 9)).1 ?_
  refine callsIn_of_wp Try.func49 rfl trivial ?_ rfl
  simp only [Try.ntmps49, List.size_toArray, List.length_cons, List.length_nil, Nat.reduceAdd, Nat.reduceSub, Array.replicate_succ, Array.replicate_zero, List.push_toArray, List.append_toArray, List.nil_append, List.cons_append]
  gi_wp2
  gi_loopw [3, 4] (fun sv kv wr => ∃ (s : Int) (k : Nat), k ≤ xs.length ∧ sv = .int .i64 s ∧ kv = .int .i64 k ∧ (-(60 * 5000) ≤ s ∧ s ≤ 60 * 5000) ∧ Off (s = sumTo gcdS xs k) ∧ Off (Below w.heap.size w wr)) (fun _ kv _ => xs.length - (intOf kv).toNat)
  case atStart => exact ⟨0, 0, by omega, rfl, rfl, by omega, ⟨rfl⟩, ⟨Below.refl _ _⟩⟩
  case round =>
    obtain ⟨s, k, hk, rfl, rfl, hs, HS, HB⟩ := hrel
    by_cases hlt : k < xs.length
    · have hkI : (k : Int) < (xs.length : Int) := by omega
      obtain ⟨m, hm⟩ : ∃ m, m = (k + 1) % xs.length := ⟨_, rfl⟩
      have hml : m < xs.length := by rw [hm]; exact Nat.mod_lt _ (by omega)
      have e5 : ((k : Int) + 1).tmod (xs.length : Int) = (m : Int) := by
        rw [Int.tmod_eq_emod_of_nonneg (by omega), hm, show (k : Int) + 1 = ((k + 1 : Nat) : Int) by omega]
        exact (Int.natCast_emod _ _).symm
      have e7 : ((k : Int) + 1) % (xs.length : Int) = (m : Int) := by rw [← Int.tmod_eq_emod_of_nonneg (by omega)]; exact e5
      have w5 : IntKind.i64.wrap ((k : Int) + 1) = (k : Int) + 1 := by rw [IntKind.wrap_i64]; omega
      have hn0 : ¬ xs.length = 0 := by omega
      have hmI : (m : Int) < (xs.length : Int) := by omega
      have hxr := HX.out.below HB.out
      obtain ⟨ad, rfl, x0, x1⟩ := hxr.cell k hlt
      obtain ⟨ad', e, z0, z1⟩ := hxr.cell m hml
      cases e
      obtain ⟨p, hp⟩ : ∃ p, p = xs.getD k (0, 0) := ⟨_, rfl⟩
      obtain ⟨q, hq⟩ : ∃ q, q = xs.getD m (0, 0) := ⟨_, rfl⟩
      have hp50 : inB 50 p := by rw [hp]; exact HP.out _
      have hq50 : inB 50 q := by rw [hq]; exact HP.out _
      have HSd : Off (sideAt xs k = (p, q)) := ⟨by unfold sideAt; rw [← hm, ← hp, ← hq]⟩
      rw [← hp] at x0 x1
      rw [← hq] at z0 z1
      clear hp hq hm hxr
      have hgc : -((5000 : Nat) : Int) ≤ (Int.gcd (p.1 - q.1) (p.2 - q.2) : Int) ∧ (Int.gcd (p.1 - q.1) (p.2 - q.2) : Int) ≤ ((5000 : Nat) : Int) := points_50 (s := (q, p)) hq50 hp50
      have hf : sumTo gcdS xs (k + 1) = s + (Int.gcd (p.1 - q.1) (p.2 - q.2) : Nat) := by rw [sumTo, HSd.out, HS.out]; rfl
      have C1 : Off (∀ W, Calls Try.prog 87 #[.int .i64 (p.1 - q.1), .int .i64 (p.2 - q.2)] W fun e w' => e = .returned (.int .i64 (Int.gcd (p.1 - q.1) (p.2 - q.2) : Nat)) ∧ Below W.heap.size W w') := ⟨fun W => gcdR_any _ _ (by unfold inB at hp50 hq50; omega) (by unfold inB at hp50 hq50; omega) W⟩
      obtain ⟨g, hg⟩ : ∃ g, g = Int.gcd (p.1 - q.1) (p.2 - q.2) := ⟨_, rfl⟩
      rw [← hg] at C1 hf hgc
      have hbd := sumTo_in gcdS (xs := xs) 5000 (fun i => points_50 (s := ((sideAt xs i).2, (sideAt xs i).1)) (HP.out _) (HP.out _)) (k + 1)
      have hbd2 : -(60 * 5000) ≤ s + (g : Int) ∧ s + (g : Int) ≤ 60 * 5000 := by rw [← hf]; omega
      have HF := Off.mk hf
      have W1 : IntKind.i64.wrap (p.1 - q.1) = p.1 - q.1 := by unfold inB at hp50 hq50; rw [IntKind.wrap_i64]; omega
      have W2 : IntKind.i64.wrap (p.2 - q.2) = p.2 - q.2 := by unfold inB at hp50 hq50; rw [IntKind.wrap_i64]; omega
      have W4 : IntKind.i64.wrap (s + (g : Int)) = s + (g : Int) := by rw [IntKind.wrap_i64]; omega
      have HBD := Off.mk hbd2
      clear hf hbd hbd2 hp50 hq50 hg hgc
      gi_wp2
      have SS : (fun w' => (w'.cell? (ad.add (k * 2)) = some (.int .i64 p.1) ∧ w'.cell? ⟨(ad.add (k * 2)).block, (ad.add (k * 2)).off + 1, none⟩ = some (.int .i64 p.2)) ∧ (w'.cell? (ad.add (m * 2)) = some (.int .i64 q.1) ∧ w'.cell? ⟨(ad.add (m * 2)).block, (ad.add (m * 2)).off + 1, none⟩ = some (.int .i64 q.2))) wr := ⟨⟨x0, x1⟩, z0, z1⟩
      have keepS : ∀ {v : World}, Below wr.heap.size wr v → (fun w' => (w'.cell? (ad.add (k * 2)) = some (.int .i64 p.1) ∧ w'.cell? ⟨(ad.add (k * 2)).block, (ad.add (k * 2)).off + 1, none⟩ = some (.int .i64 p.2)) ∧ (w'.cell? (ad.add (m * 2)) = some (.int .i64 q.1) ∧ w'.cell? ⟨(ad.add (m * 2)).block, (ad.add (m * 2)).off + 1, none⟩ = some (.int .i64 q.2))) wr → (fun w' => (w'.cell? (ad.add (k * 2)) = some (.int .i64 p.1) ∧ w'.cell? ⟨(ad.add (k * 2)).block, (ad.add (k * 2)).off + 1, none⟩ = some (.int .i64 p.2)) ∧ (w'.cell? (ad.add (m * 2)) = some (.int .i64 q.1) ∧ w'.cell? ⟨(ad.add (m * 2)).block, (ad.add (m * 2)).off + 1, none⟩ = some (.int .i64 q.2))) v := fun hb ⟨⟨x0, x1⟩, z0, z1⟩ => ⟨⟨cellB hb x0, cellB hb x1⟩, cellB hb z0, cellB hb z1⟩
      refine region_anyS' (S := (fun w' => (w'.cell? (ad.add (k * 2)) = some (.int .i64 p.1) ∧ w'.cell? ⟨(ad.add (k * 2)).block, (ad.add (k * 2)).off + 1, none⟩ = some (.int .i64 p.2)) ∧ (w'.cell? (ad.add (m * 2)) = some (.int .i64 q.1) ∧ w'.cell? ⟨(ad.add (m * 2)).block, (ad.add (m * 2)).off + 1, none⟩ = some (.int .i64 q.2)))) 15 (by kernel_rfl) SS (fun hInv hHeld => ?_)
      refine anyS_take (i := 0) (oi := ⟨some 13, _, _, _, _, _⟩) (v := ?_) (by kernel_rfl) rfl (by kernel_rfl) (by kernel_rfl) (by kernel_rfl) (by kernel_rfl) (fun _ _ _ h => h) (Or.inl ⟨by rfl, by intro w hSw; (try dsimp only at hSw); go_simp; try with_reducible rfl⟩) (fun _ => by first | rfl | simp [Oper.about, resolve, go_sem]) hInv hHeld (fun hInv hHeld => ?_)
      try simp only [Act.put, List.setIfInBounds_toArray, List.set_cons_zero, List.set_cons_succ]
      refine anyS_take (i := 1) (oi := ⟨some 14, _, _, _, _, _⟩) (v := ?_) (by kernel_rfl) rfl (by kernel_rfl) (by kernel_rfl) (by kernel_rfl) (by kernel_rfl) (fun _ _ _ h => h) (Or.inl ⟨by rfl, by intro w hSw; (try dsimp only at hSw); go_simp; try with_reducible rfl⟩) (fun _ => by first | rfl | simp [Oper.about, resolve, go_sem]) hInv hHeld (fun hInv hHeld => ?_)
      try simp only [Act.put, List.setIfInBounds_toArray, List.set_cons_zero, List.set_cons_succ]
      refine anyS_take (i := 2) (oi := ⟨some 15, _, _, _, _, _⟩) (v := ?_) (by kernel_rfl) rfl (by kernel_rfl) (by kernel_rfl) (by kernel_rfl) (by kernel_rfl) (fun _ _ _ h => h) (Or.inl ⟨by rfl, by intro w hSw; (try dsimp only at hSw); go_simp; try with_reducible rfl⟩) (fun _ => by first | rfl | simp [Oper.about, resolve, go_sem]) hInv hHeld (fun hInv hHeld => ?_)
      try simp only [Act.put, List.setIfInBounds_toArray, List.set_cons_zero, List.set_cons_succ]
      refine anyS_take (i := 3) (oi := ⟨some 16, _, _, _, _, _⟩) (v := ?_) (by kernel_rfl) rfl (by kernel_rfl) (by kernel_rfl) (by kernel_rfl) (by kernel_rfl) (fun _ _ _ h => h) (Or.inl ⟨by rfl, by intro w hSw; (try dsimp only at hSw); go_simp; try with_reducible rfl⟩) (fun _ => by first | rfl | simp [Oper.about, resolve, go_sem]) hInv hHeld (fun hInv hHeld => ?_)
      try simp only [Act.put, List.setIfInBounds_toArray, List.set_cons_zero, List.set_cons_succ]
      refine anyS_take (i := 4) (oi := ⟨some 17, _, _, _, _, _⟩) (v := ?_) (by kernel_rfl) rfl (by kernel_rfl) (by kernel_rfl) (by kernel_rfl) (by kernel_rfl) (fun _ _ _ h => h) (Or.inl ⟨by rfl, by intro w hSw; (try dsimp only at hSw); go_simp; try with_reducible rfl⟩) (fun _ => by first | rfl | simp [Oper.about, resolve, go_sem]) hInv hHeld (fun hInv hHeld => ?_)
      try simp only [Act.put, List.setIfInBounds_toArray, List.set_cons_zero, List.set_cons_succ]
      refine anyS_take (i := 5) (oi := ⟨some 18, _, _, _, _, _⟩) (v := ?_) (by kernel_rfl) rfl (by kernel_rfl) (by kernel_rfl) (by kernel_rfl) (by kernel_rfl) (fun _ _ _ h => h) (Or.inl ⟨by rfl, by intro w hSw; (try dsimp only at hSw); go_simp; try with_reducible rfl⟩) (fun _ => by first | rfl | simp [Oper.about, resolve, go_sem]) hInv hHeld (fun hInv hHeld => ?_)
      try simp only [Act.put, List.setIfInBounds_toArray, List.set_cons_zero, List.set_cons_succ]
      refine anyS_take (i := 6) (oi := ⟨some 19, _, _, _, _, _⟩) (v := ?_) (by kernel_rfl) rfl (by kernel_rfl) (by kernel_rfl) (by kernel_rfl) (by kernel_rfl) (fun _ _ _ h => h) (Or.inl ⟨by rfl, by intro w hSw; (try dsimp only at hSw); go_simp; try with_reducible rfl⟩) (fun _ => by first | rfl | simp [Oper.about, resolve, go_sem]) hInv hHeld (fun hInv hHeld => ?_)
      try simp only [Act.put, List.setIfInBounds_toArray, List.set_cons_zero, List.set_cons_succ]
      refine anyS_take (i := 7) (oi := ⟨some 20, _, _, _, _, _⟩) (v := ?_) (by kernel_rfl) rfl (by kernel_rfl) (by kernel_rfl) (by kernel_rfl) (by kernel_rfl) (fun _ _ _ h => h) (Or.inl ⟨by rfl, by intro w hSw; (try dsimp only at hSw); go_simp; try with_reducible rfl⟩) (fun _ => by first | rfl | simp [Oper.about, resolve, go_sem]) hInv hHeld (fun hInv hHeld => ?_)
      try simp only [Act.put, List.setIfInBounds_toArray, List.set_cons_zero, List.set_cons_succ]
      refine anyS_take (i := 8) (oi := ⟨some 21, _, _, _, _, _⟩) (v := ?_) (by kernel_rfl) rfl (by kernel_rfl) (by kernel_rfl) (by kernel_rfl) (by kernel_rfl) (fun _ _ _ h => h) (Or.inl ⟨by rfl, by intro w hSw; (try dsimp only at hSw); go_simp; try with_reducible rfl⟩) (fun _ => by first | rfl | simp [Oper.about, resolve, go_sem]) hInv hHeld (fun hInv hHeld => ?_)
      try simp only [Act.put, List.setIfInBounds_toArray, List.set_cons_zero, List.set_cons_succ]
      refine anyS_take (i := 9) (oi := ⟨some 22, _, _, _, _, _⟩) (v := ?_) (by kernel_rfl) rfl (by kernel_rfl) (by kernel_rfl) (by kernel_rfl) (by kernel_rfl) (fun _ _ _ h => h) (Or.inl ⟨by rfl, by intro w hSw; (try dsimp only at hSw); go_simp; try with_reducible rfl⟩) (fun _ => by first | rfl | simp [Oper.about, resolve, go_sem]) hInv hHeld (fun hInv hHeld => ?_)
      try simp only [Act.put, List.setIfInBounds_toArray, List.set_cons_zero, List.set_cons_succ]
      refine anyS_take (i := 10) (oi := ⟨some 23, _, _, _, _, _⟩) (v := ?_) (by kernel_rfl) rfl (by kernel_rfl) (by kernel_rfl) (by kernel_rfl) (by kernel_rfl) (fun _ _ _ h => h) (Or.inl ⟨by rfl, by intro w hSw; (try dsimp only at hSw); go_simp; try with_reducible rfl⟩) (fun _ => by first | rfl | simp [Oper.about, resolve, go_sem]) hInv hHeld (fun hInv hHeld => ?_)
      try simp only [Act.put, List.setIfInBounds_toArray, List.set_cons_zero, List.set_cons_succ]
      refine anyS_take (i := 11) (oi := ⟨some 24, _, _, _, _, _⟩) (v := ?_) (by kernel_rfl) rfl (by kernel_rfl) (by kernel_rfl) (by kernel_rfl) (by kernel_rfl) (fun _ _ _ h => h) (Or.inl ⟨by rfl, by intro w hSw; (try dsimp only at hSw); go_simp; try with_reducible rfl⟩) (fun _ => by first | rfl | simp [Oper.about, resolve, go_sem]) hInv hHeld (fun hInv hHeld => ?_)
      try simp only [Act.put, List.setIfInBounds_toArray, List.set_cons_zero, List.set_cons_succ]
      obtain ⟨V0, hV0⟩ : ∃ V, wr.drew = V := ⟨_, rfl⟩
      have hb0 : Below wr.heap.size wr V0 := by rw [← hV0]; exact (Below.refl _ wr).drew
      rw [hV0] at hHeld ⊢
      clear hV0
      refine anyS_two (i := 12) (o := ⟨some 5, _, _, _, _, _⟩) (j := 13) (p := ⟨some 6, _, _, _, _, _⟩) (by kernel_rfl) rfl rfl hInv (fun K hK => ?_) (fun K hK => ?_)
      · go_simp
        have hb1 := belowA hb0 (.cells #[.int .i64 0, .int .i64 0] 34)
        refine hK.out _ _ (fun _ => keepS hb1 SS) (fun hInv hHeld => ?_)
        clear hK K
        try simp only [Act.put, List.setIfInBounds_toArray, List.set_cons_zero, List.set_cons_succ]
        have bA := block_new V0 (.cells #[.int .i64 0, .int .i64 0] 34)
        have szA := hb0.size
        obtain ⟨U1, hU⟩ : ∃ U, (V0.alloc (.cells #[.int .i64 0, .int .i64 0] 34)) = U := ⟨_, rfl⟩
        rw [hU] at hb1 bA ⊢
        rw [hU] at hHeld
        clear hU
        refine anyS_one (i := 13) (o := ⟨some 6, _, _, _, _, _⟩) (by kernel_rfl) rfl hInv (fun K hK => ?_)
        go_simp
        have hb2 := belowA hb1 (.cells #[.int .i64 0, .int .i64 0] 34)
        refine hK.out _ _ (fun _ => keepS hb2 SS) (fun hInv hHeld => ?_)
        clear hK K
        try simp only [Act.put, List.setIfInBounds_toArray, List.set_cons_zero, List.set_cons_succ]
        have hlt2 := (Array.getElem?_eq_some_iff.1 bA).1
        have bA := alloc_old (o' := (.cells #[.int .i64 0, .int .i64 0] 34)) bA
        have bB := block_new U1 (.cells #[.int .i64 0, .int .i64 0] 34)
        have szB := hb1.size
        obtain ⟨U2, hU⟩ : ∃ U, (U1.alloc (.cells #[.int .i64 0, .int .i64 0] 34)) = U := ⟨_, rfl⟩
        rw [hU] at hb2 bB bA ⊢
        rw [hU] at hHeld
        clear hU
        have hne : V0.heap.size ≠ U1.heap.size := by omega
        obtain ⟨⟨x0, x1⟩, y0, y1⟩ := two_facts bA
        obtain ⟨⟨z0, z1⟩, u0, u1⟩ := two_facts bB
        have hne' := Ne.symm hne
        refine anyS_one (i := 14) (o := ⟨none, _, _, _, _, _⟩) (by kernel_rfl) rfl hInv (fun K hK => ?_)
        go_simp
        refine hK.out _ _ (fun _ => keepS ((hb2.setCell (p := ⟨V0.heap.size, 0, none⟩) szA _).setCell (p := ⟨V0.heap.size, 1, none⟩) szA _) SS) (fun hInv hHeld => ?_)
        clear hK K
        try simp only [Act.put, List.setIfInBounds_toArray, List.set_cons_zero, List.set_cons_succ]
        refine anyS_one (i := 15) (o := ⟨none, _, _, _, _, _⟩) (by kernel_rfl) rfl hInv (fun K hK => ?_)
        go_simp
        refine hK.out _ _ (fun e => absurd (show true = false from e) (by decide)) (fun hInv hHeld => ?_)
        clear hK K
        try simp only [Act.put, List.setIfInBounds_toArray, List.set_cons_zero, List.set_cons_succ]
        have ST := two_blocksT 34 p q hb2 szA szB hne bA bB
        clear hInv hHeld x0 x1 y0 y1 z0 z1 u0 u1 bA bB SS keepS
        refine anyS_done (by kernel_rfl) ?_ _
        generalize (((U2.setCell ⟨V0.heap.size, 0, none⟩ (.int .i64 p.1)).setCell ⟨V0.heap.size, 1, none⟩ (.int .i64 p.2)).setCell ⟨U1.heap.size, 0, none⟩ (.int .i64 q.1)).setCell ⟨U1.heap.size, 1, none⟩ (.int .i64 q.2) = V at ST ⊢
        obtain ⟨La, hLa⟩ : ∃ L, V0.heap.size = L := ⟨_, rfl⟩
        rw [hLa] at ST hne hne' szA ⊢
        clear hLa
        obtain ⟨Lb, hLb⟩ : ∃ L, U1.heap.size = L := ⟨_, rfl⟩
        rw [hLb] at ST hne hne' szB ⊢
        clear hLb
        obtain ⟨⟨l0, l1⟩, _⟩ := two_facts ST.1.1
        obtain ⟨⟨h0, h1⟩, _⟩ := two_facts ST.1.2
        have HBV := Off.mk (HB.out.trans (ST.2.mono HB.out.size))
        clear ST
        have hVs : w.heap.size ≤ V.heap.size := HBV.out.size
        gi_wp2_with fail
        refine ⟨trivial, ?_⟩
        refine (callsIn_wide.2 (C1.out _)).mono ?_
        rintro e V2 ⟨rfl, hv2⟩
        have HBV2 := Off.mk (belowC HBV.out hv2)
        clear hv2
        gi_wp2
        go_roundw
        case rel => exact ⟨_, k + 1, by omega, rfl, by go_num, HBD.out, ⟨HF.out.symm⟩, HBV2⟩
        case measure => simp only [intOf]; omega
      · go_simp
        have hb1 := belowA hb0 (.cells #[.int .i64 0, .int .i64 0] 34)
        refine hK.out _ _ (fun _ => keepS hb1 SS) (fun hInv hHeld => ?_)
        clear hK K
        try simp only [Act.put, List.setIfInBounds_toArray, List.set_cons_zero, List.set_cons_succ]
        have bB := block_new V0 (.cells #[.int .i64 0, .int .i64 0] 34)
        have szB := hb0.size
        obtain ⟨U1, hU⟩ : ∃ U, (V0.alloc (.cells #[.int .i64 0, .int .i64 0] 34)) = U := ⟨_, rfl⟩
        rw [hU] at hb1 bB ⊢
        rw [hU] at hHeld
        clear hU
        refine anyS_one (i := 12) (o := ⟨some 5, _, _, _, _, _⟩) (by kernel_rfl) rfl hInv (fun K hK => ?_)
        go_simp
        have hb2 := belowA hb1 (.cells #[.int .i64 0, .int .i64 0] 34)
        refine hK.out _ _ (fun _ => keepS hb2 SS) (fun hInv hHeld => ?_)
        clear hK K
        try simp only [Act.put, List.setIfInBounds_toArray, List.set_cons_zero, List.set_cons_succ]
        have hlt2 := (Array.getElem?_eq_some_iff.1 bB).1
        have bB := alloc_old (o' := (.cells #[.int .i64 0, .int .i64 0] 34)) bB
        have bA := block_new U1 (.cells #[.int .i64 0, .int .i64 0] 34)
        have szA := hb1.size
        obtain ⟨U2, hU⟩ : ∃ U, (U1.alloc (.cells #[.int .i64 0, .int .i64 0] 34)) = U := ⟨_, rfl⟩
        rw [hU] at hb2 bA bB ⊢
        rw [hU] at hHeld
        clear hU
        have hne : U1.heap.size ≠ V0.heap.size := by omega
        obtain ⟨⟨x0, x1⟩, y0, y1⟩ := two_facts bA
        obtain ⟨⟨z0, z1⟩, u0, u1⟩ := two_facts bB
        have hne' := Ne.symm hne
        refine anyS_one (i := 14) (o := ⟨none, _, _, _, _, _⟩) (by kernel_rfl) rfl hInv (fun K hK => ?_)
        go_simp
        refine hK.out _ _ (fun _ => keepS ((hb2.setCell (p := ⟨U1.heap.size, 0, none⟩) szA _).setCell (p := ⟨U1.heap.size, 1, none⟩) szA _) SS) (fun hInv hHeld => ?_)
        clear hK K
        try simp only [Act.put, List.setIfInBounds_toArray, List.set_cons_zero, List.set_cons_succ]
        refine anyS_one (i := 15) (o := ⟨none, _, _, _, _, _⟩) (by kernel_rfl) rfl hInv (fun K hK => ?_)
        go_simp
        refine hK.out _ _ (fun e => absurd (show true = false from e) (by decide)) (fun hInv hHeld => ?_)
        clear hK K
        try simp only [Act.put, List.setIfInBounds_toArray, List.set_cons_zero, List.set_cons_succ]
        have ST := two_blocksT 34 p q hb2 szA szB hne bA bB
        clear hInv hHeld x0 x1 y0 y1 z0 z1 u0 u1 bA bB SS keepS
        refine anyS_done (by kernel_rfl) ?_ _
        generalize (((U2.setCell ⟨U1.heap.size, 0, none⟩ (.int .i64 p.1)).setCell ⟨U1.heap.size, 1, none⟩ (.int .i64 p.2)).setCell ⟨V0.heap.size, 0, none⟩ (.int .i64 q.1)).setCell ⟨V0.heap.size, 1, none⟩ (.int .i64 q.2) = V at ST ⊢
        obtain ⟨La, hLa⟩ : ∃ L, U1.heap.size = L := ⟨_, rfl⟩
        rw [hLa] at ST hne hne' szA ⊢
        clear hLa
        obtain ⟨Lb, hLb⟩ : ∃ L, V0.heap.size = L := ⟨_, rfl⟩
        rw [hLb] at ST hne hne' szB ⊢
        clear hLb
        obtain ⟨⟨l0, l1⟩, _⟩ := two_facts ST.1.1
        obtain ⟨⟨h0, h1⟩, _⟩ := two_facts ST.1.2
        have HBV := Off.mk (HB.out.trans (ST.2.mono HB.out.size))
        clear ST
        have hVs : w.heap.size ≤ V.heap.size := HBV.out.size
        gi_wp2_with fail
        refine ⟨trivial, ?_⟩
        refine (callsIn_wide.2 (C1.out _)).mono ?_
        rintro e V2 ⟨rfl, hv2⟩
        have HBV2 := Off.mk (belowC HBV.out hv2)
        clear hv2
        gi_wp2
        go_roundw
        case rel => exact ⟨_, k + 1, by omega, rfl, by go_num, HBD.out, ⟨HF.out.symm⟩, HBV2⟩
        case measure => simp only [intOf]; omega
    · obtain rfl : k = xs.length := by omega
      have HR := HS.out
      gi_wp2
      refine bodyPost_ret (v := .int .i64 s) (by simp [results, Try.results49, go_sem]) rfl ⟨ret_int HR, HB.out⟩
theorem gcdS_points (s : (Int × Int) × (Int × Int)) : gcdS s = (pointsS s : Int) := by
  unfold gcdS pointsS
  simp only [Int.gcd]
  rw [show (s.1.1 - s.2.1).natAbs = (s.2.1 - s.1.1).natAbs by omega, show (s.1.2 - s.2.2).natAbs = (s.2.2 - s.1.2).natAbs by omega]
theorem sumTo_congr {f g : (Int × Int) × (Int × Int) → Int} (h : ∀ s, f s = g s) (xs : PtL) : ∀ k, sumTo f xs k = sumTo g xs k
  | 0 => rfl
  | k + 1 => by rw [sumTo, sumTo, sumTo_congr h xs k, h]
theorem signedR_eq (xs : PtL) : sumTo crossS xs xs.length = twiceP xs := (sumF_sumTo _ xs).symm
theorem borderR_eq (xs : PtL) : sumTo gcdS xs xs.length = borderP xs := by
  unfold borderP
  rw [sumF_sumTo]
  exact sumTo_congr gcdS_points xs _
end Go.Proofs.Ytbpmiphipjkdlaa
