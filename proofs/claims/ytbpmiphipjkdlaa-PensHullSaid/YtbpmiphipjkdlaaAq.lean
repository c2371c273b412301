/- Contracts: area, grown, Area, Count, Grown. -/
import Derived.Test.YtbpmiphipjkdlaaAp
import Derived.Test.YtbpmiphipjkdlaaAj
namespace Go.Proofs.Ytbpmiphipjkdlaa
open Go.RowKit Go.Shelf

/-- Twice the area with its sign, and the number of points on the border. -/
def twiceP (xs : PtL) : Int := sumF (fun s => crossP s.1 s.2) xs (List.finRange xs.length)
def borderP (xs : PtL) : Int := sumF (fun s => (pointsS s : Int)) xs (List.finRange xs.length)
/-- The posts of a pen lie in block g. -/
structure PenAt (w : World) (g : Nat) (xs : PtL) : Prop where
  lt : g < w.heap.size
  few : xs.length ≤ 60
  near : ∀ i, inB 50 (xs.getD i (0, 0))
  cell : ∀ j, j < xs.length → w.cell? ⟨g, j * 2, none⟩ = some (.int .i64 (xs.getD j (0, 0)).1) ∧ w.cell? ⟨g, j * 2 + 1, none⟩ = some (.int .i64 (xs.getD j (0, 0)).2)
theorem PenAt.below {w w1 : World} {g : Nat} {xs : PtL} (h : PenAt w g xs) (hb : Below w.heap.size w w1) : PenAt w1 g xs :=
  ⟨Nat.lt_of_lt_of_le h.lt hb.size, h.few, h.near, fun j hj => ⟨cellB hb (h.cell j hj).1, cellB hb (h.cell j hj).2⟩⟩
theorem twiceP_in {xs : PtL} (h : ∀ i, inB 50 (xs.getD i (0, 0))) (h60 : xs.length ≤ 60) : -300000 ≤ twiceP xs ∧ twiceP xs ≤ 300000 := by
  have := sumF_in (fun s => crossP s.1 s.2) (xs := xs) 5000 (fun i => cross_50 (h _) (h _)) (List.finRange xs.length)
  rw [List.length_finRange] at this
  unfold twiceP
  omega
theorem borderP_in {xs : PtL} (h : ∀ i, inB 50 (xs.getD i (0, 0))) (h60 : xs.length ≤ 60) : -300000 ≤ borderP xs ∧ borderP xs ≤ 300000 := by
  have := sumF_in (fun s => (pointsS s : Int)) (xs := xs) 5000 (fun i => points_50 (h _) (h _)) (List.finRange xs.length)
  rw [List.length_finRange] at this
  unfold borderP
  omega
theorem area_any (xs : PtL) (g c : Nat) (w : World) (h : PenAt w g xs) :
    Calls Try.prog 52 #[.slice (some ⟨g, 0, none⟩) xs.length c] w fun e w' => e = .returned (.int .i64 ((twiceP xs).natAbs : Nat)) ∧ Below w.heap.size w w' := by
  have C1 : Off (∀ c, Calls Try.prog 89 #[.slice (some ⟨g, 0, none⟩) xs.length c] w fun e w' => e = .returned (.int .i64 (twiceP xs)) ∧ Below w.heap.size w w') := ⟨fun c => twice_any xs g c w h.few h.near h.lt h.cell⟩
  have hb := twiceP_in h.near h.few
  clear h
  obtain ⟨a, ha⟩ : ∃ a, a = twiceP xs := ⟨_, rfl⟩
  rw [← ha] at C1 hb ⊢
  clear ha
  have W1 : IntKind.i64.wrap (-a) = -a := by rw [IntKind.wrap_i64]; omega
  by_cases h0 : -a ≤ a
  · have hm : max a (-a) = a := by omega
    have hlt : ¬ a < -a := by omega
    have hn : (a.natAbs : Int) = a := by omega
    rw [hn]
    clear hn
    go_enter Try.func52, Try.ntmps52
    go_wp2_with fail
    refine (C1.out _).mono ?_
    rintro e w1 ⟨rfl, hb1⟩
    go_wp2
    go_ret
    exact ⟨rfl, hb1⟩
  · have hm : max a (-a) = -a := by omega
    have hlt : a < -a := by omega
    have hn : (a.natAbs : Int) = -a := by omega
    rw [hn]
    clear hn
    go_enter Try.func52, Try.ntmps52
    go_wp2_with fail
    refine (C1.out _).mono ?_
    rintro e w1 ⟨rfl, hb1⟩
    go_wp2
    go_ret
    exact ⟨rfl, hb1⟩
/-- What grown returns. -/
def allG (xs : PtL) (t : Int) : Int := ((twiceP xs).natAbs * t * t + borderP xs * t + 2).tdiv 2
def insG (xs : PtL) (t : Int) : Int := ((twiceP xs).natAbs * t * t - borderP xs * t + 2).tdiv 2
theorem tdiv_in {x b : Int} (h : -b ≤ x ∧ x ≤ b) : -b ≤ x.tdiv 2 ∧ x.tdiv 2 ≤ b := by
  have := Int.natAbs_tdiv_le_natAbs x 2
  omega
theorem grown_any (xs : PtL) (g c : Nat) (w : World) (t : Int) (ht : 0 ≤ t ∧ t ≤ 1000) (h : PenAt w g xs) :
    Calls Try.prog 47 #[.slice (some ⟨g, 0, none⟩) xs.length c, .int .i64 t] w fun e w' => e = .returned (.tuple #[.int .i64 (allG xs t), .int .i64 (insG xs t)]) ∧ Below w.heap.size w w' := by
  have C1 : Off (∀ W c, Below w.heap.size w W → Calls Try.prog 52 #[.slice (some ⟨g, 0, none⟩) xs.length c] W fun e w' => e = .returned (.int .i64 ((twiceP xs).natAbs : Nat)) ∧ Below W.heap.size W w') := ⟨fun W c hb => area_any xs g c W (h.below hb)⟩
  have C2 : Off (∀ W c, Below w.heap.size w W → Calls Try.prog 53 #[.slice (some ⟨g, 0, none⟩) xs.length c] W fun e w' => e = .returned (.int .i64 (borderP xs)) ∧ Below W.heap.size W w') := ⟨fun W c hb => border_any xs g c W h.few h.near (h.below hb).lt (h.below hb).cell⟩
  have hb1 := twiceP_in h.near h.few
  have hb2 := borderP_in h.near h.few
  unfold allG insG
  clear h
  obtain ⟨a, ha⟩ : ∃ a, a = twiceP xs := ⟨_, rfl⟩
  obtain ⟨b, hb⟩ : ∃ b, b = borderP xs := ⟨_, rfl⟩
  rw [← ha] at C1 hb1 ⊢
  rw [← hb] at C2 hb2 ⊢
  clear ha hb
  obtain ⟨p, hp⟩ : ∃ p : Int, p = (a.natAbs : Nat) := ⟨_, rfl⟩
  have hpb : -300000 ≤ p ∧ p ≤ 300000 := by omega
  rw [← hp] at C1 ⊢
  clear hp hb1
  have m1 := mul_in (a := 300000) (b := 1000) hpb (show -1000 ≤ t ∧ t ≤ 1000 by omega) (by omega) (by omega)
  have m2 := mul_in (a := 300000 * 1000) (b := 1000) m1 (show -1000 ≤ t ∧ t ≤ 1000 by omega) (by omega) (by omega)
  have m3 := mul_in (a := 300000) (b := 1000) hb2 (show -1000 ≤ t ∧ t ≤ 1000 by omega) (by omega) (by omega)
  have d1 := tdiv_in (x := p * t * t + b * t + 2) (b := 1000000000000) (by omega)
  have d2 := tdiv_in (x := p * t * t - b * t + 2) (b := 1000000000000) (by omega)
  have W1 : IntKind.i64.wrap (p * t) = p * t := by rw [IntKind.wrap_i64]; omega
  have W2 : IntKind.i64.wrap (p * t * t) = p * t * t := by rw [IntKind.wrap_i64]; omega
  have W3 : IntKind.i64.wrap (b * t) = b * t := by rw [IntKind.wrap_i64]; omega
  have W4 : IntKind.i64.wrap (p * t * t + b * t) = p * t * t + b * t := by rw [IntKind.wrap_i64]; omega
  have W5 : IntKind.i64.wrap (p * t * t + b * t + 2) = p * t * t + b * t + 2 := by rw [IntKind.wrap_i64]; omega
  have W6 : IntKind.i64.wrap (p * t * t - b * t) = p * t * t - b * t := by rw [IntKind.wrap_i64]; omega
  have W7 : IntKind.i64.wrap (p * t * t - b * t + 2) = p * t * t - b * t + 2 := by rw [IntKind.wrap_i64]; omega
  have W8 : IntKind.i64.wrap ((p * t * t + b * t + 2).tdiv 2) = (p * t * t + b * t + 2).tdiv 2 := by rw [IntKind.wrap_i64]; omega
  have W9 : IntKind.i64.wrap ((p * t * t - b * t + 2).tdiv 2) = (p * t * t - b * t + 2).tdiv 2 := by rw [IntKind.wrap_i64]; omega
  clear m1 m2 m3 d1 d2 hpb hb2 ht
  go_enter Try.func47, Try.ntmps47
  go_wp2_with fail
  refine (C1.out _ _ (Below.refl _ _)).mono ?_
  rintro e w1 ⟨rfl, hw1⟩
  go_wp2_with fail
  refine (C2.out _ _ hw1).mono ?_
  rintro e w2 ⟨rfl, hw2⟩
  go_wp2
  refine bodyPost_ret (v := .tuple #[.int .i64 ((p * t * t + b * t + 2).tdiv 2), .int .i64 ((p * t * t - b * t + 2).tdiv 2)]) (by simp [results, Try.results47, go_sem]) rfl ⟨rfl, belowC hw1 hw2⟩
theorem near_all {xs : PtL} (h : readP xs = true) : (∀ i, inB 50 (xs.getD i (0, 0))) ∧ 3 ≤ xs.length ∧ xs.length ≤ 10 := by
  unfold readP at h
  simp only [Bool.and_eq_true, decide_eq_true_eq, Bool.not_eq_eq_eq_not, Bool.not_true] at h
  obtain ⟨⟨⟨h1, h2⟩, h3⟩, _⟩ := h
  refine ⟨fun i => ?_, h1, h2⟩
  by_cases h : i < xs.length
  · have := List.any_eq_false.1 h3 xs[i] (List.getElem_mem h)
    rw [List.getD_eq_getElem?_getD, List.getElem?_eq_getElem h]
    simp only [Option.getD_some]
    simp only [farP, farB, Bool.or_eq_true, decide_eq_true_eq, not_or] at this
    unfold inB
    omega
  · rw [List.getD_eq_getElem?_getD, List.getElem?_eq_none (by omega)]
    simp [inB]
theorem penAt_read {xs : PtL} {u : Value} {w : World} {base : Nat} (h : readP xs = true) (hO : OwnQ 70 w base u xs) : ∃ g c, u = .slice (some ⟨g, 0, none⟩) xs.length c ∧ base ≤ g ∧ PenAt w g xs := by
  obtain ⟨h1, h2, h3⟩ := near_all h
  obtain ⟨g, c, rfl, hb, hg, hL⟩ := ownQ_block hO (by omega)
  exact ⟨g, c, rfl, hb, hg, by omega, h1, hL⟩
/-- Area, Count, Grown. -/
theorem Area_any (xs : PtL) (A : Option Addr) (c : Nat) (w : World) (hx : PairsI w A xs) :
    Calls Try.prog 21 #[.slice A xs.length c] w fun e w' => e = .returned (if readP xs = true then .tuple #[.int .i64 ((twiceP xs).natAbs : Nat), .int .i64 0] else .tuple #[.int .i64 0, .int .i64 2]) ∧ Below w.heap.size w w' := by
  cases hv : readP xs with
  | false =>
    have CR := Off.mk (read_any xs A c w false hv hx)
    clear hx
    rw [if_neg (by simp)]
    go_enter Try.func21, Try.ntmps21
    go_wp2_with fail
    refine CR.out.mono ?_
    rintro e w1 ⟨⟨u, rfl, _, _⟩, hb1⟩
    go_wp2
    refine bodyPost_ret (v := .tuple #[.int .i64 0, .int .i64 2]) (by simp [results, Try.results21, go_sem]) rfl ⟨rfl, hb1⟩
  | true =>
    have CR := Off.mk (read_any xs A c w true hv hx)
    clear hx
    rw [if_pos rfl]
    have HV := Off.mk hv
    clear hv
    go_enter Try.func21, Try.ntmps21
    go_wp2_with fail
    refine CR.out.mono ?_
    rintro e w1 ⟨⟨u, rfl, h1, _⟩, hb1⟩
    obtain ⟨g, cg, rfl, _, hp⟩ := penAt_read HV.out (h1 trivial)
    have C1 : Off (∀ c, Calls Try.prog 52 #[.slice (some ⟨g, 0, none⟩) xs.length c] w1 fun e w' => e = .returned (.int .i64 ((twiceP xs).natAbs : Nat)) ∧ Below w1.heap.size w1 w') := ⟨fun c => area_any xs g c w1 hp⟩
    clear h1 hp
    go_wp2_with fail
    refine (C1.out _).mono ?_
    rintro e w2 ⟨rfl, hb2⟩
    go_wp2
    refine bodyPost_ret (v := .tuple #[.int .i64 ((twiceP xs).natAbs : Nat), .int .i64 0]) (by simp [results, Try.results21, go_sem]) rfl ⟨rfl, belowC hb1 hb2⟩
theorem Count_any (xs : PtL) (A : Option Addr) (c : Nat) (w : World) (hx : PairsI w A xs) :
    Calls Try.prog 22 #[.slice A xs.length c] w fun e w' => e = .returned (if readP xs = true then .tuple #[.int .i64 (borderP xs), .int .i64 (insG xs 1), .int .i64 0] else .tuple #[.int .i64 0, .int .i64 0, .int .i64 2]) ∧ Below w.heap.size w w' := by
  cases hv : readP xs with
  | false =>
    have CR := Off.mk (read_any xs A c w false hv hx)
    clear hx
    rw [if_neg (by simp)]
    go_enter Try.func22, Try.ntmps22
    go_wp2_with fail
    refine CR.out.mono ?_
    rintro e w1 ⟨⟨u, rfl, _, _⟩, hb1⟩
    go_wp2
    refine bodyPost_ret (v := .tuple #[.int .i64 0, .int .i64 0, .int .i64 2]) (by simp [results, Try.results22, go_sem]) rfl ⟨rfl, hb1⟩
  | true =>
    have CR := Off.mk (read_any xs A c w true hv hx)
    clear hx
    rw [if_pos rfl]
    have HV := Off.mk hv
    clear hv
    go_enter Try.func22, Try.ntmps22
    go_wp2_with fail
    refine CR.out.mono ?_
    rintro e w1 ⟨⟨u, rfl, h1, _⟩, hb1⟩
    obtain ⟨g, cg, rfl, _, hp⟩ := penAt_read HV.out (h1 trivial)
    have C1 : Off (∀ c, Calls Try.prog 47 #[.slice (some ⟨g, 0, none⟩) xs.length c, .int .i64 1] w1 fun e w' => e = .returned (.tuple #[.int .i64 (allG xs 1), .int .i64 (insG xs 1)]) ∧ Below w1.heap.size w1 w') := ⟨fun c => grown_any xs g c w1 1 (by omega) hp⟩
    have C2 : Off (∀ W c, Below w1.heap.size w1 W → Calls Try.prog 53 #[.slice (some ⟨g, 0, none⟩) xs.length c] W fun e w' => e = .returned (.int .i64 (borderP xs)) ∧ Below W.heap.size W w') := ⟨fun W c hb => border_any xs g c W hp.few hp.near (hp.below hb).lt (hp.below hb).cell⟩
    clear h1 hp
    go_wp2_with fail
    refine (C1.out _).mono ?_
    rintro e w2 ⟨rfl, hb2⟩
    go_wp2_with fail
    refine (C2.out _ _ hb2).mono ?_
    rintro e w3 ⟨rfl, hb3⟩
    go_wp2
    refine bodyPost_ret (v := .tuple #[.int .i64 (borderP xs), .int .i64 (insG xs 1), .int .i64 0]) (by simp [results, Try.results22, go_sem]) rfl ⟨rfl, belowC (belowC hb1 hb2) hb3⟩
theorem Grown_any (xs : PtL) (A : Option Addr) (c : Nat) (t : Int) (w : World) (hx : PairsI w A xs) :
    Calls Try.prog 18 #[.slice A xs.length c, .int .i64 t] w fun e w' => e = .returned (if readP xs = true ∧ 1 ≤ t ∧ t ≤ 1000 then .tuple #[.int .i64 (allG xs t), .int .i64 (insG xs t), .int .i64 0] else .tuple #[.int .i64 0, .int .i64 0, .int .i64 2]) ∧ Below w.heap.size w w' := by
  cases hv : readP xs with
  | false =>
    have CR := Off.mk (read_any xs A c w false hv hx)
    clear hx
    rw [if_neg (by simp)]
    go_enter Try.func18, Try.ntmps18
    go_wp2_with fail
    refine CR.out.mono ?_
    rintro e w1 ⟨⟨u, rfl, _, _⟩, hb1⟩
    go_wp2
    refine bodyPost_ret (v := .tuple #[.int .i64 0, .int .i64 0, .int .i64 2]) (by simp [results, Try.results18, go_sem]) rfl ⟨rfl, hb1⟩
  | true =>
    have CR := Off.mk (read_any xs A c w true hv hx)
    clear hx
    have HV := Off.mk hv
    clear hv
    by_cases ht1 : t < 1
    · rw [if_neg (by omega)]
      go_enter Try.func18, Try.ntmps18
      go_wp2_with fail
      refine CR.out.mono ?_
      rintro e w1 ⟨⟨u, rfl, _, _⟩, hb1⟩
      go_wp2
      refine bodyPost_ret (v := .tuple #[.int .i64 0, .int .i64 0, .int .i64 2]) (by simp [results, Try.results18, go_sem]) rfl ⟨rfl, hb1⟩
    by_cases ht2 : 1000 < t
    · rw [if_neg (by omega)]
      go_enter Try.func18, Try.ntmps18
      go_wp2_with fail
      refine CR.out.mono ?_
      rintro e w1 ⟨⟨u, rfl, _, _⟩, hb1⟩
      go_wp2
      refine bodyPost_ret (v := .tuple #[.int .i64 0, .int .i64 0, .int .i64 2]) (by simp [results, Try.results18, go_sem]) rfl ⟨rfl, hb1⟩
    rw [if_pos ⟨rfl, by omega, by omega⟩]
    go_enter Try.func18, Try.ntmps18
    go_wp2_with fail
    refine CR.out.mono ?_
    rintro e w1 ⟨⟨u, rfl, h1, _⟩, hb1⟩
    obtain ⟨g, cg, rfl, _, hp⟩ := penAt_read HV.out (h1 trivial)
    have C1 : Off (∀ c, Calls Try.prog 47 #[.slice (some ⟨g, 0, none⟩) xs.length c, .int .i64 t] w1 fun e w' => e = .returned (.tuple #[.int .i64 (allG xs t), .int .i64 (insG xs t)]) ∧ Below w1.heap.size w1 w') := ⟨fun c => grown_any xs g c w1 t (by omega) hp⟩
    clear h1 hp
    go_wp2_with fail
    refine (C1.out _).mono ?_
    rintro e w2 ⟨rfl, hb2⟩
    go_wp2
    refine bodyPost_ret (v := .tuple #[.int .i64 (allG xs t), .int .i64 (insG xs t), .int .i64 0]) (by simp [results, Try.results18, go_sem]) rfl ⟨rfl, belowC hb1 hb2⟩
end Go.Proofs.Ytbpmiphipjkdlaa
