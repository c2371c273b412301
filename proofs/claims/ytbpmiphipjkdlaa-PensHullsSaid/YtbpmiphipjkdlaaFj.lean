/- Contracts of the specification: Hull. -/
import Derived.Test.YtbpmiphipjkdlaaFi
namespace Go.Proofs.Ytbpmiphipjkdlaa
open Go.RowKit Go.Shelf

theorem addr_zero (ad : Addr) : ad.add (0 * 2) = ad := by
  rw [Nat.zero_mul]
  unfold Addr.add
  split <;> simp_all
/-- Post i and post k lie on a line with the first point. -/
def lineAt (xs : PtL) (i k : Nat) : Prop := crossR (xs.getD 0 (0, 0)) (xs.getD i (0, 0)) (xs.getD k (0, 0)) = 0
/-- So far next is the one that is looked for, or it has not been met. -/
def NextSo (xs : PtL) (a t y : Int × Int) (i : Nat) : Prop := (y = a ∨ y ∈ xs) ∧ ((∃ j, j < i ∧ xs.getD j (0, 0) = t) → y = t)
theorem next_keep {xs : PtL} {a t y : Int × Int} {i : Nat} (n : Hu.Nx xs a t) (h : NextSo xs a t y i) (hi : i < xs.length) (hu : updB a y (xs.getD i (0, 0)) = false) : NextSo xs a t y (i + 1) := by
  refine ⟨h.1, fun ⟨j, hj, e⟩ => ?_⟩
  by_cases ej : j = i
  · subst ej
    rcases upd_to n h.1 with g | g
    · rw [← e, hu] at g; cases g
    · exact g
  · exact h.2 ⟨j, by omega, e⟩
theorem next_upd {xs : PtL} {a t y : Int × Int} {i : Nat} (n : Hu.Nx xs a t) (h : NextSo xs a t y i) (hi : i < xs.length) (hu : updB a y (xs.getD i (0, 0)) = true) : NextSo xs a t (xs.getD i (0, 0)) (i + 1) := by
  have hm : xs.getD i (0, 0) ∈ xs := by rw [List.getD_eq_getElem?_getD, List.getElem?_eq_getElem hi]; exact List.getElem_mem hi
  refine ⟨.inr hm, fun ⟨j, hj, e⟩ => ?_⟩
  by_cases ej : j = i
  · rw [← ej]; exact e
  · have hy := h.2 ⟨j, by omega, e⟩
    apply Classical.byContradiction
    intro hne
    rw [hy, upd_keep n hm hne] at hu
    cases hu
theorem next_done {xs : PtL} {a t y : Int × Int} (n : Hu.Nx xs a t) (h : NextSo xs a t y xs.length) : y = t := by
  obtain ⟨j, hj, e⟩ := List.getElem_of_mem n.mb
  exact h.2 ⟨j, hj, by rw [List.getD_eq_getElem?_getD, List.getElem?_eq_getElem hj]; exact e⟩
/-- The least of the first i points. -/
def LeastSo (xs : PtL) (a : Int × Int) (i : Nat) : Prop := a ∈ xs ∧ ∀ j, j < i → xs.getD j (0, 0) = a ∨ Hu.Lt 1 a (xs.getD j (0, 0))
theorem lt_dec (a b : Int × Int) : (a.1 < b.1 ∨ (a.1 = b.1 ∧ a.2 < b.2)) ↔ Hu.Lt 1 a b := by
  unfold Hu.Lt Hu.Up Hu.sm Hu.sb
  simp only
  omega
theorem getD_mem {xs : PtL} {i : Nat} (h : i < xs.length) : xs.getD i (0, 0) ∈ xs := by rw [List.getD_eq_getElem?_getD, List.getElem?_eq_getElem h]; exact List.getElem_mem h
theorem least_step {xs : PtL} {a : Int × Int} {i : Nat} (h : LeastSo xs a i) (_ : i < xs.length) (hn : ¬ Hu.Lt 1 (xs.getD i (0, 0)) a) : LeastSo xs a (i + 1) := by
  refine ⟨h.1, fun j hj => ?_⟩
  by_cases e : j = i
  · rw [e]
    rcases Hu.lt_three (.inl rfl) (xs.getD i (0, 0)) a with g | g | g
    · exact absurd g hn
    · exact .inl g
    · exact .inr g
  · exact h.2 j (by omega)
theorem least_new {xs : PtL} {a : Int × Int} {i : Nat} (h : LeastSo xs a i) (hi : i < xs.length) (hn : Hu.Lt 1 (xs.getD i (0, 0)) a) : LeastSo xs (xs.getD i (0, 0)) (i + 1) := by
  refine ⟨getD_mem hi, fun j hj => ?_⟩
  by_cases e : j = i
  · rw [e]; exact .inl rfl
  · rcases h.2 j (by omega) with g | g
    · rw [g]; exact .inr hn
    · exact .inr (hn.trans g)
theorem least_done {xs H : PtL} {a : Int × Int} (c : Hu.Cyc xs H) (h : LeastSo xs a xs.length) : a = postAt H 0 := by
  have e0 : postAt H 0 = H.getD 0 (0, 0) := by unfold postAt; rw [Nat.zero_mod]
  rw [e0]
  rcases c.least a h.1 with g | g
  · exact g
  · have hm := (c.at 0).ma
    rw [e0] at hm
    obtain ⟨j, hj, e⟩ := List.getElem_of_mem hm
    have := h.2 j hj
    rw [List.getD_eq_getElem?_getD, List.getElem?_eq_getElem hj] at this
    simp only [Option.getD_some] at this
    rw [e] at this
    rcases this with k | k
    · exact k.symm
    · exact absurd (g.trans k) Hu.Lt.irrefl
set_option maxHeartbeats 8000000 in
set_option maxRecDepth 100000 in
/-- Behind the line: from all points not on one line. -/
theorem HullR_any (xs : PtL) (A : Option Addr) (c : Nat) (w : World) (hx : PairsI w A xs) (r : PtL × Int) (hr : HullIs xs r) :
    Calls Try.prog 41 #[.slice A xs.length c] w fun e w' => PtsRes w' w.heap.size e r ∧ Below w.heap.size w w' := by
  obtain ⟨i34, hi34, hz0, hz1, hz2⟩ := info_parts info34
  have HX := Off.mk hx
  clear hx
  by_cases h30 : 30 < xs.length
  · have h30' : 30 < (xs.length : Int) := by omega
    have HR : Off (r = ([], 3)) := ⟨by
      rcases hr with h | h | h | h
      · exact h.2
      · omega
      · omega
      · omega⟩
    clear hr
    go_enter Try.func41, Try.ntmps41
    go_wp2
    go_ret2
    rw [HR.out]
    exact ⟨⟨_, rfl, ownQ_nil _ _ _⟩, Below.refl _ _⟩
  have h30' : ¬ 30 < (xs.length : Int) := by omega
  have HRI := Off.mk hr
  clear hr
  go_enter Try.func41, Try.ntmps41
  go_wp2
  go_loopw [5] (fun kv wr => ∃ k : Nat, k ≤ xs.length ∧ kv = .int .i64 k ∧ Off (∀ j, j < k → inB 50 (xs.getD j (0, 0))) ∧ Off (Below w.heap.size w wr)) (fun kv _ => xs.length - (intOf kv).toNat)
  case atStart => exact ⟨0, by omega, rfl, ⟨fun j hj => by omega⟩, ⟨Below.refl _ _⟩⟩
  case round =>
    obtain ⟨k, hk, rfl, HIN, HB⟩ := hrel
    by_cases hlt : k < xs.length
    · have hki : (k : Int) < (xs.length : Int) := by omega
      have hkw : IntKind.i64.wrap ((k : Int) + 1) = (k : Int) + 1 := by rw [IntKind.wrap_i64]; omega
      obtain ⟨ad, rfl, x0, x1⟩ := (HX.out.below HB.out).cell k hlt
      obtain ⟨p, hp⟩ : ∃ p, p = xs.getD k (0, 0) := ⟨_, rfl⟩
      rw [← hp] at x0 x1
      obtain ⟨v, hv⟩ : ∃ v, decide (inB 50 p) = v := ⟨_, rfl⟩
      have C1 : Off (∀ W, Calls Try.prog 24 #[ptV p] W fun e w' => e = .returned (.bool v) ∧ Below W.heap.size W w') := ⟨fun W => inRange_any p v hv W⟩
      have HNX : Off (v = true → ∀ j, j < k + 1 → inB 50 (xs.getD j (0, 0))) := ⟨fun e j hj => by
        by_cases ej : j = k
        · rw [ej, ← hp]
          rw [e] at hv
          exact of_decide_eq_true hv
        · exact HIN.out j (by omega)⟩
      have HFAR : Off (v = false → r = ([], 2)) := ⟨fun e => by
        have hf : xs.any farP = true := by
          rw [List.any_eq_true]
          refine ⟨p, by rw [hp]; exact getD_mem hlt, ?_⟩
          rw [← Bool.not_eq_false, far_in]
          rw [e] at hv
          exact of_decide_eq_false hv
        rcases HRI.out with h | h | h | h
        · omega
        · exact h.2.2
        · rw [hf] at h; cases h.1.2
        · rw [hf] at h; cases h.1.2⟩
      clear hp hv HIN
      go_wp2_with fail
      refine (C1.out _).mono ?_
      rintro e w3 ⟨rfl, hb3⟩
      have HB3 := Off.mk (belowC HB.out hb3)
      clear hb3
      cases v with
      | false =>
        have HRR := Off.mk (HFAR.out rfl)
        go_wp2
        go_ret2
        rw [HRR.out]
        exact ⟨⟨_, rfl, ownQ_nil _ _ _⟩, HB3.out⟩
      | true =>
        have HIN := Off.mk (HNX.out rfl)
        go_wp2
        go_roundw
        case rel => exact ⟨k + 1, by omega, by go_num, HIN, HB3⟩
        case measure => simp only [intOf]; omega
    · obtain rfl : k = xs.length := by omega
      have HI : Off (∀ q ∈ xs, inB 50 q) := ⟨fun q hq => by
        obtain ⟨j, hj, rfl⟩ := List.getElem_of_mem hq
        have := HIN.out j hj
        rwa [List.getD_eq_getElem?_getD, List.getElem?_eq_getElem hj] at this⟩
      have HR2 : Off ((xs = [] ∧ r = ([], 10)) ∨ (xs ≠ [] ∧ ∃ S, Hu.Sorted 1 S ∧ (∀ q, q ∈ xs ↔ q ∈ S) ∧ S.length ≤ 30 ∧ r = hullR (Hu.hull S))) := ⟨by
        have hnf : xs.any farP = false := by
          rw [List.any_eq_false]
          intro q hq
          have := (far_in q).2 (HI.out q hq)
          rw [this]; simp
        rcases HRI.out with h | h | h | h
        · omega
        · rw [hnf] at h; cases h.2.1
        · exact .inl h.2
        · exact .inr h.2⟩
      clear HIN HRI
      go_wp2
      go_loopw [4, 6] (fun bv iv wr => ∃ (b : Bool) (i : Nat), i ≤ xs.length ∧ bv = .bool b ∧ iv = .int .i64 i ∧ Off (b = true ↔ ∀ s t, s < i → t < xs.length → lineAt xs s t) ∧ Off (Below w.heap.size w wr)) (fun _ iv _ => xs.length - (intOf iv).toNat)
      case atStart => exact ⟨true, 0, by omega, rfl, rfl, ⟨⟨fun _ s t h => by omega, fun _ => rfl⟩⟩, HB⟩
      case round =>
        clear HB
        obtain ⟨b, i, hil, rfl, rfl, HL, HB⟩ := hrel
        by_cases hlt : i < xs.length
        · have hii : (i : Int) < (xs.length : Int) := by omega
          have hiw : IntKind.i64.wrap ((i : Int) + 1) = (i : Int) + 1 := by rw [IntKind.wrap_i64]; omega
          go_wp2
          go_loopw [4, 7] (fun bv jv wr => ∃ (b : Bool) (j : Nat), j ≤ xs.length ∧ bv = .bool b ∧ jv = .int .i64 j ∧ Off (b = true ↔ (∀ s t, s < i → t < xs.length → lineAt xs s t) ∧ ∀ t, t < j → lineAt xs i t) ∧ Off (Below w.heap.size w wr)) (fun _ jv _ => xs.length - (intOf jv).toNat)
          case atStart => exact ⟨b, 0, by omega, rfl, rfl, ⟨by rw [HL.out]; exact ⟨fun h => ⟨h, fun t ht => by omega⟩, fun h => h.1⟩⟩, HB⟩
          case round =>
            clear HB HL
            obtain ⟨b, j, hjl, rfl, rfl, HL, HB⟩ := hrel
            by_cases hjlt : j < xs.length
            · have hji : (j : Int) < (xs.length : Int) := by omega
              have hjw : IntKind.i64.wrap ((j : Int) + 1) = (j : Int) + 1 := by rw [IntKind.wrap_i64]; omega
              cases b with
              | false =>
                have HL2 : Off (false = true ↔ (∀ s t, s < i → t < xs.length → lineAt xs s t) ∧ ∀ t, t < j + 1 → lineAt xs i t) := ⟨⟨fun h => (by cases h), fun h => HL.out.2 ⟨h.1, fun t ht => h.2 t (by omega)⟩⟩⟩
                go_wp2
                refine wp_region_held_drew (S := (fun u => Below wr.heap.size wr u)) (by kernel_rfl) (below_drew (Below.refl _ _)) (fun hHeld => ?_)
                refine wpAnyH_take (i := 0) (oi := ⟨some 41, _, _, _, _, _⟩) (v := ?_) rfl (by kernel_rfl) (by kernel_rfl) (by kernel_rfl) (fun _ _ _ h => h) (Or.inl ⟨by rfl, by intro w hSw; (try dsimp only at hSw); go_simp; try with_reducible rfl⟩) hHeld ?_
                try simp only [Act.put, List.setIfInBounds_toArray, List.set_cons_zero, List.set_cons_succ]
                refine wpAnyH_take (i := 1) (oi := ⟨some 42, _, _, _, _, _⟩) (v := ?_) rfl (by kernel_rfl) (by kernel_rfl) (by kernel_rfl) (fun _ _ _ h => h) (Or.inl ⟨by rfl, by intro w hSw; (try dsimp only at hSw); go_simp; try with_reducible rfl⟩) hHeld ?_
                try simp only [Act.put, List.setIfInBounds_toArray, List.set_cons_zero, List.set_cons_succ]
                refine wpAnyH_take (i := 2) (oi := ⟨some 43, _, _, _, _, _⟩) (v := undef) rfl (by kernel_rfl) (by kernel_rfl) (by kernel_rfl) (fun _ _ _ h => h) (Or.inr ⟨by rfl, rfl⟩) hHeld ?_
                try simp only [Act.put, List.setIfInBounds_toArray, List.set_cons_zero, List.set_cons_succ]
                refine wpAnyH_take (i := 3) (oi := ⟨some 44, _, _, _, _, _⟩) (v := undef) rfl (by kernel_rfl) (by kernel_rfl) (by kernel_rfl) (fun _ _ _ h => h) (Or.inr ⟨by rfl, rfl⟩) hHeld ?_
                try simp only [Act.put, List.setIfInBounds_toArray, List.set_cons_zero, List.set_cons_succ]
                refine wpAnyH_take (i := 4) (oi := ⟨some 45, _, _, _, _, _⟩) (v := undef) rfl (by kernel_rfl) (by kernel_rfl) (by kernel_rfl) (fun _ _ _ h => h) (Or.inr ⟨by rfl, rfl⟩) hHeld ?_
                try simp only [Act.put, List.setIfInBounds_toArray, List.set_cons_zero, List.set_cons_succ]
                refine wpAnyH_take (i := 5) (oi := ⟨some 46, _, _, _, _, _⟩) (v := undef) rfl (by kernel_rfl) (by kernel_rfl) (by kernel_rfl) (fun _ _ _ h => h) (Or.inr ⟨by rfl, rfl⟩) hHeld ?_
                try simp only [Act.put, List.setIfInBounds_toArray, List.set_cons_zero, List.set_cons_succ]
                refine wpAnyH_take (i := 6) (oi := ⟨some 47, _, _, _, _, _⟩) (v := undef) rfl (by kernel_rfl) (by kernel_rfl) (by kernel_rfl) (fun _ _ _ h => h) (Or.inr ⟨by rfl, rfl⟩) hHeld ?_
                try simp only [Act.put, List.setIfInBounds_toArray, List.set_cons_zero, List.set_cons_succ]
                refine wpAnyH_take (i := 7) (oi := ⟨some 48, _, _, _, _, _⟩) (v := undef) rfl (by kernel_rfl) (by kernel_rfl) (by kernel_rfl) (fun _ _ _ h => h) (Or.inr ⟨by rfl, rfl⟩) hHeld ?_
                try simp only [Act.put, List.setIfInBounds_toArray, List.set_cons_zero, List.set_cons_succ]
                refine wpAnyH_take (i := 8) (oi := ⟨some 49, _, _, _, _, _⟩) (v := undef) rfl (by kernel_rfl) (by kernel_rfl) (by kernel_rfl) (fun _ _ _ h => h) (Or.inr ⟨by rfl, rfl⟩) hHeld ?_
                try simp only [Act.put, List.setIfInBounds_toArray, List.set_cons_zero, List.set_cons_succ]
                refine wpAnyH_take (i := 9) (oi := ⟨some 50, _, _, _, _, _⟩) (v := undef) rfl (by kernel_rfl) (by kernel_rfl) (by kernel_rfl) (fun _ _ _ h => h) (Or.inr ⟨by rfl, rfl⟩) hHeld ?_
                try simp only [Act.put, List.setIfInBounds_toArray, List.set_cons_zero, List.set_cons_succ]
                refine wpAnyH_take (i := 10) (oi := ⟨some 51, _, _, _, _, _⟩) (v := undef) rfl (by kernel_rfl) (by kernel_rfl) (by kernel_rfl) (fun _ _ _ h => h) (Or.inr ⟨by rfl, rfl⟩) hHeld ?_
                try simp only [Act.put, List.setIfInBounds_toArray, List.set_cons_zero, List.set_cons_succ]
                refine wpAnyH_take (i := 11) (oi := ⟨some 52, _, _, _, _, _⟩) (v := undef) rfl (by kernel_rfl) (by kernel_rfl) (by kernel_rfl) (fun _ _ _ h => h) (Or.inr ⟨by rfl, rfl⟩) hHeld ?_
                try simp only [Act.put, List.setIfInBounds_toArray, List.set_cons_zero, List.set_cons_succ]
                refine wpAnyH_take (i := 12) (oi := ⟨some 53, _, _, _, _, _⟩) (v := undef) rfl (by kernel_rfl) (by kernel_rfl) (by kernel_rfl) (fun _ _ _ h => h) (Or.inr ⟨by rfl, rfl⟩) hHeld ?_
                try simp only [Act.put, List.setIfInBounds_toArray, List.set_cons_zero, List.set_cons_succ]
                refine wpAnyH_take (i := 13) (oi := ⟨some 54, _, _, _, _, _⟩) (v := undef) rfl (by kernel_rfl) (by kernel_rfl) (by kernel_rfl) (fun _ _ _ h => h) (Or.inr ⟨by rfl, rfl⟩) hHeld ?_
                try simp only [Act.put, List.setIfInBounds_toArray, List.set_cons_zero, List.set_cons_succ]
                refine wpAnyH_take (i := 14) (oi := ⟨some 55, _, _, _, _, _⟩) (v := undef) rfl (by kernel_rfl) (by kernel_rfl) (by kernel_rfl) (fun _ _ _ h => h) (Or.inr ⟨by rfl, rfl⟩) hHeld ?_
                try simp only [Act.put, List.setIfInBounds_toArray, List.set_cons_zero, List.set_cons_succ]
                refine wpAnyH_take (i := 15) (oi := ⟨some 56, _, _, _, _, _⟩) (v := ?_) rfl (by kernel_rfl) (by kernel_rfl) (by kernel_rfl) (fun _ _ _ h => h) (Or.inl ⟨by rfl, by intro w hSw; (try dsimp only at hSw); go_simp; try with_reducible rfl⟩) hHeld ?_
                try simp only [Act.put, List.setIfInBounds_toArray, List.set_cons_zero, List.set_cons_succ]
                refine wpAnyH_take (i := 16) (oi := ⟨some 4, _, _, _, _, _⟩) (v := ?_) rfl (by kernel_rfl) (by kernel_rfl) (by kernel_rfl) (fun _ _ _ h => h) (Or.inl ⟨by rfl, by intro w hSw; (try dsimp only at hSw); go_simp; try with_reducible rfl⟩) hHeld ?_
                try simp only [Act.put, List.setIfInBounds_toArray, List.set_cons_zero, List.set_cons_succ]
                refine wpAnyH_done (by kernel_rfl) ?_ _
                clear hHeld
                go_wp2
                go_roundw
                case rel => exact ⟨false, j + 1, by omega, rfl, by go_num, HL2, ⟨below_drew HB.out⟩⟩
                case measure => simp only [intOf]; omega
              | true =>
                have h0 : 0 < xs.length := by omega
                have h0i : (0 : Int) < (xs.length : Int) := by omega
                have hxr := HX.out.below HB.out
                obtain ⟨ad, rfl, x0, x1⟩ := hxr.cell 0 h0
                rw [addr_zero] at x0 x1
                obtain ⟨ad', e, y0, y1⟩ := hxr.cell i hlt
                cases e
                obtain ⟨ad', e, z0, z1⟩ := hxr.cell j hjlt
                cases e
                obtain ⟨o, ho⟩ : ∃ o, o = xs.getD 0 (0, 0) := ⟨_, rfl⟩
                obtain ⟨p, hp⟩ : ∃ p, p = xs.getD i (0, 0) := ⟨_, rfl⟩
                obtain ⟨q, hq⟩ : ∃ q, q = xs.getD j (0, 0) := ⟨_, rfl⟩
                have ho5 := HI.out _ (getD_mem h0)
                have hp5 := HI.out _ (getD_mem hlt)
                have hq5 := HI.out _ (getD_mem hjlt)
                rw [← ho] at x0 x1 ho5
                rw [← hp] at y0 y1 hp5
                rw [← hq] at z0 z1 hq5
                obtain ⟨cv, hcv⟩ : ∃ cv, cv = crossR o p q := ⟨_, rfl⟩
                have C1 : Off (∀ W, Calls Try.prog 43 #[ptV o, ptV p, ptV q] W fun e w' => e = .returned (.int .i64 cv) ∧ Below W.heap.size W w') := ⟨fun W => by rw [hcv]; exact crossR_any o p q (inB_mono ho5 (by decide)) (inB_mono hp5 (by decide)) (inB_mono hq5 (by decide)) W⟩
                obtain ⟨b2, hb2⟩ : ∃ b2, (cv == 0) = b2 := ⟨_, rfl⟩
                have HL2 : Off (b2 = true ↔ (∀ s t, s < i → t < xs.length → lineAt xs s t) ∧ ∀ t, t < j + 1 → lineAt xs i t) := ⟨by
                  have hb : b2 = true ↔ lineAt xs i j := by
                    unfold lineAt
                    rw [← ho, ← hp, ← hq, ← hcv, ← hb2, beq_iff_eq]
                  rw [hb]
                  have hl := HL.out.1 rfl
                  constructor
                  · intro h
                    refine ⟨hl.1, fun t ht => ?_⟩
                    by_cases e : t = j
                    · rw [e]; exact h
                    · exact hl.2 t (by omega)
                  · intro h
                    exact h.2 j (by omega)⟩
                clear ho hp hq ho5 hp5 hq5 hcv hxr HL
                go_wp2
                have keepS : ∀ {u v : World}, Below u.heap.size u v → (fun u => ((u.cell? ad = some (.int .i64 o.1) ∧ u.cell? ⟨ad.block, ad.off + 1, none⟩ = some (.int .i64 o.2)) ∧ (u.cell? (ad.add (i * 2)) = some (.int .i64 p.1) ∧ u.cell? ⟨(ad.add (i * 2)).block, (ad.add (i * 2)).off + 1, none⟩ = some (.int .i64 p.2)) ∧ u.cell? (ad.add (j * 2)) = some (.int .i64 q.1) ∧ u.cell? ⟨(ad.add (j * 2)).block, (ad.add (j * 2)).off + 1, none⟩ = some (.int .i64 q.2)) ∧ Below wr.heap.size wr u) u → (fun u => ((u.cell? ad = some (.int .i64 o.1) ∧ u.cell? ⟨ad.block, ad.off + 1, none⟩ = some (.int .i64 o.2)) ∧ (u.cell? (ad.add (i * 2)) = some (.int .i64 p.1) ∧ u.cell? ⟨(ad.add (i * 2)).block, (ad.add (i * 2)).off + 1, none⟩ = some (.int .i64 p.2)) ∧ u.cell? (ad.add (j * 2)) = some (.int .i64 q.1) ∧ u.cell? ⟨(ad.add (j * 2)).block, (ad.add (j * 2)).off + 1, none⟩ = some (.int .i64 q.2)) ∧ Below wr.heap.size wr u) v := fun hb ⟨⟨⟨x0, x1⟩, ⟨y0, y1⟩, z0, z1⟩, hB⟩ => ⟨⟨⟨cellB hb x0, cellB hb x1⟩, ⟨cellB hb y0, cellB hb y1⟩, cellB hb z0, cellB hb z1⟩, belowC hB hb⟩
                refine wp_region_held_drew (S := (fun u => ((u.cell? ad = some (.int .i64 o.1) ∧ u.cell? ⟨ad.block, ad.off + 1, none⟩ = some (.int .i64 o.2)) ∧ (u.cell? (ad.add (i * 2)) = some (.int .i64 p.1) ∧ u.cell? ⟨(ad.add (i * 2)).block, (ad.add (i * 2)).off + 1, none⟩ = some (.int .i64 p.2)) ∧ u.cell? (ad.add (j * 2)) = some (.int .i64 q.1) ∧ u.cell? ⟨(ad.add (j * 2)).block, (ad.add (j * 2)).off + 1, none⟩ = some (.int .i64 q.2)) ∧ Below wr.heap.size wr u)) (by kernel_rfl) ⟨⟨⟨x0, x1⟩, ⟨y0, y1⟩, z0, z1⟩, below_drew (Below.refl _ _)⟩ (fun hHeld => ?_)
                refine wpAnyH_take (i := 0) (oi := ⟨some 41, _, _, _, _, _⟩) (v := ?_) rfl (by kernel_rfl) (by kernel_rfl) (by kernel_rfl) (fun _ _ _ h => h) (Or.inl ⟨by rfl, by intro w hSw; (try dsimp only at hSw); go_simp; try with_reducible rfl⟩) hHeld ?_
                try simp only [Act.put, List.setIfInBounds_toArray, List.set_cons_zero, List.set_cons_succ]
                refine wpAnyH_take (i := 1) (oi := ⟨some 42, _, _, _, _, _⟩) (v := ?_) rfl (by kernel_rfl) (by kernel_rfl) (by kernel_rfl) (fun _ _ _ h => h) (Or.inl ⟨by rfl, by intro w hSw; (try dsimp only at hSw); go_simp; try with_reducible rfl⟩) hHeld ?_
                try simp only [Act.put, List.setIfInBounds_toArray, List.set_cons_zero, List.set_cons_succ]
                refine wpAnyH_take (i := 2) (oi := ⟨some 43, _, _, _, _, _⟩) (v := ?_) rfl (by kernel_rfl) (by kernel_rfl) (by kernel_rfl) (fun _ _ _ h => h) (Or.inl ⟨by rfl, by intro w hSw; (try dsimp only at hSw); go_simp; try with_reducible rfl⟩) hHeld ?_
                try simp only [Act.put, List.setIfInBounds_toArray, List.set_cons_zero, List.set_cons_succ]
                refine wpAnyH_take (i := 3) (oi := ⟨some 44, _, _, _, _, _⟩) (v := ?_) rfl (by kernel_rfl) (by kernel_rfl) (by kernel_rfl) (fun _ _ _ h => h) (Or.inl ⟨by rfl, by intro w hSw; (try dsimp only at hSw); go_simp; try with_reducible rfl⟩) hHeld ?_
                try simp only [Act.put, List.setIfInBounds_toArray, List.set_cons_zero, List.set_cons_succ]
                refine wpAnyH_take (i := 4) (oi := ⟨some 45, _, _, _, _, _⟩) (v := ?_) rfl (by kernel_rfl) (by kernel_rfl) (by kernel_rfl) (fun _ _ _ h => h) (Or.inl ⟨by rfl, by intro w hSw; (try dsimp only at hSw); go_simp; try with_reducible rfl⟩) hHeld ?_
                try simp only [Act.put, List.setIfInBounds_toArray, List.set_cons_zero, List.set_cons_succ]
                refine wpAnyH_take (i := 5) (oi := ⟨some 46, _, _, _, _, _⟩) (v := ?_) rfl (by kernel_rfl) (by kernel_rfl) (by kernel_rfl) (fun _ _ _ h => h) (Or.inl ⟨by rfl, by intro w hSw; (try dsimp only at hSw); go_simp; try with_reducible rfl⟩) hHeld ?_
                try simp only [Act.put, List.setIfInBounds_toArray, List.set_cons_zero, List.set_cons_succ]
                refine wpAnyH_take (i := 6) (oi := ⟨some 47, _, _, _, _, _⟩) (v := ?_) rfl (by kernel_rfl) (by kernel_rfl) (by kernel_rfl) (fun _ _ _ h => h) (Or.inl ⟨by rfl, by intro w hSw; (try dsimp only at hSw); go_simp; try with_reducible rfl⟩) hHeld ?_
                try simp only [Act.put, List.setIfInBounds_toArray, List.set_cons_zero, List.set_cons_succ]
                refine wpAnyH_take (i := 7) (oi := ⟨some 48, _, _, _, _, _⟩) (v := ?_) rfl (by kernel_rfl) (by kernel_rfl) (by kernel_rfl) (fun _ _ _ h => h) (Or.inl ⟨by rfl, by intro w hSw; (try dsimp only at hSw); go_simp; try with_reducible rfl⟩) hHeld ?_
                try simp only [Act.put, List.setIfInBounds_toArray, List.set_cons_zero, List.set_cons_succ]
                refine wpAnyH_take (i := 8) (oi := ⟨some 49, _, _, _, _, _⟩) (v := ?_) rfl (by kernel_rfl) (by kernel_rfl) (by kernel_rfl) (fun _ _ _ h => h) (Or.inl ⟨by rfl, by intro w hSw; (try dsimp only at hSw); go_simp; try with_reducible rfl⟩) hHeld ?_
                try simp only [Act.put, List.setIfInBounds_toArray, List.set_cons_zero, List.set_cons_succ]
                refine wpAnyH_take (i := 9) (oi := ⟨some 50, _, _, _, _, _⟩) (v := ?_) rfl (by kernel_rfl) (by kernel_rfl) (by kernel_rfl) (fun _ _ _ h => h) (Or.inl ⟨by rfl, by intro w hSw; (try dsimp only at hSw); go_simp; try with_reducible rfl⟩) hHeld ?_
                try simp only [Act.put, List.setIfInBounds_toArray, List.set_cons_zero, List.set_cons_succ]
                refine wpAnyH_take (i := 10) (oi := ⟨some 51, _, _, _, _, _⟩) (v := ?_) rfl (by kernel_rfl) (by kernel_rfl) (by kernel_rfl) (fun _ _ _ h => h) (Or.inl ⟨by rfl, by intro w hSw; (try dsimp only at hSw); go_simp; try with_reducible rfl⟩) hHeld ?_
                try simp only [Act.put, List.setIfInBounds_toArray, List.set_cons_zero, List.set_cons_succ]
                refine wpAnyH_take (i := 11) (oi := ⟨some 52, _, _, _, _, _⟩) (v := ?_) rfl (by kernel_rfl) (by kernel_rfl) (by kernel_rfl) (fun _ _ _ h => h) (Or.inl ⟨by rfl, by intro w hSw; (try dsimp only at hSw); go_simp; try with_reducible rfl⟩) hHeld ?_
                try simp only [Act.put, List.setIfInBounds_toArray, List.set_cons_zero, List.set_cons_succ]
                refine wpAnyH_take (i := 12) (oi := ⟨some 53, _, _, _, _, _⟩) (v := ?_) rfl (by kernel_rfl) (by kernel_rfl) (by kernel_rfl) (fun _ _ _ h => h) (Or.inl ⟨by rfl, by intro w hSw; (try dsimp only at hSw); go_simp; try with_reducible rfl⟩) hHeld ?_
                try simp only [Act.put, List.setIfInBounds_toArray, List.set_cons_zero, List.set_cons_succ]
                refine wpAnyH_ready (rs := [13]) (by kernel_rfl) (by simp) ?_
                refine AllReadyH.cons (o := ⟨some 54, _, _, _, _, _⟩) rfl (fun K hK => ?_) AllReadyH.nil
                go_simp
                refine (C1.out _).mono ?_
                rintro e w3 ⟨rfl, hb3⟩
                go_wp2_with fail
                refine hK.out _ _ (keepS hb3 hHeld) (fun hHeld => ?_)
                clear hK K
                try simp only [Act.put, List.setIfInBounds_toArray, List.set_cons_zero, List.set_cons_succ]
                refine wpAnyH_take (i := 14) (oi := ⟨some 55, _, _, _, _, _⟩) (v := ?_) rfl (by kernel_rfl) (by kernel_rfl) (by kernel_rfl) (fun _ _ _ h => h) (Or.inl ⟨by rfl, by intro w hSw; (try dsimp only at hSw); go_simp; try with_reducible rfl⟩) hHeld ?_
                try simp only [Act.put, List.setIfInBounds_toArray, List.set_cons_zero, List.set_cons_succ]
                refine wpAnyH_take (i := 15) (oi := ⟨some 56, _, _, _, _, _⟩) (v := ?_) rfl (by kernel_rfl) (by kernel_rfl) (by kernel_rfl) (fun _ _ _ h => h) (Or.inl ⟨by rfl, by intro w hSw; (try dsimp only at hSw); go_simp; try with_reducible rfl⟩) hHeld ?_
                try simp only [Act.put, List.setIfInBounds_toArray, List.set_cons_zero, List.set_cons_succ]
                refine wpAnyH_take (i := 16) (oi := ⟨some 4, _, _, _, _, _⟩) (v := ?_) rfl (by kernel_rfl) (by kernel_rfl) (by kernel_rfl) (fun _ _ _ h => h) (Or.inl ⟨by rfl, by intro w hSw; (try dsimp only at hSw); go_simp; try with_reducible rfl⟩) hHeld ?_
                try simp only [Act.put, List.setIfInBounds_toArray, List.set_cons_zero, List.set_cons_succ]
                refine wpAnyH_done (by kernel_rfl) ?_ _
                have HBU := Off.mk hHeld.2
                clear hHeld keepS
                have HBW := Off.mk (belowC HB.out HBU.out)
                go_wp2
                go_roundw
                case rel => exact ⟨b2, j + 1, by omega, rfl, by go_num, HL2, HBW⟩
                case measure => simp only [intOf]; omega
            · obtain rfl : j = xs.length := by omega
              have HL2 : Off (b = true ↔ ∀ s t, s < i + 1 → t < xs.length → lineAt xs s t) := ⟨by
                rw [HL.out]
                constructor
                · intro h s t hs ht
                  by_cases e : s = i
                  · rw [e]; exact h.2 t ht
                  · exact h.1 s t (by omega) ht
                · intro h
                  exact ⟨fun s t hs ht => h s t (by omega) ht, fun t ht => h i t (by omega) ht⟩⟩
              go_wp2
              go_roundw
              case rel => exact ⟨b, i + 1, by omega, rfl, by go_num, HL2, HB⟩
              case measure => simp only [intOf]; omega
        · obtain rfl : i = xs.length := by omega
          cases b with
          | true =>
            have HRR : Off (r = ([], 10)) := ⟨by
              rcases HR2.out with h | ⟨_, S, h1, h2, h3, h4⟩
              · exact h.2
              · rw [h4]
                unfold hullR
                rw [if_pos]
                by_cases h2l : 2 ≤ S.length
                · have cyc := Hu.hull_cyc h1 h2 h2l
                  apply Nat.lt_of_not_le
                  intro h3l
                  refine cyc.notline h3l fun q hq s hs => ?_
                  obtain ⟨i, hi, rfl⟩ := List.getElem_of_mem hq
                  obtain ⟨j, hj, rfl⟩ := List.getElem_of_mem hs
                  have := HL.out.1 rfl i j hi hj
                  unfold lineAt at this
                  have g1 : xs.getD i (0, 0) = xs[i] := by rw [List.getD_eq_getElem?_getD, List.getElem?_eq_getElem hi]; rfl
                  have g2 : xs.getD j (0, 0) = xs[j] := by rw [List.getD_eq_getElem?_getD, List.getElem?_eq_getElem hj]; rfl
                  rw [g1, g2] at this
                  exact this
                · have : (Hu.hull S).length = 0 := by
                    match S, h2l with
                    | [], _ => rfl
                    | [p], _ => rfl
                    | _ :: _ :: _, h => exact absurd (by simp) h
                  omega⟩
            go_wp2
            go_ret2
            rw [HRR.out]
            exact ⟨⟨_, rfl, ownQ_nil _ _ _⟩, HB.out⟩
          | false =>
            have hcy : xs ≠ [] ∧ ∃ H, Hu.Cyc xs H ∧ r = hullR H ∧ 3 ≤ H.length ∧ H.length ≤ 60 := by
              rcases HR2.out with h | ⟨h0, S, h1, h2, h3, h4⟩
              · exfalso
                have := HL.out.2 (fun s t hs => by rw [h.1] at hs; exact absurd hs (Nat.not_lt_zero _))
                cases this
              · have h2l : 2 ≤ S.length := by
                  apply Nat.le_of_not_lt
                  intro hlt2
                  have := HL.out.2 (fun s t hs ht => by
                    have a1 := (h2 _).1 (getD_mem (show 0 < xs.length by omega))
                    have a2 := (h2 _).1 (getD_mem hs)
                    have e1 : xs.getD s (0, 0) = xs.getD 0 (0, 0) := by
                      match S, hlt2, a1, a2 with
                      | [p], _, a1, a2 => rw [List.mem_singleton.1 a1, List.mem_singleton.1 a2]
                      | _ :: _ :: _, h, _, _ => exact absurd h (by simp)
                    unfold lineAt crossR
                    rw [e1]
                    grind)
                  cases this
                have cyc := Hu.hull_cyc h1 h2 h2l
                refine ⟨h0, _, cyc, h4, ?_, by
                  have l1 := half_len S h3
                  have l2 := half_len S.reverse (by rw [List.length_reverse]; exact h3)
                  unfold Hu.hull
                  rw [List.length_append]
                  omega⟩
                apply Nat.le_of_not_lt
                intro hl3
                have := HL.out.2 (fun s t hs ht => cyc.line hl3 _ (getD_mem (show 0 < xs.length by omega)) _ (getD_mem hs) _ (getD_mem ht))
                cases this
            obtain ⟨h0, H, hcyc, hrH, h3H⟩ := hcy
            have HC := Off.mk hcyc
            have HRH := Off.mk (And.intro hrH h3H)
            have h0' : 0 < xs.length := List.length_pos_iff.2 h0
            clear hcyc hrH h3H HR2 HL h0
            obtain ⟨ad, rfl, x0, x1⟩ := (HX.out.below HB.out).cell 0 h0'
            rw [addr_zero] at x0 x1
            have h0i : (0 : Int) < (xs.length : Int) := by omega
            obtain ⟨a, ha⟩ : ∃ a, a = xs.getD 0 (0, 0) := ⟨_, rfl⟩
            rw [← ha] at x0 x1
            have HLS : Off (LeastSo xs a 1) := ⟨by
              refine ⟨by rw [ha]; exact getD_mem h0', fun j hj => ?_⟩
              obtain rfl : j = 0 := by omega
              exact .inl ha.symm⟩
            obtain ⟨wo, hwo⟩ : ∃ W : World, W = wr := ⟨_, rfl⟩
            rw [← hwo] at HB x0 x1 ⊢
            clear hwo ha
            have hbx : Box34 (wo.alloc (.cells #[.int .i64 a.1, .int .i64 a.2] 34)) wo.heap.size a := block_new wo _
            have hBa := belowA (Below.refl wo.heap.size wo) (.cells #[.int .i64 a.1, .int .i64 a.2] 34)
            obtain ⟨W1, hW1⟩ : ∃ W1, wo.alloc (.cells #[.int .i64 a.1, .int .i64 a.2] 34) = W1 := ⟨_, rfl⟩
            rw [hW1] at hbx hBa
            have HBX0 := Off.mk hbx
            have HB1 := Off.mk (belowC HB.out hBa)
            have HNG := Off.mk HB.out.size
            clear hbx hBa HB
            go_wp2
            go_loopw [9] (fun iv wr => ∃ (i : Nat) (a : Int × Int), i ≤ xs.length ∧ iv = .int .i64 i ∧ Off (Box34 wr wo.heap.size a) ∧ Off (LeastSo xs a i) ∧ Off (Below w.heap.size w wr)) (fun iv _ => xs.length - (intOf iv).toNat)
            case atStart => exact ⟨1, a, by omega, rfl, HBX0, HLS, HB1⟩
            case round =>
              clear HBX0 HLS HB1
              obtain ⟨i, a, hil, rfl, HBN, HLS, HB⟩ := hrel
              by_cases hlt : i < xs.length
              · have hii : (i : Int) < (xs.length : Int) := by omega
                have hiw : IntKind.i64.wrap ((i : Int) + 1) = (i : Int) + 1 := by rw [IntKind.wrap_i64]; omega
                obtain ⟨ad', e, x0, x1⟩ := (HX.out.below HB.out).cell i hlt
                cases e
                obtain ⟨p, hp⟩ : ∃ p, p = xs.getD i (0, 0) := ⟨_, rfl⟩
                rw [← hp] at x0 x1
                obtain ⟨⟨z0, z1⟩, f0, f1⟩ := HBN.out.facts
                obtain ⟨v, hv⟩ : ∃ v, decide (p.1 < a.1 ∨ (p.1 = a.1 ∧ p.2 < a.2)) = v := ⟨_, rfl⟩
                have C1 : Off (∀ W, Calls Try.prog 82 #[ptV p, ptV a] W fun e w' => e = .returned (.bool v) ∧ Below W.heap.size W w') := ⟨fun W => less_any p a v hv W⟩
                have HV1 : Off (v = true → LeastSo xs p (i + 1)) := ⟨fun e => by
                  rw [e] at hv
                  rw [hp]
                  exact least_new HLS.out hlt (by rw [← hp]; exact (lt_dec p a).1 (of_decide_eq_true hv))⟩
                have HV0 : Off (v = false → LeastSo xs a (i + 1)) := ⟨fun e => by
                  rw [e] at hv
                  exact least_step HLS.out hlt (by rw [← hp]; exact fun h => of_decide_eq_false hv ((lt_dec p a).2 h))⟩
                clear hp hv HLS
                go_wp2
                have keepS : ∀ {u v : World}, Below u.heap.size u v → (fun u => ((u.cell? (ad.add (i * 2)) = some (.int .i64 p.1) ∧ u.cell? ⟨(ad.add (i * 2)).block, (ad.add (i * 2)).off + 1, none⟩ = some (.int .i64 p.2)) ∧ u.cell? ⟨wo.heap.size, 0, none⟩ = some (.int .i64 a.1) ∧ u.cell? ⟨wo.heap.size, 1, none⟩ = some (.int .i64 a.2)) ∧ Below wr.heap.size wr u) u → (fun u => ((u.cell? (ad.add (i * 2)) = some (.int .i64 p.1) ∧ u.cell? ⟨(ad.add (i * 2)).block, (ad.add (i * 2)).off + 1, none⟩ = some (.int .i64 p.2)) ∧ u.cell? ⟨wo.heap.size, 0, none⟩ = some (.int .i64 a.1) ∧ u.cell? ⟨wo.heap.size, 1, none⟩ = some (.int .i64 a.2)) ∧ Below wr.heap.size wr u) v := fun hb ⟨⟨⟨x0, x1⟩, z0, z1⟩, hB⟩ => ⟨⟨⟨cellB hb x0, cellB hb x1⟩, cellB hb z0, cellB hb z1⟩, belowC hB hb⟩
                refine wp_region_held_drew (S := (fun u => ((u.cell? (ad.add (i * 2)) = some (.int .i64 p.1) ∧ u.cell? ⟨(ad.add (i * 2)).block, (ad.add (i * 2)).off + 1, none⟩ = some (.int .i64 p.2)) ∧ u.cell? ⟨wo.heap.size, 0, none⟩ = some (.int .i64 a.1) ∧ u.cell? ⟨wo.heap.size, 1, none⟩ = some (.int .i64 a.2)) ∧ Below wr.heap.size wr u)) (by kernel_rfl) ⟨⟨⟨x0, x1⟩, z0, z1⟩, below_drew (Below.refl _ _)⟩ (fun hHeld => ?_)
                refine wpAnyH_take (i := 0) (oi := ⟨some 67, _, _, _, _, _⟩) (v := ?_) rfl (by kernel_rfl) (by kernel_rfl) (by kernel_rfl) (fun _ _ _ h => h) (Or.inl ⟨by rfl, by intro w hSw; (try dsimp only at hSw); go_simp; try with_reducible rfl⟩) hHeld ?_
                try simp only [Act.put, List.setIfInBounds_toArray, List.set_cons_zero, List.set_cons_succ]
                refine wpAnyH_take (i := 1) (oi := ⟨some 68, _, _, _, _, _⟩) (v := ?_) rfl (by kernel_rfl) (by kernel_rfl) (by kernel_rfl) (fun _ _ _ h => h) (Or.inl ⟨by rfl, by intro w hSw; (try dsimp only at hSw); go_simp; try with_reducible rfl⟩) hHeld ?_
                try simp only [Act.put, List.setIfInBounds_toArray, List.set_cons_zero, List.set_cons_succ]
                refine wpAnyH_take (i := 2) (oi := ⟨some 69, _, _, _, _, _⟩) (v := ?_) rfl (by kernel_rfl) (by kernel_rfl) (by kernel_rfl) (fun _ _ _ h => h) (Or.inl ⟨by rfl, by intro w hSw; (try dsimp only at hSw); go_simp; try with_reducible rfl⟩) hHeld ?_
                try simp only [Act.put, List.setIfInBounds_toArray, List.set_cons_zero, List.set_cons_succ]
                refine wpAnyH_take (i := 3) (oi := ⟨some 70, _, _, _, _, _⟩) (v := ?_) rfl (by kernel_rfl) (by kernel_rfl) (by kernel_rfl) (fun _ _ _ h => h) (Or.inl ⟨by rfl, by intro w hSw; (try dsimp only at hSw); go_simp; try with_reducible rfl⟩) hHeld ?_
                try simp only [Act.put, List.setIfInBounds_toArray, List.set_cons_zero, List.set_cons_succ]
                refine wpAnyH_take (i := 4) (oi := ⟨some 71, _, _, _, _, _⟩) (v := ?_) rfl (by kernel_rfl) (by kernel_rfl) (by kernel_rfl) (fun _ _ _ h => h) (Or.inl ⟨by rfl, by intro w hSw; (try dsimp only at hSw); go_simp; try with_reducible rfl⟩) hHeld ?_
                try simp only [Act.put, List.setIfInBounds_toArray, List.set_cons_zero, List.set_cons_succ]
                refine wpAnyH_ready (rs := [5]) (by kernel_rfl) (by simp) ?_
                refine AllReadyH.cons (o := ⟨some 72, _, _, _, _, _⟩) rfl (fun K hK => ?_) AllReadyH.nil
                go_simp
                refine (C1.out _).mono ?_
                rintro e w3 ⟨rfl, hb3⟩
                go_wp2_with fail
                refine hK.out _ _ (keepS hb3 hHeld) (fun hHeld => ?_)
                clear hK K
                try simp only [Act.put, List.setIfInBounds_toArray, List.set_cons_zero, List.set_cons_succ]
                refine wpAnyH_done (by kernel_rfl) ?_ _
                have HBU := Off.mk hHeld.2
                clear hHeld keepS
                cases v with
                | false =>
                  have HL2 := Off.mk (HV0.out rfl)
                  go_wp2
                  go_roundw
                  case rel => exact ⟨i + 1, a, by omega, by go_num, ⟨HBN.out.below HBU.out⟩, HL2, ⟨belowC HB.out HBU.out⟩⟩
                  case measure => simp only [intOf]; omega
                | true =>
                  have HL2 := Off.mk (HV1.out rfl)
                  have hN := HBN.out.below HBU.out
                  obtain ⟨⟨z0, z1⟩, f0, f1⟩ := hN.facts
                  have x0 := cellB HBU.out x0
                  have x1 := cellB HBU.out x1
                  obtain ⟨h2, hk2⟩ := hN.stored p
                  have HN2 := Off.mk h2
                  have HB2 := Off.mk (Keeps.below (belowC HB.out HBU.out) hk2 (belowC HB.out HBU.out).size HNG.out)
                  clear hN h2 hk2
                  go_wp2
                  go_roundw
                  case rel => exact ⟨i + 1, p, by omega, by go_num, HN2, HL2, HB2⟩
                  case measure => simp only [intOf]; omega
              · obtain rfl : i = xs.length := by omega
                have HA0 : Off (a = postAt H 0) := ⟨least_done HC.out HLS.out⟩
                clear HLS
                go_wp2
                go_loopw [10] (fun v wr => ∃ (k : Nat) (a : Int × Int), k ≤ H.length ∧ Off (a = postAt H k) ∧ Off (Box34 wr wo.heap.size a) ∧ Off (OwnQ 34 wr (wo.heap.size + 1) v (H.take k)) ∧ Off (Below w.heap.size w wr)) (fun v _ => H.length - sliceLen v)
                case atStart => exact ⟨0, a, by omega, HA0, HBN, ⟨ownQ_nil _ _ _⟩, HB⟩
                case round =>
                  clear HA0 HBN HB
                  obtain ⟨k, a, hkm, HAk, HBN, HO, HB⟩ := hrel
                  have hlk : (H.take k).length = k := by rw [List.length_take]; omega
                  obtain ⟨A1, c1, rfl, hI1, _⟩ := ownQ_pairs HO.out (by rw [hlk]; have := HRH.out.2.2; omega)
                  rw [hlk] at HO ⊢
                  obtain ⟨wb, hwb⟩ : ∃ W : World, W = wr := ⟨_, rfl⟩
                  rw [← hwb] at HBN HO HB hI1 ⊢
                  clear hwb
                  obtain ⟨⟨z0, z1⟩, g0, g1⟩ := HBN.out.facts
                  have H3 := HRH.out.2.1
                  by_cases hkk : k = H.length
                  · have hk0 : ((k : Int) == 0) = false := beq_eq_false_iff_ne.2 (by omega)
                    have hkp : (0 : Int) < (k : Int) := by omega
                    have ha0 : a = H.getD 0 (0, 0) := by rw [HAk.out]; unfold postAt; rw [hkk, Nat.mod_self]
                    obtain ⟨a1, rfl, y0, y1⟩ := hI1.cell 0 (by rw [hlk]; omega)
                    rw [addr_zero] at y0 y1
                    have ht : (H.take k).getD 0 (0, 0) = a := by rw [ha0, List.getD_eq_getElem?_getD, List.getElem?_take_of_lt (by omega), List.getD_eq_getElem?_getD]
                    rw [ht] at y0 y1
                    have E1 : ∀ W, Sem.run Try.prog (Op.equalIn 10000 34 (.agg #[.int .i64 a.1, .int .i64 a.2]) (.agg #[.int .i64 a.1, .int .i64 a.2])) W = .ok true W := fun W => by rw [eq_pair]; simp
                    have HOK : Off (∀ (nq : Nat), OwnQ 34 (wb.drewN nq) w.heap.size (.slice (some a1) k c1) H) := ⟨fun nq => by
                      have := ownQ_mono (ownQ_below HO.out (below_drewN' (Below.refl wb.heap.size wb) nq)) (show w.heap.size ≤ wo.heap.size + 1 by have := HNG.out; omega)
                      rw [hkk, List.take_length] at this
                      rw [hkk]
                      exact this⟩
                    have HKK := Off.mk hkk
                    clear ha0 ht hI1 hlk hkk H3 HO
                    go_wp2
                    go_quiet (fail)
                    by_cases h10 : 10 < k
                    · have h10' : 10 < (k : Int) := by omega
                      have HRR : Off (r = ([], 8)) := ⟨by rw [HRH.out.1]; unfold hullR; rw [if_neg (by have := HRH.out.2.1; omega), if_pos (by have := HKK.out; omega)]⟩
                      go_wp2
                      go_ret2
                      rw [HRR.out]
                      exact ⟨⟨_, rfl, ownQ_nil _ _ _⟩, below_drewN' HB.out _⟩
                    · have h10' : ¬ 10 < (k : Int) := by omega
                      have HRR : Off (r = (H, 0)) := ⟨by rw [HRH.out.1]; unfold hullR; rw [if_neg (by have := HRH.out.2.1; omega), if_neg (by have := HKK.out; omega)]⟩
                      go_wp2
                      go_ret2
                      rw [HRR.out]
                      exact ⟨⟨_, rfl, HOK.out _⟩, below_drewN' HB.out _⟩
                  · have hkl : k < H.length := by omega
                    have hn := HC.out.at k
                    obtain ⟨t, htt⟩ : ∃ t, t = postAt H (k + 1) := ⟨_, rfl⟩
                    rw [← HAk.out, ← htt] at hn
                    have HN := Off.mk hn
                    have HTT := Off.mk htt
                    have hag : H.getD k (0, 0) = a := by rw [HAk.out]; unfold postAt; rw [Nat.mod_eq_of_lt hkl]
                    have HTK : Off (H.take (k + 1) = H.take k ++ [(a.1, a.2)]) := ⟨by
                      rw [List.take_succ_eq_append_getElem hkl, ← hag, List.getD_eq_getElem?_getD, List.getElem?_eq_getElem hkl]
                      rfl⟩
                    have HLn : Off ((H.take k).length ≤ 1000) := ⟨by rw [hlk]; have := HRH.out.2.2; omega⟩
                    have HLK := Off.mk hlk
                    by_cases hk0 : k = 0
                    · have hkb : ((k : Int) == 0) = true := by rw [hk0]; rfl
                      clear hk0 hag htt hn hlk hI1 H3 hkk
                      go_wp2
                      go_quiet (fail)
                      have hbc := below_drewN' (Below.refl wb.heap.size wb) nq
                      obtain ⟨wc, hwc⟩ : ∃ W : World, wb.drewN nq = W := ⟨_, rfl⟩
                      rw [hwc] at hbc ⊢
                      have HBNc := Off.mk (HBN.out.below hbc)
                      have HOc := Off.mk (ownQ_below HO.out hbc)
                      have HBc := Off.mk (belowC HB.out hbc)
                      have z0 := cellB hbc z0
                      have z1 := cellB hbc z1
                      clear hwc hbc HBN HO HB g0 g1
                      go_wp2_with (at_builtin; refine wpList_pair Try.underlying22 hi34 hz0 hz1 hz2 rfl rfl _ _ rfl (wo.heap.size + 1) _ _ a.1 a.2 HOc.out (by have := HBNc.out.lt; omega) HLn.out rfl rfl ?_)
                      intro v' wa hOa hba _
                      rw [← HTK.out] at hOa
                      have hNa : Box34 wa wo.heap.size a := by
                        unfold Box34
                        rw [hba.block _ (Nat.lt_succ_self _)]
                        exact HBNc.out
                      have hlk2 : (H.take (k + 1)).length = k + 1 := by have := HLK.out; rw [List.length_take] at this ⊢; omega
                      have HVX : Off (v'.ownBlock ≠ some wa.heap.size) := ⟨fun e => by have := (hOa.out.lt _ e).2; omega⟩
                      have HVN : Off (v'.ownBlock ≠ some wo.heap.size) := ⟨fun e => by have := ownQ_base hOa e; omega⟩
                      obtain ⟨A2, c2, rfl, _, _⟩ := ownQ_pairs hOa (by rw [hlk2]; have := HRH.out.2.2; omega)
                      rw [hlk2] at hOa HVX HVN ⊢
                      have hBwa := HBc.out.trans (hba.mono (show w.heap.size ≤ wo.heap.size + 1 by have := HNG.out; omega))
                      obtain ⟨⟨n0, n1⟩, _⟩ := hNa.facts
                      have hX : Box34 (wa.alloc (.cells #[.int .i64 a.1, .int .i64 a.2] 34)) wa.heap.size a := block_new wa _
                      have hB2 := belowA (Below.refl wa.heap.size wa) (.cells #[.int .i64 a.1, .int .i64 a.2] 34)
                      obtain ⟨W2, hW2⟩ : ∃ W2, wa.alloc (.cells #[.int .i64 a.1, .int .i64 a.2] 34) = W2 := ⟨_, rfl⟩
                      rw [hW2] at hX hB2
                      have HXX := Off.mk hX
                      have HN2 := Off.mk (hNa.below hB2)
                      have HO2 := Off.mk (ownQ_below hOa hB2)
                      have HBW2 := Off.mk (belowC hBwa hB2)
                      have HNX : Off (wo.heap.size ≠ wa.heap.size) := ⟨by have := hNa.lt; omega⟩
                      have HXG := Off.mk hBwa.size
                      clear hX hB2 hOa hba hNa hBwa hlk2 z0 z1 HBNc HOc HBc
                      go_wp2
                      go_loopw [12] (fun iv wi => ∃ (i : Nat) (y : Int × Int), i ≤ xs.length ∧ iv = .int .i64 i ∧ Off (Box34 wi wo.heap.size a) ∧ Off (Box34 wi wa.heap.size y) ∧ Off (OwnQ 34 wi (wo.heap.size + 1) (.slice A2 (k + 1) c2) (H.take (k + 1))) ∧ Off (Below w.heap.size w wi) ∧ Off (NextSo xs a t y i)) (fun iv _ => xs.length - (intOf iv).toNat)
                      case atStart => exact ⟨0, a, by omega, rfl, HN2, HXX, HO2, HBW2, ⟨⟨.inl rfl, fun ⟨j, hj, _⟩ => (by omega)⟩⟩⟩
                      case round =>
                        clear n0 n1 HXX HN2 HO2 HBW2
                        obtain ⟨i, y, hil, rfl, HBN, HBX, HOV, HBi, HNS⟩ := hrel
                        obtain ⟨wi, hwi⟩ : ∃ W : World, W = wr := ⟨_, rfl⟩
                        rw [← hwi] at HBN HBX HOV HBi ⊢
                        clear hwi
                        obtain ⟨⟨n0, n1⟩, g0, g1⟩ := HBN.out.facts
                        obtain ⟨⟨z0, z1⟩, f0, f1⟩ := HBX.out.facts
                        by_cases hlt : i < xs.length
                        · have hii : (i : Int) < (xs.length : Int) := by omega
                          have hiw : IntKind.i64.wrap ((i : Int) + 1) = (i : Int) + 1 := by rw [IntKind.wrap_i64]; omega
                          obtain ⟨ad', e, x0, x1⟩ := (HX.out.below HBi.out).cell i hlt
                          cases e
                          obtain ⟨p, hp⟩ : ∃ p, p = xs.getD i (0, 0) := ⟨_, rfl⟩
                          rw [← hp] at x0 x1
                          have ha5 := HI.out a HN.out.ma
                          have hp5 : inB 50 p := by rw [hp]; exact HI.out _ (getD_mem hlt)
                          have hy5 : inB 50 y := by
                            rcases HNS.out.1 with e | e
                            · rw [e]; exact ha5
                            · exact HI.out y e
                          obtain ⟨x, hx⟩ : ∃ x, x = crossR a y p := ⟨_, rfl⟩
                          have C1 : Off (∀ W, Calls Try.prog 43 #[ptV a, ptV y, ptV p] W fun e w' => e = .returned (.int .i64 x) ∧ Below W.heap.size W w') := ⟨fun W => by rw [hx]; exact crossR_any a y p (inB_mono ha5 (by decide)) (inB_mono hy5 (by decide)) (inB_mono hp5 (by decide)) W⟩
                          obtain ⟨b1, hb1⟩ : ∃ b, b = eqP p a := ⟨_, rfl⟩
                          obtain ⟨b2, hb2⟩ : ∃ b, b = eqP y a := ⟨_, rfl⟩
                          obtain ⟨b3, hb3⟩ : ∃ b, onR a p y = b := ⟨_, rfl⟩
                          have E1 : ∀ W, Sem.run Try.prog (Op.equalIn 10000 34 (.agg #[.int .i64 p.1, .int .i64 p.2]) (.agg #[.int .i64 a.1, .int .i64 a.2])) W = .ok b1 W := fun W => by rw [eq_pair, hb1]; rfl
                          have E2 : ∀ W, Sem.run Try.prog (Op.equalIn 10000 34 (.agg #[.int .i64 y.1, .int .i64 y.2]) (.agg #[.int .i64 a.1, .int .i64 a.2])) W = .ok b2 W := fun W => by rw [eq_pair, hb2]; rfl
                          have C2 : Off (∀ W, Calls Try.prog 50 #[ptV a, ptV p, ptV y] W fun e w' => e = .returned (.bool b3) ∧ Below W.heap.size W w') := ⟨fun W => onR_any a p y b3 hb3 (inB_mono ha5 (by decide)) (inB_mono hp5 (by decide)) (inB_mono hy5 (by decide)) W⟩
                          have HUB : Off (updB a y p = (!b1 && (b2 || (decide (x < 0) || (decide (x = 0) && b3))))) := ⟨by rw [hb1, hb2, ← hb3, hx]; rfl⟩
                          have HYNf : Off (updB a y p = false → NextSo xs a t y (i + 1)) := ⟨fun e => next_keep HN.out HNS.out hlt (by rw [← hp]; exact e)⟩
                          have HYUf : Off (updB a y p = true → NextSo xs a t p (i + 1)) := ⟨fun e => by rw [hp]; exact next_upd HN.out HNS.out hlt (by rw [← hp]; exact e)⟩
                          clear hp ha5 hp5 hy5 hx hb1 hb2 hb3 HNS g0 g1 f0 f1
                          go_wp2
                          have keepS : ∀ {u v : World}, Below u.heap.size u v → (fun u => ((u.cell? (ad.add (i * 2)) = some (.int .i64 p.1) ∧ u.cell? ⟨(ad.add (i * 2)).block, (ad.add (i * 2)).off + 1, none⟩ = some (.int .i64 p.2)) ∧ (u.cell? ⟨wo.heap.size, 0, none⟩ = some (.int .i64 a.1) ∧ u.cell? ⟨wo.heap.size, 1, none⟩ = some (.int .i64 a.2)) ∧ u.cell? ⟨wa.heap.size, 0, none⟩ = some (.int .i64 y.1) ∧ u.cell? ⟨wa.heap.size, 1, none⟩ = some (.int .i64 y.2)) ∧ Below wi.heap.size wi u) u → (fun u => ((u.cell? (ad.add (i * 2)) = some (.int .i64 p.1) ∧ u.cell? ⟨(ad.add (i * 2)).block, (ad.add (i * 2)).off + 1, none⟩ = some (.int .i64 p.2)) ∧ (u.cell? ⟨wo.heap.size, 0, none⟩ = some (.int .i64 a.1) ∧ u.cell? ⟨wo.heap.size, 1, none⟩ = some (.int .i64 a.2)) ∧ u.cell? ⟨wa.heap.size, 0, none⟩ = some (.int .i64 y.1) ∧ u.cell? ⟨wa.heap.size, 1, none⟩ = some (.int .i64 y.2)) ∧ Below wi.heap.size wi u) v := fun hb ⟨⟨⟨x0, x1⟩, ⟨y0, y1⟩, z0, z1⟩, hB⟩ => ⟨⟨⟨cellB hb x0, cellB hb x1⟩, ⟨cellB hb y0, cellB hb y1⟩, cellB hb z0, cellB hb z1⟩, belowC hB hb⟩
                          refine wp_region_held_drew (S := (fun u => ((u.cell? (ad.add (i * 2)) = some (.int .i64 p.1) ∧ u.cell? ⟨(ad.add (i * 2)).block, (ad.add (i * 2)).off + 1, none⟩ = some (.int .i64 p.2)) ∧ (u.cell? ⟨wo.heap.size, 0, none⟩ = some (.int .i64 a.1) ∧ u.cell? ⟨wo.heap.size, 1, none⟩ = some (.int .i64 a.2)) ∧ u.cell? ⟨wa.heap.size, 0, none⟩ = some (.int .i64 y.1) ∧ u.cell? ⟨wa.heap.size, 1, none⟩ = some (.int .i64 y.2)) ∧ Below wi.heap.size wi u)) (by kernel_rfl) ⟨⟨⟨x0, x1⟩, ⟨n0, n1⟩, z0, z1⟩, below_drew (Below.refl _ _)⟩ (fun hHeld => ?_)
                          refine wpAnyH_take (i := 0) (oi := ⟨some 98, _, _, _, _, _⟩) (v := ?_) rfl (by kernel_rfl) (by kernel_rfl) (by kernel_rfl) (fun _ _ _ h => h) (Or.inl ⟨by rfl, by intro w hSw; (try dsimp only at hSw); go_simp; try with_reducible rfl⟩) hHeld ?_
                          try simp only [Act.put, List.setIfInBounds_toArray, List.set_cons_zero, List.set_cons_succ]
                          refine wpAnyH_take (i := 1) (oi := ⟨some 99, _, _, _, _, _⟩) (v := ?_) rfl (by kernel_rfl) (by kernel_rfl) (by kernel_rfl) (fun _ _ _ h => h) (Or.inl ⟨by rfl, by intro w hSw; (try dsimp only at hSw); go_simp; try with_reducible rfl⟩) hHeld ?_
                          try simp only [Act.put, List.setIfInBounds_toArray, List.set_cons_zero, List.set_cons_succ]
                          refine wpAnyH_take (i := 2) (oi := ⟨some 100, _, _, _, _, _⟩) (v := ?_) rfl (by kernel_rfl) (by kernel_rfl) (by kernel_rfl) (fun _ _ _ h => h) (Or.inl ⟨by rfl, by intro w hSw; (try dsimp only at hSw); go_simp; try with_reducible rfl⟩) hHeld ?_
                          try simp only [Act.put, List.setIfInBounds_toArray, List.set_cons_zero, List.set_cons_succ]
                          refine wpAnyH_take (i := 3) (oi := ⟨some 101, _, _, _, _, _⟩) (v := ?_) rfl (by kernel_rfl) (by kernel_rfl) (by kernel_rfl) (fun _ _ _ h => h) (Or.inl ⟨by rfl, by intro w hSw; (try dsimp only at hSw); go_simp; try with_reducible rfl⟩) hHeld ?_
                          try simp only [Act.put, List.setIfInBounds_toArray, List.set_cons_zero, List.set_cons_succ]
                          refine wpAnyH_take (i := 4) (oi := ⟨some 102, _, _, _, _, _⟩) (v := ?_) rfl (by kernel_rfl) (by kernel_rfl) (by kernel_rfl) (fun _ _ _ h => h) (Or.inl ⟨by rfl, by intro w hSw; (try dsimp only at hSw); go_simp; try with_reducible rfl⟩) hHeld ?_
                          try simp only [Act.put, List.setIfInBounds_toArray, List.set_cons_zero, List.set_cons_succ]
                          refine wpAnyH_take (i := 5) (oi := ⟨some 103, _, _, _, _, _⟩) (v := ?_) rfl (by kernel_rfl) (by kernel_rfl) (by kernel_rfl) (fun _ _ _ h => h) (Or.inl ⟨by rfl, by intro w hSw; (try dsimp only at hSw); go_simp; try with_reducible rfl⟩) hHeld ?_
                          try simp only [Act.put, List.setIfInBounds_toArray, List.set_cons_zero, List.set_cons_succ]
                          refine wpAnyH_ready (rs := [6]) (by kernel_rfl) (by simp) ?_
                          refine AllReadyH.cons (o := ⟨some 104, _, _, _, _, _⟩) rfl (fun K hK => ?_) AllReadyH.nil
                          go_simp
                          refine (C1.out _).mono ?_
                          rintro e w3 ⟨rfl, hb3⟩
                          go_wp2_with fail
                          refine hK.out _ _ (keepS hb3 hHeld) (fun hHeld => ?_)
                          clear hK K
                          try simp only [Act.put, List.setIfInBounds_toArray, List.set_cons_zero, List.set_cons_succ]
                          refine wpAnyH_take (i := 7) (oi := ⟨some 13, _, _, _, _, _⟩) (v := ?_) rfl (by kernel_rfl) (by kernel_rfl) (by kernel_rfl) (fun _ _ _ h => h) (Or.inl ⟨by rfl, by intro w hSw; (try dsimp only at hSw); go_simp; try with_reducible rfl⟩) hHeld ?_
                          try simp only [Act.put, List.setIfInBounds_toArray, List.set_cons_zero, List.set_cons_succ]
                          refine wpAnyH_done (by kernel_rfl) ?_ _
                          have HF := Off.mk hHeld
                          clear hHeld keepS
                          obtain ⟨⟨⟨x0, x1⟩, ⟨n0, n1⟩, z0, z1⟩, _⟩ := HF.out
                          go_wp2
                          cases b1 with
                          | true =>
                            have HYN := Off.mk (HYNf.out (by rw [HUB.out]; rfl))
                            clear HUB HYNf HYUf
                            go_quiet (fail)
                            have hbv : Below w3.heap.size w3 (w3.drewN nq) := below_drewN' (Below.refl _ _) _
                            have HBW := Off.mk (belowC HF.out.2 hbv)
                            clear hbv
                            go_wp2
                            go_roundw
                            case rel => exact ⟨i + 1, y, by omega, by go_num, ⟨HBN.out.below HBW.out⟩, ⟨HBX.out.below HBW.out⟩, ⟨ownQ_below HOV.out HBW.out⟩, ⟨belowC HBi.out HBW.out⟩, HYN⟩
                            case measure => simp only [intOf]; omega
                          | false =>
                            cases b2 with
                            | true =>
                              have HYU := Off.mk (HYUf.out (by rw [HUB.out]; rfl))
                              clear HUB HYNf HYUf
                              go_quiet (fail)
                              have hbv : Below w3.heap.size w3 (w3.drewN nq) := below_drewN' (Below.refl _ _) _
                              have hbw := belowC HF.out.2 hbv
                              have hX := HBX.out.below hbw
                              obtain ⟨_, f0, f1⟩ := hX.facts
                              have x0 := cellB hbv x0
                              have x1 := cellB hbv x1
                              have z0 := cellB hbv z0
                              have z1 := cellB hbv z1
                              obtain ⟨hX2, hK2⟩ := hX.stored p
                              have HX2 := Off.mk hX2
                              have HN2 := Off.mk ((HBN.out.below hbw).keeps hK2 HNX.out)
                              have HO2 := Off.mk (ownQ_keeps2 (ownQ_below HOV.out hbw) hK2 HVX.out)
                              have HB2 := Off.mk (Keeps.below (belowC HBi.out hbw) hK2 (belowC HBi.out hbw).size HXG.out)
                              clear hbv hbw hX hX2 hK2 HBX HBN HOV
                              go_wp2
                              go_roundw
                              case rel => exact ⟨i + 1, p, by omega, by go_num, HN2, HX2, HO2, HB2, HYU⟩
                              case measure => simp only [intOf]; omega
                            | false =>
                              by_cases hx1 : x < 0
                              · have hd1 : decide (x < 0) = true := decide_eq_true hx1
                                have HYU := Off.mk (HYUf.out (by rw [HUB.out, hd1]; rfl))
                                clear HUB HYNf HYUf hx1
                                go_quiet (fail)
                                have hbv : Below w3.heap.size w3 (w3.drewN nq) := below_drewN' (Below.refl _ _) _
                                have hbw := belowC HF.out.2 hbv
                                have hX := HBX.out.below hbw
                                obtain ⟨_, f0, f1⟩ := hX.facts
                                have x0 := cellB hbv x0
                                have x1 := cellB hbv x1
                                have z0 := cellB hbv z0
                                have z1 := cellB hbv z1
                                obtain ⟨hX2, hK2⟩ := hX.stored p
                                have HX2 := Off.mk hX2
                                have HN2 := Off.mk ((HBN.out.below hbw).keeps hK2 HNX.out)
                                have HO2 := Off.mk (ownQ_keeps2 (ownQ_below HOV.out hbw) hK2 HVX.out)
                                have HB2 := Off.mk (Keeps.below (belowC HBi.out hbw) hK2 (belowC HBi.out hbw).size HXG.out)
                                clear hbv hbw hX hX2 hK2 HBX HBN HOV
                                go_wp2
                                go_roundw
                                case rel => exact ⟨i + 1, p, by omega, by go_num, HN2, HX2, HO2, HB2, HYU⟩
                                case measure => simp only [intOf]; omega
                              · have hd1 : decide (x < 0) = false := decide_eq_false hx1
                                by_cases hx2 : x = 0
                                · have hd2 : (x == 0) = true := by rw [hx2]; rfl
                                  have HUB2 : Off (updB a y p = b3) := ⟨by rw [HUB.out, hd1, decide_eq_true hx2]; simp⟩
                                  clear HUB hx1 hx2
                                  have keepS : ∀ {u v : World}, Below u.heap.size u v → (fun u => ((u.cell? (ad.add (i * 2)) = some (.int .i64 p.1) ∧ u.cell? ⟨(ad.add (i * 2)).block, (ad.add (i * 2)).off + 1, none⟩ = some (.int .i64 p.2)) ∧ (u.cell? ⟨wo.heap.size, 0, none⟩ = some (.int .i64 a.1) ∧ u.cell? ⟨wo.heap.size, 1, none⟩ = some (.int .i64 a.2)) ∧ u.cell? ⟨wa.heap.size, 0, none⟩ = some (.int .i64 y.1) ∧ u.cell? ⟨wa.heap.size, 1, none⟩ = some (.int .i64 y.2)) ∧ Below w3.heap.size w3 u) u → (fun u => ((u.cell? (ad.add (i * 2)) = some (.int .i64 p.1) ∧ u.cell? ⟨(ad.add (i * 2)).block, (ad.add (i * 2)).off + 1, none⟩ = some (.int .i64 p.2)) ∧ (u.cell? ⟨wo.heap.size, 0, none⟩ = some (.int .i64 a.1) ∧ u.cell? ⟨wo.heap.size, 1, none⟩ = some (.int .i64 a.2)) ∧ u.cell? ⟨wa.heap.size, 0, none⟩ = some (.int .i64 y.1) ∧ u.cell? ⟨wa.heap.size, 1, none⟩ = some (.int .i64 y.2)) ∧ Below w3.heap.size w3 u) v := fun hb ⟨⟨⟨x0, x1⟩, ⟨y0, y1⟩, z0, z1⟩, hB⟩ => ⟨⟨⟨cellB hb x0, cellB hb x1⟩, ⟨cellB hb y0, cellB hb y1⟩, cellB hb z0, cellB hb z1⟩, belowC hB hb⟩
                                  refine wp_region_held_drew (S := (fun u => ((u.cell? (ad.add (i * 2)) = some (.int .i64 p.1) ∧ u.cell? ⟨(ad.add (i * 2)).block, (ad.add (i * 2)).off + 1, none⟩ = some (.int .i64 p.2)) ∧ (u.cell? ⟨wo.heap.size, 0, none⟩ = some (.int .i64 a.1) ∧ u.cell? ⟨wo.heap.size, 1, none⟩ = some (.int .i64 a.2)) ∧ u.cell? ⟨wa.heap.size, 0, none⟩ = some (.int .i64 y.1) ∧ u.cell? ⟨wa.heap.size, 1, none⟩ = some (.int .i64 y.2)) ∧ Below w3.heap.size w3 u)) (by kernel_rfl) ⟨⟨⟨x0, x1⟩, ⟨n0, n1⟩, z0, z1⟩, below_drew (Below.refl _ _)⟩ (fun hHeld => ?_)
                                  refine wpAnyH_take (i := 0) (oi := ⟨some 105, _, _, _, _, _⟩) (v := ?_) rfl (by kernel_rfl) (by kernel_rfl) (by kernel_rfl) (fun _ _ _ h => h) (Or.inl ⟨by rfl, by intro w hSw; (try dsimp only at hSw); go_simp; try with_reducible rfl⟩) hHeld ?_
                                  try simp only [Act.put, List.setIfInBounds_toArray, List.set_cons_zero, List.set_cons_succ]
                                  refine wpAnyH_take (i := 1) (oi := ⟨some 106, _, _, _, _, _⟩) (v := ?_) rfl (by kernel_rfl) (by kernel_rfl) (by kernel_rfl) (fun _ _ _ h => h) (Or.inl ⟨by rfl, by intro w hSw; (try dsimp only at hSw); go_simp; try with_reducible rfl⟩) hHeld ?_
                                  try simp only [Act.put, List.setIfInBounds_toArray, List.set_cons_zero, List.set_cons_succ]
                                  refine wpAnyH_take (i := 2) (oi := ⟨some 107, _, _, _, _, _⟩) (v := ?_) rfl (by kernel_rfl) (by kernel_rfl) (by kernel_rfl) (fun _ _ _ h => h) (Or.inl ⟨by rfl, by intro w hSw; (try dsimp only at hSw); go_simp; try with_reducible rfl⟩) hHeld ?_
                                  try simp only [Act.put, List.setIfInBounds_toArray, List.set_cons_zero, List.set_cons_succ]
                                  refine wpAnyH_take (i := 3) (oi := ⟨some 108, _, _, _, _, _⟩) (v := ?_) rfl (by kernel_rfl) (by kernel_rfl) (by kernel_rfl) (fun _ _ _ h => h) (Or.inl ⟨by rfl, by intro w hSw; (try dsimp only at hSw); go_simp; try with_reducible rfl⟩) hHeld ?_
                                  try simp only [Act.put, List.setIfInBounds_toArray, List.set_cons_zero, List.set_cons_succ]
                                  refine wpAnyH_take (i := 4) (oi := ⟨some 109, _, _, _, _, _⟩) (v := ?_) rfl (by kernel_rfl) (by kernel_rfl) (by kernel_rfl) (fun _ _ _ h => h) (Or.inl ⟨by rfl, by intro w hSw; (try dsimp only at hSw); go_simp; try with_reducible rfl⟩) hHeld ?_
                                  try simp only [Act.put, List.setIfInBounds_toArray, List.set_cons_zero, List.set_cons_succ]
                                  refine wpAnyH_take (i := 5) (oi := ⟨some 110, _, _, _, _, _⟩) (v := ?_) rfl (by kernel_rfl) (by kernel_rfl) (by kernel_rfl) (fun _ _ _ h => h) (Or.inl ⟨by rfl, by intro w hSw; (try dsimp only at hSw); go_simp; try with_reducible rfl⟩) hHeld ?_
                                  try simp only [Act.put, List.setIfInBounds_toArray, List.set_cons_zero, List.set_cons_succ]
                                  refine wpAnyH_take (i := 6) (oi := ⟨some 111, _, _, _, _, _⟩) (v := ?_) rfl (by kernel_rfl) (by kernel_rfl) (by kernel_rfl) (fun _ _ _ h => h) (Or.inl ⟨by rfl, by intro w hSw; (try dsimp only at hSw); go_simp; try with_reducible rfl⟩) hHeld ?_
                                  try simp only [Act.put, List.setIfInBounds_toArray, List.set_cons_zero, List.set_cons_succ]
                                  refine wpAnyH_take (i := 7) (oi := ⟨some 112, _, _, _, _, _⟩) (v := ?_) rfl (by kernel_rfl) (by kernel_rfl) (by kernel_rfl) (fun _ _ _ h => h) (Or.inl ⟨by rfl, by intro w hSw; (try dsimp only at hSw); go_simp; try with_reducible rfl⟩) hHeld ?_
                                  try simp only [Act.put, List.setIfInBounds_toArray, List.set_cons_zero, List.set_cons_succ]
                                  refine wpAnyH_take (i := 8) (oi := ⟨some 113, _, _, _, _, _⟩) (v := ?_) rfl (by kernel_rfl) (by kernel_rfl) (by kernel_rfl) (fun _ _ _ h => h) (Or.inl ⟨by rfl, by intro w hSw; (try dsimp only at hSw); go_simp; try with_reducible rfl⟩) hHeld ?_
                                  try simp only [Act.put, List.setIfInBounds_toArray, List.set_cons_zero, List.set_cons_succ]
                                  refine wpAnyH_take (i := 9) (oi := ⟨some 114, _, _, _, _, _⟩) (v := ?_) rfl (by kernel_rfl) (by kernel_rfl) (by kernel_rfl) (fun _ _ _ h => h) (Or.inl ⟨by rfl, by intro w hSw; (try dsimp only at hSw); go_simp; try with_reducible rfl⟩) hHeld ?_
                                  try simp only [Act.put, List.setIfInBounds_toArray, List.set_cons_zero, List.set_cons_succ]
                                  refine wpAnyH_take (i := 10) (oi := ⟨some 115, _, _, _, _, _⟩) (v := ?_) rfl (by kernel_rfl) (by kernel_rfl) (by kernel_rfl) (fun _ _ _ h => h) (Or.inl ⟨by rfl, by intro w hSw; (try dsimp only at hSw); go_simp; try with_reducible rfl⟩) hHeld ?_
                                  try simp only [Act.put, List.setIfInBounds_toArray, List.set_cons_zero, List.set_cons_succ]
                                  refine wpAnyH_take (i := 11) (oi := ⟨some 116, _, _, _, _, _⟩) (v := ?_) rfl (by kernel_rfl) (by kernel_rfl) (by kernel_rfl) (fun _ _ _ h => h) (Or.inl ⟨by rfl, by intro w hSw; (try dsimp only at hSw); go_simp; try with_reducible rfl⟩) hHeld ?_
                                  try simp only [Act.put, List.setIfInBounds_toArray, List.set_cons_zero, List.set_cons_succ]
                                  refine wpAnyH_take (i := 12) (oi := ⟨some 117, _, _, _, _, _⟩) (v := ?_) rfl (by kernel_rfl) (by kernel_rfl) (by kernel_rfl) (fun _ _ _ h => h) (Or.inl ⟨by rfl, by intro w hSw; (try dsimp only at hSw); go_simp; try with_reducible rfl⟩) hHeld ?_
                                  try simp only [Act.put, List.setIfInBounds_toArray, List.set_cons_zero, List.set_cons_succ]
                                  refine wpAnyH_take (i := 13) (oi := ⟨some 118, _, _, _, _, _⟩) (v := ?_) rfl (by kernel_rfl) (by kernel_rfl) (by kernel_rfl) (fun _ _ _ h => h) (Or.inl ⟨by rfl, by intro w hSw; (try dsimp only at hSw); go_simp; try with_reducible rfl⟩) hHeld ?_
                                  try simp only [Act.put, List.setIfInBounds_toArray, List.set_cons_zero, List.set_cons_succ]
                                  refine wpAnyH_take (i := 14) (oi := ⟨some 119, _, _, _, _, _⟩) (v := ?_) rfl (by kernel_rfl) (by kernel_rfl) (by kernel_rfl) (fun _ _ _ h => h) (Or.inl ⟨by rfl, by intro w hSw; (try dsimp only at hSw); go_simp; try with_reducible rfl⟩) hHeld ?_
                                  try simp only [Act.put, List.setIfInBounds_toArray, List.set_cons_zero, List.set_cons_succ]
                                  refine wpAnyH_take (i := 15) (oi := ⟨some 120, _, _, _, _, _⟩) (v := ?_) rfl (by kernel_rfl) (by kernel_rfl) (by kernel_rfl) (fun _ _ _ h => h) (Or.inl ⟨by rfl, by intro w hSw; (try dsimp only at hSw); go_simp; try with_reducible rfl⟩) hHeld ?_
                                  try simp only [Act.put, List.setIfInBounds_toArray, List.set_cons_zero, List.set_cons_succ]
                                  refine wpAnyH_take (i := 16) (oi := ⟨some 121, _, _, _, _, _⟩) (v := ?_) rfl (by kernel_rfl) (by kernel_rfl) (by kernel_rfl) (fun _ _ _ h => h) (Or.inl ⟨by rfl, by intro w hSw; (try dsimp only at hSw); go_simp; try with_reducible rfl⟩) hHeld ?_
                                  try simp only [Act.put, List.setIfInBounds_toArray, List.set_cons_zero, List.set_cons_succ]
                                  refine wpAnyH_take (i := 17) (oi := ⟨some 122, _, _, _, _, _⟩) (v := ?_) rfl (by kernel_rfl) (by kernel_rfl) (by kernel_rfl) (fun _ _ _ h => h) (Or.inl ⟨by rfl, by intro w hSw; (try dsimp only at hSw); go_simp; try with_reducible rfl⟩) hHeld ?_
                                  try simp only [Act.put, List.setIfInBounds_toArray, List.set_cons_zero, List.set_cons_succ]
                                  refine wpAnyH_take (i := 18) (oi := ⟨some 123, _, _, _, _, _⟩) (v := ?_) rfl (by kernel_rfl) (by kernel_rfl) (by kernel_rfl) (fun _ _ _ h => h) (Or.inl ⟨by rfl, by intro w hSw; (try dsimp only at hSw); go_simp; try with_reducible rfl⟩) hHeld ?_
                                  try simp only [Act.put, List.setIfInBounds_toArray, List.set_cons_zero, List.set_cons_succ]
                                  refine wpAnyH_take (i := 19) (oi := ⟨some 124, _, _, _, _, _⟩) (v := ?_) rfl (by kernel_rfl) (by kernel_rfl) (by kernel_rfl) (fun _ _ _ h => h) (Or.inl ⟨by rfl, by intro w hSw; (try dsimp only at hSw); go_simp; try with_reducible rfl⟩) hHeld ?_
                                  try simp only [Act.put, List.setIfInBounds_toArray, List.set_cons_zero, List.set_cons_succ]
                                  refine wpAnyH_take (i := 20) (oi := ⟨some 125, _, _, _, _, _⟩) (v := ?_) rfl (by kernel_rfl) (by kernel_rfl) (by kernel_rfl) (fun _ _ _ h => h) (Or.inl ⟨by rfl, by intro w hSw; (try dsimp only at hSw); go_simp; try with_reducible rfl⟩) hHeld ?_
                                  try simp only [Act.put, List.setIfInBounds_toArray, List.set_cons_zero, List.set_cons_succ]
                                  refine wpAnyH_take (i := 21) (oi := ⟨some 126, _, _, _, _, _⟩) (v := ?_) rfl (by kernel_rfl) (by kernel_rfl) (by kernel_rfl) (fun _ _ _ h => h) (Or.inl ⟨by rfl, by intro w hSw; (try dsimp only at hSw); go_simp; try with_reducible rfl⟩) hHeld ?_
                                  try simp only [Act.put, List.setIfInBounds_toArray, List.set_cons_zero, List.set_cons_succ]
                                  refine wpAnyH_take (i := 22) (oi := ⟨some 127, _, _, _, _, _⟩) (v := ?_) rfl (by kernel_rfl) (by kernel_rfl) (by kernel_rfl) (fun _ _ _ h => h) (Or.inl ⟨by rfl, by intro w hSw; (try dsimp only at hSw); go_simp; try with_reducible rfl⟩) hHeld ?_
                                  try simp only [Act.put, List.setIfInBounds_toArray, List.set_cons_zero, List.set_cons_succ]
                                  refine wpAnyH_take (i := 23) (oi := ⟨some 128, _, _, _, _, _⟩) (v := ?_) rfl (by kernel_rfl) (by kernel_rfl) (by kernel_rfl) (fun _ _ _ h => h) (Or.inl ⟨by rfl, by intro w hSw; (try dsimp only at hSw); go_simp; try with_reducible rfl⟩) hHeld ?_
                                  try simp only [Act.put, List.setIfInBounds_toArray, List.set_cons_zero, List.set_cons_succ]
                                  refine wpAnyH_ready (rs := [24]) (by kernel_rfl) (by simp) ?_
                                  refine AllReadyH.cons (o := ⟨some 129, _, _, _, _, _⟩) rfl (fun K hK => ?_) AllReadyH.nil
                                  go_simp
                                  refine (C2.out _).mono ?_
                                  rintro e w5 ⟨rfl, hb5⟩
                                  go_wp2_with fail
                                  refine hK.out _ _ (keepS hb5 hHeld) (fun hHeld => ?_)
                                  clear hK K
                                  try simp only [Act.put, List.setIfInBounds_toArray, List.set_cons_zero, List.set_cons_succ]
                                  refine wpAnyH_take (i := 25) (oi := ⟨some 130, _, _, _, _, _⟩) (v := ?_) rfl (by kernel_rfl) (by kernel_rfl) (by kernel_rfl) (fun _ _ _ h => h) (Or.inl ⟨by rfl, by intro w hSw; (try dsimp only at hSw); go_simp; try with_reducible rfl⟩) hHeld ?_
                                  try simp only [Act.put, List.setIfInBounds_toArray, List.set_cons_zero, List.set_cons_succ]
                                  refine wpAnyH_take (i := 26) (oi := ⟨some 131, _, _, _, _, _⟩) (v := ?_) rfl (by kernel_rfl) (by kernel_rfl) (by kernel_rfl) (fun _ _ _ h => h) (Or.inl ⟨by rfl, by intro w hSw; (try dsimp only at hSw); go_simp; try with_reducible rfl⟩) hHeld ?_
                                  try simp only [Act.put, List.setIfInBounds_toArray, List.set_cons_zero, List.set_cons_succ]
                                  refine wpAnyH_take (i := 27) (oi := ⟨some 132, _, _, _, _, _⟩) (v := ?_) rfl (by kernel_rfl) (by kernel_rfl) (by kernel_rfl) (fun _ _ _ h => h) (Or.inl ⟨by rfl, by intro w hSw; (try dsimp only at hSw); go_simp; try with_reducible rfl⟩) hHeld ?_
                                  try simp only [Act.put, List.setIfInBounds_toArray, List.set_cons_zero, List.set_cons_succ]
                                  refine wpAnyH_done (by kernel_rfl) ?_ _
                                  have HBV := Off.mk hHeld.2
                                  clear hHeld keepS
                                  cases b3 with
                                  | true =>
                                    have HYU := Off.mk (HYUf.out HUB2.out)
                                    clear HUB2 HYNf HYUf
                                    have hbv : Below w3.heap.size w3 w5 := HBV.out
                                    have hbw := belowC HF.out.2 hbv
                                    have hX := HBX.out.below hbw
                                    obtain ⟨_, f0, f1⟩ := hX.facts
                                    have x0 := cellB hbv x0
                                    have x1 := cellB hbv x1
                                    have z0 := cellB hbv z0
                                    have z1 := cellB hbv z1
                                    obtain ⟨hX2, hK2⟩ := hX.stored p
                                    have HX2 := Off.mk hX2
                                    have HN2 := Off.mk ((HBN.out.below hbw).keeps hK2 HNX.out)
                                    have HO2 := Off.mk (ownQ_keeps2 (ownQ_below HOV.out hbw) hK2 HVX.out)
                                    have HB2 := Off.mk (Keeps.below (belowC HBi.out hbw) hK2 (belowC HBi.out hbw).size HXG.out)
                                    clear hbv hbw hX hX2 hK2 HBX HBN HOV
                                    go_wp2
                                    go_roundw
                                    case rel => exact ⟨i + 1, p, by omega, by go_num, HN2, HX2, HO2, HB2, HYU⟩
                                    case measure => simp only [intOf]; omega
                                  | false =>
                                    have HYN := Off.mk (HYNf.out HUB2.out)
                                    clear HUB2 HYNf HYUf
                                    have hbv : Below w3.heap.size w3 w5 := HBV.out
                                    have HBW := Off.mk (belowC HF.out.2 hbv)
                                    clear hbv
                                    go_wp2
                                    go_roundw
                                    case rel => exact ⟨i + 1, y, by omega, by go_num, ⟨HBN.out.below HBW.out⟩, ⟨HBX.out.below HBW.out⟩, ⟨ownQ_below HOV.out HBW.out⟩, ⟨belowC HBi.out HBW.out⟩, HYN⟩
                                    case measure => simp only [intOf]; omega
                                · have hd2 : (x == 0) = false := beq_eq_false_iff_ne.2 hx2
                                  have HYN := Off.mk (HYNf.out (by rw [HUB.out, hd1, decide_eq_false hx2]; simp))
                                  clear HUB HYNf HYUf hx1 hx2
                                  go_quiet (fail)
                                  have hbv : Below w3.heap.size w3 (w3.drewN nq) := below_drewN' (Below.refl _ _) _
                                  have HBW := Off.mk (belowC HF.out.2 hbv)
                                  clear hbv
                                  go_wp2
                                  go_roundw
                                  case rel => exact ⟨i + 1, y, by omega, by go_num, ⟨HBN.out.below HBW.out⟩, ⟨HBX.out.below HBW.out⟩, ⟨ownQ_below HOV.out HBW.out⟩, ⟨belowC HBi.out HBW.out⟩, HYN⟩
                                  case measure => simp only [intOf]; omega
                        · obtain rfl : i = xs.length := by omega
                          have hyt : y = t := next_done HN.out HNS.out
                          subst hyt
                          obtain ⟨h2, hk2⟩ := HBN.out.stored y
                          have HN3 := Off.mk h2
                          have HO3 := Off.mk (ownQ_keeps2 HOV.out hk2 HVN.out)
                          have HB3 := Off.mk (Keeps.below HBi.out hk2 HBi.out.size HNG.out)
                          clear h2 hk2 HNS
                          go_wp2
                          go_roundw
                          case rel => exact ⟨k + 1, y, by omega, HTT, HN3, HO3, HB3⟩
                          case measure => simp only [sliceLen]; omega
                    · have hkb : ((k : Int) == 0) = false := beq_eq_false_iff_ne.2 (by omega)
                      have hkp : (0 : Int) < (k : Int) := by omega
                      obtain ⟨a1, rfl, y0, y1⟩ := hI1.cell 0 (by rw [hlk]; omega)
                      rw [addr_zero] at y0 y1
                      obtain ⟨h0, hh0⟩ : ∃ h0, h0 = (H.take k).getD 0 (0, 0) := ⟨_, rfl⟩
                      rw [← hh0] at y0 y1
                      have hne : a ≠ h0 := fun e => by
                        have := HC.out.once k (by omega) hkl
                        rw [hag, e, hh0, List.getD_eq_getElem?_getD (l := H.take k), List.getElem?_take_of_lt (by omega), ← List.getD_eq_getElem?_getD] at this
                        exact Hu.Lt.irrefl this
                      have E1 : ∀ W, Sem.run Try.prog (Op.equalIn 10000 34 (.agg #[.int .i64 a.1, .int .i64 a.2]) (.agg #[.int .i64 h0.1, .int .i64 h0.2])) W = .ok false W := fun W => by
                        rw [eq_pair]
                        have : eqP a h0 = false := by rw [← Bool.not_eq_true, eqP_iff]; exact hne
                        unfold eqP at this
                        rw [this]
                      clear hk0 hag htt hn hlk hI1 H3 hkk hne hh0
                      go_wp2
                      go_quiet (fail)
                      have hbc := below_drewN' (Below.refl wb.heap.size wb) nq
                      obtain ⟨wc, hwc⟩ : ∃ W : World, wb.drewN nq = W := ⟨_, rfl⟩
                      rw [hwc] at hbc ⊢
                      have HBNc := Off.mk (HBN.out.below hbc)
                      have HOc := Off.mk (ownQ_below HO.out hbc)
                      have HBc := Off.mk (belowC HB.out hbc)
                      have z0 := cellB hbc z0
                      have z1 := cellB hbc z1
                      clear hwc hbc HBN HO HB g0 g1
                      go_wp2_with (at_builtin; refine wpList_pair Try.underlying22 hi34 hz0 hz1 hz2 rfl rfl _ _ rfl (wo.heap.size + 1) _ _ a.1 a.2 HOc.out (by have := HBNc.out.lt; omega) HLn.out rfl rfl ?_)
                      intro v' wa hOa hba _
                      rw [← HTK.out] at hOa
                      have hNa : Box34 wa wo.heap.size a := by
                        unfold Box34
                        rw [hba.block _ (Nat.lt_succ_self _)]
                        exact HBNc.out
                      have hlk2 : (H.take (k + 1)).length = k + 1 := by have := HLK.out; rw [List.length_take] at this ⊢; omega
                      have HVX : Off (v'.ownBlock ≠ some wa.heap.size) := ⟨fun e => by have := (hOa.out.lt _ e).2; omega⟩
                      have HVN : Off (v'.ownBlock ≠ some wo.heap.size) := ⟨fun e => by have := ownQ_base hOa e; omega⟩
                      obtain ⟨A2, c2, rfl, _, _⟩ := ownQ_pairs hOa (by rw [hlk2]; have := HRH.out.2.2; omega)
                      rw [hlk2] at hOa HVX HVN ⊢
                      have hBwa := HBc.out.trans (hba.mono (show w.heap.size ≤ wo.heap.size + 1 by have := HNG.out; omega))
                      obtain ⟨⟨n0, n1⟩, _⟩ := hNa.facts
                      have hX : Box34 (wa.alloc (.cells #[.int .i64 a.1, .int .i64 a.2] 34)) wa.heap.size a := block_new wa _
                      have hB2 := belowA (Below.refl wa.heap.size wa) (.cells #[.int .i64 a.1, .int .i64 a.2] 34)
                      obtain ⟨W2, hW2⟩ : ∃ W2, wa.alloc (.cells #[.int .i64 a.1, .int .i64 a.2] 34) = W2 := ⟨_, rfl⟩
                      rw [hW2] at hX hB2
                      have HXX := Off.mk hX
                      have HN2 := Off.mk (hNa.below hB2)
                      have HO2 := Off.mk (ownQ_below hOa hB2)
                      have HBW2 := Off.mk (belowC hBwa hB2)
                      have HNX : Off (wo.heap.size ≠ wa.heap.size) := ⟨by have := hNa.lt; omega⟩
                      have HXG := Off.mk hBwa.size
                      clear hX hB2 hOa hba hNa hBwa hlk2 z0 z1 HBNc HOc HBc
                      go_wp2
                      go_loopw [12] (fun iv wi => ∃ (i : Nat) (y : Int × Int), i ≤ xs.length ∧ iv = .int .i64 i ∧ Off (Box34 wi wo.heap.size a) ∧ Off (Box34 wi wa.heap.size y) ∧ Off (OwnQ 34 wi (wo.heap.size + 1) (.slice A2 (k + 1) c2) (H.take (k + 1))) ∧ Off (Below w.heap.size w wi) ∧ Off (NextSo xs a t y i)) (fun iv _ => xs.length - (intOf iv).toNat)
                      case atStart => exact ⟨0, a, by omega, rfl, HN2, HXX, HO2, HBW2, ⟨⟨.inl rfl, fun ⟨j, hj, _⟩ => (by omega)⟩⟩⟩
                      case round =>
                        clear n0 n1 HXX HN2 HO2 HBW2
                        obtain ⟨i, y, hil, rfl, HBN, HBX, HOV, HBi, HNS⟩ := hrel
                        obtain ⟨wi, hwi⟩ : ∃ W : World, W = wr := ⟨_, rfl⟩
                        rw [← hwi] at HBN HBX HOV HBi ⊢
                        clear hwi
                        obtain ⟨⟨n0, n1⟩, g0, g1⟩ := HBN.out.facts
                        obtain ⟨⟨z0, z1⟩, f0, f1⟩ := HBX.out.facts
                        by_cases hlt : i < xs.length
                        · have hii : (i : Int) < (xs.length : Int) := by omega
                          have hiw : IntKind.i64.wrap ((i : Int) + 1) = (i : Int) + 1 := by rw [IntKind.wrap_i64]; omega
                          obtain ⟨ad', e, x0, x1⟩ := (HX.out.below HBi.out).cell i hlt
                          cases e
                          obtain ⟨p, hp⟩ : ∃ p, p = xs.getD i (0, 0) := ⟨_, rfl⟩
                          rw [← hp] at x0 x1
                          have ha5 := HI.out a HN.out.ma
                          have hp5 : inB 50 p := by rw [hp]; exact HI.out _ (getD_mem hlt)
                          have hy5 : inB 50 y := by
                            rcases HNS.out.1 with e | e
                            · rw [e]; exact ha5
                            · exact HI.out y e
                          obtain ⟨x, hx⟩ : ∃ x, x = crossR a y p := ⟨_, rfl⟩
                          have C1 : Off (∀ W, Calls Try.prog 43 #[ptV a, ptV y, ptV p] W fun e w' => e = .returned (.int .i64 x) ∧ Below W.heap.size W w') := ⟨fun W => by rw [hx]; exact crossR_any a y p (inB_mono ha5 (by decide)) (inB_mono hy5 (by decide)) (inB_mono hp5 (by decide)) W⟩
                          obtain ⟨b1, hb1⟩ : ∃ b, b = eqP p a := ⟨_, rfl⟩
                          obtain ⟨b2, hb2⟩ : ∃ b, b = eqP y a := ⟨_, rfl⟩
                          obtain ⟨b3, hb3⟩ : ∃ b, onR a p y = b := ⟨_, rfl⟩
                          have E1 : ∀ W, Sem.run Try.prog (Op.equalIn 10000 34 (.agg #[.int .i64 p.1, .int .i64 p.2]) (.agg #[.int .i64 a.1, .int .i64 a.2])) W = .ok b1 W := fun W => by rw [eq_pair, hb1]; rfl
                          have E2 : ∀ W, Sem.run Try.prog (Op.equalIn 10000 34 (.agg #[.int .i64 y.1, .int .i64 y.2]) (.agg #[.int .i64 a.1, .int .i64 a.2])) W = .ok b2 W := fun W => by rw [eq_pair, hb2]; rfl
                          have C2 : Off (∀ W, Calls Try.prog 50 #[ptV a, ptV p, ptV y] W fun e w' => e = .returned (.bool b3) ∧ Below W.heap.size W w') := ⟨fun W => onR_any a p y b3 hb3 (inB_mono ha5 (by decide)) (inB_mono hp5 (by decide)) (inB_mono hy5 (by decide)) W⟩
                          have HUB : Off (updB a y p = (!b1 && (b2 || (decide (x < 0) || (decide (x = 0) && b3))))) := ⟨by rw [hb1, hb2, ← hb3, hx]; rfl⟩
                          have HYNf : Off (updB a y p = false → NextSo xs a t y (i + 1)) := ⟨fun e => next_keep HN.out HNS.out hlt (by rw [← hp]; exact e)⟩
                          have HYUf : Off (updB a y p = true → NextSo xs a t p (i + 1)) := ⟨fun e => by rw [hp]; exact next_upd HN.out HNS.out hlt (by rw [← hp]; exact e)⟩
                          clear hp ha5 hp5 hy5 hx hb1 hb2 hb3 HNS g0 g1 f0 f1
                          go_wp2
                          have keepS : ∀ {u v : World}, Below u.heap.size u v → (fun u => ((u.cell? (ad.add (i * 2)) = some (.int .i64 p.1) ∧ u.cell? ⟨(ad.add (i * 2)).block, (ad.add (i * 2)).off + 1, none⟩ = some (.int .i64 p.2)) ∧ (u.cell? ⟨wo.heap.size, 0, none⟩ = some (.int .i64 a.1) ∧ u.cell? ⟨wo.heap.size, 1, none⟩ = some (.int .i64 a.2)) ∧ u.cell? ⟨wa.heap.size, 0, none⟩ = some (.int .i64 y.1) ∧ u.cell? ⟨wa.heap.size, 1, none⟩ = some (.int .i64 y.2)) ∧ Below wi.heap.size wi u) u → (fun u => ((u.cell? (ad.add (i * 2)) = some (.int .i64 p.1) ∧ u.cell? ⟨(ad.add (i * 2)).block, (ad.add (i * 2)).off + 1, none⟩ = some (.int .i64 p.2)) ∧ (u.cell? ⟨wo.heap.size, 0, none⟩ = some (.int .i64 a.1) ∧ u.cell? ⟨wo.heap.size, 1, none⟩ = some (.int .i64 a.2)) ∧ u.cell? ⟨wa.heap.size, 0, none⟩ = some (.int .i64 y.1) ∧ u.cell? ⟨wa.heap.size, 1, none⟩ = some (.int .i64 y.2)) ∧ Below wi.heap.size wi u) v := fun hb ⟨⟨⟨x0, x1⟩, ⟨y0, y1⟩, z0, z1⟩, hB⟩ => ⟨⟨⟨cellB hb x0, cellB hb x1⟩, ⟨cellB hb y0, cellB hb y1⟩, cellB hb z0, cellB hb z1⟩, belowC hB hb⟩
                          refine wp_region_held_drew (S := (fun u => ((u.cell? (ad.add (i * 2)) = some (.int .i64 p.1) ∧ u.cell? ⟨(ad.add (i * 2)).block, (ad.add (i * 2)).off + 1, none⟩ = some (.int .i64 p.2)) ∧ (u.cell? ⟨wo.heap.size, 0, none⟩ = some (.int .i64 a.1) ∧ u.cell? ⟨wo.heap.size, 1, none⟩ = some (.int .i64 a.2)) ∧ u.cell? ⟨wa.heap.size, 0, none⟩ = some (.int .i64 y.1) ∧ u.cell? ⟨wa.heap.size, 1, none⟩ = some (.int .i64 y.2)) ∧ Below wi.heap.size wi u)) (by kernel_rfl) ⟨⟨⟨x0, x1⟩, ⟨n0, n1⟩, z0, z1⟩, below_drew (Below.refl _ _)⟩ (fun hHeld => ?_)
                          refine wpAnyH_take (i := 0) (oi := ⟨some 98, _, _, _, _, _⟩) (v := ?_) rfl (by kernel_rfl) (by kernel_rfl) (by kernel_rfl) (fun _ _ _ h => h) (Or.inl ⟨by rfl, by intro w hSw; (try dsimp only at hSw); go_simp; try with_reducible rfl⟩) hHeld ?_
                          try simp only [Act.put, List.setIfInBounds_toArray, List.set_cons_zero, List.set_cons_succ]
                          refine wpAnyH_take (i := 1) (oi := ⟨some 99, _, _, _, _, _⟩) (v := ?_) rfl (by kernel_rfl) (by kernel_rfl) (by kernel_rfl) (fun _ _ _ h => h) (Or.inl ⟨by rfl, by intro w hSw; (try dsimp only at hSw); go_simp; try with_reducible rfl⟩) hHeld ?_
                          try simp only [Act.put, List.setIfInBounds_toArray, List.set_cons_zero, List.set_cons_succ]
                          refine wpAnyH_take (i := 2) (oi := ⟨some 100, _, _, _, _, _⟩) (v := ?_) rfl (by kernel_rfl) (by kernel_rfl) (by kernel_rfl) (fun _ _ _ h => h) (Or.inl ⟨by rfl, by intro w hSw; (try dsimp only at hSw); go_simp; try with_reducible rfl⟩) hHeld ?_
                          try simp only [Act.put, List.setIfInBounds_toArray, List.set_cons_zero, List.set_cons_succ]
                          refine wpAnyH_take (i := 3) (oi := ⟨some 101, _, _, _, _, _⟩) (v := ?_) rfl (by kernel_rfl) (by kernel_rfl) (by kernel_rfl) (fun _ _ _ h => h) (Or.inl ⟨by rfl, by intro w hSw; (try dsimp only at hSw); go_simp; try with_reducible rfl⟩) hHeld ?_
                          try simp only [Act.put, List.setIfInBounds_toArray, List.set_cons_zero, List.set_cons_succ]
                          refine wpAnyH_take (i := 4) (oi := ⟨some 102, _, _, _, _, _⟩) (v := ?_) rfl (by kernel_rfl) (by kernel_rfl) (by kernel_rfl) (fun _ _ _ h => h) (Or.inl ⟨by rfl, by intro w hSw; (try dsimp only at hSw); go_simp; try with_reducible rfl⟩) hHeld ?_
                          try simp only [Act.put, List.setIfInBounds_toArray, List.set_cons_zero, List.set_cons_succ]
                          refine wpAnyH_take (i := 5) (oi := ⟨some 103, _, _, _, _, _⟩) (v := ?_) rfl (by kernel_rfl) (by kernel_rfl) (by kernel_rfl) (fun _ _ _ h => h) (Or.inl ⟨by rfl, by intro w hSw; (try dsimp only at hSw); go_simp; try with_reducible rfl⟩) hHeld ?_
                          try simp only [Act.put, List.setIfInBounds_toArray, List.set_cons_zero, List.set_cons_succ]
                          refine wpAnyH_ready (rs := [6]) (by kernel_rfl) (by simp) ?_
                          refine AllReadyH.cons (o := ⟨some 104, _, _, _, _, _⟩) rfl (fun K hK => ?_) AllReadyH.nil
                          go_simp
                          refine (C1.out _).mono ?_
                          rintro e w3 ⟨rfl, hb3⟩
                          go_wp2_with fail
                          refine hK.out _ _ (keepS hb3 hHeld) (fun hHeld => ?_)
                          clear hK K
                          try simp only [Act.put, List.setIfInBounds_toArray, List.set_cons_zero, List.set_cons_succ]
                          refine wpAnyH_take (i := 7) (oi := ⟨some 13, _, _, _, _, _⟩) (v := ?_) rfl (by kernel_rfl) (by kernel_rfl) (by kernel_rfl) (fun _ _ _ h => h) (Or.inl ⟨by rfl, by intro w hSw; (try dsimp only at hSw); go_simp; try with_reducible rfl⟩) hHeld ?_
                          try simp only [Act.put, List.setIfInBounds_toArray, List.set_cons_zero, List.set_cons_succ]
                          refine wpAnyH_done (by kernel_rfl) ?_ _
                          have HF := Off.mk hHeld
                          clear hHeld keepS
                          obtain ⟨⟨⟨x0, x1⟩, ⟨n0, n1⟩, z0, z1⟩, _⟩ := HF.out
                          go_wp2
                          cases b1 with
                          | true =>
                            have HYN := Off.mk (HYNf.out (by rw [HUB.out]; rfl))
                            clear HUB HYNf HYUf
                            go_quiet (fail)
                            have hbv : Below w3.heap.size w3 (w3.drewN nq) := below_drewN' (Below.refl _ _) _
                            have HBW := Off.mk (belowC HF.out.2 hbv)
                            clear hbv
                            go_wp2
                            go_roundw
                            case rel => exact ⟨i + 1, y, by omega, by go_num, ⟨HBN.out.below HBW.out⟩, ⟨HBX.out.below HBW.out⟩, ⟨ownQ_below HOV.out HBW.out⟩, ⟨belowC HBi.out HBW.out⟩, HYN⟩
                            case measure => simp only [intOf]; omega
                          | false =>
                            cases b2 with
                            | true =>
                              have HYU := Off.mk (HYUf.out (by rw [HUB.out]; rfl))
                              clear HUB HYNf HYUf
                              go_quiet (fail)
                              have hbv : Below w3.heap.size w3 (w3.drewN nq) := below_drewN' (Below.refl _ _) _
                              have hbw := belowC HF.out.2 hbv
                              have hX := HBX.out.below hbw
                              obtain ⟨_, f0, f1⟩ := hX.facts
                              have x0 := cellB hbv x0
                              have x1 := cellB hbv x1
                              have z0 := cellB hbv z0
                              have z1 := cellB hbv z1
                              obtain ⟨hX2, hK2⟩ := hX.stored p
                              have HX2 := Off.mk hX2
                              have HN2 := Off.mk ((HBN.out.below hbw).keeps hK2 HNX.out)
                              have HO2 := Off.mk (ownQ_keeps2 (ownQ_below HOV.out hbw) hK2 HVX.out)
                              have HB2 := Off.mk (Keeps.below (belowC HBi.out hbw) hK2 (belowC HBi.out hbw).size HXG.out)
                              clear hbv hbw hX hX2 hK2 HBX HBN HOV
                              go_wp2
                              go_roundw
                              case rel => exact ⟨i + 1, p, by omega, by go_num, HN2, HX2, HO2, HB2, HYU⟩
                              case measure => simp only [intOf]; omega
                            | false =>
                              by_cases hx1 : x < 0
                              · have hd1 : decide (x < 0) = true := decide_eq_true hx1
                                have HYU := Off.mk (HYUf.out (by rw [HUB.out, hd1]; rfl))
                                clear HUB HYNf HYUf hx1
                                go_quiet (fail)
                                have hbv : Below w3.heap.size w3 (w3.drewN nq) := below_drewN' (Below.refl _ _) _
                                have hbw := belowC HF.out.2 hbv
                                have hX := HBX.out.below hbw
                                obtain ⟨_, f0, f1⟩ := hX.facts
                                have x0 := cellB hbv x0
                                have x1 := cellB hbv x1
                                have z0 := cellB hbv z0
                                have z1 := cellB hbv z1
                                obtain ⟨hX2, hK2⟩ := hX.stored p
                                have HX2 := Off.mk hX2
                                have HN2 := Off.mk ((HBN.out.below hbw).keeps hK2 HNX.out)
                                have HO2 := Off.mk (ownQ_keeps2 (ownQ_below HOV.out hbw) hK2 HVX.out)
                                have HB2 := Off.mk (Keeps.below (belowC HBi.out hbw) hK2 (belowC HBi.out hbw).size HXG.out)
                                clear hbv hbw hX hX2 hK2 HBX HBN HOV
                                go_wp2
                                go_roundw
                                case rel => exact ⟨i + 1, p, by omega, by go_num, HN2, HX2, HO2, HB2, HYU⟩
                                case measure => simp only [intOf]; omega
                              · have hd1 : decide (x < 0) = false := decide_eq_false hx1
                                by_cases hx2 : x = 0
                                · have hd2 : (x == 0) = true := by rw [hx2]; rfl
                                  have HUB2 : Off (updB a y p = b3) := ⟨by rw [HUB.out, hd1, decide_eq_true hx2]; simp⟩
                                  clear HUB hx1 hx2
                                  have keepS : ∀ {u v : World}, Below u.heap.size u v → (fun u => ((u.cell? (ad.add (i * 2)) = some (.int .i64 p.1) ∧ u.cell? ⟨(ad.add (i * 2)).block, (ad.add (i * 2)).off + 1, none⟩ = some (.int .i64 p.2)) ∧ (u.cell? ⟨wo.heap.size, 0, none⟩ = some (.int .i64 a.1) ∧ u.cell? ⟨wo.heap.size, 1, none⟩ = some (.int .i64 a.2)) ∧ u.cell? ⟨wa.heap.size, 0, none⟩ = some (.int .i64 y.1) ∧ u.cell? ⟨wa.heap.size, 1, none⟩ = some (.int .i64 y.2)) ∧ Below w3.heap.size w3 u) u → (fun u => ((u.cell? (ad.add (i * 2)) = some (.int .i64 p.1) ∧ u.cell? ⟨(ad.add (i * 2)).block, (ad.add (i * 2)).off + 1, none⟩ = some (.int .i64 p.2)) ∧ (u.cell? ⟨wo.heap.size, 0, none⟩ = some (.int .i64 a.1) ∧ u.cell? ⟨wo.heap.size, 1, none⟩ = some (.int .i64 a.2)) ∧ u.cell? ⟨wa.heap.size, 0, none⟩ = some (.int .i64 y.1) ∧ u.cell? ⟨wa.heap.size, 1, none⟩ = some (.int .i64 y.2)) ∧ Below w3.heap.size w3 u) v := fun hb ⟨⟨⟨x0, x1⟩, ⟨y0, y1⟩, z0, z1⟩, hB⟩ => ⟨⟨⟨cellB hb x0, cellB hb x1⟩, ⟨cellB hb y0, cellB hb y1⟩, cellB hb z0, cellB hb z1⟩, belowC hB hb⟩
                                  refine wp_region_held_drew (S := (fun u => ((u.cell? (ad.add (i * 2)) = some (.int .i64 p.1) ∧ u.cell? ⟨(ad.add (i * 2)).block, (ad.add (i * 2)).off + 1, none⟩ = some (.int .i64 p.2)) ∧ (u.cell? ⟨wo.heap.size, 0, none⟩ = some (.int .i64 a.1) ∧ u.cell? ⟨wo.heap.size, 1, none⟩ = some (.int .i64 a.2)) ∧ u.cell? ⟨wa.heap.size, 0, none⟩ = some (.int .i64 y.1) ∧ u.cell? ⟨wa.heap.size, 1, none⟩ = some (.int .i64 y.2)) ∧ Below w3.heap.size w3 u)) (by kernel_rfl) ⟨⟨⟨x0, x1⟩, ⟨n0, n1⟩, z0, z1⟩, below_drew (Below.refl _ _)⟩ (fun hHeld => ?_)
                                  refine wpAnyH_take (i := 0) (oi := ⟨some 105, _, _, _, _, _⟩) (v := ?_) rfl (by kernel_rfl) (by kernel_rfl) (by kernel_rfl) (fun _ _ _ h => h) (Or.inl ⟨by rfl, by intro w hSw; (try dsimp only at hSw); go_simp; try with_reducible rfl⟩) hHeld ?_
                                  try simp only [Act.put, List.setIfInBounds_toArray, List.set_cons_zero, List.set_cons_succ]
                                  refine wpAnyH_take (i := 1) (oi := ⟨some 106, _, _, _, _, _⟩) (v := ?_) rfl (by kernel_rfl) (by kernel_rfl) (by kernel_rfl) (fun _ _ _ h => h) (Or.inl ⟨by rfl, by intro w hSw; (try dsimp only at hSw); go_simp; try with_reducible rfl⟩) hHeld ?_
                                  try simp only [Act.put, List.setIfInBounds_toArray, List.set_cons_zero, List.set_cons_succ]
                                  refine wpAnyH_take (i := 2) (oi := ⟨some 107, _, _, _, _, _⟩) (v := ?_) rfl (by kernel_rfl) (by kernel_rfl) (by kernel_rfl) (fun _ _ _ h => h) (Or.inl ⟨by rfl, by intro w hSw; (try dsimp only at hSw); go_simp; try with_reducible rfl⟩) hHeld ?_
                                  try simp only [Act.put, List.setIfInBounds_toArray, List.set_cons_zero, List.set_cons_succ]
                                  refine wpAnyH_take (i := 3) (oi := ⟨some 108, _, _, _, _, _⟩) (v := ?_) rfl (by kernel_rfl) (by kernel_rfl) (by kernel_rfl) (fun _ _ _ h => h) (Or.inl ⟨by rfl, by intro w hSw; (try dsimp only at hSw); go_simp; try with_reducible rfl⟩) hHeld ?_
                                  try simp only [Act.put, List.setIfInBounds_toArray, List.set_cons_zero, List.set_cons_succ]
                                  refine wpAnyH_take (i := 4) (oi := ⟨some 109, _, _, _, _, _⟩) (v := ?_) rfl (by kernel_rfl) (by kernel_rfl) (by kernel_rfl) (fun _ _ _ h => h) (Or.inl ⟨by rfl, by intro w hSw; (try dsimp only at hSw); go_simp; try with_reducible rfl⟩) hHeld ?_
                                  try simp only [Act.put, List.setIfInBounds_toArray, List.set_cons_zero, List.set_cons_succ]
                                  refine wpAnyH_take (i := 5) (oi := ⟨some 110, _, _, _, _, _⟩) (v := ?_) rfl (by kernel_rfl) (by kernel_rfl) (by kernel_rfl) (fun _ _ _ h => h) (Or.inl ⟨by rfl, by intro w hSw; (try dsimp only at hSw); go_simp; try with_reducible rfl⟩) hHeld ?_
                                  try simp only [Act.put, List.setIfInBounds_toArray, List.set_cons_zero, List.set_cons_succ]
                                  refine wpAnyH_take (i := 6) (oi := ⟨some 111, _, _, _, _, _⟩) (v := ?_) rfl (by kernel_rfl) (by kernel_rfl) (by kernel_rfl) (fun _ _ _ h => h) (Or.inl ⟨by rfl, by intro w hSw; (try dsimp only at hSw); go_simp; try with_reducible rfl⟩) hHeld ?_
                                  try simp only [Act.put, List.setIfInBounds_toArray, List.set_cons_zero, List.set_cons_succ]
                                  refine wpAnyH_take (i := 7) (oi := ⟨some 112, _, _, _, _, _⟩) (v := ?_) rfl (by kernel_rfl) (by kernel_rfl) (by kernel_rfl) (fun _ _ _ h => h) (Or.inl ⟨by rfl, by intro w hSw; (try dsimp only at hSw); go_simp; try with_reducible rfl⟩) hHeld ?_
                                  try simp only [Act.put, List.setIfInBounds_toArray, List.set_cons_zero, List.set_cons_succ]
                                  refine wpAnyH_take (i := 8) (oi := ⟨some 113, _, _, _, _, _⟩) (v := ?_) rfl (by kernel_rfl) (by kernel_rfl) (by kernel_rfl) (fun _ _ _ h => h) (Or.inl ⟨by rfl, by intro w hSw; (try dsimp only at hSw); go_simp; try with_reducible rfl⟩) hHeld ?_
                                  try simp only [Act.put, List.setIfInBounds_toArray, List.set_cons_zero, List.set_cons_succ]
                                  refine wpAnyH_take (i := 9) (oi := ⟨some 114, _, _, _, _, _⟩) (v := ?_) rfl (by kernel_rfl) (by kernel_rfl) (by kernel_rfl) (fun _ _ _ h => h) (Or.inl ⟨by rfl, by intro w hSw; (try dsimp only at hSw); go_simp; try with_reducible rfl⟩) hHeld ?_
                                  try simp only [Act.put, List.setIfInBounds_toArray, List.set_cons_zero, List.set_cons_succ]
                                  refine wpAnyH_take (i := 10) (oi := ⟨some 115, _, _, _, _, _⟩) (v := ?_) rfl (by kernel_rfl) (by kernel_rfl) (by kernel_rfl) (fun _ _ _ h => h) (Or.inl ⟨by rfl, by intro w hSw; (try dsimp only at hSw); go_simp; try with_reducible rfl⟩) hHeld ?_
                                  try simp only [Act.put, List.setIfInBounds_toArray, List.set_cons_zero, List.set_cons_succ]
                                  refine wpAnyH_take (i := 11) (oi := ⟨some 116, _, _, _, _, _⟩) (v := ?_) rfl (by kernel_rfl) (by kernel_rfl) (by kernel_rfl) (fun _ _ _ h => h) (Or.inl ⟨by rfl, by intro w hSw; (try dsimp only at hSw); go_simp; try with_reducible rfl⟩) hHeld ?_
                                  try simp only [Act.put, List.setIfInBounds_toArray, List.set_cons_zero, List.set_cons_succ]
                                  refine wpAnyH_take (i := 12) (oi := ⟨some 117, _, _, _, _, _⟩) (v := ?_) rfl (by kernel_rfl) (by kernel_rfl) (by kernel_rfl) (fun _ _ _ h => h) (Or.inl ⟨by rfl, by intro w hSw; (try dsimp only at hSw); go_simp; try with_reducible rfl⟩) hHeld ?_
                                  try simp only [Act.put, List.setIfInBounds_toArray, List.set_cons_zero, List.set_cons_succ]
                                  refine wpAnyH_take (i := 13) (oi := ⟨some 118, _, _, _, _, _⟩) (v := ?_) rfl (by kernel_rfl) (by kernel_rfl) (by kernel_rfl) (fun _ _ _ h => h) (Or.inl ⟨by rfl, by intro w hSw; (try dsimp only at hSw); go_simp; try with_reducible rfl⟩) hHeld ?_
                                  try simp only [Act.put, List.setIfInBounds_toArray, List.set_cons_zero, List.set_cons_succ]
                                  refine wpAnyH_take (i := 14) (oi := ⟨some 119, _, _, _, _, _⟩) (v := ?_) rfl (by kernel_rfl) (by kernel_rfl) (by kernel_rfl) (fun _ _ _ h => h) (Or.inl ⟨by rfl, by intro w hSw; (try dsimp only at hSw); go_simp; try with_reducible rfl⟩) hHeld ?_
                                  try simp only [Act.put, List.setIfInBounds_toArray, List.set_cons_zero, List.set_cons_succ]
                                  refine wpAnyH_take (i := 15) (oi := ⟨some 120, _, _, _, _, _⟩) (v := ?_) rfl (by kernel_rfl) (by kernel_rfl) (by kernel_rfl) (fun _ _ _ h => h) (Or.inl ⟨by rfl, by intro w hSw; (try dsimp only at hSw); go_simp; try with_reducible rfl⟩) hHeld ?_
                                  try simp only [Act.put, List.setIfInBounds_toArray, List.set_cons_zero, List.set_cons_succ]
                                  refine wpAnyH_take (i := 16) (oi := ⟨some 121, _, _, _, _, _⟩) (v := ?_) rfl (by kernel_rfl) (by kernel_rfl) (by kernel_rfl) (fun _ _ _ h => h) (Or.inl ⟨by rfl, by intro w hSw; (try dsimp only at hSw); go_simp; try with_reducible rfl⟩) hHeld ?_
                                  try simp only [Act.put, List.setIfInBounds_toArray, List.set_cons_zero, List.set_cons_succ]
                                  refine wpAnyH_take (i := 17) (oi := ⟨some 122, _, _, _, _, _⟩) (v := ?_) rfl (by kernel_rfl) (by kernel_rfl) (by kernel_rfl) (fun _ _ _ h => h) (Or.inl ⟨by rfl, by intro w hSw; (try dsimp only at hSw); go_simp; try with_reducible rfl⟩) hHeld ?_
                                  try simp only [Act.put, List.setIfInBounds_toArray, List.set_cons_zero, List.set_cons_succ]
                                  refine wpAnyH_take (i := 18) (oi := ⟨some 123, _, _, _, _, _⟩) (v := ?_) rfl (by kernel_rfl) (by kernel_rfl) (by kernel_rfl) (fun _ _ _ h => h) (Or.inl ⟨by rfl, by intro w hSw; (try dsimp only at hSw); go_simp; try with_reducible rfl⟩) hHeld ?_
                                  try simp only [Act.put, List.setIfInBounds_toArray, List.set_cons_zero, List.set_cons_succ]
                                  refine wpAnyH_take (i := 19) (oi := ⟨some 124, _, _, _, _, _⟩) (v := ?_) rfl (by kernel_rfl) (by kernel_rfl) (by kernel_rfl) (fun _ _ _ h => h) (Or.inl ⟨by rfl, by intro w hSw; (try dsimp only at hSw); go_simp; try with_reducible rfl⟩) hHeld ?_
                                  try simp only [Act.put, List.setIfInBounds_toArray, List.set_cons_zero, List.set_cons_succ]
                                  refine wpAnyH_take (i := 20) (oi := ⟨some 125, _, _, _, _, _⟩) (v := ?_) rfl (by kernel_rfl) (by kernel_rfl) (by kernel_rfl) (fun _ _ _ h => h) (Or.inl ⟨by rfl, by intro w hSw; (try dsimp only at hSw); go_simp; try with_reducible rfl⟩) hHeld ?_
                                  try simp only [Act.put, List.setIfInBounds_toArray, List.set_cons_zero, List.set_cons_succ]
                                  refine wpAnyH_take (i := 21) (oi := ⟨some 126, _, _, _, _, _⟩) (v := ?_) rfl (by kernel_rfl) (by kernel_rfl) (by kernel_rfl) (fun _ _ _ h => h) (Or.inl ⟨by rfl, by intro w hSw; (try dsimp only at hSw); go_simp; try with_reducible rfl⟩) hHeld ?_
                                  try simp only [Act.put, List.setIfInBounds_toArray, List.set_cons_zero, List.set_cons_succ]
                                  refine wpAnyH_take (i := 22) (oi := ⟨some 127, _, _, _, _, _⟩) (v := ?_) rfl (by kernel_rfl) (by kernel_rfl) (by kernel_rfl) (fun _ _ _ h => h) (Or.inl ⟨by rfl, by intro w hSw; (try dsimp only at hSw); go_simp; try with_reducible rfl⟩) hHeld ?_
                                  try simp only [Act.put, List.setIfInBounds_toArray, List.set_cons_zero, List.set_cons_succ]
                                  refine wpAnyH_take (i := 23) (oi := ⟨some 128, _, _, _, _, _⟩) (v := ?_) rfl (by kernel_rfl) (by kernel_rfl) (by kernel_rfl) (fun _ _ _ h => h) (Or.inl ⟨by rfl, by intro w hSw; (try dsimp only at hSw); go_simp; try with_reducible rfl⟩) hHeld ?_
                                  try simp only [Act.put, List.setIfInBounds_toArray, List.set_cons_zero, List.set_cons_succ]
                                  refine wpAnyH_ready (rs := [24]) (by kernel_rfl) (by simp) ?_
                                  refine AllReadyH.cons (o := ⟨some 129, _, _, _, _, _⟩) rfl (fun K hK => ?_) AllReadyH.nil
                                  go_simp
                                  refine (C2.out _).mono ?_
                                  rintro e w5 ⟨rfl, hb5⟩
                                  go_wp2_with fail
                                  refine hK.out _ _ (keepS hb5 hHeld) (fun hHeld => ?_)
                                  clear hK K
                                  try simp only [Act.put, List.setIfInBounds_toArray, List.set_cons_zero, List.set_cons_succ]
                                  refine wpAnyH_take (i := 25) (oi := ⟨some 130, _, _, _, _, _⟩) (v := ?_) rfl (by kernel_rfl) (by kernel_rfl) (by kernel_rfl) (fun _ _ _ h => h) (Or.inl ⟨by rfl, by intro w hSw; (try dsimp only at hSw); go_simp; try with_reducible rfl⟩) hHeld ?_
                                  try simp only [Act.put, List.setIfInBounds_toArray, List.set_cons_zero, List.set_cons_succ]
                                  refine wpAnyH_take (i := 26) (oi := ⟨some 131, _, _, _, _, _⟩) (v := ?_) rfl (by kernel_rfl) (by kernel_rfl) (by kernel_rfl) (fun _ _ _ h => h) (Or.inl ⟨by rfl, by intro w hSw; (try dsimp only at hSw); go_simp; try with_reducible rfl⟩) hHeld ?_
                                  try simp only [Act.put, List.setIfInBounds_toArray, List.set_cons_zero, List.set_cons_succ]
                                  refine wpAnyH_take (i := 27) (oi := ⟨some 132, _, _, _, _, _⟩) (v := ?_) rfl (by kernel_rfl) (by kernel_rfl) (by kernel_rfl) (fun _ _ _ h => h) (Or.inl ⟨by rfl, by intro w hSw; (try dsimp only at hSw); go_simp; try with_reducible rfl⟩) hHeld ?_
                                  try simp only [Act.put, List.setIfInBounds_toArray, List.set_cons_zero, List.set_cons_succ]
                                  refine wpAnyH_done (by kernel_rfl) ?_ _
                                  have HBV := Off.mk hHeld.2
                                  clear hHeld keepS
                                  cases b3 with
                                  | true =>
                                    have HYU := Off.mk (HYUf.out HUB2.out)
                                    clear HUB2 HYNf HYUf
                                    have hbv : Below w3.heap.size w3 w5 := HBV.out
                                    have hbw := belowC HF.out.2 hbv
                                    have hX := HBX.out.below hbw
                                    obtain ⟨_, f0, f1⟩ := hX.facts
                                    have x0 := cellB hbv x0
                                    have x1 := cellB hbv x1
                                    have z0 := cellB hbv z0
                                    have z1 := cellB hbv z1
                                    obtain ⟨hX2, hK2⟩ := hX.stored p
                                    have HX2 := Off.mk hX2
                                    have HN2 := Off.mk ((HBN.out.below hbw).keeps hK2 HNX.out)
                                    have HO2 := Off.mk (ownQ_keeps2 (ownQ_below HOV.out hbw) hK2 HVX.out)
                                    have HB2 := Off.mk (Keeps.below (belowC HBi.out hbw) hK2 (belowC HBi.out hbw).size HXG.out)
                                    clear hbv hbw hX hX2 hK2 HBX HBN HOV
                                    go_wp2
                                    go_roundw
                                    case rel => exact ⟨i + 1, p, by omega, by go_num, HN2, HX2, HO2, HB2, HYU⟩
                                    case measure => simp only [intOf]; omega
                                  | false =>
                                    have HYN := Off.mk (HYNf.out HUB2.out)
                                    clear HUB2 HYNf HYUf
                                    have hbv : Below w3.heap.size w3 w5 := HBV.out
                                    have HBW := Off.mk (belowC HF.out.2 hbv)
                                    clear hbv
                                    go_wp2
                                    go_roundw
                                    case rel => exact ⟨i + 1, y, by omega, by go_num, ⟨HBN.out.below HBW.out⟩, ⟨HBX.out.below HBW.out⟩, ⟨ownQ_below HOV.out HBW.out⟩, ⟨belowC HBi.out HBW.out⟩, HYN⟩
                                    case measure => simp only [intOf]; omega
                                · have hd2 : (x == 0) = false := beq_eq_false_iff_ne.2 hx2
                                  have HYN := Off.mk (HYNf.out (by rw [HUB.out, hd1, decide_eq_false hx2]; simp))
                                  clear HUB HYNf HYUf hx1 hx2
                                  go_quiet (fail)
                                  have hbv : Below w3.heap.size w3 (w3.drewN nq) := below_drewN' (Below.refl _ _) _
                                  have HBW := Off.mk (belowC HF.out.2 hbv)
                                  clear hbv
                                  go_wp2
                                  go_roundw
                                  case rel => exact ⟨i + 1, y, by omega, by go_num, ⟨HBN.out.below HBW.out⟩, ⟨HBX.out.below HBW.out⟩, ⟨ownQ_below HOV.out HBW.out⟩, ⟨belowC HBi.out HBW.out⟩, HYN⟩
                                  case measure => simp only [intOf]; omega
                        · obtain rfl : i = xs.length := by omega
                          have hyt : y = t := next_done HN.out HNS.out
                          subst hyt
                          obtain ⟨h2, hk2⟩ := HBN.out.stored y
                          have HN3 := Off.mk h2
                          have HO3 := Off.mk (ownQ_keeps2 HOV.out hk2 HVN.out)
                          have HB3 := Off.mk (Keeps.below HBi.out hk2 HBi.out.size HNG.out)
                          clear h2 hk2 HNS
                          go_wp2
                          go_roundw
                          case rel => exact ⟨k + 1, y, by omega, HTT, HN3, HO3, HB3⟩
                          case measure => simp only [sliceLen]; omega
end Go.Proofs.Ytbpmiphipjkdlaa
