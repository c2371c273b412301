/- Contracts of the specification: IsPen. -/
import Derived.Test.YtbpmiphipjkdlaaBc
import Derived.Test.YtbpmiphipjkdlaaBd
import Derived.Test.YtbpmiphipjkdlaaAz
namespace Go.Proofs.Ytbpmiphipjkdlaa
open Go.RowKit Go.Shelf
attribute [local go_sem] Oper.semAt_some

/-- Post i, for numbers that go around. -/
def postAt (xs : PtL) (i : Nat) : Int × Int := xs.getD (i % xs.length) (0, 0)
def eqP (p q : Int × Int) : Bool := decide (p.1 = q.1) && decide (p.2 = q.2)
/-- What the specification does not let in: at a post, at two sides in a row, at two other sides. -/
def rowR (xs : PtL) (i : Nat) : Bool := !(decide (inB 50 (xs.getD i (0, 0)))) || eqP (xs.getD i (0, 0)) (postAt xs (i + 1))
def turnR (xs : PtL) (i : Nat) : Bool := onR (xs.getD i (0, 0)) (postAt xs (i + 1)) (postAt xs (i + 2)) || onR (postAt xs (i + 1)) (postAt xs (i + 2)) (xs.getD i (0, 0))
def sideR (xs : PtL) (i k : Nat) : Bool := decide ((k + 1) % xs.length ≠ i) && meetR (xs.getD i (0, 0)) (postAt xs (i + 1)) (xs.getD k (0, 0)) (postAt xs (k + 1))
structure GoodR (xs : PtL) : Prop where
  few : 3 ≤ xs.length ∧ xs.length ≤ 10
  row : ∀ i, i < xs.length → rowR xs i = false
  turn : ∀ i, i < xs.length → turnR xs i = false
  side : ∀ i, i < xs.length → ∀ k, i + 2 ≤ k → k < xs.length → sideR xs i k = false
/-- The answer of IsPen. -/
def PenRes (xs : PtL) (e : Ending) : Prop := ∃ v, e = .returned (.bool v) ∧ (v = true ↔ GoodR xs)
def rowsTo (xs : PtL) (k : Nat) : Prop := ∀ i, i < k → rowR xs i = false
def sidesTo (xs : PtL) (i k : Nat) : Prop := ∀ j, i + 2 ≤ j → j < k → sideR xs i j = false
def turnsTo (xs : PtL) (k : Nat) : Prop := ∀ i, i < k → turnR xs i = false ∧ sidesTo xs i xs.length
theorem PenRes.no {xs : PtL} (h : ¬ GoodR xs) : PenRes xs (.returned (.bool false)) := ⟨false, rfl, by simp [h]⟩
theorem row_in {xs : PtL} {i : Nat} (h : rowR xs i = false) : inB 50 (xs.getD i (0, 0)) := by
  unfold rowR at h
  simp only [Bool.or_eq_false_iff, Bool.not_eq_eq_eq_not, Bool.not_false, decide_eq_true_eq] at h
  exact h.1
theorem neq_num (a b : Nat) (v : Bool) (h : decide (a ≠ b) = v) : ((a : Int) != (b : Int)) = v := by
  rw [← h]
  by_cases e : a = b
  · subst e; simp
  · rw [decide_eq_true e, bne_iff_ne]
    omega
set_option maxRecDepth 100000 in
set_option maxHeartbeats 16000000 in
theorem isPenR_any (xs : PtL) (A : Option Addr) (c : Nat) (w : World) (hx : PairsI w A xs) :
    Calls Try.prog 20 #[.slice A xs.length c] w fun e w' => PenRes xs e ∧ Below w.heap.size w w' := by
  have HX := Off.mk hx
  have hxl := hx.len
  clear hx
  by_cases h3 : xs.length < 3
  · have HN : Off (¬ GoodR xs) := ⟨fun h => by have := h.few; omega⟩
    have h3' : (xs.length : Int) < 3 := by omega
    go_enter Try.func20, Try.ntmps20
    go_wp2
    go_ret
    exact ⟨PenRes.no HN.out, Below.refl _ _⟩
  by_cases h10 : 10 < xs.length
  · have HN : Off (¬ GoodR xs) := ⟨fun h => by have := h.few; omega⟩
    have h3' : ¬ (xs.length : Int) < 3 := by omega
    have h10' : 10 < (xs.length : Int) := by omega
    go_enter Try.func20, Try.ntmps20
    go_wp2
    go_ret
    exact ⟨PenRes.no HN.out, Below.refl _ _⟩
  have h3' : ¬ (xs.length : Int) < 3 := by omega
  have h10' : ¬ 10 < (xs.length : Int) := by omega
  refine (callsIn_wide (n := 9)).1 ?_
  refine callsIn_of_wp Try.func20 rfl trivial ?_ rfl
  simp only [Try.ntmps20, List.size_toArray, List.length_cons, List.length_nil, Nat.reduceAdd, Nat.reduceSub, Array.replicate_succ, Array.replicate_zero, List.push_toArray, List.append_toArray, List.nil_append, List.cons_append]
  gi_wp2
  gi_loopw [4] (fun kv wr => ∃ k : Nat, k ≤ xs.length ∧ kv = .int .i64 k ∧ Off (rowsTo xs k) ∧ Off (Below w.heap.size w wr)) (fun kv _ => xs.length - (intOf kv).toNat)
  case atStart => exact ⟨0, by omega, rfl, ⟨fun i hi => by omega⟩, ⟨Below.refl _ _⟩⟩
  case round =>
    obtain ⟨k, hk, rfl, HR, HB⟩ := hrel
    by_cases hlt : k < xs.length
    · have hkI : (k : Int) < (xs.length : Int) := by omega
      obtain ⟨m, hm⟩ : ∃ m, m = (k + 1) % xs.length := ⟨_, rfl⟩
      have hml : m < xs.length := by rw [hm]; exact Nat.mod_lt _ (by omega)
      have e5 : ((k : Int) + 1).tmod (xs.length : Int) = (m : Int) := by
        rw [Int.tmod_eq_emod_of_nonneg (by omega), hm, show (k : Int) + 1 = ((k + 1 : Nat) : Int) by omega]
        exact (Int.natCast_emod _ _).symm
      have e7 : ((k : Int) + 1) % (xs.length : Int) = (m : Int) := by rw [← Int.tmod_eq_emod_of_nonneg (by omega)]; exact e5
      have w5 : IntKind.i64.wrap ((k : Int) + 1) = (k : Int) + 1 := by rw [IntKind.wrap_i64]; omega
      have hn0 : ¬ xs.length = 0 := by omega
      have hmI : (m : Int) < (xs.length : Int) := by omega
      have hxr := HX.out.below HB.out
      obtain ⟨ad, rfl, x0, x1⟩ := hxr.cell k hlt
      obtain ⟨ad', e, z0, z1⟩ := hxr.cell m hml
      cases e
      obtain ⟨p, hp⟩ : ∃ p, p = xs.getD k (0, 0) := ⟨_, rfl⟩
      obtain ⟨q, hq⟩ : ∃ q, q = xs.getD m (0, 0) := ⟨_, rfl⟩
      rw [← hp] at x0 x1
      rw [← hq] at z0 z1
      obtain ⟨v, hv⟩ : ∃ v, decide (inB 50 p) = v := ⟨_, rfl⟩
      have C1 : Off (∀ W, Calls Try.prog 24 #[ptV p] W fun e w' => e = .returned (.bool v) ∧ Below W.heap.size W w') := ⟨fun W => inRange_any p v hv W⟩
      obtain ⟨b1, hb1⟩ : ∃ b, decide (p.1 = q.1) = b := ⟨_, rfl⟩
      obtain ⟨b2, hb2⟩ : ∃ b, decide (p.2 = q.2) = b := ⟨_, rfl⟩
      obtain ⟨b, hb⟩ : ∃ b, (b1 && b2) = b := ⟨_, rfl⟩
      have E1 : ∀ W, Sem.run Try.prog (Op.equalIn 10000 34 (.agg #[.int .i64 p.1, .int .i64 p.2]) (.agg #[.int .i64 q.1, .int .i64 q.2])) W = .ok b W := fun W => by rw [eq_pair, hb1, hb2, hb]
      have HROW : Off (rowR xs k = (!v || b)) := ⟨by unfold rowR postAt; rw [← hm, ← hp, ← hq, hv]; unfold eqP; rw [hb1, hb2, hb]⟩
      have HNX : Off (rowR xs k = false → rowsTo xs (k + 1)) := ⟨fun h i hi => by
        by_cases e : i = k
        · rw [e]; exact h
        · exact HR.out i (by omega)⟩
      have HNG : Off (rowR xs k = true → ¬ GoodR xs) := ⟨fun h hg => by have := hg.row k hlt; rw [h] at this; cases this⟩
      clear hp hq hm hxr hv hb hb1 hb2 HR
      gi_wp2
      cases v with
      | false =>
        have HN : Off (¬ GoodR xs) := ⟨HNG.out (by rw [HROW.out]; rfl)⟩
        clear HNX HNG HROW
        refine region_anyS' (S := (fun w' => (w'.cell? (ad.add (k * 2)) = some (.int .i64 p.1) ∧ w'.cell? ⟨(ad.add (k * 2)).block, (ad.add (k * 2)).off + 1, none⟩ = some (.int .i64 p.2)) ∧ (w'.cell? (ad.add (m * 2)) = some (.int .i64 q.1) ∧ w'.cell? ⟨(ad.add (m * 2)).block, (ad.add (m * 2)).off + 1, none⟩ = some (.int .i64 q.2)))) 19 (by kernel_rfl) ⟨⟨x0, x1⟩, z0, z1⟩ (fun hInv hHeld => ?_)
        refine anyS_take (i := 0) (oi := ⟨some 23, _, _, _, _, _⟩) (v := ?_) (by kernel_rfl) rfl (by kernel_rfl) (by kernel_rfl) (by kernel_rfl) (by kernel_rfl) (fun _ _ _ h => h) (Or.inl ⟨by rfl, by intro w hSw; (try dsimp only at hSw); go_simp; try with_reducible rfl⟩) (fun _ => by first | rfl | simp [Oper.about, resolve, go_sem]) hInv hHeld (fun hInv hHeld => ?_)
        try simp only [Act.put, List.setIfInBounds_toArray, List.set_cons_zero, List.set_cons_succ]
        refine anyS_take (i := 1) (oi := ⟨some 24, _, _, _, _, _⟩) (v := ?_) (by kernel_rfl) rfl (by kernel_rfl) (by kernel_rfl) (by kernel_rfl) (by kernel_rfl) (fun _ _ _ h => h) (Or.inl ⟨by rfl, by intro w hSw; (try dsimp only at hSw); go_simp; try with_reducible rfl⟩) (fun _ => by first | rfl | simp [Oper.about, resolve, go_sem]) hInv hHeld (fun hInv hHeld => ?_)
        try simp only [Act.put, List.setIfInBounds_toArray, List.set_cons_zero, List.set_cons_succ]
        refine anyS_take (i := 2) (oi := ⟨some 25, _, _, _, _, _⟩) (v := ?_) (by kernel_rfl) rfl (by kernel_rfl) (by kernel_rfl) (by kernel_rfl) (by kernel_rfl) (fun _ _ _ h => h) (Or.inl ⟨by rfl, by intro w hSw; (try dsimp only at hSw); go_simp; try with_reducible rfl⟩) (fun _ => by first | rfl | simp [Oper.about, resolve, go_sem]) hInv hHeld (fun hInv hHeld => ?_)
        try simp only [Act.put, List.setIfInBounds_toArray, List.set_cons_zero, List.set_cons_succ]
        refine anyS_take (i := 3) (oi := ⟨some 26, _, _, _, _, _⟩) (v := ?_) (by kernel_rfl) rfl (by kernel_rfl) (by kernel_rfl) (by kernel_rfl) (by kernel_rfl) (fun _ _ _ h => h) (Or.inl ⟨by rfl, by intro w hSw; (try dsimp only at hSw); go_simp; try with_reducible rfl⟩) (fun _ => by first | rfl | simp [Oper.about, resolve, go_sem]) hInv hHeld (fun hInv hHeld => ?_)
        try simp only [Act.put, List.setIfInBounds_toArray, List.set_cons_zero, List.set_cons_succ]
        refine anyS_one (i := 4) (o := ⟨some 27, _, _, _, _, _⟩) (by kernel_rfl) rfl hInv (fun K hK => ?_)
        go_simp
        refine ⟨trivial, ?_⟩
        refine (callsIn_wide.2 (C1.out _)).mono ?_
        rintro e V1 ⟨rfl, hv1⟩
        refine hK.out _ _ (fun _ => ⟨⟨cellB hv1 x0, cellB hv1 x1⟩, cellB hv1 z0, cellB hv1 z1⟩) (fun hInv hHeld => ?_)
        clear hK K
        try simp only [Act.put, List.setIfInBounds_toArray, List.set_cons_zero, List.set_cons_succ]
        refine anyS_take (i := 5) (oi := ⟨some 28, _, _, _, _, _⟩) (v := ?_) (by kernel_rfl) rfl (by kernel_rfl) (by kernel_rfl) (by kernel_rfl) (by kernel_rfl) (fun _ _ _ h => h) (Or.inl ⟨by rfl, by intro w hSw; (try dsimp only at hSw); go_simp; try with_reducible rfl⟩) (fun _ => by first | rfl | simp [Oper.about, resolve, go_sem]) hInv hHeld (fun hInv hHeld => ?_)
        try simp only [Act.put, List.setIfInBounds_toArray, List.set_cons_zero, List.set_cons_succ]
        refine anyS_take (i := 6) (oi := ⟨some 29, _, _, _, _, _⟩) (v := ?_) (by kernel_rfl) rfl (by kernel_rfl) (by kernel_rfl) (by kernel_rfl) (by kernel_rfl) (fun _ _ _ h => h) (Or.inl ⟨by rfl, by intro w hSw; (try dsimp only at hSw); go_simp; try with_reducible rfl⟩) (fun _ => by first | rfl | simp [Oper.about, resolve, go_sem]) hInv hHeld (fun hInv hHeld => ?_)
        try simp only [Act.put, List.setIfInBounds_toArray, List.set_cons_zero, List.set_cons_succ]
        refine anyS_take (i := 7) (oi := ⟨some 30, _, _, _, _, _⟩) (v := undef) (by kernel_rfl) rfl (by kernel_rfl) (by kernel_rfl) (by kernel_rfl) (by kernel_rfl) (fun _ _ _ h => h) (Or.inr ⟨by rfl, rfl⟩) (fun _ => by first | rfl | simp [Oper.about, resolve, go_sem]) hInv hHeld (fun hInv hHeld => ?_)
        try simp only [Act.put, List.setIfInBounds_toArray, List.set_cons_zero, List.set_cons_succ]
        refine anyS_take (i := 8) (oi := ⟨some 31, _, _, _, _, _⟩) (v := undef) (by kernel_rfl) rfl (by kernel_rfl) (by kernel_rfl) (by kernel_rfl) (by kernel_rfl) (fun _ _ _ h => h) (Or.inr ⟨by rfl, rfl⟩) (fun _ => by first | rfl | simp [Oper.about, resolve, go_sem]) hInv hHeld (fun hInv hHeld => ?_)
        try simp only [Act.put, List.setIfInBounds_toArray, List.set_cons_zero, List.set_cons_succ]
        refine anyS_take (i := 9) (oi := ⟨some 32, _, _, _, _, _⟩) (v := undef) (by kernel_rfl) rfl (by kernel_rfl) (by kernel_rfl) (by kernel_rfl) (by kernel_rfl) (fun _ _ _ h => h) (Or.inr ⟨by rfl, rfl⟩) (fun _ => by first | rfl | simp [Oper.about, resolve, go_sem]) hInv hHeld (fun hInv hHeld => ?_)
        try simp only [Act.put, List.setIfInBounds_toArray, List.set_cons_zero, List.set_cons_succ]
        refine anyS_take (i := 10) (oi := ⟨some 33, _, _, _, _, _⟩) (v := undef) (by kernel_rfl) rfl (by kernel_rfl) (by kernel_rfl) (by kernel_rfl) (by kernel_rfl) (fun _ _ _ h => h) (Or.inr ⟨by rfl, rfl⟩) (fun _ => by first | rfl | simp [Oper.about, resolve, go_sem]) hInv hHeld (fun hInv hHeld => ?_)
        try simp only [Act.put, List.setIfInBounds_toArray, List.set_cons_zero, List.set_cons_succ]
        refine anyS_take (i := 11) (oi := ⟨some 34, _, _, _, _, _⟩) (v := undef) (by kernel_rfl) rfl (by kernel_rfl) (by kernel_rfl) (by kernel_rfl) (by kernel_rfl) (fun _ _ _ h => h) (Or.inr ⟨by rfl, rfl⟩) (fun _ => by first | rfl | simp [Oper.about, resolve, go_sem]) hInv hHeld (fun hInv hHeld => ?_)
        try simp only [Act.put, List.setIfInBounds_toArray, List.set_cons_zero, List.set_cons_succ]
        refine anyS_take (i := 12) (oi := ⟨some 35, _, _, _, _, _⟩) (v := undef) (by kernel_rfl) rfl (by kernel_rfl) (by kernel_rfl) (by kernel_rfl) (by kernel_rfl) (fun _ _ _ h => h) (Or.inr ⟨by rfl, rfl⟩) (fun _ => by first | rfl | simp [Oper.about, resolve, go_sem]) hInv hHeld (fun hInv hHeld => ?_)
        try simp only [Act.put, List.setIfInBounds_toArray, List.set_cons_zero, List.set_cons_succ]
        refine anyS_take (i := 13) (oi := ⟨some 36, _, _, _, _, _⟩) (v := undef) (by kernel_rfl) rfl (by kernel_rfl) (by kernel_rfl) (by kernel_rfl) (by kernel_rfl) (fun _ _ _ h => h) (Or.inr ⟨by rfl, rfl⟩) (fun _ => by first | rfl | simp [Oper.about, resolve, go_sem]) hInv hHeld (fun hInv hHeld => ?_)
        try simp only [Act.put, List.setIfInBounds_toArray, List.set_cons_zero, List.set_cons_succ]
        refine anyS_take (i := 14) (oi := ⟨some 37, _, _, _, _, _⟩) (v := undef) (by kernel_rfl) rfl (by kernel_rfl) (by kernel_rfl) (by kernel_rfl) (by kernel_rfl) (fun _ _ _ h => h) (Or.inr ⟨by rfl, rfl⟩) (fun _ => by first | rfl | simp [Oper.about, resolve, go_sem]) hInv hHeld (fun hInv hHeld => ?_)
        try simp only [Act.put, List.setIfInBounds_toArray, List.set_cons_zero, List.set_cons_succ]
        refine anyS_take (i := 15) (oi := ⟨some 38, _, _, _, _, _⟩) (v := undef) (by kernel_rfl) rfl (by kernel_rfl) (by kernel_rfl) (by kernel_rfl) (by kernel_rfl) (fun _ _ _ h => h) (Or.inr ⟨by rfl, rfl⟩) (fun _ => by first | rfl | simp [Oper.about, resolve, go_sem]) hInv hHeld (fun hInv hHeld => ?_)
        try simp only [Act.put, List.setIfInBounds_toArray, List.set_cons_zero, List.set_cons_succ]
        refine anyS_take (i := 16) (oi := ⟨some 39, _, _, _, _, _⟩) (v := undef) (by kernel_rfl) rfl (by kernel_rfl) (by kernel_rfl) (by kernel_rfl) (by kernel_rfl) (fun _ _ _ h => h) (Or.inr ⟨by rfl, rfl⟩) (fun _ => by first | rfl | simp [Oper.about, resolve, go_sem]) hInv hHeld (fun hInv hHeld => ?_)
        try simp only [Act.put, List.setIfInBounds_toArray, List.set_cons_zero, List.set_cons_succ]
        refine anyS_take (i := 17) (oi := ⟨some 40, _, _, _, _, _⟩) (v := undef) (by kernel_rfl) rfl (by kernel_rfl) (by kernel_rfl) (by kernel_rfl) (by kernel_rfl) (fun _ _ _ h => h) (Or.inr ⟨by rfl, rfl⟩) (fun _ => by first | rfl | simp [Oper.about, resolve, go_sem]) hInv hHeld (fun hInv hHeld => ?_)
        try simp only [Act.put, List.setIfInBounds_toArray, List.set_cons_zero, List.set_cons_succ]
        refine anyS_take (i := 18) (oi := ⟨some 41, _, _, _, _, _⟩) (v := undef) (by kernel_rfl) rfl (by kernel_rfl) (by kernel_rfl) (by kernel_rfl) (by kernel_rfl) (fun _ _ _ h => h) (Or.inr ⟨by rfl, rfl⟩) (fun _ => by first | rfl | simp [Oper.about, resolve, go_sem]) hInv hHeld (fun hInv hHeld => ?_)
        try simp only [Act.put, List.setIfInBounds_toArray, List.set_cons_zero, List.set_cons_succ]
        refine anyS_one (i := 19) (o := ⟨some 42, _, _, _, _, _⟩) (by kernel_rfl) rfl hInv (fun K hK => ?_)
        go_simp
        refine hK.out _ _ (fun e => absurd (show true = false from e) (by decide)) (fun hInv hHeld => ?_)
        clear hK K
        try simp only [Act.put, List.setIfInBounds_toArray, List.set_cons_zero, List.set_cons_succ]
        refine anyS_done (by kernel_rfl) ?_ _
        gi_wp2
        go_ret
        exact ⟨PenRes.no HN.out, belowC (below_drew HB.out) hv1⟩
      | true =>
        cases b with
        | true =>
          have HN : Off (¬ GoodR xs) := ⟨HNG.out (by rw [HROW.out]; rfl)⟩
          clear HNX HNG HROW
          refine region_anyS' (S := (fun w' => (w'.cell? (ad.add (k * 2)) = some (.int .i64 p.1) ∧ w'.cell? ⟨(ad.add (k * 2)).block, (ad.add (k * 2)).off + 1, none⟩ = some (.int .i64 p.2)) ∧ (w'.cell? (ad.add (m * 2)) = some (.int .i64 q.1) ∧ w'.cell? ⟨(ad.add (m * 2)).block, (ad.add (m * 2)).off + 1, none⟩ = some (.int .i64 q.2)))) 19 (by kernel_rfl) ⟨⟨x0, x1⟩, z0, z1⟩ (fun hInv hHeld => ?_)
          refine anyS_take (i := 0) (oi := ⟨some 23, _, _, _, _, _⟩) (v := ?_) (by kernel_rfl) rfl (by kernel_rfl) (by kernel_rfl) (by kernel_rfl) (by kernel_rfl) (fun _ _ _ h => h) (Or.inl ⟨by rfl, by intro w hSw; (try dsimp only at hSw); go_simp; try with_reducible rfl⟩) (fun _ => by first | rfl | simp [Oper.about, resolve, go_sem]) hInv hHeld (fun hInv hHeld => ?_)
          try simp only [Act.put, List.setIfInBounds_toArray, List.set_cons_zero, List.set_cons_succ]
          refine anyS_take (i := 1) (oi := ⟨some 24, _, _, _, _, _⟩) (v := ?_) (by kernel_rfl) rfl (by kernel_rfl) (by kernel_rfl) (by kernel_rfl) (by kernel_rfl) (fun _ _ _ h => h) (Or.inl ⟨by rfl, by intro w hSw; (try dsimp only at hSw); go_simp; try with_reducible rfl⟩) (fun _ => by first | rfl | simp [Oper.about, resolve, go_sem]) hInv hHeld (fun hInv hHeld => ?_)
          try simp only [Act.put, List.setIfInBounds_toArray, List.set_cons_zero, List.set_cons_succ]
          refine anyS_take (i := 2) (oi := ⟨some 25, _, _, _, _, _⟩) (v := ?_) (by kernel_rfl) rfl (by kernel_rfl) (by kernel_rfl) (by kernel_rfl) (by kernel_rfl) (fun _ _ _ h => h) (Or.inl ⟨by rfl, by intro w hSw; (try dsimp only at hSw); go_simp; try with_reducible rfl⟩) (fun _ => by first | rfl | simp [Oper.about, resolve, go_sem]) hInv hHeld (fun hInv hHeld => ?_)
          try simp only [Act.put, List.setIfInBounds_toArray, List.set_cons_zero, List.set_cons_succ]
          refine anyS_take (i := 3) (oi := ⟨some 26, _, _, _, _, _⟩) (v := ?_) (by kernel_rfl) rfl (by kernel_rfl) (by kernel_rfl) (by kernel_rfl) (by kernel_rfl) (fun _ _ _ h => h) (Or.inl ⟨by rfl, by intro w hSw; (try dsimp only at hSw); go_simp; try with_reducible rfl⟩) (fun _ => by first | rfl | simp [Oper.about, resolve, go_sem]) hInv hHeld (fun hInv hHeld => ?_)
          try simp only [Act.put, List.setIfInBounds_toArray, List.set_cons_zero, List.set_cons_succ]
          refine anyS_one (i := 4) (o := ⟨some 27, _, _, _, _, _⟩) (by kernel_rfl) rfl hInv (fun K hK => ?_)
          go_simp
          refine ⟨trivial, ?_⟩
          refine (callsIn_wide.2 (C1.out _)).mono ?_
          rintro e V1 ⟨rfl, hv1⟩
          refine hK.out _ _ (fun _ => ⟨⟨cellB hv1 x0, cellB hv1 x1⟩, cellB hv1 z0, cellB hv1 z1⟩) (fun hInv hHeld => ?_)
          clear hK K
          try simp only [Act.put, List.setIfInBounds_toArray, List.set_cons_zero, List.set_cons_succ]
          refine anyS_take (i := 5) (oi := ⟨some 28, _, _, _, _, _⟩) (v := ?_) (by kernel_rfl) rfl (by kernel_rfl) (by kernel_rfl) (by kernel_rfl) (by kernel_rfl) (fun _ _ _ h => h) (Or.inl ⟨by rfl, by intro w hSw; (try dsimp only at hSw); go_simp; try with_reducible rfl⟩) (fun _ => by first | rfl | simp [Oper.about, resolve, go_sem]) hInv hHeld (fun hInv hHeld => ?_)
          try simp only [Act.put, List.setIfInBounds_toArray, List.set_cons_zero, List.set_cons_succ]
          refine anyS_take (i := 6) (oi := ⟨some 29, _, _, _, _, _⟩) (v := ?_) (by kernel_rfl) rfl (by kernel_rfl) (by kernel_rfl) (by kernel_rfl) (by kernel_rfl) (fun _ _ _ h => h) (Or.inl ⟨by rfl, by intro w hSw; (try dsimp only at hSw); go_simp; try with_reducible rfl⟩) (fun _ => by first | rfl | simp [Oper.about, resolve, go_sem]) hInv hHeld (fun hInv hHeld => ?_)
          try simp only [Act.put, List.setIfInBounds_toArray, List.set_cons_zero, List.set_cons_succ]
          refine anyS_take (i := 7) (oi := ⟨some 30, _, _, _, _, _⟩) (v := ?_) (by kernel_rfl) rfl (by kernel_rfl) (by kernel_rfl) (by kernel_rfl) (by kernel_rfl) (fun _ _ _ h => h) (Or.inl ⟨by rfl, by intro w hSw; (try dsimp only at hSw); go_simp; try with_reducible rfl⟩) (fun _ => by first | rfl | simp [Oper.about, resolve, go_sem]) hInv hHeld (fun hInv hHeld => ?_)
          try simp only [Act.put, List.setIfInBounds_toArray, List.set_cons_zero, List.set_cons_succ]
          refine anyS_take (i := 8) (oi := ⟨some 31, _, _, _, _, _⟩) (v := ?_) (by kernel_rfl) rfl (by kernel_rfl) (by kernel_rfl) (by kernel_rfl) (by kernel_rfl) (fun _ _ _ h => h) (Or.inl ⟨by rfl, by intro w hSw; (try dsimp only at hSw); go_simp; try with_reducible rfl⟩) (fun _ => by first | rfl | simp [Oper.about, resolve, go_sem]) hInv hHeld (fun hInv hHeld => ?_)
          try simp only [Act.put, List.setIfInBounds_toArray, List.set_cons_zero, List.set_cons_succ]
          refine anyS_take (i := 9) (oi := ⟨some 32, _, _, _, _, _⟩) (v := ?_) (by kernel_rfl) rfl (by kernel_rfl) (by kernel_rfl) (by kernel_rfl) (by kernel_rfl) (fun _ _ _ h => h) (Or.inl ⟨by rfl, by intro w hSw; (try dsimp only at hSw); go_simp; try with_reducible rfl⟩) (fun _ => by first | rfl | simp [Oper.about, resolve, go_sem]) hInv hHeld (fun hInv hHeld => ?_)
          try simp only [Act.put, List.setIfInBounds_toArray, List.set_cons_zero, List.set_cons_succ]
          refine anyS_take (i := 10) (oi := ⟨some 33, _, _, _, _, _⟩) (v := ?_) (by kernel_rfl) rfl (by kernel_rfl) (by kernel_rfl) (by kernel_rfl) (by kernel_rfl) (fun _ _ _ h => h) (Or.inl ⟨by rfl, by intro w hSw; (try dsimp only at hSw); go_simp; try with_reducible rfl⟩) (fun _ => by first | rfl | simp [Oper.about, resolve, go_sem]) hInv hHeld (fun hInv hHeld => ?_)
          try simp only [Act.put, List.setIfInBounds_toArray, List.set_cons_zero, List.set_cons_succ]
          refine anyS_take (i := 11) (oi := ⟨some 34, _, _, _, _, _⟩) (v := ?_) (by kernel_rfl) rfl (by kernel_rfl) (by kernel_rfl) (by kernel_rfl) (by kernel_rfl) (fun _ _ _ h => h) (Or.inl ⟨by rfl, by intro w hSw; (try dsimp only at hSw); go_simp; try with_reducible rfl⟩) (fun _ => by first | rfl | simp [Oper.about, resolve, go_sem]) hInv hHeld (fun hInv hHeld => ?_)
          try simp only [Act.put, List.setIfInBounds_toArray, List.set_cons_zero, List.set_cons_succ]
          refine anyS_take (i := 12) (oi := ⟨some 35, _, _, _, _, _⟩) (v := ?_) (by kernel_rfl) rfl (by kernel_rfl) (by kernel_rfl) (by kernel_rfl) (by kernel_rfl) (fun _ _ _ h => h) (Or.inl ⟨by rfl, by intro w hSw; (try dsimp only at hSw); go_simp; try with_reducible rfl⟩) (fun _ => by first | rfl | simp [Oper.about, resolve, go_sem]) hInv hHeld (fun hInv hHeld => ?_)
          try simp only [Act.put, List.setIfInBounds_toArray, List.set_cons_zero, List.set_cons_succ]
          refine anyS_take (i := 13) (oi := ⟨some 36, _, _, _, _, _⟩) (v := ?_) (by kernel_rfl) rfl (by kernel_rfl) (by kernel_rfl) (by kernel_rfl) (by kernel_rfl) (fun _ _ _ h => h) (Or.inl ⟨by rfl, by intro w hSw; (try dsimp only at hSw); go_simp; try with_reducible rfl⟩) (fun _ => by first | rfl | simp [Oper.about, resolve, go_sem]) hInv hHeld (fun hInv hHeld => ?_)
          try simp only [Act.put, List.setIfInBounds_toArray, List.set_cons_zero, List.set_cons_succ]
          refine anyS_take (i := 14) (oi := ⟨some 37, _, _, _, _, _⟩) (v := ?_) (by kernel_rfl) rfl (by kernel_rfl) (by kernel_rfl) (by kernel_rfl) (by kernel_rfl) (fun _ _ _ h => h) (Or.inl ⟨by rfl, by intro w hSw; (try dsimp only at hSw); go_simp; try with_reducible rfl⟩) (fun _ => by first | rfl | simp [Oper.about, resolve, go_sem]) hInv hHeld (fun hInv hHeld => ?_)
          try simp only [Act.put, List.setIfInBounds_toArray, List.set_cons_zero, List.set_cons_succ]
          refine anyS_take (i := 15) (oi := ⟨some 38, _, _, _, _, _⟩) (v := ?_) (by kernel_rfl) rfl (by kernel_rfl) (by kernel_rfl) (by kernel_rfl) (by kernel_rfl) (fun _ _ _ h => h) (Or.inl ⟨by rfl, by intro w hSw; (try dsimp only at hSw); go_simp; try with_reducible rfl⟩) (fun _ => by first | rfl | simp [Oper.about, resolve, go_sem]) hInv hHeld (fun hInv hHeld => ?_)
          try simp only [Act.put, List.setIfInBounds_toArray, List.set_cons_zero, List.set_cons_succ]
          refine anyS_take (i := 16) (oi := ⟨some 39, _, _, _, _, _⟩) (v := ?_) (by kernel_rfl) rfl (by kernel_rfl) (by kernel_rfl) (by kernel_rfl) (by kernel_rfl) (fun _ _ _ h => h) (Or.inl ⟨by rfl, by intro w hSw; (try dsimp only at hSw); go_simp; try with_reducible rfl⟩) (fun _ => by first | rfl | simp [Oper.about, resolve, go_sem]) hInv hHeld (fun hInv hHeld => ?_)
          try simp only [Act.put, List.setIfInBounds_toArray, List.set_cons_zero, List.set_cons_succ]
          refine anyS_take (i := 17) (oi := ⟨some 40, _, _, _, _, _⟩) (v := ?_) (by kernel_rfl) rfl (by kernel_rfl) (by kernel_rfl) (by kernel_rfl) (by kernel_rfl) (fun _ _ _ h => h) (Or.inl ⟨by rfl, by intro w hSw; (try dsimp only at hSw); go_simp; try with_reducible rfl⟩) (fun _ => by first | rfl | simp [Oper.about, resolve, go_sem]) hInv hHeld (fun hInv hHeld => ?_)
          try simp only [Act.put, List.setIfInBounds_toArray, List.set_cons_zero, List.set_cons_succ]
          refine anyS_take (i := 18) (oi := ⟨some 41, _, _, _, _, _⟩) (v := ?_) (by kernel_rfl) rfl (by kernel_rfl) (by kernel_rfl) (by kernel_rfl) (by kernel_rfl) (fun _ _ _ h => h) (Or.inl ⟨by rfl, by intro w hSw; (try dsimp only at hSw); go_simp; try with_reducible rfl⟩) (fun _ => by first | rfl | simp [Oper.about, resolve, go_sem]) hInv hHeld (fun hInv hHeld => ?_)
          try simp only [Act.put, List.setIfInBounds_toArray, List.set_cons_zero, List.set_cons_succ]
          refine anyS_one (i := 19) (o := ⟨some 42, _, _, _, _, _⟩) (by kernel_rfl) rfl hInv (fun K hK => ?_)
          go_simp
          refine hK.out _ _ (fun e => absurd (show true = false from e) (by decide)) (fun hInv hHeld => ?_)
          clear hK K
          try simp only [Act.put, List.setIfInBounds_toArray, List.set_cons_zero, List.set_cons_succ]
          refine anyS_done (by kernel_rfl) ?_ _
          gi_wp2
          go_ret
          exact ⟨PenRes.no HN.out, belowC (below_drew HB.out) hv1⟩
        | false =>
          have HN : Off (rowsTo xs (k + 1)) := ⟨HNX.out (by rw [HROW.out]; rfl)⟩
          clear HNX HNG HROW
          refine region_anyS' (S := (fun w' => (w'.cell? (ad.add (k * 2)) = some (.int .i64 p.1) ∧ w'.cell? ⟨(ad.add (k * 2)).block, (ad.add (k * 2)).off + 1, none⟩ = some (.int .i64 p.2)) ∧ (w'.cell? (ad.add (m * 2)) = some (.int .i64 q.1) ∧ w'.cell? ⟨(ad.add (m * 2)).block, (ad.add (m * 2)).off + 1, none⟩ = some (.int .i64 q.2)))) 19 (by kernel_rfl) ⟨⟨x0, x1⟩, z0, z1⟩ (fun hInv hHeld => ?_)
          refine anyS_take (i := 0) (oi := ⟨some 23, _, _, _, _, _⟩) (v := ?_) (by kernel_rfl) rfl (by kernel_rfl) (by kernel_rfl) (by kernel_rfl) (by kernel_rfl) (fun _ _ _ h => h) (Or.inl ⟨by rfl, by intro w hSw; (try dsimp only at hSw); go_simp; try with_reducible rfl⟩) (fun _ => by first | rfl | simp [Oper.about, resolve, go_sem]) hInv hHeld (fun hInv hHeld => ?_)
          try simp only [Act.put, List.setIfInBounds_toArray, List.set_cons_zero, List.set_cons_succ]
          refine anyS_take (i := 1) (oi := ⟨some 24, _, _, _, _, _⟩) (v := ?_) (by kernel_rfl) rfl (by kernel_rfl) (by kernel_rfl) (by kernel_rfl) (by kernel_rfl) (fun _ _ _ h => h) (Or.inl ⟨by rfl, by intro w hSw; (try dsimp only at hSw); go_simp; try with_reducible rfl⟩) (fun _ => by first | rfl | simp [Oper.about, resolve, go_sem]) hInv hHeld (fun hInv hHeld => ?_)
          try simp only [Act.put, List.setIfInBounds_toArray, List.set_cons_zero, List.set_cons_succ]
          refine anyS_take (i := 2) (oi := ⟨some 25, _, _, _, _, _⟩) (v := ?_) (by kernel_rfl) rfl (by kernel_rfl) (by kernel_rfl) (by kernel_rfl) (by kernel_rfl) (fun _ _ _ h => h) (Or.inl ⟨by rfl, by intro w hSw; (try dsimp only at hSw); go_simp; try with_reducible rfl⟩) (fun _ => by first | rfl | simp [Oper.about, resolve, go_sem]) hInv hHeld (fun hInv hHeld => ?_)
          try simp only [Act.put, List.setIfInBounds_toArray, List.set_cons_zero, List.set_cons_succ]
          refine anyS_take (i := 3) (oi := ⟨some 26, _, _, _, _, _⟩) (v := ?_) (by kernel_rfl) rfl (by kernel_rfl) (by kernel_rfl) (by kernel_rfl) (by kernel_rfl) (fun _ _ _ h => h) (Or.inl ⟨by rfl, by intro w hSw; (try dsimp only at hSw); go_simp; try with_reducible rfl⟩) (fun _ => by first | rfl | simp [Oper.about, resolve, go_sem]) hInv hHeld (fun hInv hHeld => ?_)
          try simp only [Act.put, List.setIfInBounds_toArray, List.set_cons_zero, List.set_cons_succ]
          refine anyS_one (i := 4) (o := ⟨some 27, _, _, _, _, _⟩) (by kernel_rfl) rfl hInv (fun K hK => ?_)
          go_simp
          refine ⟨trivial, ?_⟩
          refine (callsIn_wide.2 (C1.out _)).mono ?_
          rintro e V1 ⟨rfl, hv1⟩
          refine hK.out _ _ (fun _ => ⟨⟨cellB hv1 x0, cellB hv1 x1⟩, cellB hv1 z0, cellB hv1 z1⟩) (fun hInv hHeld => ?_)
          clear hK K
          try simp only [Act.put, List.setIfInBounds_toArray, List.set_cons_zero, List.set_cons_succ]
          refine anyS_take (i := 5) (oi := ⟨some 28, _, _, _, _, _⟩) (v := ?_) (by kernel_rfl) rfl (by kernel_rfl) (by kernel_rfl) (by kernel_rfl) (by kernel_rfl) (fun _ _ _ h => h) (Or.inl ⟨by rfl, by intro w hSw; (try dsimp only at hSw); go_simp; try with_reducible rfl⟩) (fun _ => by first | rfl | simp [Oper.about, resolve, go_sem]) hInv hHeld (fun hInv hHeld => ?_)
          try simp only [Act.put, List.setIfInBounds_toArray, List.set_cons_zero, List.set_cons_succ]
          refine anyS_take (i := 6) (oi := ⟨some 29, _, _, _, _, _⟩) (v := ?_) (by kernel_rfl) rfl (by kernel_rfl) (by kernel_rfl) (by kernel_rfl) (by kernel_rfl) (fun _ _ _ h => h) (Or.inl ⟨by rfl, by intro w hSw; (try dsimp only at hSw); go_simp; try with_reducible rfl⟩) (fun _ => by first | rfl | simp [Oper.about, resolve, go_sem]) hInv hHeld (fun hInv hHeld => ?_)
          try simp only [Act.put, List.setIfInBounds_toArray, List.set_cons_zero, List.set_cons_succ]
          refine anyS_take (i := 7) (oi := ⟨some 30, _, _, _, _, _⟩) (v := ?_) (by kernel_rfl) rfl (by kernel_rfl) (by kernel_rfl) (by kernel_rfl) (by kernel_rfl) (fun _ _ _ h => h) (Or.inl ⟨by rfl, by intro w hSw; (try dsimp only at hSw); go_simp; try with_reducible rfl⟩) (fun _ => by first | rfl | simp [Oper.about, resolve, go_sem]) hInv hHeld (fun hInv hHeld => ?_)
          try simp only [Act.put, List.setIfInBounds_toArray, List.set_cons_zero, List.set_cons_succ]
          refine anyS_take (i := 8) (oi := ⟨some 31, _, _, _, _, _⟩) (v := ?_) (by kernel_rfl) rfl (by kernel_rfl) (by kernel_rfl) (by kernel_rfl) (by kernel_rfl) (fun _ _ _ h => h) (Or.inl ⟨by rfl, by intro w hSw; (try dsimp only at hSw); go_simp; try with_reducible rfl⟩) (fun _ => by first | rfl | simp [Oper.about, resolve, go_sem]) hInv hHeld (fun hInv hHeld => ?_)
          try simp only [Act.put, List.setIfInBounds_toArray, List.set_cons_zero, List.set_cons_succ]
          refine anyS_take (i := 9) (oi := ⟨some 32, _, _, _, _, _⟩) (v := ?_) (by kernel_rfl) rfl (by kernel_rfl) (by kernel_rfl) (by kernel_rfl) (by kernel_rfl) (fun _ _ _ h => h) (Or.inl ⟨by rfl, by intro w hSw; (try dsimp only at hSw); go_simp; try with_reducible rfl⟩) (fun _ => by first | rfl | simp [Oper.about, resolve, go_sem]) hInv hHeld (fun hInv hHeld => ?_)
          try simp only [Act.put, List.setIfInBounds_toArray, List.set_cons_zero, List.set_cons_succ]
          refine anyS_take (i := 10) (oi := ⟨some 33, _, _, _, _, _⟩) (v := ?_) (by kernel_rfl) rfl (by kernel_rfl) (by kernel_rfl) (by kernel_rfl) (by kernel_rfl) (fun _ _ _ h => h) (Or.inl ⟨by rfl, by intro w hSw; (try dsimp only at hSw); go_simp; try with_reducible rfl⟩) (fun _ => by first | rfl | simp [Oper.about, resolve, go_sem]) hInv hHeld (fun hInv hHeld => ?_)
          try simp only [Act.put, List.setIfInBounds_toArray, List.set_cons_zero, List.set_cons_succ]
          refine anyS_take (i := 11) (oi := ⟨some 34, _, _, _, _, _⟩) (v := ?_) (by kernel_rfl) rfl (by kernel_rfl) (by kernel_rfl) (by kernel_rfl) (by kernel_rfl) (fun _ _ _ h => h) (Or.inl ⟨by rfl, by intro w hSw; (try dsimp only at hSw); go_simp; try with_reducible rfl⟩) (fun _ => by first | rfl | simp [Oper.about, resolve, go_sem]) hInv hHeld (fun hInv hHeld => ?_)
          try simp only [Act.put, List.setIfInBounds_toArray, List.set_cons_zero, List.set_cons_succ]
          refine anyS_take (i := 12) (oi := ⟨some 35, _, _, _, _, _⟩) (v := ?_) (by kernel_rfl) rfl (by kernel_rfl) (by kernel_rfl) (by kernel_rfl) (by kernel_rfl) (fun _ _ _ h => h) (Or.inl ⟨by rfl, by intro w hSw; (try dsimp only at hSw); go_simp; try with_reducible rfl⟩) (fun _ => by first | rfl | simp [Oper.about, resolve, go_sem]) hInv hHeld (fun hInv hHeld => ?_)
          try simp only [Act.put, List.setIfInBounds_toArray, List.set_cons_zero, List.set_cons_succ]
          refine anyS_take (i := 13) (oi := ⟨some 36, _, _, _, _, _⟩) (v := ?_) (by kernel_rfl) rfl (by kernel_rfl) (by kernel_rfl) (by kernel_rfl) (by kernel_rfl) (fun _ _ _ h => h) (Or.inl ⟨by rfl, by intro w hSw; (try dsimp only at hSw); go_simp; try with_reducible rfl⟩) (fun _ => by first | rfl | simp [Oper.about, resolve, go_sem]) hInv hHeld (fun hInv hHeld => ?_)
          try simp only [Act.put, List.setIfInBounds_toArray, List.set_cons_zero, List.set_cons_succ]
          refine anyS_take (i := 14) (oi := ⟨some 37, _, _, _, _, _⟩) (v := ?_) (by kernel_rfl) rfl (by kernel_rfl) (by kernel_rfl) (by kernel_rfl) (by kernel_rfl) (fun _ _ _ h => h) (Or.inl ⟨by rfl, by intro w hSw; (try dsimp only at hSw); go_simp; try with_reducible rfl⟩) (fun _ => by first | rfl | simp [Oper.about, resolve, go_sem]) hInv hHeld (fun hInv hHeld => ?_)
          try simp only [Act.put, List.setIfInBounds_toArray, List.set_cons_zero, List.set_cons_succ]
          refine anyS_take (i := 15) (oi := ⟨some 38, _, _, _, _, _⟩) (v := ?_) (by kernel_rfl) rfl (by kernel_rfl) (by kernel_rfl) (by kernel_rfl) (by kernel_rfl) (fun _ _ _ h => h) (Or.inl ⟨by rfl, by intro w hSw; (try dsimp only at hSw); go_simp; try with_reducible rfl⟩) (fun _ => by first | rfl | simp [Oper.about, resolve, go_sem]) hInv hHeld (fun hInv hHeld => ?_)
          try simp only [Act.put, List.setIfInBounds_toArray, List.set_cons_zero, List.set_cons_succ]
          refine anyS_take (i := 16) (oi := ⟨some 39, _, _, _, _, _⟩) (v := ?_) (by kernel_rfl) rfl (by kernel_rfl) (by kernel_rfl) (by kernel_rfl) (by kernel_rfl) (fun _ _ _ h => h) (Or.inl ⟨by rfl, by intro w hSw; (try dsimp only at hSw); go_simp; try with_reducible rfl⟩) (fun _ => by first | rfl | simp [Oper.about, resolve, go_sem]) hInv hHeld (fun hInv hHeld => ?_)
          try simp only [Act.put, List.setIfInBounds_toArray, List.set_cons_zero, List.set_cons_succ]
          refine anyS_take (i := 17) (oi := ⟨some 40, _, _, _, _, _⟩) (v := ?_) (by kernel_rfl) rfl (by kernel_rfl) (by kernel_rfl) (by kernel_rfl) (by kernel_rfl) (fun _ _ _ h => h) (Or.inl ⟨by rfl, by intro w hSw; (try dsimp only at hSw); go_simp; try with_reducible rfl⟩) (fun _ => by first | rfl | simp [Oper.about, resolve, go_sem]) hInv hHeld (fun hInv hHeld => ?_)
          try simp only [Act.put, List.setIfInBounds_toArray, List.set_cons_zero, List.set_cons_succ]
          refine anyS_take (i := 18) (oi := ⟨some 41, _, _, _, _, _⟩) (v := ?_) (by kernel_rfl) rfl (by kernel_rfl) (by kernel_rfl) (by kernel_rfl) (by kernel_rfl) (fun _ _ _ h => h) (Or.inl ⟨by rfl, by intro w hSw; (try dsimp only at hSw); go_simp; try with_reducible rfl⟩) (fun _ => by first | rfl | simp [Oper.about, resolve, go_sem]) hInv hHeld (fun hInv hHeld => ?_)
          try simp only [Act.put, List.setIfInBounds_toArray, List.set_cons_zero, List.set_cons_succ]
          refine anyS_one (i := 19) (o := ⟨some 42, _, _, _, _, _⟩) (by kernel_rfl) rfl hInv (fun K hK => ?_)
          go_simp
          refine hK.out _ _ (fun e => absurd (show true = false from e) (by decide)) (fun hInv hHeld => ?_)
          clear hK K
          try simp only [Act.put, List.setIfInBounds_toArray, List.set_cons_zero, List.set_cons_succ]
          refine anyS_done (by kernel_rfl) ?_ _
          have HBV := Off.mk (belowC (below_drew HB.out) hv1)
          clear hv1
          gi_wp2
          go_roundw
          case rel => exact ⟨k + 1, by omega, by go_num, HN, HBV⟩
          case measure => simp only [intOf]; omega
    · obtain rfl : k = xs.length := by omega
      have HP : Off (∀ i, inB 50 (xs.getD i (0, 0))) := ⟨fun i => by
        by_cases hi : i < xs.length
        · exact row_in (HR.out i hi)
        · rw [List.getD_eq_getElem?_getD, List.getElem?_eq_none (by omega)]
          decide⟩
      gi_wp2
      gi_loopw [5] (fun kv wo => ∃ k : Nat, k ≤ xs.length ∧ kv = .int .i64 k ∧ Off (turnsTo xs k) ∧ Off (Below w.heap.size w wo)) (fun kv _ => xs.length - (intOf kv).toNat)
      case atStart => exact ⟨0, by omega, rfl, ⟨fun i hi => by omega⟩, HB⟩
      case round =>
        clear HB
        obtain ⟨k, hk, rfl, HT, HB⟩ := hrel
        by_cases hlt : k < xs.length
        · have hkI : (k : Int) < (xs.length : Int) := by omega
          obtain ⟨m, hm⟩ : ∃ m, m = (k + 1) % xs.length := ⟨_, rfl⟩
          have hml : m < xs.length := by rw [hm]; exact Nat.mod_lt _ (by omega)
          have e5 : ((k : Int) + 1).tmod (xs.length : Int) = (m : Int) := by
            rw [Int.tmod_eq_emod_of_nonneg (by omega), hm, show (k : Int) + 1 = ((k + 1 : Nat) : Int) by omega]
            exact (Int.natCast_emod _ _).symm
          have e7 : ((k : Int) + 1) % (xs.length : Int) = (m : Int) := by rw [← Int.tmod_eq_emod_of_nonneg (by omega)]; exact e5
          have w5 : IntKind.i64.wrap ((k : Int) + 1) = (k : Int) + 1 := by rw [IntKind.wrap_i64]; omega
          have hn0 : ¬ xs.length = 0 := by omega
          have hmI : (m : Int) < (xs.length : Int) := by omega
          have hxr := HX.out.below HB.out
          obtain ⟨ad, rfl, x0, x1⟩ := hxr.cell k hlt
          obtain ⟨ad', e, z0, z1⟩ := hxr.cell m hml
          cases e
          obtain ⟨p, hp⟩ : ∃ p, p = xs.getD k (0, 0) := ⟨_, rfl⟩
          obtain ⟨q, hq⟩ : ∃ q, q = xs.getD m (0, 0) := ⟨_, rfl⟩
          rw [← hp] at x0 x1
          rw [← hq] at z0 z1
          have hpl2 : inB 2097152 p := by rw [hp]; exact inB_mono (HP.out _) (by decide)
          have hql2 : inB 2097152 q := by rw [hq]; exact inB_mono (HP.out _) (by decide)
          obtain ⟨m2, hm2⟩ : ∃ m, m = (k + 2) % xs.length := ⟨_, rfl⟩
          have hml2 : m2 < xs.length := by rw [hm2]; exact Nat.mod_lt _ (by omega)
          have e52 : ((k : Int) + 2).tmod (xs.length : Int) = (m2 : Int) := by
            rw [Int.tmod_eq_emod_of_nonneg (by omega), hm2, show (k : Int) + 2 = ((k + 2 : Nat) : Int) by omega]
            exact (Int.natCast_emod _ _).symm
          have e72 : ((k : Int) + 2) % (xs.length : Int) = (m2 : Int) := by rw [← Int.tmod_eq_emod_of_nonneg (by omega)]; exact e52
          have w52 : IntKind.i64.wrap ((k : Int) + 2) = (k : Int) + 2 := by rw [IntKind.wrap_i64]; omega
          have hmI2 : (m2 : Int) < (xs.length : Int) := by omega
          obtain ⟨r, hr⟩ : ∃ r, r = xs.getD m2 (0, 0) := ⟨_, rfl⟩
          have hrl2 : inB 2097152 r := by rw [hr]; exact inB_mono (HP.out _) (by decide)
          obtain ⟨b1, hb1⟩ : ∃ b, onR p q r = b := ⟨_, rfl⟩
          obtain ⟨b2, hb2⟩ : ∃ b, onR q r p = b := ⟨_, rfl⟩
          have C1 : Off (∀ W, Calls Try.prog 50 #[ptV p, ptV q, ptV r] W fun e w' => e = .returned (.bool b1) ∧ Below W.heap.size W w') := ⟨fun W => onR_any p q r b1 hb1 hpl2 hql2 hrl2 W⟩
          have C2 : Off (∀ W, Calls Try.prog 50 #[ptV q, ptV r, ptV p] W fun e w' => e = .returned (.bool b2) ∧ Below W.heap.size W w') := ⟨fun W => onR_any q r p b2 hb2 hql2 hrl2 hpl2 W⟩
          have HTU : Off (turnR xs k = (b1 || b2)) := ⟨by unfold turnR postAt; rw [← hm, ← hm2, ← hp, ← hq, ← hr, hb1, hb2]⟩
          have HNG : Off (turnR xs k = true → ¬ GoodR xs) := ⟨fun h hg => by have := hg.turn k hlt; rw [h] at this; cases this⟩
          have HSI : Off (∀ j l s u v, s = xs.getD j (0, 0) → l = (j + 1) % xs.length → u = xs.getD l (0, 0) → decide (l ≠ k) = v → sideR xs k j = (v && meetR p q s u)) := ⟨fun j l s u v h1 h2 h3 h4 => by unfold sideR postAt; rw [← hm, ← hp, ← hq, ← h2, ← h3, ← h1, h4]⟩
          have HNS : Off (∀ j, k + 2 ≤ j → j < xs.length → sideR xs k j = true → ¬ GoodR xs) := ⟨fun j h1 h2 h hg => by have := hg.side k hlt j h1 h2; rw [h] at this; cases this⟩
          have HNX : Off (turnR xs k = false → sidesTo xs k xs.length → turnsTo xs (k + 1)) := ⟨fun h1 h2 i hi => by
            by_cases e : i = k
            · rw [e]; exact ⟨h1, h2⟩
            · exact HT.out i (by omega)⟩
          have HRA : Off (∀ W, Below w.heap.size w W → W.cell? (ad.add (m2 * 2)) = some (.int .i64 r.1) ∧ W.cell? ⟨(ad.add (m2 * 2)).block, (ad.add (m2 * 2)).off + 1, none⟩ = some (.int .i64 r.2)) := ⟨fun W hb => by
            obtain ⟨ad', e, h1, h2⟩ := (HX.out.below hb).cell m2 hml2
            cases e
            rw [← hr] at h1 h2
            exact ⟨h1, h2⟩⟩
          clear hp hq hm hr hm2 hxr hb1 hb2 HT
          gi_wp2
          have SS : (fun w' => (w'.cell? (ad.add (k * 2)) = some (.int .i64 p.1) ∧ w'.cell? ⟨(ad.add (k * 2)).block, (ad.add (k * 2)).off + 1, none⟩ = some (.int .i64 p.2)) ∧ (w'.cell? (ad.add (m * 2)) = some (.int .i64 q.1) ∧ w'.cell? ⟨(ad.add (m * 2)).block, (ad.add (m * 2)).off + 1, none⟩ = some (.int .i64 q.2))) wr := ⟨⟨x0, x1⟩, z0, z1⟩
          have keepS : ∀ {v : World}, Below wr.heap.size wr v → (fun w' => (w'.cell? (ad.add (k * 2)) = some (.int .i64 p.1) ∧ w'.cell? ⟨(ad.add (k * 2)).block, (ad.add (k * 2)).off + 1, none⟩ = some (.int .i64 p.2)) ∧ (w'.cell? (ad.add (m * 2)) = some (.int .i64 q.1) ∧ w'.cell? ⟨(ad.add (m * 2)).block, (ad.add (m * 2)).off + 1, none⟩ = some (.int .i64 q.2))) wr → (fun w' => (w'.cell? (ad.add (k * 2)) = some (.int .i64 p.1) ∧ w'.cell? ⟨(ad.add (k * 2)).block, (ad.add (k * 2)).off + 1, none⟩ = some (.int .i64 p.2)) ∧ (w'.cell? (ad.add (m * 2)) = some (.int .i64 q.1) ∧ w'.cell? ⟨(ad.add (m * 2)).block, (ad.add (m * 2)).off + 1, none⟩ = some (.int .i64 q.2))) v := fun hb ⟨⟨x0, x1⟩, z0, z1⟩ => ⟨⟨cellB hb x0, cellB hb x1⟩, cellB hb z0, cellB hb z1⟩
          refine region_anyS' (S := (fun w' => (w'.cell? (ad.add (k * 2)) = some (.int .i64 p.1) ∧ w'.cell? ⟨(ad.add (k * 2)).block, (ad.add (k * 2)).off + 1, none⟩ = some (.int .i64 p.2)) ∧ (w'.cell? (ad.add (m * 2)) = some (.int .i64 q.1) ∧ w'.cell? ⟨(ad.add (m * 2)).block, (ad.add (m * 2)).off + 1, none⟩ = some (.int .i64 q.2)))) 14 (by kernel_rfl) SS (fun hInv hHeld => ?_)
          refine anyS_take (i := 0) (oi := ⟨some 48, _, _, _, _, _⟩) (v := ?_) (by kernel_rfl) rfl (by kernel_rfl) (by kernel_rfl) (by kernel_rfl) (by kernel_rfl) (fun _ _ _ h => h) (Or.inl ⟨by rfl, by intro w hSw; (try dsimp only at hSw); go_simp; try with_reducible rfl⟩) (fun _ => by first | rfl | simp [Oper.about, resolve, go_sem]) hInv hHeld (fun hInv hHeld => ?_)
          try simp only [Act.put, List.setIfInBounds_toArray, List.set_cons_zero, List.set_cons_succ]
          refine anyS_take (i := 1) (oi := ⟨some 49, _, _, _, _, _⟩) (v := ?_) (by kernel_rfl) rfl (by kernel_rfl) (by kernel_rfl) (by kernel_rfl) (by kernel_rfl) (fun _ _ _ h => h) (Or.inl ⟨by rfl, by intro w hSw; (try dsimp only at hSw); go_simp; try with_reducible rfl⟩) (fun _ => by first | rfl | simp [Oper.about, resolve, go_sem]) hInv hHeld (fun hInv hHeld => ?_)
          try simp only [Act.put, List.setIfInBounds_toArray, List.set_cons_zero, List.set_cons_succ]
          refine anyS_take (i := 2) (oi := ⟨some 50, _, _, _, _, _⟩) (v := ?_) (by kernel_rfl) rfl (by kernel_rfl) (by kernel_rfl) (by kernel_rfl) (by kernel_rfl) (fun _ _ _ h => h) (Or.inl ⟨by rfl, by intro w hSw; (try dsimp only at hSw); go_simp; try with_reducible rfl⟩) (fun _ => by first | rfl | simp [Oper.about, resolve, go_sem]) hInv hHeld (fun hInv hHeld => ?_)
          try simp only [Act.put, List.setIfInBounds_toArray, List.set_cons_zero, List.set_cons_succ]
          refine anyS_take (i := 3) (oi := ⟨some 51, _, _, _, _, _⟩) (v := ?_) (by kernel_rfl) rfl (by kernel_rfl) (by kernel_rfl) (by kernel_rfl) (by kernel_rfl) (fun _ _ _ h => h) (Or.inl ⟨by rfl, by intro w hSw; (try dsimp only at hSw); go_simp; try with_reducible rfl⟩) (fun _ => by first | rfl | simp [Oper.about, resolve, go_sem]) hInv hHeld (fun hInv hHeld => ?_)
          try simp only [Act.put, List.setIfInBounds_toArray, List.set_cons_zero, List.set_cons_succ]
          refine anyS_take (i := 4) (oi := ⟨some 52, _, _, _, _, _⟩) (v := ?_) (by kernel_rfl) rfl (by kernel_rfl) (by kernel_rfl) (by kernel_rfl) (by kernel_rfl) (fun _ _ _ h => h) (Or.inl ⟨by rfl, by intro w hSw; (try dsimp only at hSw); go_simp; try with_reducible rfl⟩) (fun _ => by first | rfl | simp [Oper.about, resolve, go_sem]) hInv hHeld (fun hInv hHeld => ?_)
          try simp only [Act.put, List.setIfInBounds_toArray, List.set_cons_zero, List.set_cons_succ]
          refine anyS_take (i := 5) (oi := ⟨some 53, _, _, _, _, _⟩) (v := ?_) (by kernel_rfl) rfl (by kernel_rfl) (by kernel_rfl) (by kernel_rfl) (by kernel_rfl) (fun _ _ _ h => h) (Or.inl ⟨by rfl, by intro w hSw; (try dsimp only at hSw); go_simp; try with_reducible rfl⟩) (fun _ => by first | rfl | simp [Oper.about, resolve, go_sem]) hInv hHeld (fun hInv hHeld => ?_)
          try simp only [Act.put, List.setIfInBounds_toArray, List.set_cons_zero, List.set_cons_succ]
          refine anyS_take (i := 6) (oi := ⟨some 54, _, _, _, _, _⟩) (v := ?_) (by kernel_rfl) rfl (by kernel_rfl) (by kernel_rfl) (by kernel_rfl) (by kernel_rfl) (fun _ _ _ h => h) (Or.inl ⟨by rfl, by intro w hSw; (try dsimp only at hSw); go_simp; try with_reducible rfl⟩) (fun _ => by first | rfl | simp [Oper.about, resolve, go_sem]) hInv hHeld (fun hInv hHeld => ?_)
          try simp only [Act.put, List.setIfInBounds_toArray, List.set_cons_zero, List.set_cons_succ]
          refine anyS_take (i := 7) (oi := ⟨some 55, _, _, _, _, _⟩) (v := ?_) (by kernel_rfl) rfl (by kernel_rfl) (by kernel_rfl) (by kernel_rfl) (by kernel_rfl) (fun _ _ _ h => h) (Or.inl ⟨by rfl, by intro w hSw; (try dsimp only at hSw); go_simp; try with_reducible rfl⟩) (fun _ => by first | rfl | simp [Oper.about, resolve, go_sem]) hInv hHeld (fun hInv hHeld => ?_)
          try simp only [Act.put, List.setIfInBounds_toArray, List.set_cons_zero, List.set_cons_succ]
          refine anyS_take (i := 8) (oi := ⟨some 56, _, _, _, _, _⟩) (v := ?_) (by kernel_rfl) rfl (by kernel_rfl) (by kernel_rfl) (by kernel_rfl) (by kernel_rfl) (fun _ _ _ h => h) (Or.inl ⟨by rfl, by intro w hSw; (try dsimp only at hSw); go_simp; try with_reducible rfl⟩) (fun _ => by first | rfl | simp [Oper.about, resolve, go_sem]) hInv hHeld (fun hInv hHeld => ?_)
          try simp only [Act.put, List.setIfInBounds_toArray, List.set_cons_zero, List.set_cons_succ]
          refine anyS_take (i := 9) (oi := ⟨some 57, _, _, _, _, _⟩) (v := ?_) (by kernel_rfl) rfl (by kernel_rfl) (by kernel_rfl) (by kernel_rfl) (by kernel_rfl) (fun _ _ _ h => h) (Or.inl ⟨by rfl, by intro w hSw; (try dsimp only at hSw); go_simp; try with_reducible rfl⟩) (fun _ => by first | rfl | simp [Oper.about, resolve, go_sem]) hInv hHeld (fun hInv hHeld => ?_)
          try simp only [Act.put, List.setIfInBounds_toArray, List.set_cons_zero, List.set_cons_succ]
          refine anyS_take (i := 10) (oi := ⟨some 58, _, _, _, _, _⟩) (v := ?_) (by kernel_rfl) rfl (by kernel_rfl) (by kernel_rfl) (by kernel_rfl) (by kernel_rfl) (fun _ _ _ h => h) (Or.inl ⟨by rfl, by intro w hSw; (try dsimp only at hSw); go_simp; try with_reducible rfl⟩) (fun _ => by first | rfl | simp [Oper.about, resolve, go_sem]) hInv hHeld (fun hInv hHeld => ?_)
          try simp only [Act.put, List.setIfInBounds_toArray, List.set_cons_zero, List.set_cons_succ]
          obtain ⟨V0, hV0⟩ : ∃ V, wr.drew = V := ⟨_, rfl⟩
          have hb0 : Below wr.heap.size wr V0 := by rw [← hV0]; exact (Below.refl _ wr).drew
          rw [hV0] at hHeld ⊢
          clear hV0
          refine anyS_two (i := 11) (o := ⟨some 6, _, _, _, _, _⟩) (j := 12) (p := ⟨some 7, _, _, _, _, _⟩) (by kernel_rfl) rfl rfl hInv (fun K hK => ?_) (fun K hK => ?_)
          · go_simp
            have hb1 := belowA hb0 (.cells #[.int .i64 0, .int .i64 0] 34)
            refine hK.out _ _ (fun _ => keepS hb1 SS) (fun hInv hHeld => ?_)
            clear hK K
            try simp only [Act.put, List.setIfInBounds_toArray, List.set_cons_zero, List.set_cons_succ]
            have bA := block_new V0 (.cells #[.int .i64 0, .int .i64 0] 34)
            have szA := hb0.size
            obtain ⟨U1, hU⟩ : ∃ U, (V0.alloc (.cells #[.int .i64 0, .int .i64 0] 34)) = U := ⟨_, rfl⟩
            rw [hU] at hb1 bA ⊢
            rw [hU] at hHeld
            clear hU
            refine anyS_one (i := 12) (o := ⟨some 7, _, _, _, _, _⟩) (by kernel_rfl) rfl hInv (fun K hK => ?_)
            go_simp
            have hb2 := belowA hb1 (.cells #[.int .i64 0, .int .i64 0] 34)
            refine hK.out _ _ (fun _ => keepS hb2 SS) (fun hInv hHeld => ?_)
            clear hK K
            try simp only [Act.put, List.setIfInBounds_toArray, List.set_cons_zero, List.set_cons_succ]
            have hlt2 := (Array.getElem?_eq_some_iff.1 bA).1
            have bA := alloc_old (o' := (.cells #[.int .i64 0, .int .i64 0] 34)) bA
            have bB := block_new U1 (.cells #[.int .i64 0, .int .i64 0] 34)
            have szB := hb1.size
            obtain ⟨U2, hU⟩ : ∃ U, (U1.alloc (.cells #[.int .i64 0, .int .i64 0] 34)) = U := ⟨_, rfl⟩
            rw [hU] at hb2 bB bA ⊢
            rw [hU] at hHeld
            clear hU
            have hne : V0.heap.size ≠ U1.heap.size := by omega
            obtain ⟨⟨x0, x1⟩, y0, y1⟩ := two_facts bA
            obtain ⟨⟨z0, z1⟩, u0, u1⟩ := two_facts bB
            have hne' := Ne.symm hne
            refine anyS_one (i := 13) (o := ⟨none, _, _, _, _, _⟩) (by kernel_rfl) rfl hInv (fun K hK => ?_)
            go_simp
            refine hK.out _ _ (fun _ => keepS ((hb2.setCell (p := ⟨V0.heap.size, 0, none⟩) szA _).setCell (p := ⟨V0.heap.size, 1, none⟩) szA _) SS) (fun hInv hHeld => ?_)
            clear hK K
            try simp only [Act.put, List.setIfInBounds_toArray, List.set_cons_zero, List.set_cons_succ]
            refine anyS_one (i := 14) (o := ⟨none, _, _, _, _, _⟩) (by kernel_rfl) rfl hInv (fun K hK => ?_)
            go_simp
            refine hK.out _ _ (fun e => absurd (show true = false from e) (by decide)) (fun hInv hHeld => ?_)
            clear hK K
            try simp only [Act.put, List.setIfInBounds_toArray, List.set_cons_zero, List.set_cons_succ]
            have ST := two_blocksT 34 p q hb2 szA szB hne bA bB
            clear hInv hHeld x0 x1 y0 y1 z0 z1 u0 u1 bA bB SS keepS
            refine anyS_done (by kernel_rfl) ?_ _
            generalize (((U2.setCell ⟨V0.heap.size, 0, none⟩ (.int .i64 p.1)).setCell ⟨V0.heap.size, 1, none⟩ (.int .i64 p.2)).setCell ⟨U1.heap.size, 0, none⟩ (.int .i64 q.1)).setCell ⟨U1.heap.size, 1, none⟩ (.int .i64 q.2) = V at ST ⊢
            obtain ⟨La, hLa⟩ : ∃ L, V0.heap.size = L := ⟨_, rfl⟩
            rw [hLa] at ST hne hne' szA ⊢
            clear hLa
            obtain ⟨Lb, hLb⟩ : ∃ L, U1.heap.size = L := ⟨_, rfl⟩
            rw [hLb] at ST hne hne' szB ⊢
            clear hLb
            have HBV := Off.mk (HB.out.trans (ST.2.mono HB.out.size))
            have HST := Off.mk ST.1
            clear ST
            obtain ⟨⟨l0, l1⟩, _⟩ := two_facts HST.out.1
            obtain ⟨⟨h0, h1⟩, _⟩ := two_facts HST.out.2
            obtain ⟨r0, r1⟩ := HRA.out V HBV.out
            obtain ⟨Lc, hLc⟩ : ∃ Lc, Lc = V.heap.size := ⟨_, rfl⟩
            obtain ⟨V', hV'⟩ : ∃ V', V.alloc (.cells #[.int .i64 r.1, .int .i64 r.2] 34) = V' := ⟨_, rfl⟩
            have hbc : Below V.heap.size V V' := by rw [← hV']; exact belowA (Below.refl _ V) _
            have bC : V'.heap[V.heap.size]? = some (.cells #[.int .i64 r.1, .int .i64 r.2] 34 (0, 0)) := by rw [← hV']; exact block_new V _
            have HB' := Off.mk (belowC HBV.out hbc)
            have HP3 : Off (V'.heap[La]? = some (.cells #[.int .i64 p.1, .int .i64 p.2] 34 (0, 0)) ∧ V'.heap[Lb]? = some (.cells #[.int .i64 q.1, .int .i64 q.2] 34 (0, 0))) := ⟨blockB hbc HST.out.1, blockB hbc HST.out.2⟩
            have g0 := cellB hbc l0
            have g1 := cellB hbc l1
            have i0 := cellB hbc h0
            have i1 := cellB hbc h1
            obtain ⟨⟨c0, c1⟩, _⟩ := two_facts bC
            have HC := Off.mk bC
            clear hbc bC HST hLc Lc
            gi_wp2_with fail
            try clear hV'
            refine ⟨trivial, ?_⟩
            refine (callsIn_wide.2 (C1.out _)).mono ?_
            rintro e V1 ⟨rfl, hv1⟩
            have HB1 := Off.mk (belowC HB'.out hv1)
            have HP1 : Off (V1.heap[La]? = some (.cells #[.int .i64 p.1, .int .i64 p.2] 34 (0, 0)) ∧ V1.heap[Lb]? = some (.cells #[.int .i64 q.1, .int .i64 q.2] 34 (0, 0))) := ⟨blockB hv1 HP3.out.1, blockB hv1 HP3.out.2⟩
            have g0 := cellB hv1 g0
            have g1 := cellB hv1 g1
            have i0 := cellB hv1 i0
            have i1 := cellB hv1 i1
            have c0 := cellB hv1 c0
            have c1 := cellB hv1 c1
            clear hv1
            cases b1 with
            | true =>
              have HN : Off (¬ GoodR xs) := ⟨HNG.out (by rw [HTU.out]; rfl)⟩
              clear HNG HTU HSI HNS HNX
              gi_wp2_with fail
              refine ⟨trivial, ?_⟩
              gi_wp2
              go_ret
              exact ⟨PenRes.no HN.out, HB1.out⟩
            | false =>
              gi_wp2_with fail
              refine ⟨trivial, ?_⟩
              refine (callsIn_wide.2 (C2.out _)).mono ?_
              rintro e V2 ⟨rfl, hv2⟩
              have HB2 := Off.mk (belowC HB1.out hv2)
              have HP2 : Off (V2.heap[La]? = some (.cells #[.int .i64 p.1, .int .i64 p.2] 34 (0, 0)) ∧ V2.heap[Lb]? = some (.cells #[.int .i64 q.1, .int .i64 q.2] 34 (0, 0))) := ⟨blockB hv2 HP1.out.1, blockB hv2 HP1.out.2⟩
              clear hv2 g0 g1 i0 i1 c0 c1 HP1 HB1 HP3 HB'
              cases b2 with
              | true =>
                have HN : Off (¬ GoodR xs) := ⟨HNG.out (by rw [HTU.out]; rfl)⟩
                clear HNG HTU HSI HNS HNX
                gi_wp2
                go_ret
                exact ⟨PenRes.no HN.out, HB2.out⟩
              | false =>
                have HTF : Off (turnR xs k = false) := ⟨by rw [HTU.out]; rfl⟩
                clear HNG HTU
                gi_wp2_with fail
                gi_loopw [9] (fun jv wi => ∃ j : Nat, (k + 2 ≤ j ∧ (j ≤ xs.length ∨ j = k + 2)) ∧ jv = .int .i64 j ∧ Off (sidesTo xs k j) ∧ Off ((wi.heap[La]? = some (.cells #[.int .i64 p.1, .int .i64 p.2] 34 (0, 0)) ∧ wi.heap[Lb]? = some (.cells #[.int .i64 q.1, .int .i64 q.2] 34 (0, 0))) ∧ Below w.heap.size w wi)) (fun jv _ => xs.length - (intOf jv).toNat)
                case atStart => exact ⟨k + 2, by omega, by go_num, ⟨fun i h1 h2 => by omega⟩, ⟨HP2.out, HB2.out⟩⟩
                case round =>
                  clear HP2 HB2
                  obtain ⟨j, hj, rfl, HS, HI⟩ := hrel
                  have HBi := Off.mk HI.out.2
                  by_cases hjl : j < xs.length
                  · have hjI : (j : Int) < (xs.length : Int) := by omega
                    obtain ⟨l, hl⟩ : ∃ l, l = (j + 1) % xs.length := ⟨_, rfl⟩
                    have hll : l < xs.length := by rw [hl]; exact Nat.mod_lt _ (by omega)
                    have f5 : ((j : Int) + 1).tmod (xs.length : Int) = (l : Int) := by
                      rw [Int.tmod_eq_emod_of_nonneg (by omega), hl, show (j : Int) + 1 = ((j + 1 : Nat) : Int) by omega]
                      exact (Int.natCast_emod _ _).symm
                    have f7 : ((j : Int) + 1) % (xs.length : Int) = (l : Int) := by rw [← Int.tmod_eq_emod_of_nonneg (by omega)]; exact f5
                    have wj : IntKind.i64.wrap ((j : Int) + 1) = (j : Int) + 1 := by rw [IntKind.wrap_i64]; omega
                    have hlI : (l : Int) < (xs.length : Int) := by omega
                    obtain ⟨⟨l0, l1⟩, _⟩ := two_facts HI.out.1.1
                    obtain ⟨⟨h0, h1⟩, _⟩ := two_facts HI.out.1.2
                    have hxi := HX.out.below HBi.out
                    obtain ⟨ad', e, s0, s1⟩ := hxi.cell j hjl
                    cases e
                    obtain ⟨ad', e, u0, u1⟩ := hxi.cell l hll
                    cases e
                    obtain ⟨s, hs⟩ : ∃ s, s = xs.getD j (0, 0) := ⟨_, rfl⟩
                    obtain ⟨u, hu⟩ : ∃ u, u = xs.getD l (0, 0) := ⟨_, rfl⟩
                    rw [← hs] at s0 s1
                    rw [← hu] at u0 u1
                    have hsl2 : inB 2097152 s := by rw [hs]; exact inB_mono (HP.out _) (by decide)
                    have hul2 : inB 2097152 u := by rw [hu]; exact inB_mono (HP.out _) (by decide)
                    obtain ⟨bn, hbn⟩ : ∃ b, decide (l ≠ k) = b := ⟨_, rfl⟩
                    obtain ⟨bm, hbm⟩ : ∃ b, meetR p q s u = b := ⟨_, rfl⟩
                    have CM : Off (∀ W, Calls Try.prog 51 #[ptV p, ptV q, ptV s, ptV u] W fun e w' => e = .returned (.bool bm) ∧ Below W.heap.size W w') := ⟨fun W => meetR_any p q s u bm hbm hpl2 hql2 hsl2 hul2 W⟩
                    have hne0 := neq_num l k bn hbn
                    have HSJ : Off (sideR xs k j = (bn && bm)) := ⟨by rw [← hbm]; exact HSI.out j l s u bn hs hl hu hbn⟩
                    have HSN : Off (sideR xs k j = false → sidesTo xs k (j + 1)) := ⟨fun h i h1 h2 => by
                      by_cases e : i = j
                      · rw [e]; exact h
                      · exact HS.out i h1 (by omega)⟩
                    have HSB : Off (sideR xs k j = true → ¬ GoodR xs) := ⟨HNS.out j hj.1 hjl⟩
                    clear hs hu hl hxi hbn hbm HS hsl2 hul2
                    gi_wp2
                    cases bn with
                    | false =>
                      have HN : Off (sidesTo xs k (j + 1)) := ⟨HSN.out (by rw [HSJ.out]; rfl)⟩
                      clear HSN HSB HSJ
                      refine region_anyS' (S := (fun w' => ((w'.cell? ⟨La, 0, none⟩ = some (.int .i64 p.1) ∧ w'.cell? ⟨La, 1, none⟩ = some (.int .i64 p.2)) ∧ (w'.cell? ⟨Lb, 0, none⟩ = some (.int .i64 q.1) ∧ w'.cell? ⟨Lb, 1, none⟩ = some (.int .i64 q.2))) ∧ ((w'.cell? (ad.add (j * 2)) = some (.int .i64 s.1) ∧ w'.cell? ⟨(ad.add (j * 2)).block, (ad.add (j * 2)).off + 1, none⟩ = some (.int .i64 s.2)) ∧ (w'.cell? (ad.add (l * 2)) = some (.int .i64 u.1) ∧ w'.cell? ⟨(ad.add (l * 2)).block, (ad.add (l * 2)).off + 1, none⟩ = some (.int .i64 u.2))))) 20 (by kernel_rfl) ⟨⟨⟨l0, l1⟩, h0, h1⟩, ⟨s0, s1⟩, u0, u1⟩ (fun hInv hHeld => ?_)
                      refine anyS_take (i := 0) (oi := ⟨some 83, _, _, _, _, _⟩) (v := ?_) (by kernel_rfl) rfl (by kernel_rfl) (by kernel_rfl) (by kernel_rfl) (by kernel_rfl) (fun _ _ _ h => h) (Or.inl ⟨by rfl, by intro w hSw; (try dsimp only at hSw); go_simp; try with_reducible rfl⟩) (fun _ => by first | rfl | simp [Oper.about, resolve, go_sem]) hInv hHeld (fun hInv hHeld => ?_)
                      try simp only [Act.put, List.setIfInBounds_toArray, List.set_cons_zero, List.set_cons_succ]
                      refine anyS_take (i := 1) (oi := ⟨some 84, _, _, _, _, _⟩) (v := ?_) (by kernel_rfl) rfl (by kernel_rfl) (by kernel_rfl) (by kernel_rfl) (by kernel_rfl) (fun _ _ _ h => h) (Or.inl ⟨by rfl, by intro w hSw; (try dsimp only at hSw); go_simp; try with_reducible rfl⟩) (fun _ => by first | rfl | simp [Oper.about, resolve, go_sem]) hInv hHeld (fun hInv hHeld => ?_)
                      try simp only [Act.put, List.setIfInBounds_toArray, List.set_cons_zero, List.set_cons_succ]
                      refine anyS_take (i := 2) (oi := ⟨some 85, _, _, _, _, _⟩) (v := ?_) (by kernel_rfl) rfl (by kernel_rfl) (by kernel_rfl) (by kernel_rfl) (by kernel_rfl) (fun _ _ _ h => h) (Or.inl ⟨by rfl, by intro w hSw; (try dsimp only at hSw); go_simp; try with_reducible rfl⟩) (fun _ => by first | rfl | simp [Oper.about, resolve, go_sem]) hInv hHeld (fun hInv hHeld => ?_)
                      try simp only [Act.put, List.setIfInBounds_toArray, List.set_cons_zero, List.set_cons_succ]
                      refine anyS_take (i := 3) (oi := ⟨some 86, _, _, _, _, _⟩) (v := ?_) (by kernel_rfl) rfl (by kernel_rfl) (by kernel_rfl) (by kernel_rfl) (by kernel_rfl) (fun _ _ _ h => h) (Or.inl ⟨by rfl, by intro w hSw; (try dsimp only at hSw); go_simp; try with_reducible rfl⟩) (fun _ => by first | rfl | simp [Oper.about, resolve, go_sem]) hInv hHeld (fun hInv hHeld => ?_)
                      try simp only [Act.put, List.setIfInBounds_toArray, List.set_cons_zero, List.set_cons_succ]
                      refine anyS_take (i := 4) (oi := ⟨some 87, _, _, _, _, _⟩) (v := ?_) (by kernel_rfl) rfl (by kernel_rfl) (by kernel_rfl) (by kernel_rfl) (by kernel_rfl) (fun _ _ _ h => h) (Or.inl ⟨by rfl, by intro w hSw; (try dsimp only at hSw); go_simp; try with_reducible rfl⟩) (fun _ => by first | rfl | simp [Oper.about, resolve, go_sem]) hInv hHeld (fun hInv hHeld => ?_)
                      try simp only [Act.put, List.setIfInBounds_toArray, List.set_cons_zero, List.set_cons_succ]
                      refine anyS_take (i := 5) (oi := ⟨some 88, _, _, _, _, _⟩) (v := ?_) (by kernel_rfl) rfl (by kernel_rfl) (by kernel_rfl) (by kernel_rfl) (by kernel_rfl) (fun _ _ _ h => h) (Or.inl ⟨by rfl, by intro w hSw; (try dsimp only at hSw); go_simp; try with_reducible rfl⟩) (fun _ => by first | rfl | simp [Oper.about, resolve, go_sem]) hInv hHeld (fun hInv hHeld => ?_)
                      try simp only [Act.put, List.setIfInBounds_toArray, List.set_cons_zero, List.set_cons_succ]
                      refine anyS_take (i := 6) (oi := ⟨some 89, _, _, _, _, _⟩) (v := ?_) (by kernel_rfl) rfl (by kernel_rfl) (by kernel_rfl) (by kernel_rfl) (by kernel_rfl) (fun _ _ _ h => h) (Or.inl ⟨by rfl, by intro w hSw; (try dsimp only at hSw); go_simp; try with_reducible rfl⟩) (fun _ => by first | rfl | simp [Oper.about, resolve, go_sem]) hInv hHeld (fun hInv hHeld => ?_)
                      try simp only [Act.put, List.setIfInBounds_toArray, List.set_cons_zero, List.set_cons_succ]
                      refine anyS_take (i := 7) (oi := ⟨some 90, _, _, _, _, _⟩) (v := undef) (by kernel_rfl) rfl (by kernel_rfl) (by kernel_rfl) (by kernel_rfl) (by kernel_rfl) (fun _ _ _ h => h) (Or.inr ⟨by rfl, rfl⟩) (fun _ => by first | rfl | simp [Oper.about, resolve, go_sem]) hInv hHeld (fun hInv hHeld => ?_)
                      try simp only [Act.put, List.setIfInBounds_toArray, List.set_cons_zero, List.set_cons_succ]
                      refine anyS_take (i := 8) (oi := ⟨some 91, _, _, _, _, _⟩) (v := undef) (by kernel_rfl) rfl (by kernel_rfl) (by kernel_rfl) (by kernel_rfl) (by kernel_rfl) (fun _ _ _ h => h) (Or.inr ⟨by rfl, rfl⟩) (fun _ => by first | rfl | simp [Oper.about, resolve, go_sem]) hInv hHeld (fun hInv hHeld => ?_)
                      try simp only [Act.put, List.setIfInBounds_toArray, List.set_cons_zero, List.set_cons_succ]
                      refine anyS_take (i := 9) (oi := ⟨some 92, _, _, _, _, _⟩) (v := undef) (by kernel_rfl) rfl (by kernel_rfl) (by kernel_rfl) (by kernel_rfl) (by kernel_rfl) (fun _ _ _ h => h) (Or.inr ⟨by rfl, rfl⟩) (fun _ => by first | rfl | simp [Oper.about, resolve, go_sem]) hInv hHeld (fun hInv hHeld => ?_)
                      try simp only [Act.put, List.setIfInBounds_toArray, List.set_cons_zero, List.set_cons_succ]
                      refine anyS_take (i := 10) (oi := ⟨some 93, _, _, _, _, _⟩) (v := undef) (by kernel_rfl) rfl (by kernel_rfl) (by kernel_rfl) (by kernel_rfl) (by kernel_rfl) (fun _ _ _ h => h) (Or.inr ⟨by rfl, rfl⟩) (fun _ => by first | rfl | simp [Oper.about, resolve, go_sem]) hInv hHeld (fun hInv hHeld => ?_)
                      try simp only [Act.put, List.setIfInBounds_toArray, List.set_cons_zero, List.set_cons_succ]
                      refine anyS_take (i := 11) (oi := ⟨some 94, _, _, _, _, _⟩) (v := undef) (by kernel_rfl) rfl (by kernel_rfl) (by kernel_rfl) (by kernel_rfl) (by kernel_rfl) (fun _ _ _ h => h) (Or.inr ⟨by rfl, rfl⟩) (fun _ => by first | rfl | simp [Oper.about, resolve, go_sem]) hInv hHeld (fun hInv hHeld => ?_)
                      try simp only [Act.put, List.setIfInBounds_toArray, List.set_cons_zero, List.set_cons_succ]
                      refine anyS_take (i := 12) (oi := ⟨some 95, _, _, _, _, _⟩) (v := undef) (by kernel_rfl) rfl (by kernel_rfl) (by kernel_rfl) (by kernel_rfl) (by kernel_rfl) (fun _ _ _ h => h) (Or.inr ⟨by rfl, rfl⟩) (fun _ => by first | rfl | simp [Oper.about, resolve, go_sem]) hInv hHeld (fun hInv hHeld => ?_)
                      try simp only [Act.put, List.setIfInBounds_toArray, List.set_cons_zero, List.set_cons_succ]
                      refine anyS_take (i := 13) (oi := ⟨some 96, _, _, _, _, _⟩) (v := undef) (by kernel_rfl) rfl (by kernel_rfl) (by kernel_rfl) (by kernel_rfl) (by kernel_rfl) (fun _ _ _ h => h) (Or.inr ⟨by rfl, rfl⟩) (fun _ => by first | rfl | simp [Oper.about, resolve, go_sem]) hInv hHeld (fun hInv hHeld => ?_)
                      try simp only [Act.put, List.setIfInBounds_toArray, List.set_cons_zero, List.set_cons_succ]
                      refine anyS_take (i := 14) (oi := ⟨some 97, _, _, _, _, _⟩) (v := undef) (by kernel_rfl) rfl (by kernel_rfl) (by kernel_rfl) (by kernel_rfl) (by kernel_rfl) (fun _ _ _ h => h) (Or.inr ⟨by rfl, rfl⟩) (fun _ => by first | rfl | simp [Oper.about, resolve, go_sem]) hInv hHeld (fun hInv hHeld => ?_)
                      try simp only [Act.put, List.setIfInBounds_toArray, List.set_cons_zero, List.set_cons_succ]
                      refine anyS_take (i := 15) (oi := ⟨some 98, _, _, _, _, _⟩) (v := undef) (by kernel_rfl) rfl (by kernel_rfl) (by kernel_rfl) (by kernel_rfl) (by kernel_rfl) (fun _ _ _ h => h) (Or.inr ⟨by rfl, rfl⟩) (fun _ => by first | rfl | simp [Oper.about, resolve, go_sem]) hInv hHeld (fun hInv hHeld => ?_)
                      try simp only [Act.put, List.setIfInBounds_toArray, List.set_cons_zero, List.set_cons_succ]
                      refine anyS_take (i := 16) (oi := ⟨some 99, _, _, _, _, _⟩) (v := undef) (by kernel_rfl) rfl (by kernel_rfl) (by kernel_rfl) (by kernel_rfl) (by kernel_rfl) (fun _ _ _ h => h) (Or.inr ⟨by rfl, rfl⟩) (fun _ => by first | rfl | simp [Oper.about, resolve, go_sem]) hInv hHeld (fun hInv hHeld => ?_)
                      try simp only [Act.put, List.setIfInBounds_toArray, List.set_cons_zero, List.set_cons_succ]
                      refine anyS_take (i := 17) (oi := ⟨some 100, _, _, _, _, _⟩) (v := undef) (by kernel_rfl) rfl (by kernel_rfl) (by kernel_rfl) (by kernel_rfl) (by kernel_rfl) (fun _ _ _ h => h) (Or.inr ⟨by rfl, rfl⟩) (fun _ => by first | rfl | simp [Oper.about, resolve, go_sem]) hInv hHeld (fun hInv hHeld => ?_)
                      try simp only [Act.put, List.setIfInBounds_toArray, List.set_cons_zero, List.set_cons_succ]
                      refine anyS_take (i := 18) (oi := ⟨some 101, _, _, _, _, _⟩) (v := undef) (by kernel_rfl) rfl (by kernel_rfl) (by kernel_rfl) (by kernel_rfl) (by kernel_rfl) (fun _ _ _ h => h) (Or.inr ⟨by rfl, rfl⟩) (fun _ => by first | rfl | simp [Oper.about, resolve, go_sem]) hInv hHeld (fun hInv hHeld => ?_)
                      try simp only [Act.put, List.setIfInBounds_toArray, List.set_cons_zero, List.set_cons_succ]
                      refine anyS_take (i := 19) (oi := ⟨some 102, _, _, _, _, _⟩) (v := undef) (by kernel_rfl) rfl (by kernel_rfl) (by kernel_rfl) (by kernel_rfl) (by kernel_rfl) (fun _ _ _ h => h) (Or.inr ⟨by rfl, rfl⟩) (fun _ => by first | rfl | simp [Oper.about, resolve, go_sem]) hInv hHeld (fun hInv hHeld => ?_)
                      try simp only [Act.put, List.setIfInBounds_toArray, List.set_cons_zero, List.set_cons_succ]
                      refine anyS_one (i := 20) (o := ⟨some 103, _, _, _, _, _⟩) (by kernel_rfl) rfl hInv (fun K hK => ?_)
                      go_simp
                      refine ⟨trivial, ?_⟩
                      refine hK.out _ _ (fun e => absurd (show true = false from e) (by decide)) (fun hInv hHeld => ?_)
                      clear hK K
                      try simp only [Act.put, List.setIfInBounds_toArray, List.set_cons_zero, List.set_cons_succ]
                      refine anyS_pure (i := 21) (oi := ⟨some 104, _, _, _, _, _⟩) (v := ?_) (by kernel_rfl) rfl (by kernel_rfl) (by kernel_rfl) (by kernel_rfl) (by decide) (fun _ _ _ h => h) (Or.inl ⟨by rfl, by intro w hSw; (try dsimp only at hSw); go_simp; try with_reducible rfl⟩) (fun _ => by first | rfl | simp [Oper.about, resolve, go_sem]) hInv hHeld (fun hInv hHeld => ?_)
                      try simp only [Act.put, List.setIfInBounds_toArray, List.set_cons_zero, List.set_cons_succ]
                      refine anyS_done (by kernel_rfl) ?_ _
                      have HIV : Off ((wr.drew.heap[La]? = some (.cells #[.int .i64 p.1, .int .i64 p.2] 34 (0, 0)) ∧ wr.drew.heap[Lb]? = some (.cells #[.int .i64 q.1, .int .i64 q.2] 34 (0, 0))) ∧ Below w.heap.size w wr.drew) := ⟨HI.out.1, below_drew HI.out.2⟩
                      gi_wp2
                      go_roundw
                      case rel => exact ⟨j + 1, by omega, by go_num, HN, HIV⟩
                      case measure => simp only [intOf]; omega
                    | true =>
                      cases bm with
                      | true =>
                        have HN : Off (¬ GoodR xs) := ⟨HSB.out (by rw [HSJ.out]; rfl)⟩
                        clear HSN HSB HSJ
                        refine region_anyS' (S := (fun w' => ((w'.cell? ⟨La, 0, none⟩ = some (.int .i64 p.1) ∧ w'.cell? ⟨La, 1, none⟩ = some (.int .i64 p.2)) ∧ (w'.cell? ⟨Lb, 0, none⟩ = some (.int .i64 q.1) ∧ w'.cell? ⟨Lb, 1, none⟩ = some (.int .i64 q.2))) ∧ ((w'.cell? (ad.add (j * 2)) = some (.int .i64 s.1) ∧ w'.cell? ⟨(ad.add (j * 2)).block, (ad.add (j * 2)).off + 1, none⟩ = some (.int .i64 s.2)) ∧ (w'.cell? (ad.add (l * 2)) = some (.int .i64 u.1) ∧ w'.cell? ⟨(ad.add (l * 2)).block, (ad.add (l * 2)).off + 1, none⟩ = some (.int .i64 u.2))))) 20 (by kernel_rfl) ⟨⟨⟨l0, l1⟩, h0, h1⟩, ⟨s0, s1⟩, u0, u1⟩ (fun hInv hHeld => ?_)
                        refine anyS_take (i := 0) (oi := ⟨some 83, _, _, _, _, _⟩) (v := ?_) (by kernel_rfl) rfl (by kernel_rfl) (by kernel_rfl) (by kernel_rfl) (by kernel_rfl) (fun _ _ _ h => h) (Or.inl ⟨by rfl, by intro w hSw; (try dsimp only at hSw); go_simp; try with_reducible rfl⟩) (fun _ => by first | rfl | simp [Oper.about, resolve, go_sem]) hInv hHeld (fun hInv hHeld => ?_)
                        try simp only [Act.put, List.setIfInBounds_toArray, List.set_cons_zero, List.set_cons_succ]
                        refine anyS_take (i := 1) (oi := ⟨some 84, _, _, _, _, _⟩) (v := ?_) (by kernel_rfl) rfl (by kernel_rfl) (by kernel_rfl) (by kernel_rfl) (by kernel_rfl) (fun _ _ _ h => h) (Or.inl ⟨by rfl, by intro w hSw; (try dsimp only at hSw); go_simp; try with_reducible rfl⟩) (fun _ => by first | rfl | simp [Oper.about, resolve, go_sem]) hInv hHeld (fun hInv hHeld => ?_)
                        try simp only [Act.put, List.setIfInBounds_toArray, List.set_cons_zero, List.set_cons_succ]
                        refine anyS_take (i := 2) (oi := ⟨some 85, _, _, _, _, _⟩) (v := ?_) (by kernel_rfl) rfl (by kernel_rfl) (by kernel_rfl) (by kernel_rfl) (by kernel_rfl) (fun _ _ _ h => h) (Or.inl ⟨by rfl, by intro w hSw; (try dsimp only at hSw); go_simp; try with_reducible rfl⟩) (fun _ => by first | rfl | simp [Oper.about, resolve, go_sem]) hInv hHeld (fun hInv hHeld => ?_)
                        try simp only [Act.put, List.setIfInBounds_toArray, List.set_cons_zero, List.set_cons_succ]
                        refine anyS_take (i := 3) (oi := ⟨some 86, _, _, _, _, _⟩) (v := ?_) (by kernel_rfl) rfl (by kernel_rfl) (by kernel_rfl) (by kernel_rfl) (by kernel_rfl) (fun _ _ _ h => h) (Or.inl ⟨by rfl, by intro w hSw; (try dsimp only at hSw); go_simp; try with_reducible rfl⟩) (fun _ => by first | rfl | simp [Oper.about, resolve, go_sem]) hInv hHeld (fun hInv hHeld => ?_)
                        try simp only [Act.put, List.setIfInBounds_toArray, List.set_cons_zero, List.set_cons_succ]
                        refine anyS_take (i := 4) (oi := ⟨some 87, _, _, _, _, _⟩) (v := ?_) (by kernel_rfl) rfl (by kernel_rfl) (by kernel_rfl) (by kernel_rfl) (by kernel_rfl) (fun _ _ _ h => h) (Or.inl ⟨by rfl, by intro w hSw; (try dsimp only at hSw); go_simp; try with_reducible rfl⟩) (fun _ => by first | rfl | simp [Oper.about, resolve, go_sem]) hInv hHeld (fun hInv hHeld => ?_)
                        try simp only [Act.put, List.setIfInBounds_toArray, List.set_cons_zero, List.set_cons_succ]
                        refine anyS_take (i := 5) (oi := ⟨some 88, _, _, _, _, _⟩) (v := ?_) (by kernel_rfl) rfl (by kernel_rfl) (by kernel_rfl) (by kernel_rfl) (by kernel_rfl) (fun _ _ _ h => h) (Or.inl ⟨by rfl, by intro w hSw; (try dsimp only at hSw); go_simp; try with_reducible rfl⟩) (fun _ => by first | rfl | simp [Oper.about, resolve, go_sem]) hInv hHeld (fun hInv hHeld => ?_)
                        try simp only [Act.put, List.setIfInBounds_toArray, List.set_cons_zero, List.set_cons_succ]
                        refine anyS_take (i := 6) (oi := ⟨some 89, _, _, _, _, _⟩) (v := ?_) (by kernel_rfl) rfl (by kernel_rfl) (by kernel_rfl) (by kernel_rfl) (by kernel_rfl) (fun _ _ _ h => h) (Or.inl ⟨by rfl, by intro w hSw; (try dsimp only at hSw); go_simp; try with_reducible rfl⟩) (fun _ => by first | rfl | simp [Oper.about, resolve, go_sem]) hInv hHeld (fun hInv hHeld => ?_)
                        try simp only [Act.put, List.setIfInBounds_toArray, List.set_cons_zero, List.set_cons_succ]
                        refine anyS_take (i := 7) (oi := ⟨some 90, _, _, _, _, _⟩) (v := ?_) (by kernel_rfl) rfl (by kernel_rfl) (by kernel_rfl) (by kernel_rfl) (by kernel_rfl) (fun _ _ _ h => h) (Or.inl ⟨by rfl, by intro w hSw; (try dsimp only at hSw); go_simp; try with_reducible rfl⟩) (fun _ => by first | rfl | simp [Oper.about, resolve, go_sem]) hInv hHeld (fun hInv hHeld => ?_)
                        try simp only [Act.put, List.setIfInBounds_toArray, List.set_cons_zero, List.set_cons_succ]
                        refine anyS_take (i := 8) (oi := ⟨some 91, _, _, _, _, _⟩) (v := ?_) (by kernel_rfl) rfl (by kernel_rfl) (by kernel_rfl) (by kernel_rfl) (by kernel_rfl) (fun _ _ _ h => h) (Or.inl ⟨by rfl, by intro w hSw; (try dsimp only at hSw); go_simp; try with_reducible rfl⟩) (fun _ => by first | rfl | simp [Oper.about, resolve, go_sem]) hInv hHeld (fun hInv hHeld => ?_)
                        try simp only [Act.put, List.setIfInBounds_toArray, List.set_cons_zero, List.set_cons_succ]
                        refine anyS_take (i := 9) (oi := ⟨some 92, _, _, _, _, _⟩) (v := ?_) (by kernel_rfl) rfl (by kernel_rfl) (by kernel_rfl) (by kernel_rfl) (by kernel_rfl) (fun _ _ _ h => h) (Or.inl ⟨by rfl, by intro w hSw; (try dsimp only at hSw); go_simp; try with_reducible rfl⟩) (fun _ => by first | rfl | simp [Oper.about, resolve, go_sem]) hInv hHeld (fun hInv hHeld => ?_)
                        try simp only [Act.put, List.setIfInBounds_toArray, List.set_cons_zero, List.set_cons_succ]
                        refine anyS_take (i := 10) (oi := ⟨some 93, _, _, _, _, _⟩) (v := ?_) (by kernel_rfl) rfl (by kernel_rfl) (by kernel_rfl) (by kernel_rfl) (by kernel_rfl) (fun _ _ _ h => h) (Or.inl ⟨by rfl, by intro w hSw; (try dsimp only at hSw); go_simp; try with_reducible rfl⟩) (fun _ => by first | rfl | simp [Oper.about, resolve, go_sem]) hInv hHeld (fun hInv hHeld => ?_)
                        try simp only [Act.put, List.setIfInBounds_toArray, List.set_cons_zero, List.set_cons_succ]
                        refine anyS_take (i := 11) (oi := ⟨some 94, _, _, _, _, _⟩) (v := ?_) (by kernel_rfl) rfl (by kernel_rfl) (by kernel_rfl) (by kernel_rfl) (by kernel_rfl) (fun _ _ _ h => h) (Or.inl ⟨by rfl, by intro w hSw; (try dsimp only at hSw); go_simp; try with_reducible rfl⟩) (fun _ => by first | rfl | simp [Oper.about, resolve, go_sem]) hInv hHeld (fun hInv hHeld => ?_)
                        try simp only [Act.put, List.setIfInBounds_toArray, List.set_cons_zero, List.set_cons_succ]
                        refine anyS_take (i := 12) (oi := ⟨some 95, _, _, _, _, _⟩) (v := ?_) (by kernel_rfl) rfl (by kernel_rfl) (by kernel_rfl) (by kernel_rfl) (by kernel_rfl) (fun _ _ _ h => h) (Or.inl ⟨by rfl, by intro w hSw; (try dsimp only at hSw); go_simp; try with_reducible rfl⟩) (fun _ => by first | rfl | simp [Oper.about, resolve, go_sem]) hInv hHeld (fun hInv hHeld => ?_)
                        try simp only [Act.put, List.setIfInBounds_toArray, List.set_cons_zero, List.set_cons_succ]
                        refine anyS_take (i := 13) (oi := ⟨some 96, _, _, _, _, _⟩) (v := ?_) (by kernel_rfl) rfl (by kernel_rfl) (by kernel_rfl) (by kernel_rfl) (by kernel_rfl) (fun _ _ _ h => h) (Or.inl ⟨by rfl, by intro w hSw; (try dsimp only at hSw); go_simp; try with_reducible rfl⟩) (fun _ => by first | rfl | simp [Oper.about, resolve, go_sem]) hInv hHeld (fun hInv hHeld => ?_)
                        try simp only [Act.put, List.setIfInBounds_toArray, List.set_cons_zero, List.set_cons_succ]
                        refine anyS_take (i := 14) (oi := ⟨some 97, _, _, _, _, _⟩) (v := ?_) (by kernel_rfl) rfl (by kernel_rfl) (by kernel_rfl) (by kernel_rfl) (by kernel_rfl) (fun _ _ _ h => h) (Or.inl ⟨by rfl, by intro w hSw; (try dsimp only at hSw); go_simp; try with_reducible rfl⟩) (fun _ => by first | rfl | simp [Oper.about, resolve, go_sem]) hInv hHeld (fun hInv hHeld => ?_)
                        try simp only [Act.put, List.setIfInBounds_toArray, List.set_cons_zero, List.set_cons_succ]
                        refine anyS_take (i := 15) (oi := ⟨some 98, _, _, _, _, _⟩) (v := ?_) (by kernel_rfl) rfl (by kernel_rfl) (by kernel_rfl) (by kernel_rfl) (by kernel_rfl) (fun _ _ _ h => h) (Or.inl ⟨by rfl, by intro w hSw; (try dsimp only at hSw); go_simp; try with_reducible rfl⟩) (fun _ => by first | rfl | simp [Oper.about, resolve, go_sem]) hInv hHeld (fun hInv hHeld => ?_)
                        try simp only [Act.put, List.setIfInBounds_toArray, List.set_cons_zero, List.set_cons_succ]
                        refine anyS_take (i := 16) (oi := ⟨some 99, _, _, _, _, _⟩) (v := ?_) (by kernel_rfl) rfl (by kernel_rfl) (by kernel_rfl) (by kernel_rfl) (by kernel_rfl) (fun _ _ _ h => h) (Or.inl ⟨by rfl, by intro w hSw; (try dsimp only at hSw); go_simp; try with_reducible rfl⟩) (fun _ => by first | rfl | simp [Oper.about, resolve, go_sem]) hInv hHeld (fun hInv hHeld => ?_)
                        try simp only [Act.put, List.setIfInBounds_toArray, List.set_cons_zero, List.set_cons_succ]
                        refine anyS_take (i := 17) (oi := ⟨some 100, _, _, _, _, _⟩) (v := ?_) (by kernel_rfl) rfl (by kernel_rfl) (by kernel_rfl) (by kernel_rfl) (by kernel_rfl) (fun _ _ _ h => h) (Or.inl ⟨by rfl, by intro w hSw; (try dsimp only at hSw); go_simp; try with_reducible rfl⟩) (fun _ => by first | rfl | simp [Oper.about, resolve, go_sem]) hInv hHeld (fun hInv hHeld => ?_)
                        try simp only [Act.put, List.setIfInBounds_toArray, List.set_cons_zero, List.set_cons_succ]
                        refine anyS_take (i := 18) (oi := ⟨some 101, _, _, _, _, _⟩) (v := ?_) (by kernel_rfl) rfl (by kernel_rfl) (by kernel_rfl) (by kernel_rfl) (by kernel_rfl) (fun _ _ _ h => h) (Or.inl ⟨by rfl, by intro w hSw; (try dsimp only at hSw); go_simp; try with_reducible rfl⟩) (fun _ => by first | rfl | simp [Oper.about, resolve, go_sem]) hInv hHeld (fun hInv hHeld => ?_)
                        try simp only [Act.put, List.setIfInBounds_toArray, List.set_cons_zero, List.set_cons_succ]
                        refine anyS_take (i := 19) (oi := ⟨some 102, _, _, _, _, _⟩) (v := ?_) (by kernel_rfl) rfl (by kernel_rfl) (by kernel_rfl) (by kernel_rfl) (by kernel_rfl) (fun _ _ _ h => h) (Or.inl ⟨by rfl, by intro w hSw; (try dsimp only at hSw); go_simp; try with_reducible rfl⟩) (fun _ => by first | rfl | simp [Oper.about, resolve, go_sem]) hInv hHeld (fun hInv hHeld => ?_)
                        try simp only [Act.put, List.setIfInBounds_toArray, List.set_cons_zero, List.set_cons_succ]
                        refine anyS_one (i := 20) (o := ⟨some 103, _, _, _, _, _⟩) (by kernel_rfl) rfl hInv (fun K hK => ?_)
                        go_simp
                        refine ⟨trivial, ?_⟩
                        refine (callsIn_wide.2 (CM.out _)).mono ?_
                        rintro e V3 ⟨rfl, hv3⟩
                        refine hK.out _ _ (fun e => absurd (show true = false from e) (by decide)) (fun hInv hHeld => ?_)
                        clear hK K
                        try simp only [Act.put, List.setIfInBounds_toArray, List.set_cons_zero, List.set_cons_succ]
                        refine anyS_pure (i := 21) (oi := ⟨some 104, _, _, _, _, _⟩) (v := ?_) (by kernel_rfl) rfl (by kernel_rfl) (by kernel_rfl) (by kernel_rfl) (by decide) (fun _ _ _ h => h) (Or.inl ⟨by rfl, by intro w hSw; (try dsimp only at hSw); go_simp; try with_reducible rfl⟩) (fun _ => by first | rfl | simp [Oper.about, resolve, go_sem]) hInv hHeld (fun hInv hHeld => ?_)
                        try simp only [Act.put, List.setIfInBounds_toArray, List.set_cons_zero, List.set_cons_succ]
                        refine anyS_done (by kernel_rfl) ?_ _
                        gi_wp2
                        go_ret
                        exact ⟨PenRes.no HN.out, belowC (below_drew HI.out.2) hv3⟩
                      | false =>
                        have HN : Off (sidesTo xs k (j + 1)) := ⟨HSN.out (by rw [HSJ.out]; rfl)⟩
                        clear HSN HSB HSJ
                        refine region_anyS' (S := (fun w' => ((w'.cell? ⟨La, 0, none⟩ = some (.int .i64 p.1) ∧ w'.cell? ⟨La, 1, none⟩ = some (.int .i64 p.2)) ∧ (w'.cell? ⟨Lb, 0, none⟩ = some (.int .i64 q.1) ∧ w'.cell? ⟨Lb, 1, none⟩ = some (.int .i64 q.2))) ∧ ((w'.cell? (ad.add (j * 2)) = some (.int .i64 s.1) ∧ w'.cell? ⟨(ad.add (j * 2)).block, (ad.add (j * 2)).off + 1, none⟩ = some (.int .i64 s.2)) ∧ (w'.cell? (ad.add (l * 2)) = some (.int .i64 u.1) ∧ w'.cell? ⟨(ad.add (l * 2)).block, (ad.add (l * 2)).off + 1, none⟩ = some (.int .i64 u.2))))) 20 (by kernel_rfl) ⟨⟨⟨l0, l1⟩, h0, h1⟩, ⟨s0, s1⟩, u0, u1⟩ (fun hInv hHeld => ?_)
                        refine anyS_take (i := 0) (oi := ⟨some 83, _, _, _, _, _⟩) (v := ?_) (by kernel_rfl) rfl (by kernel_rfl) (by kernel_rfl) (by kernel_rfl) (by kernel_rfl) (fun _ _ _ h => h) (Or.inl ⟨by rfl, by intro w hSw; (try dsimp only at hSw); go_simp; try with_reducible rfl⟩) (fun _ => by first | rfl | simp [Oper.about, resolve, go_sem]) hInv hHeld (fun hInv hHeld => ?_)
                        try simp only [Act.put, List.setIfInBounds_toArray, List.set_cons_zero, List.set_cons_succ]
                        refine anyS_take (i := 1) (oi := ⟨some 84, _, _, _, _, _⟩) (v := ?_) (by kernel_rfl) rfl (by kernel_rfl) (by kernel_rfl) (by kernel_rfl) (by kernel_rfl) (fun _ _ _ h => h) (Or.inl ⟨by rfl, by intro w hSw; (try dsimp only at hSw); go_simp; try with_reducible rfl⟩) (fun _ => by first | rfl | simp [Oper.about, resolve, go_sem]) hInv hHeld (fun hInv hHeld => ?_)
                        try simp only [Act.put, List.setIfInBounds_toArray, List.set_cons_zero, List.set_cons_succ]
                        refine anyS_take (i := 2) (oi := ⟨some 85, _, _, _, _, _⟩) (v := ?_) (by kernel_rfl) rfl (by kernel_rfl) (by kernel_rfl) (by kernel_rfl) (by kernel_rfl) (fun _ _ _ h => h) (Or.inl ⟨by rfl, by intro w hSw; (try dsimp only at hSw); go_simp; try with_reducible rfl⟩) (fun _ => by first | rfl | simp [Oper.about, resolve, go_sem]) hInv hHeld (fun hInv hHeld => ?_)
                        try simp only [Act.put, List.setIfInBounds_toArray, List.set_cons_zero, List.set_cons_succ]
                        refine anyS_take (i := 3) (oi := ⟨some 86, _, _, _, _, _⟩) (v := ?_) (by kernel_rfl) rfl (by kernel_rfl) (by kernel_rfl) (by kernel_rfl) (by kernel_rfl) (fun _ _ _ h => h) (Or.inl ⟨by rfl, by intro w hSw; (try dsimp only at hSw); go_simp; try with_reducible rfl⟩) (fun _ => by first | rfl | simp [Oper.about, resolve, go_sem]) hInv hHeld (fun hInv hHeld => ?_)
                        try simp only [Act.put, List.setIfInBounds_toArray, List.set_cons_zero, List.set_cons_succ]
                        refine anyS_take (i := 4) (oi := ⟨some 87, _, _, _, _, _⟩) (v := ?_) (by kernel_rfl) rfl (by kernel_rfl) (by kernel_rfl) (by kernel_rfl) (by kernel_rfl) (fun _ _ _ h => h) (Or.inl ⟨by rfl, by intro w hSw; (try dsimp only at hSw); go_simp; try with_reducible rfl⟩) (fun _ => by first | rfl | simp [Oper.about, resolve, go_sem]) hInv hHeld (fun hInv hHeld => ?_)
                        try simp only [Act.put, List.setIfInBounds_toArray, List.set_cons_zero, List.set_cons_succ]
                        refine anyS_take (i := 5) (oi := ⟨some 88, _, _, _, _, _⟩) (v := ?_) (by kernel_rfl) rfl (by kernel_rfl) (by kernel_rfl) (by kernel_rfl) (by kernel_rfl) (fun _ _ _ h => h) (Or.inl ⟨by rfl, by intro w hSw; (try dsimp only at hSw); go_simp; try with_reducible rfl⟩) (fun _ => by first | rfl | simp [Oper.about, resolve, go_sem]) hInv hHeld (fun hInv hHeld => ?_)
                        try simp only [Act.put, List.setIfInBounds_toArray, List.set_cons_zero, List.set_cons_succ]
                        refine anyS_take (i := 6) (oi := ⟨some 89, _, _, _, _, _⟩) (v := ?_) (by kernel_rfl) rfl (by kernel_rfl) (by kernel_rfl) (by kernel_rfl) (by kernel_rfl) (fun _ _ _ h => h) (Or.inl ⟨by rfl, by intro w hSw; (try dsimp only at hSw); go_simp; try with_reducible rfl⟩) (fun _ => by first | rfl | simp [Oper.about, resolve, go_sem]) hInv hHeld (fun hInv hHeld => ?_)
                        try simp only [Act.put, List.setIfInBounds_toArray, List.set_cons_zero, List.set_cons_succ]
                        refine anyS_take (i := 7) (oi := ⟨some 90, _, _, _, _, _⟩) (v := ?_) (by kernel_rfl) rfl (by kernel_rfl) (by kernel_rfl) (by kernel_rfl) (by kernel_rfl) (fun _ _ _ h => h) (Or.inl ⟨by rfl, by intro w hSw; (try dsimp only at hSw); go_simp; try with_reducible rfl⟩) (fun _ => by first | rfl | simp [Oper.about, resolve, go_sem]) hInv hHeld (fun hInv hHeld => ?_)
                        try simp only [Act.put, List.setIfInBounds_toArray, List.set_cons_zero, List.set_cons_succ]
                        refine anyS_take (i := 8) (oi := ⟨some 91, _, _, _, _, _⟩) (v := ?_) (by kernel_rfl) rfl (by kernel_rfl) (by kernel_rfl) (by kernel_rfl) (by kernel_rfl) (fun _ _ _ h => h) (Or.inl ⟨by rfl, by intro w hSw; (try dsimp only at hSw); go_simp; try with_reducible rfl⟩) (fun _ => by first | rfl | simp [Oper.about, resolve, go_sem]) hInv hHeld (fun hInv hHeld => ?_)
                        try simp only [Act.put, List.setIfInBounds_toArray, List.set_cons_zero, List.set_cons_succ]
                        refine anyS_take (i := 9) (oi := ⟨some 92, _, _, _, _, _⟩) (v := ?_) (by kernel_rfl) rfl (by kernel_rfl) (by kernel_rfl) (by kernel_rfl) (by kernel_rfl) (fun _ _ _ h => h) (Or.inl ⟨by rfl, by intro w hSw; (try dsimp only at hSw); go_simp; try with_reducible rfl⟩) (fun _ => by first | rfl | simp [Oper.about, resolve, go_sem]) hInv hHeld (fun hInv hHeld => ?_)
                        try simp only [Act.put, List.setIfInBounds_toArray, List.set_cons_zero, List.set_cons_succ]
                        refine anyS_take (i := 10) (oi := ⟨some 93, _, _, _, _, _⟩) (v := ?_) (by kernel_rfl) rfl (by kernel_rfl) (by kernel_rfl) (by kernel_rfl) (by kernel_rfl) (fun _ _ _ h => h) (Or.inl ⟨by rfl, by intro w hSw; (try dsimp only at hSw); go_simp; try with_reducible rfl⟩) (fun _ => by first | rfl | simp [Oper.about, resolve, go_sem]) hInv hHeld (fun hInv hHeld => ?_)
                        try simp only [Act.put, List.setIfInBounds_toArray, List.set_cons_zero, List.set_cons_succ]
                        refine anyS_take (i := 11) (oi := ⟨some 94, _, _, _, _, _⟩) (v := ?_) (by kernel_rfl) rfl (by kernel_rfl) (by kernel_rfl) (by kernel_rfl) (by kernel_rfl) (fun _ _ _ h => h) (Or.inl ⟨by rfl, by intro w hSw; (try dsimp only at hSw); go_simp; try with_reducible rfl⟩) (fun _ => by first | rfl | simp [Oper.about, resolve, go_sem]) hInv hHeld (fun hInv hHeld => ?_)
                        try simp only [Act.put, List.setIfInBounds_toArray, List.set_cons_zero, List.set_cons_succ]
                        refine anyS_take (i := 12) (oi := ⟨some 95, _, _, _, _, _⟩) (v := ?_) (by kernel_rfl) rfl (by kernel_rfl) (by kernel_rfl) (by kernel_rfl) (by kernel_rfl) (fun _ _ _ h => h) (Or.inl ⟨by rfl, by intro w hSw; (try dsimp only at hSw); go_simp; try with_reducible rfl⟩) (fun _ => by first | rfl | simp [Oper.about, resolve, go_sem]) hInv hHeld (fun hInv hHeld => ?_)
                        try simp only [Act.put, List.setIfInBounds_toArray, List.set_cons_zero, List.set_cons_succ]
                        refine anyS_take (i := 13) (oi := ⟨some 96, _, _, _, _, _⟩) (v := ?_) (by kernel_rfl) rfl (by kernel_rfl) (by kernel_rfl) (by kernel_rfl) (by kernel_rfl) (fun _ _ _ h => h) (Or.inl ⟨by rfl, by intro w hSw; (try dsimp only at hSw); go_simp; try with_reducible rfl⟩) (fun _ => by first | rfl | simp [Oper.about, resolve, go_sem]) hInv hHeld (fun hInv hHeld => ?_)
                        try simp only [Act.put, List.setIfInBounds_toArray, List.set_cons_zero, List.set_cons_succ]
                        refine anyS_take (i := 14) (oi := ⟨some 97, _, _, _, _, _⟩) (v := ?_) (by kernel_rfl) rfl (by kernel_rfl) (by kernel_rfl) (by kernel_rfl) (by kernel_rfl) (fun _ _ _ h => h) (Or.inl ⟨by rfl, by intro w hSw; (try dsimp only at hSw); go_simp; try with_reducible rfl⟩) (fun _ => by first | rfl | simp [Oper.about, resolve, go_sem]) hInv hHeld (fun hInv hHeld => ?_)
                        try simp only [Act.put, List.setIfInBounds_toArray, List.set_cons_zero, List.set_cons_succ]
                        refine anyS_take (i := 15) (oi := ⟨some 98, _, _, _, _, _⟩) (v := ?_) (by kernel_rfl) rfl (by kernel_rfl) (by kernel_rfl) (by kernel_rfl) (by kernel_rfl) (fun _ _ _ h => h) (Or.inl ⟨by rfl, by intro w hSw; (try dsimp only at hSw); go_simp; try with_reducible rfl⟩) (fun _ => by first | rfl | simp [Oper.about, resolve, go_sem]) hInv hHeld (fun hInv hHeld => ?_)
                        try simp only [Act.put, List.setIfInBounds_toArray, List.set_cons_zero, List.set_cons_succ]
                        refine anyS_take (i := 16) (oi := ⟨some 99, _, _, _, _, _⟩) (v := ?_) (by kernel_rfl) rfl (by kernel_rfl) (by kernel_rfl) (by kernel_rfl) (by kernel_rfl) (fun _ _ _ h => h) (Or.inl ⟨by rfl, by intro w hSw; (try dsimp only at hSw); go_simp; try with_reducible rfl⟩) (fun _ => by first | rfl | simp [Oper.about, resolve, go_sem]) hInv hHeld (fun hInv hHeld => ?_)
                        try simp only [Act.put, List.setIfInBounds_toArray, List.set_cons_zero, List.set_cons_succ]
                        refine anyS_take (i := 17) (oi := ⟨some 100, _, _, _, _, _⟩) (v := ?_) (by kernel_rfl) rfl (by kernel_rfl) (by kernel_rfl) (by kernel_rfl) (by kernel_rfl) (fun _ _ _ h => h) (Or.inl ⟨by rfl, by intro w hSw; (try dsimp only at hSw); go_simp; try with_reducible rfl⟩) (fun _ => by first | rfl | simp [Oper.about, resolve, go_sem]) hInv hHeld (fun hInv hHeld => ?_)
                        try simp only [Act.put, List.setIfInBounds_toArray, List.set_cons_zero, List.set_cons_succ]
                        refine anyS_take (i := 18) (oi := ⟨some 101, _, _, _, _, _⟩) (v := ?_) (by kernel_rfl) rfl (by kernel_rfl) (by kernel_rfl) (by kernel_rfl) (by kernel_rfl) (fun _ _ _ h => h) (Or.inl ⟨by rfl, by intro w hSw; (try dsimp only at hSw); go_simp; try with_reducible rfl⟩) (fun _ => by first | rfl | simp [Oper.about, resolve, go_sem]) hInv hHeld (fun hInv hHeld => ?_)
                        try simp only [Act.put, List.setIfInBounds_toArray, List.set_cons_zero, List.set_cons_succ]
                        refine anyS_take (i := 19) (oi := ⟨some 102, _, _, _, _, _⟩) (v := ?_) (by kernel_rfl) rfl (by kernel_rfl) (by kernel_rfl) (by kernel_rfl) (by kernel_rfl) (fun _ _ _ h => h) (Or.inl ⟨by rfl, by intro w hSw; (try dsimp only at hSw); go_simp; try with_reducible rfl⟩) (fun _ => by first | rfl | simp [Oper.about, resolve, go_sem]) hInv hHeld (fun hInv hHeld => ?_)
                        try simp only [Act.put, List.setIfInBounds_toArray, List.set_cons_zero, List.set_cons_succ]
                        refine anyS_one (i := 20) (o := ⟨some 103, _, _, _, _, _⟩) (by kernel_rfl) rfl hInv (fun K hK => ?_)
                        go_simp
                        refine ⟨trivial, ?_⟩
                        refine (callsIn_wide.2 (CM.out _)).mono ?_
                        rintro e V3 ⟨rfl, hv3⟩
                        refine hK.out _ _ (fun e => absurd (show true = false from e) (by decide)) (fun hInv hHeld => ?_)
                        clear hK K
                        try simp only [Act.put, List.setIfInBounds_toArray, List.set_cons_zero, List.set_cons_succ]
                        refine anyS_pure (i := 21) (oi := ⟨some 104, _, _, _, _, _⟩) (v := ?_) (by kernel_rfl) rfl (by kernel_rfl) (by kernel_rfl) (by kernel_rfl) (by decide) (fun _ _ _ h => h) (Or.inl ⟨by rfl, by intro w hSw; (try dsimp only at hSw); go_simp; try with_reducible rfl⟩) (fun _ => by first | rfl | simp [Oper.about, resolve, go_sem]) hInv hHeld (fun hInv hHeld => ?_)
                        try simp only [Act.put, List.setIfInBounds_toArray, List.set_cons_zero, List.set_cons_succ]
                        refine anyS_done (by kernel_rfl) ?_ _
                        have HIV : Off ((V3.heap[La]? = some (.cells #[.int .i64 p.1, .int .i64 p.2] 34 (0, 0)) ∧ V3.heap[Lb]? = some (.cells #[.int .i64 q.1, .int .i64 q.2] 34 (0, 0))) ∧ Below w.heap.size w V3) := ⟨⟨blockB hv3 HI.out.1.1, blockB hv3 HI.out.1.2⟩, belowC (below_drew HI.out.2) hv3⟩
                        clear hv3
                        gi_wp2
                        go_roundw
                        case rel => exact ⟨j + 1, by omega, by go_num, HN, HIV⟩
                        case measure => simp only [intOf]; omega
                  · have HNT : Off (turnsTo xs (k + 1)) := ⟨HNX.out HTF.out (fun i h1 h2 => HS.out i h1 (by omega))⟩
                    have hjI : ¬ (j : Int) < (xs.length : Int) := by omega
                    have HBi := Off.mk HI.out.2
                    gi_wp2
                    go_roundw
                    case rel => exact ⟨k + 1, by omega, by go_num, HNT, HBi⟩
                    case measure => simp only [intOf]; omega
          · go_simp
            have hb1 := belowA hb0 (.cells #[.int .i64 0, .int .i64 0] 34)
            refine hK.out _ _ (fun _ => keepS hb1 SS) (fun hInv hHeld => ?_)
            clear hK K
            try simp only [Act.put, List.setIfInBounds_toArray, List.set_cons_zero, List.set_cons_succ]
            have bB := block_new V0 (.cells #[.int .i64 0, .int .i64 0] 34)
            have szB := hb0.size
            obtain ⟨U1, hU⟩ : ∃ U, (V0.alloc (.cells #[.int .i64 0, .int .i64 0] 34)) = U := ⟨_, rfl⟩
            rw [hU] at hb1 bB ⊢
            rw [hU] at hHeld
            clear hU
            refine anyS_one (i := 11) (o := ⟨some 6, _, _, _, _, _⟩) (by kernel_rfl) rfl hInv (fun K hK => ?_)
            go_simp
            have hb2 := belowA hb1 (.cells #[.int .i64 0, .int .i64 0] 34)
            refine hK.out _ _ (fun _ => keepS hb2 SS) (fun hInv hHeld => ?_)
            clear hK K
            try simp only [Act.put, List.setIfInBounds_toArray, List.set_cons_zero, List.set_cons_succ]
            have hlt2 := (Array.getElem?_eq_some_iff.1 bB).1
            have bB := alloc_old (o' := (.cells #[.int .i64 0, .int .i64 0] 34)) bB
            have bA := block_new U1 (.cells #[.int .i64 0, .int .i64 0] 34)
            have szA := hb1.size
            obtain ⟨U2, hU⟩ : ∃ U, (U1.alloc (.cells #[.int .i64 0, .int .i64 0] 34)) = U := ⟨_, rfl⟩
            rw [hU] at hb2 bA bB ⊢
            rw [hU] at hHeld
            clear hU
            have hne : U1.heap.size ≠ V0.heap.size := by omega
            obtain ⟨⟨x0, x1⟩, y0, y1⟩ := two_facts bA
            obtain ⟨⟨z0, z1⟩, u0, u1⟩ := two_facts bB
            have hne' := Ne.symm hne
            refine anyS_one (i := 13) (o := ⟨none, _, _, _, _, _⟩) (by kernel_rfl) rfl hInv (fun K hK => ?_)
            go_simp
            refine hK.out _ _ (fun _ => keepS ((hb2.setCell (p := ⟨U1.heap.size, 0, none⟩) szA _).setCell (p := ⟨U1.heap.size, 1, none⟩) szA _) SS) (fun hInv hHeld => ?_)
            clear hK K
            try simp only [Act.put, List.setIfInBounds_toArray, List.set_cons_zero, List.set_cons_succ]
            refine anyS_one (i := 14) (o := ⟨none, _, _, _, _, _⟩) (by kernel_rfl) rfl hInv (fun K hK => ?_)
            go_simp
            refine hK.out _ _ (fun e => absurd (show true = false from e) (by decide)) (fun hInv hHeld => ?_)
            clear hK K
            try simp only [Act.put, List.setIfInBounds_toArray, List.set_cons_zero, List.set_cons_succ]
            have ST := two_blocksT 34 p q hb2 szA szB hne bA bB
            clear hInv hHeld x0 x1 y0 y1 z0 z1 u0 u1 bA bB SS keepS
            refine anyS_done (by kernel_rfl) ?_ _
            generalize (((U2.setCell ⟨U1.heap.size, 0, none⟩ (.int .i64 p.1)).setCell ⟨U1.heap.size, 1, none⟩ (.int .i64 p.2)).setCell ⟨V0.heap.size, 0, none⟩ (.int .i64 q.1)).setCell ⟨V0.heap.size, 1, none⟩ (.int .i64 q.2) = V at ST ⊢
            obtain ⟨La, hLa⟩ : ∃ L, U1.heap.size = L := ⟨_, rfl⟩
            rw [hLa] at ST hne hne' szA ⊢
            clear hLa
            obtain ⟨Lb, hLb⟩ : ∃ L, V0.heap.size = L := ⟨_, rfl⟩
            rw [hLb] at ST hne hne' szB ⊢
            clear hLb
            have HBV := Off.mk (HB.out.trans (ST.2.mono HB.out.size))
            have HST := Off.mk ST.1
            clear ST
            obtain ⟨⟨l0, l1⟩, _⟩ := two_facts HST.out.1
            obtain ⟨⟨h0, h1⟩, _⟩ := two_facts HST.out.2
            obtain ⟨r0, r1⟩ := HRA.out V HBV.out
            obtain ⟨Lc, hLc⟩ : ∃ Lc, Lc = V.heap.size := ⟨_, rfl⟩
            obtain ⟨V', hV'⟩ : ∃ V', V.alloc (.cells #[.int .i64 r.1, .int .i64 r.2] 34) = V' := ⟨_, rfl⟩
            have hbc : Below V.heap.size V V' := by rw [← hV']; exact belowA (Below.refl _ V) _
            have bC : V'.heap[V.heap.size]? = some (.cells #[.int .i64 r.1, .int .i64 r.2] 34 (0, 0)) := by rw [← hV']; exact block_new V _
            have HB' := Off.mk (belowC HBV.out hbc)
            have HP3 : Off (V'.heap[La]? = some (.cells #[.int .i64 p.1, .int .i64 p.2] 34 (0, 0)) ∧ V'.heap[Lb]? = some (.cells #[.int .i64 q.1, .int .i64 q.2] 34 (0, 0))) := ⟨blockB hbc HST.out.1, blockB hbc HST.out.2⟩
            have g0 := cellB hbc l0
            have g1 := cellB hbc l1
            have i0 := cellB hbc h0
            have i1 := cellB hbc h1
            obtain ⟨⟨c0, c1⟩, _⟩ := two_facts bC
            have HC := Off.mk bC
            clear hbc bC HST hLc Lc
            gi_wp2_with fail
            try clear hV'
            refine ⟨trivial, ?_⟩
            refine (callsIn_wide.2 (C1.out _)).mono ?_
            rintro e V1 ⟨rfl, hv1⟩
            have HB1 := Off.mk (belowC HB'.out hv1)
            have HP1 : Off (V1.heap[La]? = some (.cells #[.int .i64 p.1, .int .i64 p.2] 34 (0, 0)) ∧ V1.heap[Lb]? = some (.cells #[.int .i64 q.1, .int .i64 q.2] 34 (0, 0))) := ⟨blockB hv1 HP3.out.1, blockB hv1 HP3.out.2⟩
            have g0 := cellB hv1 g0
            have g1 := cellB hv1 g1
            have i0 := cellB hv1 i0
            have i1 := cellB hv1 i1
            have c0 := cellB hv1 c0
            have c1 := cellB hv1 c1
            clear hv1
            cases b1 with
            | true =>
              have HN : Off (¬ GoodR xs) := ⟨HNG.out (by rw [HTU.out]; rfl)⟩
              clear HNG HTU HSI HNS HNX
              gi_wp2_with fail
              refine ⟨trivial, ?_⟩
              gi_wp2
              go_ret
              exact ⟨PenRes.no HN.out, HB1.out⟩
            | false =>
              gi_wp2_with fail
              refine ⟨trivial, ?_⟩
              refine (callsIn_wide.2 (C2.out _)).mono ?_
              rintro e V2 ⟨rfl, hv2⟩
              have HB2 := Off.mk (belowC HB1.out hv2)
              have HP2 : Off (V2.heap[La]? = some (.cells #[.int .i64 p.1, .int .i64 p.2] 34 (0, 0)) ∧ V2.heap[Lb]? = some (.cells #[.int .i64 q.1, .int .i64 q.2] 34 (0, 0))) := ⟨blockB hv2 HP1.out.1, blockB hv2 HP1.out.2⟩
              clear hv2 g0 g1 i0 i1 c0 c1 HP1 HB1 HP3 HB'
              cases b2 with
              | true =>
                have HN : Off (¬ GoodR xs) := ⟨HNG.out (by rw [HTU.out]; rfl)⟩
                clear HNG HTU HSI HNS HNX
                gi_wp2
                go_ret
                exact ⟨PenRes.no HN.out, HB2.out⟩
              | false =>
                have HTF : Off (turnR xs k = false) := ⟨by rw [HTU.out]; rfl⟩
                clear HNG HTU
                gi_wp2_with fail
                gi_loopw [9] (fun jv wi => ∃ j : Nat, (k + 2 ≤ j ∧ (j ≤ xs.length ∨ j = k + 2)) ∧ jv = .int .i64 j ∧ Off (sidesTo xs k j) ∧ Off ((wi.heap[La]? = some (.cells #[.int .i64 p.1, .int .i64 p.2] 34 (0, 0)) ∧ wi.heap[Lb]? = some (.cells #[.int .i64 q.1, .int .i64 q.2] 34 (0, 0))) ∧ Below w.heap.size w wi)) (fun jv _ => xs.length - (intOf jv).toNat)
                case atStart => exact ⟨k + 2, by omega, by go_num, ⟨fun i h1 h2 => by omega⟩, ⟨HP2.out, HB2.out⟩⟩
                case round =>
                  clear HP2 HB2
                  obtain ⟨j, hj, rfl, HS, HI⟩ := hrel
                  have HBi := Off.mk HI.out.2
                  by_cases hjl : j < xs.length
                  · have hjI : (j : Int) < (xs.length : Int) := by omega
                    obtain ⟨l, hl⟩ : ∃ l, l = (j + 1) % xs.length := ⟨_, rfl⟩
                    have hll : l < xs.length := by rw [hl]; exact Nat.mod_lt _ (by omega)
                    have f5 : ((j : Int) + 1).tmod (xs.length : Int) = (l : Int) := by
                      rw [Int.tmod_eq_emod_of_nonneg (by omega), hl, show (j : Int) + 1 = ((j + 1 : Nat) : Int) by omega]
                      exact (Int.natCast_emod _ _).symm
                    have f7 : ((j : Int) + 1) % (xs.length : Int) = (l : Int) := by rw [← Int.tmod_eq_emod_of_nonneg (by omega)]; exact f5
                    have wj : IntKind.i64.wrap ((j : Int) + 1) = (j : Int) + 1 := by rw [IntKind.wrap_i64]; omega
                    have hlI : (l : Int) < (xs.length : Int) := by omega
                    obtain ⟨⟨l0, l1⟩, _⟩ := two_facts HI.out.1.1
                    obtain ⟨⟨h0, h1⟩, _⟩ := two_facts HI.out.1.2
                    have hxi := HX.out.below HBi.out
                    obtain ⟨ad', e, s0, s1⟩ := hxi.cell j hjl
                    cases e
                    obtain ⟨ad', e, u0, u1⟩ := hxi.cell l hll
                    cases e
                    obtain ⟨s, hs⟩ : ∃ s, s = xs.getD j (0, 0) := ⟨_, rfl⟩
                    obtain ⟨u, hu⟩ : ∃ u, u = xs.getD l (0, 0) := ⟨_, rfl⟩
                    rw [← hs] at s0 s1
                    rw [← hu] at u0 u1
                    have hsl2 : inB 2097152 s := by rw [hs]; exact inB_mono (HP.out _) (by decide)
                    have hul2 : inB 2097152 u := by rw [hu]; exact inB_mono (HP.out _) (by decide)
                    obtain ⟨bn, hbn⟩ : ∃ b, decide (l ≠ k) = b := ⟨_, rfl⟩
                    obtain ⟨bm, hbm⟩ : ∃ b, meetR p q s u = b := ⟨_, rfl⟩
                    have CM : Off (∀ W, Calls Try.prog 51 #[ptV p, ptV q, ptV s, ptV u] W fun e w' => e = .returned (.bool bm) ∧ Below W.heap.size W w') := ⟨fun W => meetR_any p q s u bm hbm hpl2 hql2 hsl2 hul2 W⟩
                    have hne0 := neq_num l k bn hbn
                    have HSJ : Off (sideR xs k j = (bn && bm)) := ⟨by rw [← hbm]; exact HSI.out j l s u bn hs hl hu hbn⟩
                    have HSN : Off (sideR xs k j = false → sidesTo xs k (j + 1)) := ⟨fun h i h1 h2 => by
                      by_cases e : i = j
                      · rw [e]; exact h
                      · exact HS.out i h1 (by omega)⟩
                    have HSB : Off (sideR xs k j = true → ¬ GoodR xs) := ⟨HNS.out j hj.1 hjl⟩
                    clear hs hu hl hxi hbn hbm HS hsl2 hul2
                    gi_wp2
                    cases bn with
                    | false =>
                      have HN : Off (sidesTo xs k (j + 1)) := ⟨HSN.out (by rw [HSJ.out]; rfl)⟩
                      clear HSN HSB HSJ
                      refine region_anyS' (S := (fun w' => ((w'.cell? ⟨La, 0, none⟩ = some (.int .i64 p.1) ∧ w'.cell? ⟨La, 1, none⟩ = some (.int .i64 p.2)) ∧ (w'.cell? ⟨Lb, 0, none⟩ = some (.int .i64 q.1) ∧ w'.cell? ⟨Lb, 1, none⟩ = some (.int .i64 q.2))) ∧ ((w'.cell? (ad.add (j * 2)) = some (.int .i64 s.1) ∧ w'.cell? ⟨(ad.add (j * 2)).block, (ad.add (j * 2)).off + 1, none⟩ = some (.int .i64 s.2)) ∧ (w'.cell? (ad.add (l * 2)) = some (.int .i64 u.1) ∧ w'.cell? ⟨(ad.add (l * 2)).block, (ad.add (l * 2)).off + 1, none⟩ = some (.int .i64 u.2))))) 20 (by kernel_rfl) ⟨⟨⟨l0, l1⟩, h0, h1⟩, ⟨s0, s1⟩, u0, u1⟩ (fun hInv hHeld => ?_)
                      refine anyS_take (i := 0) (oi := ⟨some 83, _, _, _, _, _⟩) (v := ?_) (by kernel_rfl) rfl (by kernel_rfl) (by kernel_rfl) (by kernel_rfl) (by kernel_rfl) (fun _ _ _ h => h) (Or.inl ⟨by rfl, by intro w hSw; (try dsimp only at hSw); go_simp; try with_reducible rfl⟩) (fun _ => by first | rfl | simp [Oper.about, resolve, go_sem]) hInv hHeld (fun hInv hHeld => ?_)
                      try simp only [Act.put, List.setIfInBounds_toArray, List.set_cons_zero, List.set_cons_succ]
                      refine anyS_take (i := 1) (oi := ⟨some 84, _, _, _, _, _⟩) (v := ?_) (by kernel_rfl) rfl (by kernel_rfl) (by kernel_rfl) (by kernel_rfl) (by kernel_rfl) (fun _ _ _ h => h) (Or.inl ⟨by rfl, by intro w hSw; (try dsimp only at hSw); go_simp; try with_reducible rfl⟩) (fun _ => by first | rfl | simp [Oper.about, resolve, go_sem]) hInv hHeld (fun hInv hHeld => ?_)
                      try simp only [Act.put, List.setIfInBounds_toArray, List.set_cons_zero, List.set_cons_succ]
                      refine anyS_take (i := 2) (oi := ⟨some 85, _, _, _, _, _⟩) (v := ?_) (by kernel_rfl) rfl (by kernel_rfl) (by kernel_rfl) (by kernel_rfl) (by kernel_rfl) (fun _ _ _ h => h) (Or.inl ⟨by rfl, by intro w hSw; (try dsimp only at hSw); go_simp; try with_reducible rfl⟩) (fun _ => by first | rfl | simp [Oper.about, resolve, go_sem]) hInv hHeld (fun hInv hHeld => ?_)
                      try simp only [Act.put, List.setIfInBounds_toArray, List.set_cons_zero, List.set_cons_succ]
                      refine anyS_take (i := 3) (oi := ⟨some 86, _, _, _, _, _⟩) (v := ?_) (by kernel_rfl) rfl (by kernel_rfl) (by kernel_rfl) (by kernel_rfl) (by kernel_rfl) (fun _ _ _ h => h) (Or.inl ⟨by rfl, by intro w hSw; (try dsimp only at hSw); go_simp; try with_reducible rfl⟩) (fun _ => by first | rfl | simp [Oper.about, resolve, go_sem]) hInv hHeld (fun hInv hHeld => ?_)
                      try simp only [Act.put, List.setIfInBounds_toArray, List.set_cons_zero, List.set_cons_succ]
                      refine anyS_take (i := 4) (oi := ⟨some 87, _, _, _, _, _⟩) (v := ?_) (by kernel_rfl) rfl (by kernel_rfl) (by kernel_rfl) (by kernel_rfl) (by kernel_rfl) (fun _ _ _ h => h) (Or.inl ⟨by rfl, by intro w hSw; (try dsimp only at hSw); go_simp; try with_reducible rfl⟩) (fun _ => by first | rfl | simp [Oper.about, resolve, go_sem]) hInv hHeld (fun hInv hHeld => ?_)
                      try simp only [Act.put, List.setIfInBounds_toArray, List.set_cons_zero, List.set_cons_succ]
                      refine anyS_take (i := 5) (oi := ⟨some 88, _, _, _, _, _⟩) (v := ?_) (by kernel_rfl) rfl (by kernel_rfl) (by kernel_rfl) (by kernel_rfl) (by kernel_rfl) (fun _ _ _ h => h) (Or.inl ⟨by rfl, by intro w hSw; (try dsimp only at hSw); go_simp; try with_reducible rfl⟩) (fun _ => by first | rfl | simp [Oper.about, resolve, go_sem]) hInv hHeld (fun hInv hHeld => ?_)
                      try simp only [Act.put, List.setIfInBounds_toArray, List.set_cons_zero, List.set_cons_succ]
                      refine anyS_take (i := 6) (oi := ⟨some 89, _, _, _, _, _⟩) (v := ?_) (by kernel_rfl) rfl (by kernel_rfl) (by kernel_rfl) (by kernel_rfl) (by kernel_rfl) (fun _ _ _ h => h) (Or.inl ⟨by rfl, by intro w hSw; (try dsimp only at hSw); go_simp; try with_reducible rfl⟩) (fun _ => by first | rfl | simp [Oper.about, resolve, go_sem]) hInv hHeld (fun hInv hHeld => ?_)
                      try simp only [Act.put, List.setIfInBounds_toArray, List.set_cons_zero, List.set_cons_succ]
                      refine anyS_take (i := 7) (oi := ⟨some 90, _, _, _, _, _⟩) (v := undef) (by kernel_rfl) rfl (by kernel_rfl) (by kernel_rfl) (by kernel_rfl) (by kernel_rfl) (fun _ _ _ h => h) (Or.inr ⟨by rfl, rfl⟩) (fun _ => by first | rfl | simp [Oper.about, resolve, go_sem]) hInv hHeld (fun hInv hHeld => ?_)
                      try simp only [Act.put, List.setIfInBounds_toArray, List.set_cons_zero, List.set_cons_succ]
                      refine anyS_take (i := 8) (oi := ⟨some 91, _, _, _, _, _⟩) (v := undef) (by kernel_rfl) rfl (by kernel_rfl) (by kernel_rfl) (by kernel_rfl) (by kernel_rfl) (fun _ _ _ h => h) (Or.inr ⟨by rfl, rfl⟩) (fun _ => by first | rfl | simp [Oper.about, resolve, go_sem]) hInv hHeld (fun hInv hHeld => ?_)
                      try simp only [Act.put, List.setIfInBounds_toArray, List.set_cons_zero, List.set_cons_succ]
                      refine anyS_take (i := 9) (oi := ⟨some 92, _, _, _, _, _⟩) (v := undef) (by kernel_rfl) rfl (by kernel_rfl) (by kernel_rfl) (by kernel_rfl) (by kernel_rfl) (fun _ _ _ h => h) (Or.inr ⟨by rfl, rfl⟩) (fun _ => by first | rfl | simp [Oper.about, resolve, go_sem]) hInv hHeld (fun hInv hHeld => ?_)
                      try simp only [Act.put, List.setIfInBounds_toArray, List.set_cons_zero, List.set_cons_succ]
                      refine anyS_take (i := 10) (oi := ⟨some 93, _, _, _, _, _⟩) (v := undef) (by kernel_rfl) rfl (by kernel_rfl) (by kernel_rfl) (by kernel_rfl) (by kernel_rfl) (fun _ _ _ h => h) (Or.inr ⟨by rfl, rfl⟩) (fun _ => by first | rfl | simp [Oper.about, resolve, go_sem]) hInv hHeld (fun hInv hHeld => ?_)
                      try simp only [Act.put, List.setIfInBounds_toArray, List.set_cons_zero, List.set_cons_succ]
                      refine anyS_take (i := 11) (oi := ⟨some 94, _, _, _, _, _⟩) (v := undef) (by kernel_rfl) rfl (by kernel_rfl) (by kernel_rfl) (by kernel_rfl) (by kernel_rfl) (fun _ _ _ h => h) (Or.inr ⟨by rfl, rfl⟩) (fun _ => by first | rfl | simp [Oper.about, resolve, go_sem]) hInv hHeld (fun hInv hHeld => ?_)
                      try simp only [Act.put, List.setIfInBounds_toArray, List.set_cons_zero, List.set_cons_succ]
                      refine anyS_take (i := 12) (oi := ⟨some 95, _, _, _, _, _⟩) (v := undef) (by kernel_rfl) rfl (by kernel_rfl) (by kernel_rfl) (by kernel_rfl) (by kernel_rfl) (fun _ _ _ h => h) (Or.inr ⟨by rfl, rfl⟩) (fun _ => by first | rfl | simp [Oper.about, resolve, go_sem]) hInv hHeld (fun hInv hHeld => ?_)
                      try simp only [Act.put, List.setIfInBounds_toArray, List.set_cons_zero, List.set_cons_succ]
                      refine anyS_take (i := 13) (oi := ⟨some 96, _, _, _, _, _⟩) (v := undef) (by kernel_rfl) rfl (by kernel_rfl) (by kernel_rfl) (by kernel_rfl) (by kernel_rfl) (fun _ _ _ h => h) (Or.inr ⟨by rfl, rfl⟩) (fun _ => by first | rfl | simp [Oper.about, resolve, go_sem]) hInv hHeld (fun hInv hHeld => ?_)
                      try simp only [Act.put, List.setIfInBounds_toArray, List.set_cons_zero, List.set_cons_succ]
                      refine anyS_take (i := 14) (oi := ⟨some 97, _, _, _, _, _⟩) (v := undef) (by kernel_rfl) rfl (by kernel_rfl) (by kernel_rfl) (by kernel_rfl) (by kernel_rfl) (fun _ _ _ h => h) (Or.inr ⟨by rfl, rfl⟩) (fun _ => by first | rfl | simp [Oper.about, resolve, go_sem]) hInv hHeld (fun hInv hHeld => ?_)
                      try simp only [Act.put, List.setIfInBounds_toArray, List.set_cons_zero, List.set_cons_succ]
                      refine anyS_take (i := 15) (oi := ⟨some 98, _, _, _, _, _⟩) (v := undef) (by kernel_rfl) rfl (by kernel_rfl) (by kernel_rfl) (by kernel_rfl) (by kernel_rfl) (fun _ _ _ h => h) (Or.inr ⟨by rfl, rfl⟩) (fun _ => by first | rfl | simp [Oper.about, resolve, go_sem]) hInv hHeld (fun hInv hHeld => ?_)
                      try simp only [Act.put, List.setIfInBounds_toArray, List.set_cons_zero, List.set_cons_succ]
                      refine anyS_take (i := 16) (oi := ⟨some 99, _, _, _, _, _⟩) (v := undef) (by kernel_rfl) rfl (by kernel_rfl) (by kernel_rfl) (by kernel_rfl) (by kernel_rfl) (fun _ _ _ h => h) (Or.inr ⟨by rfl, rfl⟩) (fun _ => by first | rfl | simp [Oper.about, resolve, go_sem]) hInv hHeld (fun hInv hHeld => ?_)
                      try simp only [Act.put, List.setIfInBounds_toArray, List.set_cons_zero, List.set_cons_succ]
                      refine anyS_take (i := 17) (oi := ⟨some 100, _, _, _, _, _⟩) (v := undef) (by kernel_rfl) rfl (by kernel_rfl) (by kernel_rfl) (by kernel_rfl) (by kernel_rfl) (fun _ _ _ h => h) (Or.inr ⟨by rfl, rfl⟩) (fun _ => by first | rfl | simp [Oper.about, resolve, go_sem]) hInv hHeld (fun hInv hHeld => ?_)
                      try simp only [Act.put, List.setIfInBounds_toArray, List.set_cons_zero, List.set_cons_succ]
                      refine anyS_take (i := 18) (oi := ⟨some 101, _, _, _, _, _⟩) (v := undef) (by kernel_rfl) rfl (by kernel_rfl) (by kernel_rfl) (by kernel_rfl) (by kernel_rfl) (fun _ _ _ h => h) (Or.inr ⟨by rfl, rfl⟩) (fun _ => by first | rfl | simp [Oper.about, resolve, go_sem]) hInv hHeld (fun hInv hHeld => ?_)
                      try simp only [Act.put, List.setIfInBounds_toArray, List.set_cons_zero, List.set_cons_succ]
                      refine anyS_take (i := 19) (oi := ⟨some 102, _, _, _, _, _⟩) (v := undef) (by kernel_rfl) rfl (by kernel_rfl) (by kernel_rfl) (by kernel_rfl) (by kernel_rfl) (fun _ _ _ h => h) (Or.inr ⟨by rfl, rfl⟩) (fun _ => by first | rfl | simp [Oper.about, resolve, go_sem]) hInv hHeld (fun hInv hHeld => ?_)
                      try simp only [Act.put, List.setIfInBounds_toArray, List.set_cons_zero, List.set_cons_succ]
                      refine anyS_one (i := 20) (o := ⟨some 103, _, _, _, _, _⟩) (by kernel_rfl) rfl hInv (fun K hK => ?_)
                      go_simp
                      refine ⟨trivial, ?_⟩
                      refine hK.out _ _ (fun e => absurd (show true = false from e) (by decide)) (fun hInv hHeld => ?_)
                      clear hK K
                      try simp only [Act.put, List.setIfInBounds_toArray, List.set_cons_zero, List.set_cons_succ]
                      refine anyS_pure (i := 21) (oi := ⟨some 104, _, _, _, _, _⟩) (v := ?_) (by kernel_rfl) rfl (by kernel_rfl) (by kernel_rfl) (by kernel_rfl) (by decide) (fun _ _ _ h => h) (Or.inl ⟨by rfl, by intro w hSw; (try dsimp only at hSw); go_simp; try with_reducible rfl⟩) (fun _ => by first | rfl | simp [Oper.about, resolve, go_sem]) hInv hHeld (fun hInv hHeld => ?_)
                      try simp only [Act.put, List.setIfInBounds_toArray, List.set_cons_zero, List.set_cons_succ]
                      refine anyS_done (by kernel_rfl) ?_ _
                      have HIV : Off ((wr.drew.heap[La]? = some (.cells #[.int .i64 p.1, .int .i64 p.2] 34 (0, 0)) ∧ wr.drew.heap[Lb]? = some (.cells #[.int .i64 q.1, .int .i64 q.2] 34 (0, 0))) ∧ Below w.heap.size w wr.drew) := ⟨HI.out.1, below_drew HI.out.2⟩
                      gi_wp2
                      go_roundw
                      case rel => exact ⟨j + 1, by omega, by go_num, HN, HIV⟩
                      case measure => simp only [intOf]; omega
                    | true =>
                      cases bm with
                      | true =>
                        have HN : Off (¬ GoodR xs) := ⟨HSB.out (by rw [HSJ.out]; rfl)⟩
                        clear HSN HSB HSJ
                        refine region_anyS' (S := (fun w' => ((w'.cell? ⟨La, 0, none⟩ = some (.int .i64 p.1) ∧ w'.cell? ⟨La, 1, none⟩ = some (.int .i64 p.2)) ∧ (w'.cell? ⟨Lb, 0, none⟩ = some (.int .i64 q.1) ∧ w'.cell? ⟨Lb, 1, none⟩ = some (.int .i64 q.2))) ∧ ((w'.cell? (ad.add (j * 2)) = some (.int .i64 s.1) ∧ w'.cell? ⟨(ad.add (j * 2)).block, (ad.add (j * 2)).off + 1, none⟩ = some (.int .i64 s.2)) ∧ (w'.cell? (ad.add (l * 2)) = some (.int .i64 u.1) ∧ w'.cell? ⟨(ad.add (l * 2)).block, (ad.add (l * 2)).off + 1, none⟩ = some (.int .i64 u.2))))) 20 (by kernel_rfl) ⟨⟨⟨l0, l1⟩, h0, h1⟩, ⟨s0, s1⟩, u0, u1⟩ (fun hInv hHeld => ?_)
                        refine anyS_take (i := 0) (oi := ⟨some 83, _, _, _, _, _⟩) (v := ?_) (by kernel_rfl) rfl (by kernel_rfl) (by kernel_rfl) (by kernel_rfl) (by kernel_rfl) (fun _ _ _ h => h) (Or.inl ⟨by rfl, by intro w hSw; (try dsimp only at hSw); go_simp; try with_reducible rfl⟩) (fun _ => by first | rfl | simp [Oper.about, resolve, go_sem]) hInv hHeld (fun hInv hHeld => ?_)
                        try simp only [Act.put, List.setIfInBounds_toArray, List.set_cons_zero, List.set_cons_succ]
                        refine anyS_take (i := 1) (oi := ⟨some 84, _, _, _, _, _⟩) (v := ?_) (by kernel_rfl) rfl (by kernel_rfl) (by kernel_rfl) (by kernel_rfl) (by kernel_rfl) (fun _ _ _ h => h) (Or.inl ⟨by rfl, by intro w hSw; (try dsimp only at hSw); go_simp; try with_reducible rfl⟩) (fun _ => by first | rfl | simp [Oper.about, resolve, go_sem]) hInv hHeld (fun hInv hHeld => ?_)
                        try simp only [Act.put, List.setIfInBounds_toArray, List.set_cons_zero, List.set_cons_succ]
                        refine anyS_take (i := 2) (oi := ⟨some 85, _, _, _, _, _⟩) (v := ?_) (by kernel_rfl) rfl (by kernel_rfl) (by kernel_rfl) (by kernel_rfl) (by kernel_rfl) (fun _ _ _ h => h) (Or.inl ⟨by rfl, by intro w hSw; (try dsimp only at hSw); go_simp; try with_reducible rfl⟩) (fun _ => by first | rfl | simp [Oper.about, resolve, go_sem]) hInv hHeld (fun hInv hHeld => ?_)
                        try simp only [Act.put, List.setIfInBounds_toArray, List.set_cons_zero, List.set_cons_succ]
                        refine anyS_take (i := 3) (oi := ⟨some 86, _, _, _, _, _⟩) (v := ?_) (by kernel_rfl) rfl (by kernel_rfl) (by kernel_rfl) (by kernel_rfl) (by kernel_rfl) (fun _ _ _ h => h) (Or.inl ⟨by rfl, by intro w hSw; (try dsimp only at hSw); go_simp; try with_reducible rfl⟩) (fun _ => by first | rfl | simp [Oper.about, resolve, go_sem]) hInv hHeld (fun hInv hHeld => ?_)
                        try simp only [Act.put, List.setIfInBounds_toArray, List.set_cons_zero, List.set_cons_succ]
                        refine anyS_take (i := 4) (oi := ⟨some 87, _, _, _, _, _⟩) (v := ?_) (by kernel_rfl) rfl (by kernel_rfl) (by kernel_rfl) (by kernel_rfl) (by kernel_rfl) (fun _ _ _ h => h) (Or.inl ⟨by rfl, by intro w hSw; (try dsimp only at hSw); go_simp; try with_reducible rfl⟩) (fun _ => by first | rfl | simp [Oper.about, resolve, go_sem]) hInv hHeld (fun hInv hHeld => ?_)
                        try simp only [Act.put, List.setIfInBounds_toArray, List.set_cons_zero, List.set_cons_succ]
                        refine anyS_take (i := 5) (oi := ⟨some 88, _, _, _, _, _⟩) (v := ?_) (by kernel_rfl) rfl (by kernel_rfl) (by kernel_rfl) (by kernel_rfl) (by kernel_rfl) (fun _ _ _ h => h) (Or.inl ⟨by rfl, by intro w hSw; (try dsimp only at hSw); go_simp; try with_reducible rfl⟩) (fun _ => by first | rfl | simp [Oper.about, resolve, go_sem]) hInv hHeld (fun hInv hHeld => ?_)
                        try simp only [Act.put, List.setIfInBounds_toArray, List.set_cons_zero, List.set_cons_succ]
                        refine anyS_take (i := 6) (oi := ⟨some 89, _, _, _, _, _⟩) (v := ?_) (by kernel_rfl) rfl (by kernel_rfl) (by kernel_rfl) (by kernel_rfl) (by kernel_rfl) (fun _ _ _ h => h) (Or.inl ⟨by rfl, by intro w hSw; (try dsimp only at hSw); go_simp; try with_reducible rfl⟩) (fun _ => by first | rfl | simp [Oper.about, resolve, go_sem]) hInv hHeld (fun hInv hHeld => ?_)
                        try simp only [Act.put, List.setIfInBounds_toArray, List.set_cons_zero, List.set_cons_succ]
                        refine anyS_take (i := 7) (oi := ⟨some 90, _, _, _, _, _⟩) (v := ?_) (by kernel_rfl) rfl (by kernel_rfl) (by kernel_rfl) (by kernel_rfl) (by kernel_rfl) (fun _ _ _ h => h) (Or.inl ⟨by rfl, by intro w hSw; (try dsimp only at hSw); go_simp; try with_reducible rfl⟩) (fun _ => by first | rfl | simp [Oper.about, resolve, go_sem]) hInv hHeld (fun hInv hHeld => ?_)
                        try simp only [Act.put, List.setIfInBounds_toArray, List.set_cons_zero, List.set_cons_succ]
                        refine anyS_take (i := 8) (oi := ⟨some 91, _, _, _, _, _⟩) (v := ?_) (by kernel_rfl) rfl (by kernel_rfl) (by kernel_rfl) (by kernel_rfl) (by kernel_rfl) (fun _ _ _ h => h) (Or.inl ⟨by rfl, by intro w hSw; (try dsimp only at hSw); go_simp; try with_reducible rfl⟩) (fun _ => by first | rfl | simp [Oper.about, resolve, go_sem]) hInv hHeld (fun hInv hHeld => ?_)
                        try simp only [Act.put, List.setIfInBounds_toArray, List.set_cons_zero, List.set_cons_succ]
                        refine anyS_take (i := 9) (oi := ⟨some 92, _, _, _, _, _⟩) (v := ?_) (by kernel_rfl) rfl (by kernel_rfl) (by kernel_rfl) (by kernel_rfl) (by kernel_rfl) (fun _ _ _ h => h) (Or.inl ⟨by rfl, by intro w hSw; (try dsimp only at hSw); go_simp; try with_reducible rfl⟩) (fun _ => by first | rfl | simp [Oper.about, resolve, go_sem]) hInv hHeld (fun hInv hHeld => ?_)
                        try simp only [Act.put, List.setIfInBounds_toArray, List.set_cons_zero, List.set_cons_succ]
                        refine anyS_take (i := 10) (oi := ⟨some 93, _, _, _, _, _⟩) (v := ?_) (by kernel_rfl) rfl (by kernel_rfl) (by kernel_rfl) (by kernel_rfl) (by kernel_rfl) (fun _ _ _ h => h) (Or.inl ⟨by rfl, by intro w hSw; (try dsimp only at hSw); go_simp; try with_reducible rfl⟩) (fun _ => by first | rfl | simp [Oper.about, resolve, go_sem]) hInv hHeld (fun hInv hHeld => ?_)
                        try simp only [Act.put, List.setIfInBounds_toArray, List.set_cons_zero, List.set_cons_succ]
                        refine anyS_take (i := 11) (oi := ⟨some 94, _, _, _, _, _⟩) (v := ?_) (by kernel_rfl) rfl (by kernel_rfl) (by kernel_rfl) (by kernel_rfl) (by kernel_rfl) (fun _ _ _ h => h) (Or.inl ⟨by rfl, by intro w hSw; (try dsimp only at hSw); go_simp; try with_reducible rfl⟩) (fun _ => by first | rfl | simp [Oper.about, resolve, go_sem]) hInv hHeld (fun hInv hHeld => ?_)
                        try simp only [Act.put, List.setIfInBounds_toArray, List.set_cons_zero, List.set_cons_succ]
                        refine anyS_take (i := 12) (oi := ⟨some 95, _, _, _, _, _⟩) (v := ?_) (by kernel_rfl) rfl (by kernel_rfl) (by kernel_rfl) (by kernel_rfl) (by kernel_rfl) (fun _ _ _ h => h) (Or.inl ⟨by rfl, by intro w hSw; (try dsimp only at hSw); go_simp; try with_reducible rfl⟩) (fun _ => by first | rfl | simp [Oper.about, resolve, go_sem]) hInv hHeld (fun hInv hHeld => ?_)
                        try simp only [Act.put, List.setIfInBounds_toArray, List.set_cons_zero, List.set_cons_succ]
                        refine anyS_take (i := 13) (oi := ⟨some 96, _, _, _, _, _⟩) (v := ?_) (by kernel_rfl) rfl (by kernel_rfl) (by kernel_rfl) (by kernel_rfl) (by kernel_rfl) (fun _ _ _ h => h) (Or.inl ⟨by rfl, by intro w hSw; (try dsimp only at hSw); go_simp; try with_reducible rfl⟩) (fun _ => by first | rfl | simp [Oper.about, resolve, go_sem]) hInv hHeld (fun hInv hHeld => ?_)
                        try simp only [Act.put, List.setIfInBounds_toArray, List.set_cons_zero, List.set_cons_succ]
                        refine anyS_take (i := 14) (oi := ⟨some 97, _, _, _, _, _⟩) (v := ?_) (by kernel_rfl) rfl (by kernel_rfl) (by kernel_rfl) (by kernel_rfl) (by kernel_rfl) (fun _ _ _ h => h) (Or.inl ⟨by rfl, by intro w hSw; (try dsimp only at hSw); go_simp; try with_reducible rfl⟩) (fun _ => by first | rfl | simp [Oper.about, resolve, go_sem]) hInv hHeld (fun hInv hHeld => ?_)
                        try simp only [Act.put, List.setIfInBounds_toArray, List.set_cons_zero, List.set_cons_succ]
                        refine anyS_take (i := 15) (oi := ⟨some 98, _, _, _, _, _⟩) (v := ?_) (by kernel_rfl) rfl (by kernel_rfl) (by kernel_rfl) (by kernel_rfl) (by kernel_rfl) (fun _ _ _ h => h) (Or.inl ⟨by rfl, by intro w hSw; (try dsimp only at hSw); go_simp; try with_reducible rfl⟩) (fun _ => by first | rfl | simp [Oper.about, resolve, go_sem]) hInv hHeld (fun hInv hHeld => ?_)
                        try simp only [Act.put, List.setIfInBounds_toArray, List.set_cons_zero, List.set_cons_succ]
                        refine anyS_take (i := 16) (oi := ⟨some 99, _, _, _, _, _⟩) (v := ?_) (by kernel_rfl) rfl (by kernel_rfl) (by kernel_rfl) (by kernel_rfl) (by kernel_rfl) (fun _ _ _ h => h) (Or.inl ⟨by rfl, by intro w hSw; (try dsimp only at hSw); go_simp; try with_reducible rfl⟩) (fun _ => by first | rfl | simp [Oper.about, resolve, go_sem]) hInv hHeld (fun hInv hHeld => ?_)
                        try simp only [Act.put, List.setIfInBounds_toArray, List.set_cons_zero, List.set_cons_succ]
                        refine anyS_take (i := 17) (oi := ⟨some 100, _, _, _, _, _⟩) (v := ?_) (by kernel_rfl) rfl (by kernel_rfl) (by kernel_rfl) (by kernel_rfl) (by kernel_rfl) (fun _ _ _ h => h) (Or.inl ⟨by rfl, by intro w hSw; (try dsimp only at hSw); go_simp; try with_reducible rfl⟩) (fun _ => by first | rfl | simp [Oper.about, resolve, go_sem]) hInv hHeld (fun hInv hHeld => ?_)
                        try simp only [Act.put, List.setIfInBounds_toArray, List.set_cons_zero, List.set_cons_succ]
                        refine anyS_take (i := 18) (oi := ⟨some 101, _, _, _, _, _⟩) (v := ?_) (by kernel_rfl) rfl (by kernel_rfl) (by kernel_rfl) (by kernel_rfl) (by kernel_rfl) (fun _ _ _ h => h) (Or.inl ⟨by rfl, by intro w hSw; (try dsimp only at hSw); go_simp; try with_reducible rfl⟩) (fun _ => by first | rfl | simp [Oper.about, resolve, go_sem]) hInv hHeld (fun hInv hHeld => ?_)
                        try simp only [Act.put, List.setIfInBounds_toArray, List.set_cons_zero, List.set_cons_succ]
                        refine anyS_take (i := 19) (oi := ⟨some 102, _, _, _, _, _⟩) (v := ?_) (by kernel_rfl) rfl (by kernel_rfl) (by kernel_rfl) (by kernel_rfl) (by kernel_rfl) (fun _ _ _ h => h) (Or.inl ⟨by rfl, by intro w hSw; (try dsimp only at hSw); go_simp; try with_reducible rfl⟩) (fun _ => by first | rfl | simp [Oper.about, resolve, go_sem]) hInv hHeld (fun hInv hHeld => ?_)
                        try simp only [Act.put, List.setIfInBounds_toArray, List.set_cons_zero, List.set_cons_succ]
                        refine anyS_one (i := 20) (o := ⟨some 103, _, _, _, _, _⟩) (by kernel_rfl) rfl hInv (fun K hK => ?_)
                        go_simp
                        refine ⟨trivial, ?_⟩
                        refine (callsIn_wide.2 (CM.out _)).mono ?_
                        rintro e V3 ⟨rfl, hv3⟩
                        refine hK.out _ _ (fun e => absurd (show true = false from e) (by decide)) (fun hInv hHeld => ?_)
                        clear hK K
                        try simp only [Act.put, List.setIfInBounds_toArray, List.set_cons_zero, List.set_cons_succ]
                        refine anyS_pure (i := 21) (oi := ⟨some 104, _, _, _, _, _⟩) (v := ?_) (by kernel_rfl) rfl (by kernel_rfl) (by kernel_rfl) (by kernel_rfl) (by decide) (fun _ _ _ h => h) (Or.inl ⟨by rfl, by intro w hSw; (try dsimp only at hSw); go_simp; try with_reducible rfl⟩) (fun _ => by first | rfl | simp [Oper.about, resolve, go_sem]) hInv hHeld (fun hInv hHeld => ?_)
                        try simp only [Act.put, List.setIfInBounds_toArray, List.set_cons_zero, List.set_cons_succ]
                        refine anyS_done (by kernel_rfl) ?_ _
                        gi_wp2
                        go_ret
                        exact ⟨PenRes.no HN.out, belowC (below_drew HI.out.2) hv3⟩
                      | false =>
                        have HN : Off (sidesTo xs k (j + 1)) := ⟨HSN.out (by rw [HSJ.out]; rfl)⟩
                        clear HSN HSB HSJ
                        refine region_anyS' (S := (fun w' => ((w'.cell? ⟨La, 0, none⟩ = some (.int .i64 p.1) ∧ w'.cell? ⟨La, 1, none⟩ = some (.int .i64 p.2)) ∧ (w'.cell? ⟨Lb, 0, none⟩ = some (.int .i64 q.1) ∧ w'.cell? ⟨Lb, 1, none⟩ = some (.int .i64 q.2))) ∧ ((w'.cell? (ad.add (j * 2)) = some (.int .i64 s.1) ∧ w'.cell? ⟨(ad.add (j * 2)).block, (ad.add (j * 2)).off + 1, none⟩ = some (.int .i64 s.2)) ∧ (w'.cell? (ad.add (l * 2)) = some (.int .i64 u.1) ∧ w'.cell? ⟨(ad.add (l * 2)).block, (ad.add (l * 2)).off + 1, none⟩ = some (.int .i64 u.2))))) 20 (by kernel_rfl) ⟨⟨⟨l0, l1⟩, h0, h1⟩, ⟨s0, s1⟩, u0, u1⟩ (fun hInv hHeld => ?_)
                        refine anyS_take (i := 0) (oi := ⟨some 83, _, _, _, _, _⟩) (v := ?_) (by kernel_rfl) rfl (by kernel_rfl) (by kernel_rfl) (by kernel_rfl) (by kernel_rfl) (fun _ _ _ h => h) (Or.inl ⟨by rfl, by intro w hSw; (try dsimp only at hSw); go_simp; try with_reducible rfl⟩) (fun _ => by first | rfl | simp [Oper.about, resolve, go_sem]) hInv hHeld (fun hInv hHeld => ?_)
                        try simp only [Act.put, List.setIfInBounds_toArray, List.set_cons_zero, List.set_cons_succ]
                        refine anyS_take (i := 1) (oi := ⟨some 84, _, _, _, _, _⟩) (v := ?_) (by kernel_rfl) rfl (by kernel_rfl) (by kernel_rfl) (by kernel_rfl) (by kernel_rfl) (fun _ _ _ h => h) (Or.inl ⟨by rfl, by intro w hSw; (try dsimp only at hSw); go_simp; try with_reducible rfl⟩) (fun _ => by first | rfl | simp [Oper.about, resolve, go_sem]) hInv hHeld (fun hInv hHeld => ?_)
                        try simp only [Act.put, List.setIfInBounds_toArray, List.set_cons_zero, List.set_cons_succ]
                        refine anyS_take (i := 2) (oi := ⟨some 85, _, _, _, _, _⟩) (v := ?_) (by kernel_rfl) rfl (by kernel_rfl) (by kernel_rfl) (by kernel_rfl) (by kernel_rfl) (fun _ _ _ h => h) (Or.inl ⟨by rfl, by intro w hSw; (try dsimp only at hSw); go_simp; try with_reducible rfl⟩) (fun _ => by first | rfl | simp [Oper.about, resolve, go_sem]) hInv hHeld (fun hInv hHeld => ?_)
                        try simp only [Act.put, List.setIfInBounds_toArray, List.set_cons_zero, List.set_cons_succ]
                        refine anyS_take (i := 3) (oi := ⟨some 86, _, _, _, _, _⟩) (v := ?_) (by kernel_rfl) rfl (by kernel_rfl) (by kernel_rfl) (by kernel_rfl) (by kernel_rfl) (fun _ _ _ h => h) (Or.inl ⟨by rfl, by intro w hSw; (try dsimp only at hSw); go_simp; try with_reducible rfl⟩) (fun _ => by first | rfl | simp [Oper.about, resolve, go_sem]) hInv hHeld (fun hInv hHeld => ?_)
                        try simp only [Act.put, List.setIfInBounds_toArray, List.set_cons_zero, List.set_cons_succ]
                        refine anyS_take (i := 4) (oi := ⟨some 87, _, _, _, _, _⟩) (v := ?_) (by kernel_rfl) rfl (by kernel_rfl) (by kernel_rfl) (by kernel_rfl) (by kernel_rfl) (fun _ _ _ h => h) (Or.inl ⟨by rfl, by intro w hSw; (try dsimp only at hSw); go_simp; try with_reducible rfl⟩) (fun _ => by first | rfl | simp [Oper.about, resolve, go_sem]) hInv hHeld (fun hInv hHeld => ?_)
                        try simp only [Act.put, List.setIfInBounds_toArray, List.set_cons_zero, List.set_cons_succ]
                        refine anyS_take (i := 5) (oi := ⟨some 88, _, _, _, _, _⟩) (v := ?_) (by kernel_rfl) rfl (by kernel_rfl) (by kernel_rfl) (by kernel_rfl) (by kernel_rfl) (fun _ _ _ h => h) (Or.inl ⟨by rfl, by intro w hSw; (try dsimp only at hSw); go_simp; try with_reducible rfl⟩) (fun _ => by first | rfl | simp [Oper.about, resolve, go_sem]) hInv hHeld (fun hInv hHeld => ?_)
                        try simp only [Act.put, List.setIfInBounds_toArray, List.set_cons_zero, List.set_cons_succ]
                        refine anyS_take (i := 6) (oi := ⟨some 89, _, _, _, _, _⟩) (v := ?_) (by kernel_rfl) rfl (by kernel_rfl) (by kernel_rfl) (by kernel_rfl) (by kernel_rfl) (fun _ _ _ h => h) (Or.inl ⟨by rfl, by intro w hSw; (try dsimp only at hSw); go_simp; try with_reducible rfl⟩) (fun _ => by first | rfl | simp [Oper.about, resolve, go_sem]) hInv hHeld (fun hInv hHeld => ?_)
                        try simp only [Act.put, List.setIfInBounds_toArray, List.set_cons_zero, List.set_cons_succ]
                        refine anyS_take (i := 7) (oi := ⟨some 90, _, _, _, _, _⟩) (v := ?_) (by kernel_rfl) rfl (by kernel_rfl) (by kernel_rfl) (by kernel_rfl) (by kernel_rfl) (fun _ _ _ h => h) (Or.inl ⟨by rfl, by intro w hSw; (try dsimp only at hSw); go_simp; try with_reducible rfl⟩) (fun _ => by first | rfl | simp [Oper.about, resolve, go_sem]) hInv hHeld (fun hInv hHeld => ?_)
                        try simp only [Act.put, List.setIfInBounds_toArray, List.set_cons_zero, List.set_cons_succ]
                        refine anyS_take (i := 8) (oi := ⟨some 91, _, _, _, _, _⟩) (v := ?_) (by kernel_rfl) rfl (by kernel_rfl) (by kernel_rfl) (by kernel_rfl) (by kernel_rfl) (fun _ _ _ h => h) (Or.inl ⟨by rfl, by intro w hSw; (try dsimp only at hSw); go_simp; try with_reducible rfl⟩) (fun _ => by first | rfl | simp [Oper.about, resolve, go_sem]) hInv hHeld (fun hInv hHeld => ?_)
                        try simp only [Act.put, List.setIfInBounds_toArray, List.set_cons_zero, List.set_cons_succ]
                        refine anyS_take (i := 9) (oi := ⟨some 92, _, _, _, _, _⟩) (v := ?_) (by kernel_rfl) rfl (by kernel_rfl) (by kernel_rfl) (by kernel_rfl) (by kernel_rfl) (fun _ _ _ h => h) (Or.inl ⟨by rfl, by intro w hSw; (try dsimp only at hSw); go_simp; try with_reducible rfl⟩) (fun _ => by first | rfl | simp [Oper.about, resolve, go_sem]) hInv hHeld (fun hInv hHeld => ?_)
                        try simp only [Act.put, List.setIfInBounds_toArray, List.set_cons_zero, List.set_cons_succ]
                        refine anyS_take (i := 10) (oi := ⟨some 93, _, _, _, _, _⟩) (v := ?_) (by kernel_rfl) rfl (by kernel_rfl) (by kernel_rfl) (by kernel_rfl) (by kernel_rfl) (fun _ _ _ h => h) (Or.inl ⟨by rfl, by intro w hSw; (try dsimp only at hSw); go_simp; try with_reducible rfl⟩) (fun _ => by first | rfl | simp [Oper.about, resolve, go_sem]) hInv hHeld (fun hInv hHeld => ?_)
                        try simp only [Act.put, List.setIfInBounds_toArray, List.set_cons_zero, List.set_cons_succ]
                        refine anyS_take (i := 11) (oi := ⟨some 94, _, _, _, _, _⟩) (v := ?_) (by kernel_rfl) rfl (by kernel_rfl) (by kernel_rfl) (by kernel_rfl) (by kernel_rfl) (fun _ _ _ h => h) (Or.inl ⟨by rfl, by intro w hSw; (try dsimp only at hSw); go_simp; try with_reducible rfl⟩) (fun _ => by first | rfl | simp [Oper.about, resolve, go_sem]) hInv hHeld (fun hInv hHeld => ?_)
                        try simp only [Act.put, List.setIfInBounds_toArray, List.set_cons_zero, List.set_cons_succ]
                        refine anyS_take (i := 12) (oi := ⟨some 95, _, _, _, _, _⟩) (v := ?_) (by kernel_rfl) rfl (by kernel_rfl) (by kernel_rfl) (by kernel_rfl) (by kernel_rfl) (fun _ _ _ h => h) (Or.inl ⟨by rfl, by intro w hSw; (try dsimp only at hSw); go_simp; try with_reducible rfl⟩) (fun _ => by first | rfl | simp [Oper.about, resolve, go_sem]) hInv hHeld (fun hInv hHeld => ?_)
                        try simp only [Act.put, List.setIfInBounds_toArray, List.set_cons_zero, List.set_cons_succ]
                        refine anyS_take (i := 13) (oi := ⟨some 96, _, _, _, _, _⟩) (v := ?_) (by kernel_rfl) rfl (by kernel_rfl) (by kernel_rfl) (by kernel_rfl) (by kernel_rfl) (fun _ _ _ h => h) (Or.inl ⟨by rfl, by intro w hSw; (try dsimp only at hSw); go_simp; try with_reducible rfl⟩) (fun _ => by first | rfl | simp [Oper.about, resolve, go_sem]) hInv hHeld (fun hInv hHeld => ?_)
                        try simp only [Act.put, List.setIfInBounds_toArray, List.set_cons_zero, List.set_cons_succ]
                        refine anyS_take (i := 14) (oi := ⟨some 97, _, _, _, _, _⟩) (v := ?_) (by kernel_rfl) rfl (by kernel_rfl) (by kernel_rfl) (by kernel_rfl) (by kernel_rfl) (fun _ _ _ h => h) (Or.inl ⟨by rfl, by intro w hSw; (try dsimp only at hSw); go_simp; try with_reducible rfl⟩) (fun _ => by first | rfl | simp [Oper.about, resolve, go_sem]) hInv hHeld (fun hInv hHeld => ?_)
                        try simp only [Act.put, List.setIfInBounds_toArray, List.set_cons_zero, List.set_cons_succ]
                        refine anyS_take (i := 15) (oi := ⟨some 98, _, _, _, _, _⟩) (v := ?_) (by kernel_rfl) rfl (by kernel_rfl) (by kernel_rfl) (by kernel_rfl) (by kernel_rfl) (fun _ _ _ h => h) (Or.inl ⟨by rfl, by intro w hSw; (try dsimp only at hSw); go_simp; try with_reducible rfl⟩) (fun _ => by first | rfl | simp [Oper.about, resolve, go_sem]) hInv hHeld (fun hInv hHeld => ?_)
                        try simp only [Act.put, List.setIfInBounds_toArray, List.set_cons_zero, List.set_cons_succ]
                        refine anyS_take (i := 16) (oi := ⟨some 99, _, _, _, _, _⟩) (v := ?_) (by kernel_rfl) rfl (by kernel_rfl) (by kernel_rfl) (by kernel_rfl) (by kernel_rfl) (fun _ _ _ h => h) (Or.inl ⟨by rfl, by intro w hSw; (try dsimp only at hSw); go_simp; try with_reducible rfl⟩) (fun _ => by first | rfl | simp [Oper.about, resolve, go_sem]) hInv hHeld (fun hInv hHeld => ?_)
                        try simp only [Act.put, List.setIfInBounds_toArray, List.set_cons_zero, List.set_cons_succ]
                        refine anyS_take (i := 17) (oi := ⟨some 100, _, _, _, _, _⟩) (v := ?_) (by kernel_rfl) rfl (by kernel_rfl) (by kernel_rfl) (by kernel_rfl) (by kernel_rfl) (fun _ _ _ h => h) (Or.inl ⟨by rfl, by intro w hSw; (try dsimp only at hSw); go_simp; try with_reducible rfl⟩) (fun _ => by first | rfl | simp [Oper.about, resolve, go_sem]) hInv hHeld (fun hInv hHeld => ?_)
                        try simp only [Act.put, List.setIfInBounds_toArray, List.set_cons_zero, List.set_cons_succ]
                        refine anyS_take (i := 18) (oi := ⟨some 101, _, _, _, _, _⟩) (v := ?_) (by kernel_rfl) rfl (by kernel_rfl) (by kernel_rfl) (by kernel_rfl) (by kernel_rfl) (fun _ _ _ h => h) (Or.inl ⟨by rfl, by intro w hSw; (try dsimp only at hSw); go_simp; try with_reducible rfl⟩) (fun _ => by first | rfl | simp [Oper.about, resolve, go_sem]) hInv hHeld (fun hInv hHeld => ?_)
                        try simp only [Act.put, List.setIfInBounds_toArray, List.set_cons_zero, List.set_cons_succ]
                        refine anyS_take (i := 19) (oi := ⟨some 102, _, _, _, _, _⟩) (v := ?_) (by kernel_rfl) rfl (by kernel_rfl) (by kernel_rfl) (by kernel_rfl) (by kernel_rfl) (fun _ _ _ h => h) (Or.inl ⟨by rfl, by intro w hSw; (try dsimp only at hSw); go_simp; try with_reducible rfl⟩) (fun _ => by first | rfl | simp [Oper.about, resolve, go_sem]) hInv hHeld (fun hInv hHeld => ?_)
                        try simp only [Act.put, List.setIfInBounds_toArray, List.set_cons_zero, List.set_cons_succ]
                        refine anyS_one (i := 20) (o := ⟨some 103, _, _, _, _, _⟩) (by kernel_rfl) rfl hInv (fun K hK => ?_)
                        go_simp
                        refine ⟨trivial, ?_⟩
                        refine (callsIn_wide.2 (CM.out _)).mono ?_
                        rintro e V3 ⟨rfl, hv3⟩
                        refine hK.out _ _ (fun e => absurd (show true = false from e) (by decide)) (fun hInv hHeld => ?_)
                        clear hK K
                        try simp only [Act.put, List.setIfInBounds_toArray, List.set_cons_zero, List.set_cons_succ]
                        refine anyS_pure (i := 21) (oi := ⟨some 104, _, _, _, _, _⟩) (v := ?_) (by kernel_rfl) rfl (by kernel_rfl) (by kernel_rfl) (by kernel_rfl) (by decide) (fun _ _ _ h => h) (Or.inl ⟨by rfl, by intro w hSw; (try dsimp only at hSw); go_simp; try with_reducible rfl⟩) (fun _ => by first | rfl | simp [Oper.about, resolve, go_sem]) hInv hHeld (fun hInv hHeld => ?_)
                        try simp only [Act.put, List.setIfInBounds_toArray, List.set_cons_zero, List.set_cons_succ]
                        refine anyS_done (by kernel_rfl) ?_ _
                        have HIV : Off ((V3.heap[La]? = some (.cells #[.int .i64 p.1, .int .i64 p.2] 34 (0, 0)) ∧ V3.heap[Lb]? = some (.cells #[.int .i64 q.1, .int .i64 q.2] 34 (0, 0))) ∧ Below w.heap.size w V3) := ⟨⟨blockB hv3 HI.out.1.1, blockB hv3 HI.out.1.2⟩, belowC (below_drew HI.out.2) hv3⟩
                        clear hv3
                        gi_wp2
                        go_roundw
                        case rel => exact ⟨j + 1, by omega, by go_num, HN, HIV⟩
                        case measure => simp only [intOf]; omega
                  · have HNT : Off (turnsTo xs (k + 1)) := ⟨HNX.out HTF.out (fun i h1 h2 => HS.out i h1 (by omega))⟩
                    have hjI : ¬ (j : Int) < (xs.length : Int) := by omega
                    have HBi := Off.mk HI.out.2
                    gi_wp2
                    go_roundw
                    case rel => exact ⟨k + 1, by omega, by go_num, HNT, HBi⟩
                    case measure => simp only [intOf]; omega
        · obtain rfl : k = xs.length := by omega
          have HG : Off (GoodR xs) := ⟨⟨by omega, HR.out, fun i hi => (HT.out i hi).1, fun i hi j h1 h2 => (HT.out i hi).2 j h1 h2⟩⟩
          gi_wp2
          go_ret
          exact ⟨⟨true, rfl, by simp [HG.out]⟩, HB.out⟩
end Go.Proofs.Ytbpmiphipjkdlaa
