/- Contracts: numbers, Between. -/
import Derived.Test.YtddcdopimpfhcaaCh
import Derived.Maps.Own
import Derived.Maps.OwnOps
import Derived.Maps.Views
import Derived.WalkArith
namespace Go.Proofs.Ytddcdopimpfhcaa
open Go.RowKit Go.Shelf Go.Maps Go.ChangeShapes Go.WideShapes

theorem lawI : Keyed Try.prog 3 := int_keyed Try.underlying3
theorem zeroI' (w : World) : (zeroValue 3).run Try.prog w = .ok (.int .i64 0) w := by kernel_rfl
/-- A map of the call's own, by its keys 0 to m. -/
structure MapE (w : World) (b n m : Nat) (g : Nat → Int) : Prop where
  out : ∃ D : DataW Unit, IsMap D ∧ w.ownsMap Try.prog 3 (plainElem Try.prog 3) b n D ∧ ∀ j : Nat, j ≤ m → D.atKey (.int .i64 (j : Int)) (.lit (.int .i64 0)) = .lit (.int .i64 (g j))
theorem lit_wf {x : Int} (h : -302875106592253 ≤ x ∧ x ≤ 302875106592253) : (Lit.int .i64 x).wf = true := by
  exact WalkArith.wf_i64 (by omega)
theorem MapE.lookup {w : World} {b n m : Nat} {g : Nat → Int} (h : MapE w b n m g) (j : Nat) (hj : j ≤ m) (hm : m ≤ 100) : (Instr.lookup 78 (.map (some b)) (.int .i64 (j : Int)) false).run Try.prog w = .ok (.int .i64 (g j)) w := by
  obtain ⟨D, _, ho, hat⟩ := h.out
  obtain ⟨c, hrun, hc, _⟩ := ho.lookup_int lawI Try.underlying78 Try.underlying3 (zeroI' w) (keyOf_int_mk Try.underlying3 (lit_wf (x := (j : Int)) (by omega)))
  rw [hat j hj] at hc
  simp only [DataW.lit.injEq, Lit.int.injEq, true_and] at hc
  rw [hrun, hc]
theorem MapE.update {w : World} {b n m : Nat} {g : Nat → Int} (h : MapE w b n m g) (hn : n ≤ 100) (hm : m ≤ 100) (hg : -302875106592253 ≤ g (m + 1) ∧ g (m + 1) ≤ 302875106592253) :
    ∃ w', (Instr.mapUpdate 78 (.map (some b)) (.int .i64 ((m : Int) + 1)) (.int .i64 (g (m + 1)))).run Try.prog w = .ok () w' ∧ MapE w' b (n + 1) (m + 1) g ∧ w.grownBy w' (some b) := by
  obtain ⟨D, hD, ho, hat⟩ := h.out
  have hk : keyOf Try.prog 3 (.int .i64 ((m : Int) + 1)) = some (.int .i64 ((m : Int) + 1)) := keyOf_int_mk Try.underlying3 (lit_wf (by omega))
  obtain ⟨w', hrun, ho', hg'⟩ := ho.update lawI Try.underlying78 (by unfold maxLen; omega) hk (plainElem_int Try.underlying3 (lit_wf hg))
  refine ⟨w', hrun, ⟨_, hD.put _ _, ho', fun j hj => ?_⟩, hg'⟩
  by_cases e : j = m + 1
  · subst e
    rw [show (((m + 1 : Nat)) : Int) = (m : Int) + 1 by omega]
    exact atKey_put_same hD (by simp [WideAt.IsKeyLit]) _ _
  · rw [atKey_put_other (by simp only [ne_eq, Lit.int.injEq, true_and]; omega)]
    exact hat j (by omega)
theorem MapE.below {w w1 : World} {b n m : Nat} {g : Nat → Int} (h : MapE w b n m g) (hb : Below w.heap.size w w1) : MapE w1 b n m g := by
  obtain ⟨D, hD, ho, hat⟩ := h.out
  exact ⟨D, hD, ho.kept (row := none) ⟨hb.os, hb.tape, hb.output, hb.size, fun i hi _ => hb.block i hi⟩ (by simp), hat⟩
theorem MapE.lt {w : World} {b n m : Nat} {g : Nat → Int} (h : MapE w b n m g) : b < w.heap.size := by
  obtain ⟨D, _, ho, _⟩ := h.out
  exact ho.lt
theorem MapE.keeps {w w1 : World} {b n m r : Nat} {g : Nat → Int} (h : MapE w b n m g) (hk : Keeps r w w1) (hne : b ≠ r) : MapE w1 b n m g := by
  obtain ⟨D, hD, ho, hat⟩ := h.out
  exact ⟨D, hD, ho.kept hk.out (by simpa using hne), hat⟩
/-- The map begins with 0 at 0. -/
theorem map_first (w : World) (g : Nat → Int) (h0 : g 0 = 0) : ∃ w', (Instr.mapUpdate 78 (.map (some w.heap.size)) (.int .i64 0) (.int .i64 0)).run Try.prog (w.alloc (.map #[] 0)) = .ok () w' ∧ MapE w' w.heap.size 1 0 g ∧ (w.alloc (.map #[] 0)).grownBy w' (some w.heap.size) := by
  have ho : (w.alloc (.map #[] 0)).ownsMap Try.prog 3 (plainElem (H := Unit) Try.prog 3) w.heap.size 0 (.map []) := World.ownsMap_made _ _ _ _
  have hk : keyOf Try.prog 3 (.int .i64 0) = some (.int .i64 0) := keyOf_int_mk Try.underlying3 (lit_wf (by omega))
  obtain ⟨w', hrun, ho', hg'⟩ := ho.update lawI Try.underlying78 (by unfold maxLen; omega) hk (plainElem_int Try.underlying3 (lit_wf (x := 0) (by omega)))
  refine ⟨w', hrun, ⟨_, IsMap.put ⟨_, rfl⟩ _ _, ho', fun j hj => ?_⟩, hg'⟩
  obtain rfl : j = 0 := by omega
  rw [h0]
  exact atKey_put_same ⟨_, rfl⟩ (by simp [WideAt.IsKeyLit]) _ _
theorem wpList_insertE {w w' : World} {ops : Array Oper} {rest : List Oper} {o : Oper} {a : Act} {Q : Exit → Act → World → Prop} (hg : o.guard = none) (m x v : Operand) (hop : o.op = Op.insert 78 m x v) (b : Nat) (k y : Int)
    (hm : a.eval m = .map (some b)) (hx : a.eval x = .int .i64 k) (hv : a.eval v = .int .i64 y) (hrun : (Instr.mapUpdate 78 (.map (some b)) (.int .i64 k) (.int .i64 y)).run Try.prog w = .ok () w')
    (hK : wpList Try.prog ops Q rest (a.put o.dst undef) w') : wpList Try.prog ops Q (o :: rest) a w := by
  refine wpList_plain hg fun K' hK' => ?_
  unfold Oper.wp
  simp [execOp, hop, hm, hx, hv, hrun, Result.andThen]
  exact hK' _ _ hK
theorem step_updateE {w w' : World} {ops : Array Oper} {o : Oper} {a : Act} {K : Act → World → Prop} {Q : Exit → Act → World → Prop} {E : Prop} (hg : o.guard = none) (m x v : Operand) (hop : o.op = Op.mapUpdate 78 m x v) (b : Nat) (k y : Int)
    (hm : a.eval m = .map (some b)) (hx : a.eval x = .int .i64 k) (hv : a.eval v = .int .i64 y) (hrun : (Instr.mapUpdate 78 (.map (some b)) (.int .i64 k) (.int .i64 y)).run Try.prog w = .ok () w')
    (hK : K (a.put o.dst undef) w') : if Region.wanted o (yielded ops a.tmps) = true then Oper.wp Try.prog o a w K Q else E := by
  have hw : Region.wanted o (yielded ops a.tmps) = true := by simp [Region.wanted, hg]
  rw [if_pos hw]
  unfold Oper.wp
  simp [execOp, hop, hm, hx, hv, hrun, Result.andThen]
  exact hK
set_option linter.unusedSimpArgs false in
set_option maxHeartbeats 4000000 in
set_option maxRecDepth 100000 in
theorem numbers_any (l : List Int) (A : Option Addr) (c i d : Nat) (w : World) (hl : IntsAt w A l) (hg : ∀ j, j < l.length → 1 ≤ l.getD j 0 ∧ l.getD j 0 ≤ 12) (h3 : 3 ≤ l.length) (h12 : l.length ≤ 12) (hi : i ≤ 12) (hd : d ≤ 12) :
    Calls Try.prog 64 #[.slice A l.length c, .int .i64 (i : Int), .int .i64 (d : Int)] w fun e w' => ∃ b n m, e = .returned (.map (some b)) ∧ MapE w' b n m (eN l i) ∧ d ≤ m ∧ m ≤ 100 ∧ w.heap.size ≤ b ∧ Below w.heap.size w w' := by
  have HL := Off.mk hl
  have HG := Off.mk hg
  have hmm := @run_makeMap Try.prog
  obtain ⟨g, hgE⟩ : ∃ g, g = eN l i := ⟨_, rfl⟩
  have HGE := Off.mk hgE
  have h0 : g 0 = 0 := by rw [hgE]; rfl
  have h1 : g 1 = 1 := by rw [hgE]; rfl
  have HR : Off (∀ r, r ≤ 13 → -302875106592253 ≤ g r ∧ g r ≤ 302875106592253) := ⟨fun r hr => by rw [hgE]; exact eN_range hg (by omega) i hr⟩
  have HN : Off (∀ r, g (r + 2) = l.getD ((i + (r + 1)) % l.length) 0 * g (r + 1) - g r) := ⟨fun r => by rw [hgE]; rfl⟩
  obtain ⟨w1, hr1, hM1, hg1⟩ := map_first w g h0
  obtain ⟨w2, hr2, hM2, hg2⟩ := hM1.update (by omega) (by omega) (HR.out 1 (by omega))
  have hB2 : Below w.heap.size w w2 := (((Below.refl _ _).alloc (Nat.le_refl _) _).grown hg1 (by simp) (fun k e => by cases e; exact Nat.le_refl _)).grown hg2 (Nat.le_trans (by simp) hg1.size) (fun k e => by cases e; exact Nat.le_refl _)
  rw [h1] at hr2
  have hr2' : (Instr.mapUpdate 78 (.map (some w.heap.size)) (.int .i64 1) (.int .i64 1)).run Try.prog w1 = .ok () w2 := hr2
  have HR1 := Off.mk hr1
  have HR2 := Off.mk hr2'
  have HM2 := Off.mk hM2
  have HB2 := Off.mk hB2
  obtain ⟨b, hb⟩ : ∃ b, b = w.heap.size := ⟨_, rfl⟩
  have HBb : Off (w.heap.size ≤ b) := ⟨by rw [hb]; exact Nat.le_refl _⟩
  have HBB := Off.mk hb
  rw [show (eN l i) = g from hgE.symm]
  clear hl hg hgE h0 h1 hr1 hM1 hg1 hr2 hM2 hg2 hB2 hr2'
  rw [← hb] at HR1 HR2
  go_enter Try.func64, Try.ntmps64
  go_wp2_with (first
    | (refine wpList_insertE rfl _ _ _ rfl w.heap.size 0 0 rfl rfl rfl (by rw [← HBB.out]; exact HR1.out) ?_)
    | (refine wpList_insertE rfl _ _ _ rfl w.heap.size 1 1 rfl rfl rfl (by rw [← HBB.out]; exact HR2.out) ?_))
  rw [← HBB.out] at HM2 ⊢
  clear HR1 HR2 hb hmm
  go_loopw [8] (fun rv wr => ∃ r : Nat, 2 ≤ r ∧ (r ≤ d + 1 ∨ r = 2) ∧ rv = .int .i64 r ∧ Off (MapE wr b r (r - 1) g) ∧ Off (Below w.heap.size w wr)) (fun rv _ => d + 1 - (intOf rv).toNat)
  case atStart => exact ⟨2, by omega, .inr rfl, rfl, HM2, HB2⟩
  case round =>
    clear HM2 HB2
    obtain ⟨r, hr2, hrd, rfl, HM, HB⟩ := hrel
    by_cases hle : r ≤ d
    · obtain ⟨q, rfl⟩ : ∃ q, r = q + 2 := ⟨r - 2, by omega⟩
      have hq : q ≤ 10 := by omega
      have HNq := Off.mk (HN.out q)
      obtain ⟨k, hk⟩ : ∃ k, k = (i + (q + 1)) % l.length := ⟨_, rfl⟩
      rw [← hk] at HNq
      have hkl : k < l.length := by rw [hk]; exact Nat.mod_lt _ (by omega)
      obtain ⟨ad, rfl, x0⟩ := (HL.out.below HB.out).cell k hkl
      have hx := HG.out k hkl
      have t1 : ((i : Int) + ((q : Int) + 2) - 1) % (l.length : Int) = (k : Int) := by
        rw [hk, show (i : Int) + ((q : Int) + 2) - 1 = ((i + (q + 1) : Nat) : Int) by omega]
        exact (Int.natCast_emod _ _).symm
      have t2 : ((i : Int) + ((q : Int) + 2) - 1).tmod (l.length : Int) = (k : Int) := by rw [Int.tmod_eq_emod_of_nonneg (by omega)]; exact t1
      have hl1 := HM.out.lookup (q + 1) (by omega) (by omega)
      have hl2 := HM.out.lookup q (by omega) (by omega)
      have b1 := HR.out (q + 1) (by omega)
      have b2 := HR.out q (by omega)
      obtain ⟨x, hxe⟩ : ∃ x, x = l.getD k 0 := ⟨_, rfl⟩
      obtain ⟨y, hye⟩ : ∃ y, y = g (q + 1) := ⟨_, rfl⟩
      obtain ⟨z, hze⟩ : ∃ z, z = g q := ⟨_, rfl⟩
      have HM0 := HM.out
      have hup := fun (W : World) (hW : MapE W b (q + 2) (q + 1) g) => MapE.update (m := q + 1) hW (by omega) (by omega) (HR.out (q + 2) (by omega))
      rw [HNq.out, ← hxe, ← hye, ← hze] at hup
      rw [show (((q + 1 : Nat) : Int) + 1) = (q : Int) + 2 by omega] at hup
      rw [show ((q + 1 : Nat) : Int) = (q : Int) + 1 by omega, ← hye] at hl1
      rw [← hze] at hl2
      rw [← hxe] at x0 hx
      rw [← hye] at b1
      rw [← hze] at b2
      have hm := mul_bound hx b1
      have w1 : IntKind.i64.wrap (x * y) = x * y := by rw [IntKind.wrap_i64]; omega
      have w2 : IntKind.i64.wrap (x * y - z) = x * y - z := by rw [IntKind.wrap_i64]; omega
      have w3 : IntKind.i64.wrap ((i : Int) + ((q : Int) + 2)) = (i : Int) + ((q : Int) + 2) := by rw [IntKind.wrap_i64]; omega
      have w4 : IntKind.i64.wrap ((i : Int) + ((q : Int) + 2) - 1) = (i : Int) + ((q : Int) + 2) - 1 := by rw [IntKind.wrap_i64]; omega
      have w5 : IntKind.i64.wrap ((q : Int) + 2 - 1) = (q : Int) + 1 := by rw [IntKind.wrap_i64]; omega
      have w6 : IntKind.i64.wrap ((q : Int) + 2 - 2) = (q : Int) := by rw [IntKind.wrap_i64]; omega
      have w7 : IntKind.i64.wrap ((q : Int) + 1) = (q : Int) + 1 := by rw [IntKind.wrap_i64]; omega
      have w8 : IntKind.i64.wrap (q : Int) = (q : Int) := by rw [IntKind.wrap_i64]; omega
      have hl0 : ¬ l.length = 0 := by omega
      have k0 : (0 : Int) ≤ (k : Int) := by omega
      have k1 : (k : Int) < (l.length : Int) := by omega
      have hleI : (q : Int) + 2 ≤ (d : Int) := by omega
      have HUp := Off.mk hup
      have hbne : w.heap.size ≤ w.heap.size := Nat.le_refl _
      have HBr : Off (w.heap.size ≤ wr.heap.size) := ⟨HB.out.size⟩
      have HMd : Off (MapE wr.drew b (q + 2) (q + 1) g) := ⟨HM0.below (below_drew (Below.refl _ _))⟩
      have hl1 : (Instr.lookup 78 (.map (some b)) (.int .i64 ((q : Int) + 1)) false).run Try.prog wr.drew = .ok (.int .i64 y) wr.drew := by
        have := HMd.out.lookup (q + 1) (by omega) (by omega)
        rw [show ((q + 1 : Nat) : Int) = (q : Int) + 1 by omega, ← hye] at this
        exact this
      have hl2 : (Instr.lookup 78 (.map (some b)) (.int .i64 (q : Int)) false).run Try.prog wr.drew = .ok (.int .i64 z) wr.drew := by
        have := HMd.out.lookup q (by omega) (by omega)
        rw [← hze] at this
        exact this
      obtain ⟨w', hrun', hM', hg''⟩ := hup wr.drew HMd.out
      have hB' : Below w.heap.size w w' := (below_drew HB.out).grown hg'' (by simpa using HBr.out) (fun k e => by cases e; exact HBb.out)
      have x0' : w'.cell? (ad.add k) = some (.int .i64 x) := by
        have hne : (ad.add k).block ≠ b := by
          have h5 := World.block_lt_of_cell? _ _ ((HL.out.cell k hkl).choose_spec.2)
          obtain ⟨ad', e', hc'⟩ := HL.out.cell k hkl
          cases e'
          have h6 := World.block_lt_of_cell? _ _ hc'
          have h7 := HBb.out
          omega
        exact Keeps.cell (w := wr.drew) ⟨hg''⟩ x0 hne
      have hl1' := hM'.lookup (q + 1) (by omega) (by omega)
      rw [show ((q + 1 : Nat) : Int) = (q : Int) + 1 by omega, ← hye] at hl1'
      have hl2' := hM'.lookup q (by omega) (by omega)
      rw [← hze] at hl2'
      have HRun := Off.mk hrun'
      have HM' := Off.mk hM'
      have HB' := Off.mk hB'
      have HS' := Off.mk (And.intro x0' (And.intro hl1' hl2'))
      clear hxe hye hze hk hm hup HM0 hrun' hM' hB' hg'' x0' hl1' hl2' hbne
      go_wp2

      refine wp_region_held_drew (S := (fun w' => w'.cell? (ad.add k) = some (.int .i64 x) ∧ ((Instr.lookup 78 (.map (some b)) (.int .i64 ((q : Int) + 1)) false).run Try.prog w' = .ok (.int .i64 y) w' ∧ (Instr.lookup 78 (.map (some b)) (.int .i64 (q : Int)) false).run Try.prog w' = .ok (.int .i64 z) w'))) (by kernel_rfl) ⟨x0, hl1, hl2⟩ (fun hHeld => ?_)
      refine wpAnyH_take (i := 0) (oi := ⟨some 16, _, _, _, _, _⟩) (v := ?_) rfl (by kernel_rfl) (by kernel_rfl) (by kernel_rfl) (fun _ _ _ h => h) (Or.inl ⟨by rfl, by intro w hSw; (try dsimp only at hSw); go_simp; try with_reducible rfl⟩) hHeld ?_
      try simp only [Act.put, List.setIfInBounds_toArray, List.set_cons_zero, List.set_cons_succ]
      refine wpAnyH_take (i := 1) (oi := ⟨some 17, _, _, _, _, _⟩) (v := ?_) rfl (by kernel_rfl) (by kernel_rfl) (by kernel_rfl) (fun _ _ _ h => h) (Or.inl ⟨by rfl, by intro w hSw; (try dsimp only at hSw); go_simp; try with_reducible rfl⟩) hHeld ?_
      try simp only [Act.put, List.setIfInBounds_toArray, List.set_cons_zero, List.set_cons_succ]
      refine wpAnyH_take (i := 2) (oi := ⟨some 18, _, _, _, _, _⟩) (v := ?_) rfl (by kernel_rfl) (by kernel_rfl) (by kernel_rfl) (fun _ _ _ h => h) (Or.inl ⟨by rfl, by intro w hSw; (try dsimp only at hSw); go_simp; try with_reducible rfl⟩) hHeld ?_
      try simp only [Act.put, List.setIfInBounds_toArray, List.set_cons_zero, List.set_cons_succ]
      refine wpAnyH_take (i := 3) (oi := ⟨some 19, _, _, _, _, _⟩) (v := ?_) rfl (by kernel_rfl) (by kernel_rfl) (by kernel_rfl) (fun _ _ _ h => h) (Or.inl ⟨by rfl, by intro w hSw; (try dsimp only at hSw); go_simp; try with_reducible rfl⟩) hHeld ?_
      try simp only [Act.put, List.setIfInBounds_toArray, List.set_cons_zero, List.set_cons_succ]
      refine wpAnyH_take (i := 4) (oi := ⟨some 20, _, _, _, _, _⟩) (v := ?_) rfl (by kernel_rfl) (by kernel_rfl) (by kernel_rfl) (fun _ _ _ h => h) (Or.inl ⟨by rfl, by intro w hSw; (try dsimp only at hSw); go_simp; try with_reducible rfl⟩) hHeld ?_
      try simp only [Act.put, List.setIfInBounds_toArray, List.set_cons_zero, List.set_cons_succ]
      refine wpAnyH_take (i := 5) (oi := ⟨some 21, _, _, _, _, _⟩) (v := ?_) rfl (by kernel_rfl) (by kernel_rfl) (by kernel_rfl) (fun _ _ _ h => h) (Or.inl ⟨by rfl, by intro w hSw; (try dsimp only at hSw); go_simp; try with_reducible rfl⟩) hHeld ?_
      try simp only [Act.put, List.setIfInBounds_toArray, List.set_cons_zero, List.set_cons_succ]
      refine wpAnyH_take (i := 6) (oi := ⟨some 22, _, _, _, _, _⟩) (v := ?_) rfl (by kernel_rfl) (by kernel_rfl) (by kernel_rfl) (fun _ _ _ h => h) (Or.inl ⟨by rfl, by intro w hSw; (try dsimp only at hSw); go_simp; try with_reducible rfl⟩) hHeld ?_
      try simp only [Act.put, List.setIfInBounds_toArray, List.set_cons_zero, List.set_cons_succ]
      refine wpAnyH_take (i := 7) (oi := ⟨some 23, _, _, _, _, _⟩) (v := ?_) rfl (by kernel_rfl) (by kernel_rfl) (by kernel_rfl) (fun _ _ _ h => h) (Or.inl ⟨by rfl, by intro w hSw; (try dsimp only at hSw); go_simp; try with_reducible rfl⟩) hHeld ?_
      try simp only [Act.put, List.setIfInBounds_toArray, List.set_cons_zero, List.set_cons_succ]
      refine wpAnyH_take (i := 8) (oi := ⟨some 24, _, _, _, _, _⟩) (v := ?_) rfl (by kernel_rfl) (by kernel_rfl) (by kernel_rfl) (fun _ _ _ h => h) (Or.inl ⟨by rfl, by intro w hSw; (try dsimp only at hSw); go_simp; try with_reducible rfl⟩) hHeld ?_
      try simp only [Act.put, List.setIfInBounds_toArray, List.set_cons_zero, List.set_cons_succ]
      refine wpAnyH_take (i := 9) (oi := ⟨some 25, _, _, _, _, _⟩) (v := ?_) rfl (by kernel_rfl) (by kernel_rfl) (by kernel_rfl) (fun _ _ _ h => h) (Or.inl ⟨by rfl, by intro w hSw; (try dsimp only at hSw); go_simp; try with_reducible rfl⟩) hHeld ?_
      try simp only [Act.put, List.setIfInBounds_toArray, List.set_cons_zero, List.set_cons_succ]
      refine wpAnyH_take (i := 10) (oi := ⟨some 26, _, _, _, _, _⟩) (v := ?_) rfl (by kernel_rfl) (by kernel_rfl) (by kernel_rfl) (fun _ _ _ h => h) (Or.inl ⟨by rfl, by intro w hSw; (try dsimp only at hSw); go_simp; try with_reducible rfl⟩) hHeld ?_
      try simp only [Act.put, List.setIfInBounds_toArray, List.set_cons_zero, List.set_cons_succ]
      refine wpAnyH_take (i := 11) (oi := ⟨some 27, _, _, _, _, _⟩) (v := ?_) rfl (by kernel_rfl) (by kernel_rfl) (by kernel_rfl) (fun _ _ _ h => h) (Or.inl ⟨by rfl, by intro w hSw; (try dsimp only at hSw); go_simp; try with_reducible rfl⟩) hHeld ?_
      try simp only [Act.put, List.setIfInBounds_toArray, List.set_cons_zero, List.set_cons_succ]
      refine wpAnyH_take (i := 12) (oi := ⟨some 28, _, _, _, _, _⟩) (v := ?_) rfl (by kernel_rfl) (by kernel_rfl) (by kernel_rfl) (fun _ _ _ h => h) (Or.inl ⟨by rfl, by intro w hSw; (try dsimp only at hSw); go_simp; try with_reducible rfl⟩) hHeld ?_
      try simp only [Act.put, List.setIfInBounds_toArray, List.set_cons_zero, List.set_cons_succ]
      refine wpAnyH_take (i := 13) (oi := ⟨some 29, _, _, _, _, _⟩) (v := ?_) rfl (by kernel_rfl) (by kernel_rfl) (by kernel_rfl) (fun _ _ _ h => h) (Or.inl ⟨by rfl, by intro w hSw; (try dsimp only at hSw); go_simp; try with_reducible rfl⟩) hHeld ?_
      try simp only [Act.put, List.setIfInBounds_toArray, List.set_cons_zero, List.set_cons_succ]
      refine wpAnyH_take (i := 14) (oi := ⟨some 30, _, _, _, _, _⟩) (v := ?_) rfl (by kernel_rfl) (by kernel_rfl) (by kernel_rfl) (fun _ _ _ h => h) (Or.inl ⟨by rfl, by intro w hSw; (try dsimp only at hSw); go_simp; try with_reducible rfl⟩) hHeld ?_
      try simp only [Act.put, List.setIfInBounds_toArray, List.set_cons_zero, List.set_cons_succ]
      refine wpAnyH_take (i := 15) (oi := ⟨some 31, _, _, _, _, _⟩) (v := ?_) rfl (by kernel_rfl) (by kernel_rfl) (by kernel_rfl) (fun _ _ _ h => h) (Or.inl ⟨by rfl, by intro w hSw; (try dsimp only at hSw); go_simp; try with_reducible rfl⟩) hHeld ?_
      try simp only [Act.put, List.setIfInBounds_toArray, List.set_cons_zero, List.set_cons_succ]
      refine wpAnyH_take (i := 16) (oi := ⟨some 32, _, _, _, _, _⟩) (v := ?_) rfl (by kernel_rfl) (by kernel_rfl) (by kernel_rfl) (fun _ _ _ h => h) (Or.inl ⟨by rfl, by intro w hSw; (try dsimp only at hSw); go_simp; try with_reducible rfl⟩) hHeld ?_
      try simp only [Act.put, List.setIfInBounds_toArray, List.set_cons_zero, List.set_cons_succ]
      refine wpAnyH_take (i := 17) (oi := ⟨some 33, _, _, _, _, _⟩) (v := ?_) rfl (by kernel_rfl) (by kernel_rfl) (by kernel_rfl) (fun _ _ _ h => h) (Or.inl ⟨by rfl, by intro w hSw; (try dsimp only at hSw); go_simp; try with_reducible rfl⟩) hHeld ?_
      try simp only [Act.put, List.setIfInBounds_toArray, List.set_cons_zero, List.set_cons_succ]
      refine wpAnyH_take (i := 18) (oi := ⟨some 34, _, _, _, _, _⟩) (v := ?_) rfl (by kernel_rfl) (by kernel_rfl) (by kernel_rfl) (fun _ _ _ h => h) (Or.inl ⟨by rfl, by intro w hSw; (try dsimp only at hSw); go_simp; try with_reducible rfl⟩) hHeld ?_
      try simp only [Act.put, List.setIfInBounds_toArray, List.set_cons_zero, List.set_cons_succ]
      refine wpAnyH_take (i := 19) (oi := ⟨some 35, _, _, _, _, _⟩) (v := ?_) rfl (by kernel_rfl) (by kernel_rfl) (by kernel_rfl) (fun _ _ _ h => h) (Or.inl ⟨by rfl, by intro w hSw; (try dsimp only at hSw); go_simp; try with_reducible rfl⟩) hHeld ?_
      try simp only [Act.put, List.setIfInBounds_toArray, List.set_cons_zero, List.set_cons_succ]
      refine wpAnyH_take (i := 20) (oi := ⟨some 36, _, _, _, _, _⟩) (v := ?_) rfl (by kernel_rfl) (by kernel_rfl) (by kernel_rfl) (fun _ _ _ h => h) (Or.inl ⟨by rfl, by intro w hSw; (try dsimp only at hSw); go_simp; try with_reducible rfl⟩) hHeld ?_
      try simp only [Act.put, List.setIfInBounds_toArray, List.set_cons_zero, List.set_cons_succ]
      refine wpAnyH_take (i := 21) (oi := ⟨some 37, _, _, _, _, _⟩) (v := ?_) rfl (by kernel_rfl) (by kernel_rfl) (by kernel_rfl) (fun _ _ _ h => h) (Or.inl ⟨by rfl, by intro w hSw; (try dsimp only at hSw); go_simp; try with_reducible rfl⟩) hHeld ?_
      try simp only [Act.put, List.setIfInBounds_toArray, List.set_cons_zero, List.set_cons_succ]
      refine wpAnyH_ready (rs := [22]) (by kernel_rfl) (by simp) ?_
      refine AllReadyH.cons (o := ⟨none, _, _, _, _, _⟩) rfl (fun K hK => ?_) AllReadyH.nil
      refine step_updateE rfl _ _ _ rfl b ((q : Int) + 2) (x * y - z) rfl rfl rfl HRun.out ?_
      refine hK.out _ _ HS'.out (fun hHeld => ?_)
      clear hK K
      try simp only [Act.put, List.setIfInBounds_toArray, List.set_cons_zero, List.set_cons_succ]
      refine wpAnyH_done (by kernel_rfl) ?_ _
      go_wp2
      go_roundw
      case rel => exact ⟨q + 2 + 1, by omega, .inl (by omega), by go_num, HM', HB'⟩
      case measure => simp only [intOf]; omega
    · go_wp2
      go_ret
      exact ⟨b, r, r - 1, rfl, HM.out, by omega, by omega, HBb.out, HB.out⟩
end Go.Proofs.Ytddcdopimpfhcaa
