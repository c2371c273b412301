/- Contracts of the specification: place. -/
import Derived.Test.YtbpmiphipjkdlaaBd
import Derived.Test.YtbpmiphipjkdlaaBj
namespace Go.Proofs.Ytbpmiphipjkdlaa
open Go.RowKit Go.Shelf
attribute [local go_sem] Oper.semAt_some

def noneOn (xs : PtL) (z : Int × Int) (k : Nat) : Prop := ∀ i, i < k → onS (sideAt xs i) z = false
theorem where_on {xs : PtL} {z : Int × Int} {k : Nat} (hk : k < xs.length) (h : onS (sideAt xs k) z = true) : whereP xs z = 0 := by
  unfold whereP
  rw [if_pos]
  rw [List.any_eq_true]
  exact ⟨⟨k, hk⟩, List.mem_finRange _, h⟩
theorem where_off {xs : PtL} {z : Int × Int} (h : noneOn xs z xs.length) : whereP xs z = parTo xs z xs.length := by
  unfold whereP
  rw [if_neg, parF_to]
  rw [List.any_eq_true]
  rintro ⟨i, _, hi⟩
  rw [h i.val i.isLt] at hi
  cases hi
theorem parTo_in (xs : PtL) (z : Int × Int) : ∀ k, parTo xs z k = 1 ∨ parTo xs z k = -1
  | 0 => .inr rfl
  | k + 1 => by
    have := parTo_in xs z k
    rw [parTo]
    split <;> omega
set_option maxRecDepth 100000 in
set_option maxHeartbeats 4000000 in
theorem place_any (xs : PtL) (A : Option Addr) (c : Nat) (z : Int × Int) (w : World) (h60 : xs.length ≤ 60) (hN : ∀ i, inB 2097152 (xs.getD i (0, 0))) (hz : inB 2097152 z) (hd : ∀ i, i < xs.length → (sideAt xs i).1 ≠ (sideAt xs i).2) (hx : PairsI w A xs) :
    Calls Try.prog 59 #[.slice A xs.length c, ptV z] w fun e w' => e = .returned (.int .i64 (whereP xs z)) ∧ Below w.heap.size w w' := by
  have HX := Off.mk hx
  have HN := Off.mk hN
  have HD := Off.mk hd
  clear hx hN hd
  obtain ⟨T, hT⟩ : ∃ T, T = w.heap.size := ⟨_, rfl⟩
  obtain ⟨wz, hwz⟩ : ∃ W, w.alloc (.cells #[.int .i64 z.1, .int .i64 z.2] 34) = W := ⟨_, rfl⟩
  have HI0 : Off (wz.heap[T]? = some (.cells #[.int .i64 z.1, .int .i64 z.2] 34 (0, 0)) ∧ Below w.heap.size w wz) := ⟨by rw [← hwz]; exact ⟨by rw [hT]; exact block_new w _, belowA (Below.refl _ w) _⟩⟩
  have HT := Off.mk hT
  refine (callsIn_wide (n := 9)).1 ?_
  refine callsIn_of_wp Try.func59 rfl trivial ?_ rfl
  simp only [Try.ntmps59, List.size_toArray, List.length_cons, List.length_nil, Nat.reduceAdd, Nat.reduceSub, Array.replicate_succ, Array.replicate_zero, List.push_toArray, List.append_toArray, List.nil_append, List.cons_append]
  clear hT
  gi_wp2_with fail
  rw [← HT.out]
  clear hwz
  gi_loopw [5, 6] (fun tv kv wr => ∃ (t : Int) (k : Nat), k ≤ xs.length ∧ tv = .int .i64 t ∧ kv = .int .i64 k ∧ (t = 1 ∨ t = -1) ∧ Off (t = parTo xs z k) ∧ Off (noneOn xs z k) ∧ Off (wr.heap[T]? = some (.cells #[.int .i64 z.1, .int .i64 z.2] 34 (0, 0)) ∧ Below w.heap.size w wr)) (fun _ kv _ => xs.length - (intOf kv).toNat)
  case atStart => exact ⟨-1, 0, by omega, rfl, rfl, .inr rfl, ⟨rfl⟩, ⟨fun i hi => by omega⟩, HI0⟩
  case round =>
    clear HI0
    obtain ⟨t, k, hk, rfl, rfl, htv, HPT, HNO, HI⟩ := hrel
    by_cases hlt : k < xs.length
    · have hkI : (k : Int) < (xs.length : Int) := by omega
      obtain ⟨m, hm⟩ : ∃ m, m = (k + 1) % xs.length := ⟨_, rfl⟩
      have hml : m < xs.length := by rw [hm]; exact Nat.mod_lt _ (by omega)
      have e5 : ((k : Int) + 1).tmod (xs.length : Int) = (m : Int) := by
        rw [Int.tmod_eq_emod_of_nonneg (by omega), hm, show (k : Int) + 1 = ((k + 1 : Nat) : Int) by omega]
        exact (Int.natCast_emod _ _).symm
      have e7 : ((k : Int) + 1) % (xs.length : Int) = (m : Int) := by rw [← Int.tmod_eq_emod_of_nonneg (by omega)]; exact e5
      have w5 : IntKind.i64.wrap ((k : Int) + 1) = (k : Int) + 1 := by rw [IntKind.wrap_i64]; omega
      have hn0 : ¬ xs.length = 0 := by omega
      have hmI : (m : Int) < (xs.length : Int) := by omega
      have hTw : T < wr.heap.size := (Array.getElem?_eq_some_iff.1 HI.out.1).1
      have hTe := HT.out
      have hws := HI.out.2.size
      have hxr := HX.out.below HI.out.2
      obtain ⟨ad, rfl, x0, x1⟩ := hxr.cell k hlt
      obtain ⟨ad', e, z0, z1⟩ := hxr.cell m hml
      cases e
      have hdk := HD.out k hlt
      obtain ⟨p, hp⟩ : ∃ p, p = xs.getD k (0, 0) := ⟨_, rfl⟩
      obtain ⟨q, hq⟩ : ∃ q, q = xs.getD m (0, 0) := ⟨_, rfl⟩
      have hpl : inB 2097152 p := by rw [hp]; exact HN.out _
      have hql : inB 2097152 q := by rw [hq]; exact HN.out _
      have hsd : sideAt xs k = (p, q) := by unfold sideAt; rw [← hm, ← hp, ← hq]
      rw [hsd] at hdk
      obtain ⟨bo, hbo⟩ : ∃ b, onR p q z = b := ⟨_, rfl⟩
      have hos : onS (p, q) z = bo := by rw [← onR_onS p q z hdk]; exact hbo
      have C1 : Off (∀ W, Calls Try.prog 50 #[ptV p, ptV q, ptV z] W fun e w' => e = .returned (.bool bo) ∧ Below W.heap.size W w') := ⟨fun W => onR_any p q z bo hbo hpl hql hz W⟩
      have HON1 : Off (bo = true → whereP xs z = 0) := ⟨fun h => where_on hlt (by rw [hsd, hos]; exact h)⟩
      have HON0 : Off (bo = false → noneOn xs z (k + 1)) := ⟨fun h i hi => by
        by_cases e : i = k
        · rw [e, hsd, hos]; exact h
        · exact HNO.out i (by omega)⟩
      have HX1 : Off (crossW z (p, q) = true → -t = parTo xs z (k + 1)) := ⟨fun h => by rw [parTo, hsd, if_pos h, HPT.out]⟩
      have HX0 : Off (crossW z (p, q) = false → t = parTo xs z (k + 1)) := ⟨fun h => by rw [parTo, hsd, if_neg (by rw [h]; simp), HPT.out]⟩
      have Wt : IntKind.i64.wrap (-t) = -t := by rw [IntKind.wrap_i64]; omega
      rw [← hp] at x0 x1
      rw [← hq] at z0 z1
      clear hp hq hm hxr hsd hdk hbo hos HPT HNO hTe
      gi_wp2
      have SS : (fun w' => (w'.cell? (ad.add (k * 2)) = some (.int .i64 p.1) ∧ w'.cell? ⟨(ad.add (k * 2)).block, (ad.add (k * 2)).off + 1, none⟩ = some (.int .i64 p.2)) ∧ (w'.cell? (ad.add (m * 2)) = some (.int .i64 q.1) ∧ w'.cell? ⟨(ad.add (m * 2)).block, (ad.add (m * 2)).off + 1, none⟩ = some (.int .i64 q.2))) wr := ⟨⟨x0, x1⟩, z0, z1⟩
      have keepS : ∀ {v : World}, Below wr.heap.size wr v → (fun w' => (w'.cell? (ad.add (k * 2)) = some (.int .i64 p.1) ∧ w'.cell? ⟨(ad.add (k * 2)).block, (ad.add (k * 2)).off + 1, none⟩ = some (.int .i64 p.2)) ∧ (w'.cell? (ad.add (m * 2)) = some (.int .i64 q.1) ∧ w'.cell? ⟨(ad.add (m * 2)).block, (ad.add (m * 2)).off + 1, none⟩ = some (.int .i64 q.2))) wr → (fun w' => (w'.cell? (ad.add (k * 2)) = some (.int .i64 p.1) ∧ w'.cell? ⟨(ad.add (k * 2)).block, (ad.add (k * 2)).off + 1, none⟩ = some (.int .i64 p.2)) ∧ (w'.cell? (ad.add (m * 2)) = some (.int .i64 q.1) ∧ w'.cell? ⟨(ad.add (m * 2)).block, (ad.add (m * 2)).off + 1, none⟩ = some (.int .i64 q.2))) v := fun hb ⟨⟨x0, x1⟩, z0, z1⟩ => ⟨⟨cellB hb x0, cellB hb x1⟩, cellB hb z0, cellB hb z1⟩
      refine region_anyS' (S := (fun w' => (w'.cell? (ad.add (k * 2)) = some (.int .i64 p.1) ∧ w'.cell? ⟨(ad.add (k * 2)).block, (ad.add (k * 2)).off + 1, none⟩ = some (.int .i64 p.2)) ∧ (w'.cell? (ad.add (m * 2)) = some (.int .i64 q.1) ∧ w'.cell? ⟨(ad.add (m * 2)).block, (ad.add (m * 2)).off + 1, none⟩ = some (.int .i64 q.2)))) 15 (by kernel_rfl) SS (fun hInv hHeld => ?_)
      refine anyS_take (i := 0) (oi := ⟨some 16, _, _, _, _, _⟩) (v := ?_) (by kernel_rfl) rfl (by kernel_rfl) (by kernel_rfl) (by kernel_rfl) (by kernel_rfl) (fun _ _ _ h => h) (Or.inl ⟨by rfl, by intro w hSw; (try dsimp only at hSw); go_simp; try with_reducible rfl⟩) (fun _ => by first | rfl | simp [Oper.about, resolve, go_sem]) hInv hHeld (fun hInv hHeld => ?_)
      try simp only [Act.put, List.setIfInBounds_toArray, List.set_cons_zero, List.set_cons_succ]
      refine anyS_take (i := 1) (oi := ⟨some 17, _, _, _, _, _⟩) (v := ?_) (by kernel_rfl) rfl (by kernel_rfl) (by kernel_rfl) (by kernel_rfl) (by kernel_rfl) (fun _ _ _ h => h) (Or.inl ⟨by rfl, by intro w hSw; (try dsimp only at hSw); go_simp; try with_reducible rfl⟩) (fun _ => by first | rfl | simp [Oper.about, resolve, go_sem]) hInv hHeld (fun hInv hHeld => ?_)
      try simp only [Act.put, List.setIfInBounds_toArray, List.set_cons_zero, List.set_cons_succ]
      refine anyS_take (i := 2) (oi := ⟨some 18, _, _, _, _, _⟩) (v := ?_) (by kernel_rfl) rfl (by kernel_rfl) (by kernel_rfl) (by kernel_rfl) (by kernel_rfl) (fun _ _ _ h => h) (Or.inl ⟨by rfl, by intro w hSw; (try dsimp only at hSw); go_simp; try with_reducible rfl⟩) (fun _ => by first | rfl | simp [Oper.about, resolve, go_sem]) hInv hHeld (fun hInv hHeld => ?_)
      try simp only [Act.put, List.setIfInBounds_toArray, List.set_cons_zero, List.set_cons_succ]
      refine anyS_take (i := 3) (oi := ⟨some 19, _, _, _, _, _⟩) (v := ?_) (by kernel_rfl) rfl (by kernel_rfl) (by kernel_rfl) (by kernel_rfl) (by kernel_rfl) (fun _ _ _ h => h) (Or.inl ⟨by rfl, by intro w hSw; (try dsimp only at hSw); go_simp; try with_reducible rfl⟩) (fun _ => by first | rfl | simp [Oper.about, resolve, go_sem]) hInv hHeld (fun hInv hHeld => ?_)
      try simp only [Act.put, List.setIfInBounds_toArray, List.set_cons_zero, List.set_cons_succ]
      refine anyS_take (i := 4) (oi := ⟨some 20, _, _, _, _, _⟩) (v := ?_) (by kernel_rfl) rfl (by kernel_rfl) (by kernel_rfl) (by kernel_rfl) (by kernel_rfl) (fun _ _ _ h => h) (Or.inl ⟨by rfl, by intro w hSw; (try dsimp only at hSw); go_simp; try with_reducible rfl⟩) (fun _ => by first | rfl | simp [Oper.about, resolve, go_sem]) hInv hHeld (fun hInv hHeld => ?_)
      try simp only [Act.put, List.setIfInBounds_toArray, List.set_cons_zero, List.set_cons_succ]
      refine anyS_take (i := 5) (oi := ⟨some 21, _, _, _, _, _⟩) (v := ?_) (by kernel_rfl) rfl (by kernel_rfl) (by kernel_rfl) (by kernel_rfl) (by kernel_rfl) (fun _ _ _ h => h) (Or.inl ⟨by rfl, by intro w hSw; (try dsimp only at hSw); go_simp; try with_reducible rfl⟩) (fun _ => by first | rfl | simp [Oper.about, resolve, go_sem]) hInv hHeld (fun hInv hHeld => ?_)
      try simp only [Act.put, List.setIfInBounds_toArray, List.set_cons_zero, List.set_cons_succ]
      refine anyS_take (i := 6) (oi := ⟨some 22, _, _, _, _, _⟩) (v := ?_) (by kernel_rfl) rfl (by kernel_rfl) (by kernel_rfl) (by kernel_rfl) (by kernel_rfl) (fun _ _ _ h => h) (Or.inl ⟨by rfl, by intro w hSw; (try dsimp only at hSw); go_simp; try with_reducible rfl⟩) (fun _ => by first | rfl | simp [Oper.about, resolve, go_sem]) hInv hHeld (fun hInv hHeld => ?_)
      try simp only [Act.put, List.setIfInBounds_toArray, List.set_cons_zero, List.set_cons_succ]
      refine anyS_take (i := 7) (oi := ⟨some 23, _, _, _, _, _⟩) (v := ?_) (by kernel_rfl) rfl (by kernel_rfl) (by kernel_rfl) (by kernel_rfl) (by kernel_rfl) (fun _ _ _ h => h) (Or.inl ⟨by rfl, by intro w hSw; (try dsimp only at hSw); go_simp; try with_reducible rfl⟩) (fun _ => by first | rfl | simp [Oper.about, resolve, go_sem]) hInv hHeld (fun hInv hHeld => ?_)
      try simp only [Act.put, List.setIfInBounds_toArray, List.set_cons_zero, List.set_cons_succ]
      refine anyS_take (i := 8) (oi := ⟨some 24, _, _, _, _, _⟩) (v := ?_) (by kernel_rfl) rfl (by kernel_rfl) (by kernel_rfl) (by kernel_rfl) (by kernel_rfl) (fun _ _ _ h => h) (Or.inl ⟨by rfl, by intro w hSw; (try dsimp only at hSw); go_simp; try with_reducible rfl⟩) (fun _ => by first | rfl | simp [Oper.about, resolve, go_sem]) hInv hHeld (fun hInv hHeld => ?_)
      try simp only [Act.put, List.setIfInBounds_toArray, List.set_cons_zero, List.set_cons_succ]
      refine anyS_take (i := 9) (oi := ⟨some 25, _, _, _, _, _⟩) (v := ?_) (by kernel_rfl) rfl (by kernel_rfl) (by kernel_rfl) (by kernel_rfl) (by kernel_rfl) (fun _ _ _ h => h) (Or.inl ⟨by rfl, by intro w hSw; (try dsimp only at hSw); go_simp; try with_reducible rfl⟩) (fun _ => by first | rfl | simp [Oper.about, resolve, go_sem]) hInv hHeld (fun hInv hHeld => ?_)
      try simp only [Act.put, List.setIfInBounds_toArray, List.set_cons_zero, List.set_cons_succ]
      refine anyS_take (i := 10) (oi := ⟨some 26, _, _, _, _, _⟩) (v := ?_) (by kernel_rfl) rfl (by kernel_rfl) (by kernel_rfl) (by kernel_rfl) (by kernel_rfl) (fun _ _ _ h => h) (Or.inl ⟨by rfl, by intro w hSw; (try dsimp only at hSw); go_simp; try with_reducible rfl⟩) (fun _ => by first | rfl | simp [Oper.about, resolve, go_sem]) hInv hHeld (fun hInv hHeld => ?_)
      try simp only [Act.put, List.setIfInBounds_toArray, List.set_cons_zero, List.set_cons_succ]
      refine anyS_take (i := 11) (oi := ⟨some 27, _, _, _, _, _⟩) (v := ?_) (by kernel_rfl) rfl (by kernel_rfl) (by kernel_rfl) (by kernel_rfl) (by kernel_rfl) (fun _ _ _ h => h) (Or.inl ⟨by rfl, by intro w hSw; (try dsimp only at hSw); go_simp; try with_reducible rfl⟩) (fun _ => by first | rfl | simp [Oper.about, resolve, go_sem]) hInv hHeld (fun hInv hHeld => ?_)
      try simp only [Act.put, List.setIfInBounds_toArray, List.set_cons_zero, List.set_cons_succ]
      obtain ⟨V0, hV0⟩ : ∃ V, wr.drew = V := ⟨_, rfl⟩
      have hb0 : Below wr.heap.size wr V0 := by rw [← hV0]; exact (Below.refl _ wr).drew
      rw [hV0] at hHeld ⊢
      clear hV0
      refine anyS_two (i := 12) (o := ⟨some 7, _, _, _, _, _⟩) (j := 13) (p := ⟨some 8, _, _, _, _, _⟩) (by kernel_rfl) rfl rfl hInv (fun K hK => ?_) (fun K hK => ?_)
      · go_simp
        have hb1 := belowA hb0 (.cells #[.int .i64 0, .int .i64 0] 34)
        refine hK.out _ _ (fun _ => keepS hb1 SS) (fun hInv hHeld => ?_)
        clear hK K
        try simp only [Act.put, List.setIfInBounds_toArray, List.set_cons_zero, List.set_cons_succ]
        have bA := block_new V0 (.cells #[.int .i64 0, .int .i64 0] 34)
        have szA := hb0.size
        obtain ⟨U1, hU⟩ : ∃ U, (V0.alloc (.cells #[.int .i64 0, .int .i64 0] 34)) = U := ⟨_, rfl⟩
        rw [hU] at hb1 bA ⊢
        rw [hU] at hHeld
        clear hU
        refine anyS_one (i := 13) (o := ⟨some 8, _, _, _, _, _⟩) (by kernel_rfl) rfl hInv (fun K hK => ?_)
        go_simp
        have hb2 := belowA hb1 (.cells #[.int .i64 0, .int .i64 0] 34)
        refine hK.out _ _ (fun _ => keepS hb2 SS) (fun hInv hHeld => ?_)
        clear hK K
        try simp only [Act.put, List.setIfInBounds_toArray, List.set_cons_zero, List.set_cons_succ]
        have hlt2 := (Array.getElem?_eq_some_iff.1 bA).1
        have bA := alloc_old (o' := (.cells #[.int .i64 0, .int .i64 0] 34)) bA
        have bB := block_new U1 (.cells #[.int .i64 0, .int .i64 0] 34)
        have szB := hb1.size
        obtain ⟨U2, hU⟩ : ∃ U, (U1.alloc (.cells #[.int .i64 0, .int .i64 0] 34)) = U := ⟨_, rfl⟩
        rw [hU] at hb2 bB bA ⊢
        rw [hU] at hHeld
        clear hU
        have hne : V0.heap.size ≠ U1.heap.size := by omega
        obtain ⟨⟨x0, x1⟩, y0, y1⟩ := two_facts bA
        obtain ⟨⟨z0, z1⟩, u0, u1⟩ := two_facts bB
        have hne' := Ne.symm hne
        refine anyS_one (i := 14) (o := ⟨none, _, _, _, _, _⟩) (by kernel_rfl) rfl hInv (fun K hK => ?_)
        go_simp
        refine hK.out _ _ (fun _ => keepS ((hb2.setCell (p := ⟨V0.heap.size, 0, none⟩) szA _).setCell (p := ⟨V0.heap.size, 1, none⟩) szA _) SS) (fun hInv hHeld => ?_)
        clear hK K
        try simp only [Act.put, List.setIfInBounds_toArray, List.set_cons_zero, List.set_cons_succ]
        refine anyS_one (i := 15) (o := ⟨none, _, _, _, _, _⟩) (by kernel_rfl) rfl hInv (fun K hK => ?_)
        go_simp
        refine hK.out _ _ (fun e => absurd (show true = false from e) (by decide)) (fun hInv hHeld => ?_)
        clear hK K
        try simp only [Act.put, List.setIfInBounds_toArray, List.set_cons_zero, List.set_cons_succ]
        have ST := two_blocksT 34 p q hb2 szA szB hne bA bB
        clear hInv hHeld x0 x1 y0 y1 z0 z1 u0 u1 bA bB SS keepS
        refine anyS_done (by kernel_rfl) ?_ _
        generalize (((U2.setCell ⟨V0.heap.size, 0, none⟩ (.int .i64 p.1)).setCell ⟨V0.heap.size, 1, none⟩ (.int .i64 p.2)).setCell ⟨U1.heap.size, 0, none⟩ (.int .i64 q.1)).setCell ⟨U1.heap.size, 1, none⟩ (.int .i64 q.2) = V at ST ⊢
        obtain ⟨La, hLa⟩ : ∃ L, V0.heap.size = L := ⟨_, rfl⟩
        rw [hLa] at ST hne hne' szA ⊢
        clear hLa
        obtain ⟨Lb, hLb⟩ : ∃ L, U1.heap.size = L := ⟨_, rfl⟩
        rw [hLb] at ST hne hne' szB ⊢
        clear hLb
        have HBV := Off.mk (HI.out.2.trans (ST.2.mono HI.out.2.size))
        have HST := Off.mk ST.1
        have HZ1 : Off (V.heap[T]? = some (.cells #[.int .i64 z.1, .int .i64 z.2] 34 (0, 0))) := ⟨blockB ST.2 HI.out.1⟩
        have hLaV := (Array.getElem?_eq_some_iff.1 ST.1.1).1
        have hLbV := (Array.getElem?_eq_some_iff.1 ST.1.2).1
        clear ST
        obtain ⟨⟨l0, l1⟩, _⟩ := two_facts HST.out.1
        obtain ⟨⟨h0, h1⟩, _⟩ := two_facts HST.out.2
        obtain ⟨⟨c0, c1⟩, _⟩ := two_facts HZ1.out
        gi_wp2_with fail
        refine ⟨trivial, ?_⟩
        refine (callsIn_wide.2 (C1.out _)).mono ?_
        rintro e V1 ⟨rfl, hv1⟩
        have hs1 := hv1.size
        have HB1 := Off.mk (belowC HBV.out hv1)
        have HS1 : Off (V1.heap[La]? = some (.cells #[.int .i64 p.1, .int .i64 p.2] 34 (0, 0)) ∧ V1.heap[Lb]? = some (.cells #[.int .i64 q.1, .int .i64 q.2] 34 (0, 0))) := ⟨blockB hv1 HST.out.1, blockB hv1 HST.out.2⟩
        have HZ2 : Off (V1.heap[T]? = some (.cells #[.int .i64 z.1, .int .i64 z.2] 34 (0, 0))) := ⟨blockB hv1 HZ1.out⟩
        clear hv1 l0 l1 h0 h1 c0 c1 HST HZ1 HBV
        cases bo with
        | true =>
          have HW0 := Off.mk (HON1.out rfl)
          clear HX1 HX0 HON0 HON1
          gi_wp2
          go_ret
          exact ⟨ret_int HW0.out.symm, HB1.out⟩
        | false =>
          have HON := Off.mk (HON0.out rfl)
          clear HON0 HON1
          obtain ⟨⟨l0, l1⟩, fl0, fl1⟩ := two_facts HS1.out.1
          obtain ⟨⟨h0, h1⟩, fh0, fh1⟩ := two_facts HS1.out.2
          obtain ⟨⟨c0, c1⟩, _⟩ := two_facts HZ2.out
          have n1 : ¬ La = V1.heap.size := by omega
          have n2 : ¬ Lb = V1.heap.size := by omega
          have n3 : ¬ T = V1.heap.size := by omega
          have n4 : ¬ T = La := by omega
          have n5 : ¬ T = Lb := by omega
          have n6 : La < V1.heap.size := by omega
          have n7 : Lb < V1.heap.size := by omega
          have n8 : T < V1.heap.size := by omega
          by_cases ksw : q.2 < p.2
          · have ST2 := two_blocksT 34 (n := w.heap.size) (w0 := w) q p HB1.out (by omega) (by omega) hne HS1.out.1 HS1.out.2
            have HV := Off.mk (ST2.2.alloc ST2.2.size (.cells #[.int .i64 p.1, .int .i64 p.2] 34))
            have HZV := Off.mk (alloc_old (o' := .cells #[.int .i64 p.1, .int .i64 p.2] 34) (block_4set (A := La) (B := Lb) (.int .i64 q.1) (.int .i64 q.2) (.int .i64 p.1) (.int .i64 p.2) HZ2.out (by omega) (by omega)))
            clear ST2
            have HCR : Off (crossW z (p, q) = (decide (q.2 ≤ z.2) && (decide (z.2 < p.2) && decide (0 < crossR q p z)))) := ⟨by unfold crossW lowP highP; simp only; rw [if_pos ksw, if_pos ksw, crossR_turn]⟩
            have C2 : Off (∀ W, Calls Try.prog 43 #[ptV q, ptV p, ptV z] W fun e w' => e = .returned (.int .i64 (crossR q p z)) ∧ Below W.heap.size W w') := ⟨fun W => crossR_any q p z (by assumption) (by assumption) (by assumption) W⟩
            obtain ⟨tp, htp⟩ : ∃ tp, tp = crossR q p z := ⟨_, rfl⟩
            rw [← htp] at C2 HCR
            clear htp
            by_cases k1 : q.2 ≤ z.2
            · by_cases k2 : z.2 < p.2
              · by_cases k3 : 0 < tp
                · have HP' := Off.mk (HX1.out (by rw [HCR.out, decide_eq_true k1, decide_eq_true k2, decide_eq_true k3]; rfl))
                  clear HX1 HX0 HCR
                  gi_wp2_with fail
                  refine ⟨trivial, ?_⟩
                  refine (callsIn_wide.2 (C2.out _)).mono ?_
                  rintro e V6 ⟨rfl, hb6⟩
                  have HB6 := Off.mk (belowC HV.out hb6)
                  have HZ6 := Off.mk (blockB hb6 HZV.out)
                  clear hb6
                  gi_wp2
                  go_roundw
                  case rel => exact ⟨-t, k + 1, by omega, rfl, by go_num, by omega, HP', HON, ⟨HZ6.out, HB6.out⟩⟩
                  case measure => simp only [intOf]; omega
                · have HP' := Off.mk (HX0.out (by rw [HCR.out, decide_eq_false k3]; simp))
                  clear HX1 HX0 HCR
                  gi_wp2_with fail
                  refine ⟨trivial, ?_⟩
                  refine (callsIn_wide.2 (C2.out _)).mono ?_
                  rintro e V6 ⟨rfl, hb6⟩
                  have HB6 := Off.mk (belowC HV.out hb6)
                  have HZ6 := Off.mk (blockB hb6 HZV.out)
                  clear hb6
                  gi_wp2
                  go_roundw
                  case rel => exact ⟨t, k + 1, by omega, rfl, by go_num, htv, HP', HON, ⟨HZ6.out, HB6.out⟩⟩
                  case measure => simp only [intOf]; omega
              · have HP' := Off.mk (HX0.out (by rw [HCR.out, decide_eq_false k2]; simp))
                clear HX1 HX0 HCR
                gi_wp2_with fail
                refine ⟨trivial, ?_⟩
                gi_wp2
                go_roundw
                case rel => exact ⟨t, k + 1, by omega, rfl, by go_num, htv, HP', HON, ⟨HZV.out, HV.out⟩⟩
                case measure => simp only [intOf]; omega
            · have HP' := Off.mk (HX0.out (by rw [HCR.out, decide_eq_false k1]; simp))
              clear HX1 HX0 HCR
              gi_wp2_with fail
              refine ⟨trivial, ?_⟩
              gi_wp2
              go_roundw
              case rel => exact ⟨t, k + 1, by omega, rfl, by go_num, htv, HP', HON, ⟨HZV.out, HV.out⟩⟩
              case measure => simp only [intOf]; omega
          · have HV := HB1
            have HZV := HZ2
            have HCR : Off (crossW z (p, q) = (decide (p.2 ≤ z.2) && (decide (z.2 < q.2) && decide (0 < crossR p q z)))) := ⟨by unfold crossW lowP highP; simp only; rw [if_neg ksw, if_neg ksw, crossR_turn]⟩
            have C2 : Off (∀ W, Calls Try.prog 43 #[ptV p, ptV q, ptV z] W fun e w' => e = .returned (.int .i64 (crossR p q z)) ∧ Below W.heap.size W w') := ⟨fun W => crossR_any p q z (by assumption) (by assumption) (by assumption) W⟩
            obtain ⟨tp, htp⟩ : ∃ tp, tp = crossR p q z := ⟨_, rfl⟩
            rw [← htp] at C2 HCR
            clear htp
            by_cases k1 : p.2 ≤ z.2
            · by_cases k2 : z.2 < q.2
              · by_cases k3 : 0 < tp
                · have HP' := Off.mk (HX1.out (by rw [HCR.out, decide_eq_true k1, decide_eq_true k2, decide_eq_true k3]; rfl))
                  clear HX1 HX0 HCR
                  gi_wp2_with fail
                  refine ⟨trivial, ?_⟩
                  refine (callsIn_wide.2 (C2.out _)).mono ?_
                  rintro e V6 ⟨rfl, hb6⟩
                  have HB6 := Off.mk (belowC HV.out hb6)
                  have HZ6 := Off.mk (blockB hb6 HZV.out)
                  clear hb6
                  gi_wp2
                  go_roundw
                  case rel => exact ⟨-t, k + 1, by omega, rfl, by go_num, by omega, HP', HON, ⟨HZ6.out, HB6.out⟩⟩
                  case measure => simp only [intOf]; omega
                · have HP' := Off.mk (HX0.out (by rw [HCR.out, decide_eq_false k3]; simp))
                  clear HX1 HX0 HCR
                  gi_wp2_with fail
                  refine ⟨trivial, ?_⟩
                  refine (callsIn_wide.2 (C2.out _)).mono ?_
                  rintro e V6 ⟨rfl, hb6⟩
                  have HB6 := Off.mk (belowC HV.out hb6)
                  have HZ6 := Off.mk (blockB hb6 HZV.out)
                  clear hb6
                  gi_wp2
                  go_roundw
                  case rel => exact ⟨t, k + 1, by omega, rfl, by go_num, htv, HP', HON, ⟨HZ6.out, HB6.out⟩⟩
                  case measure => simp only [intOf]; omega
              · have HP' := Off.mk (HX0.out (by rw [HCR.out, decide_eq_false k2]; simp))
                clear HX1 HX0 HCR
                gi_wp2_with fail
                refine ⟨trivial, ?_⟩
                gi_wp2
                go_roundw
                case rel => exact ⟨t, k + 1, by omega, rfl, by go_num, htv, HP', HON, ⟨HZV.out, HV.out⟩⟩
                case measure => simp only [intOf]; omega
            · have HP' := Off.mk (HX0.out (by rw [HCR.out, decide_eq_false k1]; simp))
              clear HX1 HX0 HCR
              gi_wp2_with fail
              refine ⟨trivial, ?_⟩
              gi_wp2
              go_roundw
              case rel => exact ⟨t, k + 1, by omega, rfl, by go_num, htv, HP', HON, ⟨HZV.out, HV.out⟩⟩
              case measure => simp only [intOf]; omega
      · go_simp
        have hb1 := belowA hb0 (.cells #[.int .i64 0, .int .i64 0] 34)
        refine hK.out _ _ (fun _ => keepS hb1 SS) (fun hInv hHeld => ?_)
        clear hK K
        try simp only [Act.put, List.setIfInBounds_toArray, List.set_cons_zero, List.set_cons_succ]
        have bB := block_new V0 (.cells #[.int .i64 0, .int .i64 0] 34)
        have szB := hb0.size
        obtain ⟨U1, hU⟩ : ∃ U, (V0.alloc (.cells #[.int .i64 0, .int .i64 0] 34)) = U := ⟨_, rfl⟩
        rw [hU] at hb1 bB ⊢
        rw [hU] at hHeld
        clear hU
        refine anyS_one (i := 12) (o := ⟨some 7, _, _, _, _, _⟩) (by kernel_rfl) rfl hInv (fun K hK => ?_)
        go_simp
        have hb2 := belowA hb1 (.cells #[.int .i64 0, .int .i64 0] 34)
        refine hK.out _ _ (fun _ => keepS hb2 SS) (fun hInv hHeld => ?_)
        clear hK K
        try simp only [Act.put, List.setIfInBounds_toArray, List.set_cons_zero, List.set_cons_succ]
        have hlt2 := (Array.getElem?_eq_some_iff.1 bB).1
        have bB := alloc_old (o' := (.cells #[.int .i64 0, .int .i64 0] 34)) bB
        have bA := block_new U1 (.cells #[.int .i64 0, .int .i64 0] 34)
        have szA := hb1.size
        obtain ⟨U2, hU⟩ : ∃ U, (U1.alloc (.cells #[.int .i64 0, .int .i64 0] 34)) = U := ⟨_, rfl⟩
        rw [hU] at hb2 bA bB ⊢
        rw [hU] at hHeld
        clear hU
        have hne : U1.heap.size ≠ V0.heap.size := by omega
        obtain ⟨⟨x0, x1⟩, y0, y1⟩ := two_facts bA
        obtain ⟨⟨z0, z1⟩, u0, u1⟩ := two_facts bB
        have hne' := Ne.symm hne
        refine anyS_one (i := 14) (o := ⟨none, _, _, _, _, _⟩) (by kernel_rfl) rfl hInv (fun K hK => ?_)
        go_simp
        refine hK.out _ _ (fun _ => keepS ((hb2.setCell (p := ⟨U1.heap.size, 0, none⟩) szA _).setCell (p := ⟨U1.heap.size, 1, none⟩) szA _) SS) (fun hInv hHeld => ?_)
        clear hK K
        try simp only [Act.put, List.setIfInBounds_toArray, List.set_cons_zero, List.set_cons_succ]
        refine anyS_one (i := 15) (o := ⟨none, _, _, _, _, _⟩) (by kernel_rfl) rfl hInv (fun K hK => ?_)
        go_simp
        refine hK.out _ _ (fun e => absurd (show true = false from e) (by decide)) (fun hInv hHeld => ?_)
        clear hK K
        try simp only [Act.put, List.setIfInBounds_toArray, List.set_cons_zero, List.set_cons_succ]
        have ST := two_blocksT 34 p q hb2 szA szB hne bA bB
        clear hInv hHeld x0 x1 y0 y1 z0 z1 u0 u1 bA bB SS keepS
        refine anyS_done (by kernel_rfl) ?_ _
        generalize (((U2.setCell ⟨U1.heap.size, 0, none⟩ (.int .i64 p.1)).setCell ⟨U1.heap.size, 1, none⟩ (.int .i64 p.2)).setCell ⟨V0.heap.size, 0, none⟩ (.int .i64 q.1)).setCell ⟨V0.heap.size, 1, none⟩ (.int .i64 q.2) = V at ST ⊢
        obtain ⟨La, hLa⟩ : ∃ L, U1.heap.size = L := ⟨_, rfl⟩
        rw [hLa] at ST hne hne' szA ⊢
        clear hLa
        obtain ⟨Lb, hLb⟩ : ∃ L, V0.heap.size = L := ⟨_, rfl⟩
        rw [hLb] at ST hne hne' szB ⊢
        clear hLb
        have HBV := Off.mk (HI.out.2.trans (ST.2.mono HI.out.2.size))
        have HST := Off.mk ST.1
        have HZ1 : Off (V.heap[T]? = some (.cells #[.int .i64 z.1, .int .i64 z.2] 34 (0, 0))) := ⟨blockB ST.2 HI.out.1⟩
        have hLaV := (Array.getElem?_eq_some_iff.1 ST.1.1).1
        have hLbV := (Array.getElem?_eq_some_iff.1 ST.1.2).1
        clear ST
        obtain ⟨⟨l0, l1⟩, _⟩ := two_facts HST.out.1
        obtain ⟨⟨h0, h1⟩, _⟩ := two_facts HST.out.2
        obtain ⟨⟨c0, c1⟩, _⟩ := two_facts HZ1.out
        gi_wp2_with fail
        refine ⟨trivial, ?_⟩
        refine (callsIn_wide.2 (C1.out _)).mono ?_
        rintro e V1 ⟨rfl, hv1⟩
        have hs1 := hv1.size
        have HB1 := Off.mk (belowC HBV.out hv1)
        have HS1 : Off (V1.heap[La]? = some (.cells #[.int .i64 p.1, .int .i64 p.2] 34 (0, 0)) ∧ V1.heap[Lb]? = some (.cells #[.int .i64 q.1, .int .i64 q.2] 34 (0, 0))) := ⟨blockB hv1 HST.out.1, blockB hv1 HST.out.2⟩
        have HZ2 : Off (V1.heap[T]? = some (.cells #[.int .i64 z.1, .int .i64 z.2] 34 (0, 0))) := ⟨blockB hv1 HZ1.out⟩
        clear hv1 l0 l1 h0 h1 c0 c1 HST HZ1 HBV
        cases bo with
        | true =>
          have HW0 := Off.mk (HON1.out rfl)
          clear HX1 HX0 HON0 HON1
          gi_wp2
          go_ret
          exact ⟨ret_int HW0.out.symm, HB1.out⟩
        | false =>
          have HON := Off.mk (HON0.out rfl)
          clear HON0 HON1
          obtain ⟨⟨l0, l1⟩, fl0, fl1⟩ := two_facts HS1.out.1
          obtain ⟨⟨h0, h1⟩, fh0, fh1⟩ := two_facts HS1.out.2
          obtain ⟨⟨c0, c1⟩, _⟩ := two_facts HZ2.out
          have n1 : ¬ La = V1.heap.size := by omega
          have n2 : ¬ Lb = V1.heap.size := by omega
          have n3 : ¬ T = V1.heap.size := by omega
          have n4 : ¬ T = La := by omega
          have n5 : ¬ T = Lb := by omega
          have n6 : La < V1.heap.size := by omega
          have n7 : Lb < V1.heap.size := by omega
          have n8 : T < V1.heap.size := by omega
          by_cases ksw : q.2 < p.2
          · have ST2 := two_blocksT 34 (n := w.heap.size) (w0 := w) q p HB1.out (by omega) (by omega) hne HS1.out.1 HS1.out.2
            have HV := Off.mk (ST2.2.alloc ST2.2.size (.cells #[.int .i64 p.1, .int .i64 p.2] 34))
            have HZV := Off.mk (alloc_old (o' := .cells #[.int .i64 p.1, .int .i64 p.2] 34) (block_4set (A := La) (B := Lb) (.int .i64 q.1) (.int .i64 q.2) (.int .i64 p.1) (.int .i64 p.2) HZ2.out (by omega) (by omega)))
            clear ST2
            have HCR : Off (crossW z (p, q) = (decide (q.2 ≤ z.2) && (decide (z.2 < p.2) && decide (0 < crossR q p z)))) := ⟨by unfold crossW lowP highP; simp only; rw [if_pos ksw, if_pos ksw, crossR_turn]⟩
            have C2 : Off (∀ W, Calls Try.prog 43 #[ptV q, ptV p, ptV z] W fun e w' => e = .returned (.int .i64 (crossR q p z)) ∧ Below W.heap.size W w') := ⟨fun W => crossR_any q p z (by assumption) (by assumption) (by assumption) W⟩
            obtain ⟨tp, htp⟩ : ∃ tp, tp = crossR q p z := ⟨_, rfl⟩
            rw [← htp] at C2 HCR
            clear htp
            by_cases k1 : q.2 ≤ z.2
            · by_cases k2 : z.2 < p.2
              · by_cases k3 : 0 < tp
                · have HP' := Off.mk (HX1.out (by rw [HCR.out, decide_eq_true k1, decide_eq_true k2, decide_eq_true k3]; rfl))
                  clear HX1 HX0 HCR
                  gi_wp2_with fail
                  refine ⟨trivial, ?_⟩
                  refine (callsIn_wide.2 (C2.out _)).mono ?_
                  rintro e V6 ⟨rfl, hb6⟩
                  have HB6 := Off.mk (belowC HV.out hb6)
                  have HZ6 := Off.mk (blockB hb6 HZV.out)
                  clear hb6
                  gi_wp2
                  go_roundw
                  case rel => exact ⟨-t, k + 1, by omega, rfl, by go_num, by omega, HP', HON, ⟨HZ6.out, HB6.out⟩⟩
                  case measure => simp only [intOf]; omega
                · have HP' := Off.mk (HX0.out (by rw [HCR.out, decide_eq_false k3]; simp))
                  clear HX1 HX0 HCR
                  gi_wp2_with fail
                  refine ⟨trivial, ?_⟩
                  refine (callsIn_wide.2 (C2.out _)).mono ?_
                  rintro e V6 ⟨rfl, hb6⟩
                  have HB6 := Off.mk (belowC HV.out hb6)
                  have HZ6 := Off.mk (blockB hb6 HZV.out)
                  clear hb6
                  gi_wp2
                  go_roundw
                  case rel => exact ⟨t, k + 1, by omega, rfl, by go_num, htv, HP', HON, ⟨HZ6.out, HB6.out⟩⟩
                  case measure => simp only [intOf]; omega
              · have HP' := Off.mk (HX0.out (by rw [HCR.out, decide_eq_false k2]; simp))
                clear HX1 HX0 HCR
                gi_wp2_with fail
                refine ⟨trivial, ?_⟩
                gi_wp2
                go_roundw
                case rel => exact ⟨t, k + 1, by omega, rfl, by go_num, htv, HP', HON, ⟨HZV.out, HV.out⟩⟩
                case measure => simp only [intOf]; omega
            · have HP' := Off.mk (HX0.out (by rw [HCR.out, decide_eq_false k1]; simp))
              clear HX1 HX0 HCR
              gi_wp2_with fail
              refine ⟨trivial, ?_⟩
              gi_wp2
              go_roundw
              case rel => exact ⟨t, k + 1, by omega, rfl, by go_num, htv, HP', HON, ⟨HZV.out, HV.out⟩⟩
              case measure => simp only [intOf]; omega
          · have HV := HB1
            have HZV := HZ2
            have HCR : Off (crossW z (p, q) = (decide (p.2 ≤ z.2) && (decide (z.2 < q.2) && decide (0 < crossR p q z)))) := ⟨by unfold crossW lowP highP; simp only; rw [if_neg ksw, if_neg ksw, crossR_turn]⟩
            have C2 : Off (∀ W, Calls Try.prog 43 #[ptV p, ptV q, ptV z] W fun e w' => e = .returned (.int .i64 (crossR p q z)) ∧ Below W.heap.size W w') := ⟨fun W => crossR_any p q z (by assumption) (by assumption) (by assumption) W⟩
            obtain ⟨tp, htp⟩ : ∃ tp, tp = crossR p q z := ⟨_, rfl⟩
            rw [← htp] at C2 HCR
            clear htp
            by_cases k1 : p.2 ≤ z.2
            · by_cases k2 : z.2 < q.2
              · by_cases k3 : 0 < tp
                · have HP' := Off.mk (HX1.out (by rw [HCR.out, decide_eq_true k1, decide_eq_true k2, decide_eq_true k3]; rfl))
                  clear HX1 HX0 HCR
                  gi_wp2_with fail
                  refine ⟨trivial, ?_⟩
                  refine (callsIn_wide.2 (C2.out _)).mono ?_
                  rintro e V6 ⟨rfl, hb6⟩
                  have HB6 := Off.mk (belowC HV.out hb6)
                  have HZ6 := Off.mk (blockB hb6 HZV.out)
                  clear hb6
                  gi_wp2
                  go_roundw
                  case rel => exact ⟨-t, k + 1, by omega, rfl, by go_num, by omega, HP', HON, ⟨HZ6.out, HB6.out⟩⟩
                  case measure => simp only [intOf]; omega
                · have HP' := Off.mk (HX0.out (by rw [HCR.out, decide_eq_false k3]; simp))
                  clear HX1 HX0 HCR
                  gi_wp2_with fail
                  refine ⟨trivial, ?_⟩
                  refine (callsIn_wide.2 (C2.out _)).mono ?_
                  rintro e V6 ⟨rfl, hb6⟩
                  have HB6 := Off.mk (belowC HV.out hb6)
                  have HZ6 := Off.mk (blockB hb6 HZV.out)
                  clear hb6
                  gi_wp2
                  go_roundw
                  case rel => exact ⟨t, k + 1, by omega, rfl, by go_num, htv, HP', HON, ⟨HZ6.out, HB6.out⟩⟩
                  case measure => simp only [intOf]; omega
              · have HP' := Off.mk (HX0.out (by rw [HCR.out, decide_eq_false k2]; simp))
                clear HX1 HX0 HCR
                gi_wp2_with fail
                refine ⟨trivial, ?_⟩
                gi_wp2
                go_roundw
                case rel => exact ⟨t, k + 1, by omega, rfl, by go_num, htv, HP', HON, ⟨HZV.out, HV.out⟩⟩
                case measure => simp only [intOf]; omega
            · have HP' := Off.mk (HX0.out (by rw [HCR.out, decide_eq_false k1]; simp))
              clear HX1 HX0 HCR
              gi_wp2_with fail
              refine ⟨trivial, ?_⟩
              gi_wp2
              go_roundw
              case rel => exact ⟨t, k + 1, by omega, rfl, by go_num, htv, HP', HON, ⟨HZV.out, HV.out⟩⟩
              case measure => simp only [intOf]; omega
    · obtain rfl : k = xs.length := by omega
      have HW : Off (t = whereP xs z) := ⟨by rw [where_off HNO.out]; exact HPT.out⟩
      gi_wp2
      go_ret
      exact ⟨ret_int HW.out, HI.out.2⟩
end Go.Proofs.Ytbpmiphipjkdlaa
