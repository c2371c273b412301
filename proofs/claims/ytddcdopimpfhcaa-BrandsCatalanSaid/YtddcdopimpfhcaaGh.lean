/- The law BrandsCatalan: its walk. -/
import Derived.Test.YtddcdopimpfhcaaFm
import Derived.Laws.BitsAllLaws
namespace Go.Proofs.Ytddcdopimpfhcaa
open Go.RowKit Go.Shelf

theorem info22 : (Try.prog.info? 22).map (fun i => (i.zero, i.size, i.bytes)) = some (some (.slice none 0 0), 1, 24) := by kernel_rfl
/-- A list of rows of pairs, none in the list's own block. -/
structure TabP (w : World) (base : Nat) (tv : Value) (vs : Nat → Value) (M : LL) : Prop where
  own : w.ownsRow base 22 1 tv M.length ((List.range M.length).map vs)
  row : ∀ r, r < M.length → OwnQ w base (vs r) (M.getD r [])
  apart : ∀ r, r < M.length → ∀ k, (vs r).ownBlock = some k → tv.ownBlock ≠ some k
  small : ∀ r, r < M.length → (M.getD r []).length ≤ 60
theorem TabP.below {w w1 : World} {base : Nat} {tv : Value} {vs : Nat → Value} {M : LL} (h : TabP w base tv vs M) (hb : Below w.heap.size w w1) : TabP w1 base tv vs M :=
  ⟨owns_below h.own hb, fun r hr => ownQ_below (h.row r hr) hb, h.apart, h.small⟩
theorem ownQ_kept {w w1 : World} {base : Nat} {v : Value} {xs : List (Int × Int)} {row : Option Nat} (h : OwnQ w base v xs) (hg : w.grownBy w1 row) (hne : v.ownBlock = none ∨ v.ownBlock ≠ row) : OwnQ w1 base v xs := ⟨h.out.kept hg hne⟩
theorem TabP.push {w w' : World} {base : Nat} {tv tv' v : Value} {vs : Nat → Value} {M : LL} {y : List (Int × Int)} (h : TabP w base tv vs M) (hO : OwnQ w base v y) (hv : ∀ k, v.ownBlock = some k → tv.ownBlock ≠ some k)
    (ho : w'.ownsRow base 22 1 tv' (M.length + 1) ((List.range M.length).map vs ++ [v])) (hg : w.grownBy w' tv.ownBlock) (hat : tv'.ownBlock = tv.ownBlock ∨ tv'.ownBlock = some w.heap.size) (hy60 : y.length ≤ 60) :
    TabP w' base tv' (fun s => if s = M.length then v else vs s) (M ++ [y]) := by
  have hl : (M ++ [y]).length = M.length + 1 := by simp
  have hget : ∀ r, r < M.length + 1 → (M ++ [y]).getD r [] = if r = M.length then y else M.getD r [] := fun r hr => by
    rw [List.getD_eq_getElem?_getD, List.getElem?_append]
    by_cases e : r = M.length
    · subst e; simp
    · rw [if_pos (by omega), if_neg e, List.getD_eq_getElem?_getD]
  have key : ∀ r, r < M.length + 1 → OwnQ w base (if r = M.length then v else vs r) (if r = M.length then y else M.getD r []) ∧ ∀ k, (if r = M.length then v else vs r).ownBlock = some k → tv.ownBlock ≠ some k := fun r hr => by
    by_cases e : r = M.length
    · rw [if_pos e, if_pos e]; exact ⟨hO, hv⟩
    · rw [if_neg e, if_neg e]; exact ⟨h.row r (by omega), h.apart r (by omega)⟩
  refine ⟨?_, fun r hr => ?_, fun r hr k hk => ?_, fun r hr => ?_⟩
  · rw [hl]
    have e : (List.range (M.length + 1)).map (fun s => if s = M.length then v else vs s) = (List.range M.length).map vs ++ [v] := by
      rw [List.range_succ, List.map_append, List.map_singleton, if_pos rfl]
      congr 1
      refine List.map_congr_left fun s hs => ?_
      rw [if_neg (by have := List.mem_range.1 hs; omega)]
    rw [e]
    exact ho
  · rw [hl] at hr
    obtain ⟨k1, k2⟩ := key r hr
    rw [hget r hr]
    refine ownQ_kept k1 hg ?_
    cases e : (if r = M.length then v else vs r).ownBlock with
    | none => exact .inl rfl
    | some k => exact .inr (fun e2 => k2 k e e2.symm)
  · rw [hl] at hr
    obtain ⟨k1, k2⟩ := key r hr
    rcases hat with e | e
    · rw [e]; exact k2 k hk
    · rw [e]
      intro e2
      cases e2
      have := (k1.out.lt _ hk).2
      omega
  · rw [hl] at hr
    rw [hget r hr]
    split
    · exact hy60
    · exact h.small r (by omega)
/-- A row more in a list of rows of pairs. -/
theorem wpList_rowP {w : World} {ops : Array Oper} {rest : List Oper} {o : Oper} {a : Act} {Q : Exit → Act → World → Prop} (hgd : o.guard = none) (s x : Operand)
    (ho : o.op = .call { callee := .builtin .append, args := #[s, x], argTypes := #[39, 39] }) (base : Nat) (tv : Value) (vs : Nat → Value) (M : LL) (y : List (Int × Int)) (A : Option Addr) (z c : Nat) (h : TabP w base tv vs M)
    (hO : OwnQ w base (.slice A z c) y) (hv : ∀ k, (Value.slice A z c).ownBlock = some k → tv.ownBlock ≠ some k) (hb : base ≤ w.heap.size) (h100 : M.length ≤ 3000) (hy60 : y.length ≤ 60)
    (hs : a.eval s = tv) (hx : a.eval x = .slice (some ⟨w.heap.size, 0, none⟩) 1 1)
    (hK : ∀ tv' w' vs', TabP w' base tv' vs' (M ++ [y]) → Below base w w' → wpList Try.prog ops Q rest (a.put o.dst tv') w') :
    wpList Try.prog ops Q (o :: rest) a (w.alloc (.cells #[.slice A z c] 22)) := by
  obtain ⟨j0, hj, hy0, hy1, hy2⟩ := info_parts info22
  refine wpList_plain hgd fun K hK' => ?_
  have c1 : ∀ q u, ([.slice A z c] : List Value)[q]? = some u → (w.alloc (.cells #[.slice A z c] 22)).cell? ((⟨w.heap.size, 0, none⟩ : Addr).add q) = some u := by
    intro q u hk
    match q, hk with
    | 0, hk => simp at hk; subst hk; simp [Addr.add_lit]
  have c2 : ∀ u ∈ ([.slice A z c] : List Value), u.oneCell' = true := by intro u hu; simp at hu; rcases hu with rfl; rfl
  obtain ⟨v', w', hr, h2, h3, _, h5⟩ := Go.run_append_own_at (P := Try.prog) _ base 39 o.type 22 j0 _ 1 24 Try.underlying39 hj hy0 hy1 hy2 rfl (by decide) tv M.length _ (h.own.alloc _) ⟨w.heap.size, 0, none⟩ 1 1 _ rfl c1 c2 (by unfold maxLen; omega) (by omega) (by simp; omega)
  have hbA : Below w.heap.size w (w.alloc (.cells #[.slice A z c] 22)) := (Below.refl _ _).alloc (Nat.le_refl _) _
  have hT := (h.below hbA).push (ownQ_below hO hbA) hv h2 h3 h5 hy60
  have hB : Below base w w' := ((Below.refl _ _).alloc hb _).grown h3 (by simp; omega) (fun k e => (h.own.lt k e).1)
  unfold Oper.wp execOp
  simp only [ho, resolve, invoke, builtin, Sem.run_bind, Sem.run_pure, Result.andThen_ok, List.map_toArray, List.map_cons, List.map_nil, hs, hx, hr]
  exact hK' _ _ (hK v' w' _ hT hB)
theorem TabP.cell {w : World} {base : Nat} {tv : Value} {vs : Nat → Value} {M : LL} (h : TabP w base tv vs M) (hn : 0 < M.length) : ∃ b c, tv = .slice (some ⟨b, 0, none⟩) M.length c ∧ ∀ r, r < M.length → w.cell? ⟨b, r, none⟩ = some (vs r) := by
  obtain ⟨g, cap, rfl⟩ : ∃ g cap, tv = .slice (some ⟨g, 0, none⟩) M.length cap := by
    rcases h.own.2 with ⟨_, e⟩ | ⟨g, cap, cur, e, _⟩
    · omega
    · exact ⟨g, cap, e⟩
  refine ⟨g, cap, rfl, fun r hr => ?_⟩
  rw [h.own.cellAt r (by omega)]
  simp [hr]
/-- The first list. -/
theorem TabP.first {w : World} {base : Nat} {A : Option Addr} {z c : Nat} {y : List (Int × Int)} (h : OwnQ w base (.slice A z c) y) (hb : base ≤ w.heap.size) (hy : y.length ≤ 60) :
    TabP (w.alloc (.cells #[.slice A z c] 22)) base (.slice (some ⟨w.heap.size, 0, none⟩) 1 1) (fun _ => .slice A z c) [y] := by
  have hbA : Below w.heap.size w (w.alloc (.cells #[.slice A z c] 22)) := (Below.refl _ _).alloc (Nat.le_refl _) _
  refine ⟨⟨rfl, .inr ⟨w.heap.size, 1, _, rfl, hb, heap_alloc_new w _, Nat.le_refl _, by decide, rfl, rfl⟩⟩, fun r hr => ?_, fun r hr k hk e => ?_, fun r hr => ?_⟩
  · obtain rfl : r = 0 := by simp at hr; omega
    exact ownQ_below h hbA
  · have h1 := (h.out.lt k hk).2
    simp [Value.ownBlock] at e
    omega
  · obtain rfl : r = 0 := by simp at hr; omega
    exact hy
theorem okIn_at {n a C : Nat} {M : LL} : ∀ {k i : Nat}, okIn n a C M k = true → i < k → okI n a C (inM n a M i) i = true
  | 0, i, _, h => by omega
  | k + 1, i, hk, h => by
    rw [okIn, Bool.and_eq_true] at hk
    by_cases e : i = k
    · subst e; exact hk.2
    · exact okIn_at hk.1 (by omega)
theorem cat_div : ∀ n : Fin 10, chTo (2 * (n.val + 3) - 4) (n.val + 1) / ((n.val + 2 : Nat) : Int) = countI (n.val + 3) ∧ 0 ≤ chTo (2 * (n.val + 3) - 4) (n.val + 1) ∧ 0 ≤ countI (n.val + 3) ∧ countI (n.val + 3) ≤ 100000 := by decide +kernel
theorem fan_succ (j : Nat) : ((List.range (j + 1)).map fun (k : Nat) => ((0 : Int), (k : Int) + 2)) = ((List.range j).map fun (k : Nat) => ((0 : Int), (k : Int) + 2)) ++ [((0 : Int), (j : Int) + 2)] := by
  rw [List.range_succ, List.map_append]
  rfl
theorem contains_iff {M : LL} {y : List (Int × Int)} : M.contains y = true ↔ ∃ s, s < M.length ∧ M.getD s [] = y := by
  rw [List.contains_iff_mem]
  constructor
  · intro h
    obtain ⟨s, hs, e⟩ := List.getElem_of_mem h
    exact ⟨s, hs, by rw [List.getD_eq_getElem?_getD, List.getElem?_eq_getElem hs]; exact e⟩
  · rintro ⟨s, hs, rfl⟩
    rw [List.getD_eq_getElem?_getD, List.getElem?_eq_getElem hs]
    exact List.getElem_mem hs
set_option maxHeartbeats 1000000 in
set_option maxRecDepth 100000 in
theorem catalan_great (a n : Nat) (w : World) (ha : a < 256) (hn : n = 3 + a % 10) (h7 : 7 < n) :
    Calls Try.prog 7 #[.int .u8 (a : Int)] w fun e w' => e = .returned (.bool true) ∧ Below w.heap.size w w' := by
  have hdv := cat_div ⟨n - 3, by omega⟩
  simp only at hdv
  rw [show n - 3 + 3 = n by omega, show n - 3 + 1 = n - 2 by omega, show n - 3 + 2 = n - 1 by omega] at hdv
  obtain ⟨q1, hq1⟩ : ∃ q, q = 2 * n - 4 := ⟨_, rfl⟩
  obtain ⟨q2, hq2⟩ : ∃ q, q = n - 2 := ⟨_, rfl⟩
  obtain ⟨q3, hq3⟩ : ∃ q, q = n - 1 := ⟨_, rfl⟩
  rw [← hq1, ← hq2, ← hq3] at hdv
  have CC := Off.mk (fun W => count_yes n (by omega) (by omega) W)
  have CH := Off.mk (fun W => choose_any q1 q2 (by omega) (by omega) (by omega) W)
  obtain ⟨cn, hcn⟩ : ∃ z, z = countI n := ⟨_, rfl⟩
  obtain ⟨ch, hch⟩ : ∃ z, z = chTo q1 q2 := ⟨_, rfl⟩
  rw [← hcn] at CC hdv
  rw [← hch] at CH hdv
  have d1 : ch / (q3 : Int) = cn := hdv.1
  have d2 : ch.tdiv (q3 : Int) = cn := by rw [Int.tdiv_eq_ediv_of_nonneg hdv.2.1]; exact d1
  have d3 : ¬ q3 = 0 := by omega
  have v1 : IntKind.i64.wrap (2 * (n : Int)) = 2 * (n : Int) := by rw [IntKind.wrap_i64]; omega
  have v2 : IntKind.i64.wrap (2 * (n : Int) - 4) = (q1 : Int) := by rw [IntKind.wrap_i64]; omega
  have v3 : IntKind.i64.wrap ((n : Int) - 2) = (q2 : Int) := by rw [IntKind.wrap_i64]; omega
  have v4 : IntKind.i64.wrap ((n : Int) - 1) = (q3 : Int) := by rw [IntKind.wrap_i64]; omega
  have v5 : IntKind.i64.wrap cn = cn := by rw [IntKind.wrap_i64]; omega
  have v6 : (cn != cn) = false := by simp
  obtain ⟨r, hr⟩ : ∃ r, r = a % 10 := ⟨_, rfl⟩
  rw [← hr] at hn
  have u1 : (a : Int) % 10 = (r : Int) := by rw [hr]; omega
  have u2 : (a : Int).tmod 10 = (r : Int) := by rw [Int.tmod_eq_emod_of_nonneg (by omega)]; exact u1
  have u3 : IntKind.u8.wrap (r : Int) = (r : Int) := by rw [IntKind.wrap_u8']; omega
  have u4 : IntKind.i64.wrap (r : Int) = (r : Int) := by rw [IntKind.wrap_i64]; omega
  have u5 : IntKind.i64.wrap (3 + (r : Int)) = (n : Int) := by rw [IntKind.wrap_i64]; omega
  have u6 : 3 + (r : Int) = (n : Int) := by omega
  have k7 : decide ((7 : Int) < (n : Int)) = true := by rw [decide_eq_true_iff]; omega
  clear hdv hq1 hq2 hq3 hcn hch hr hn
  go_enter Try.func7, Try.ntmps7
  go_wp2_with fail
  refine (CC.out _).mono ?_
  rintro e w1 ⟨rfl, hb1⟩
  have HB1 := Off.mk hb1
  clear hb1 CC
  go_wp2_with fail
  refine (CH.out _).mono ?_
  rintro e w2 ⟨rfl, hw2⟩
  subst w2
  clear CH
  go_wp2_with (go_at_call 17; refine (alive_any _).mono ?_; rintro e w8 ⟨rfl, hb8⟩)
  go_ret
  exact ⟨rfl, belowC HB1.out hb8⟩
set_option linter.unusedSimpArgs false in
set_option maxHeartbeats 8000000 in
set_option maxRecDepth 100000 in
theorem catalan_small (a n C : Nat) (w : World) (ha : a < 256) (hn : n = 3 + a % 10) (h7 : n ≤ 7) (hC : countI n = C) (hck : chk n C C 0 [fanL n] = true) (hC42 : C ≤ 42) (hC0 : 0 < C) :
    Calls Try.prog 7 #[.int .u8 (a : Int)] w fun e w' => e = .returned (.bool true) ∧ Below w.heap.size w w' := by
  have hdv := cat_div ⟨n - 3, by omega⟩
  simp only at hdv
  rw [show n - 3 + 3 = n by omega, show n - 3 + 1 = n - 2 by omega, show n - 3 + 2 = n - 1 by omega] at hdv
  obtain ⟨q1, hq1⟩ : ∃ q, q = 2 * n - 4 := ⟨_, rfl⟩
  obtain ⟨q2, hq2⟩ : ∃ q, q = n - 2 := ⟨_, rfl⟩
  obtain ⟨q3, hq3⟩ : ∃ q, q = n - 1 := ⟨_, rfl⟩
  rw [← hq1, ← hq2, ← hq3] at hdv
  have CC := Off.mk (fun W => count_yes n (by omega) (by omega) W)
  have CH := Off.mk (fun W => choose_any q1 q2 (by omega) (by omega) (by omega) W)
  obtain ⟨cn, hcn⟩ : ∃ z, z = countI n := ⟨_, rfl⟩
  obtain ⟨ch, hch⟩ : ∃ z, z = chTo q1 q2 := ⟨_, rfl⟩
  rw [← hcn] at CC hdv
  rw [← hch] at CH hdv
  have d1 : ch / (q3 : Int) = cn := hdv.1
  have d2 : ch.tdiv (q3 : Int) = cn := by rw [Int.tdiv_eq_ediv_of_nonneg hdv.2.1]; exact d1
  have d3 : ¬ q3 = 0 := by omega
  have v1 : IntKind.i64.wrap (2 * (n : Int)) = 2 * (n : Int) := by rw [IntKind.wrap_i64]; omega
  have v2 : IntKind.i64.wrap (2 * (n : Int) - 4) = (q1 : Int) := by rw [IntKind.wrap_i64]; omega
  have v3 : IntKind.i64.wrap ((n : Int) - 2) = (q2 : Int) := by rw [IntKind.wrap_i64]; omega
  have v4 : IntKind.i64.wrap ((n : Int) - 1) = (q3 : Int) := by rw [IntKind.wrap_i64]; omega
  have v5 : IntKind.i64.wrap cn = cn := by rw [IntKind.wrap_i64]; omega
  have v6 : (cn != cn) = false := by simp
  obtain ⟨r, hr⟩ : ∃ r, r = a % 10 := ⟨_, rfl⟩
  rw [← hr] at hn
  have u1 : (a : Int) % 10 = (r : Int) := by rw [hr]; omega
  have u2 : (a : Int).tmod 10 = (r : Int) := by rw [Int.tmod_eq_emod_of_nonneg (by omega)]; exact u1
  have u3 : IntKind.u8.wrap (r : Int) = (r : Int) := by rw [IntKind.wrap_u8']; omega
  have u4 : IntKind.i64.wrap (r : Int) = (r : Int) := by rw [IntKind.wrap_i64]; omega
  have u5 : IntKind.i64.wrap (3 + (r : Int)) = (n : Int) := by rw [IntKind.wrap_i64]; omega
  have u6 : 3 + (r : Int) = (n : Int) := by omega
  have k7 : decide ((7 : Int) < (n : Int)) = false := by rw [decide_eq_false_iff_not]; omega
  obtain rfl : cn = (C : Int) := by rw [hcn, hC]
  have Hq3 : Off (q3 = n - 1) := ⟨hq3⟩
  have HCK := Off.mk hck
  have HPOS := Off.mk hC0
  have hnn : 3 ≤ n := by omega
  clear hdv hq1 hq2 hq3 hcn hch hr hn hC hck
  go_enter Try.func7, Try.ntmps7
  go_wp2_with fail
  refine (CC.out _).mono ?_
  rintro e w1 ⟨rfl, hb1⟩
  have HB1 := Off.mk hb1
  clear hb1 CC
  go_wp2_with fail
  refine (CH.out _).mono ?_
  rintro e w2 ⟨rfl, hw2⟩
  subst w2
  clear CH
  go_wp2
  go_loopw [6, 7] (fun fv kv wr => ∃ j : Nat, j ≤ n - 3 ∧ kv = .int .i64 ((j : Int) + 2) ∧ Off (OwnQ wr w1.heap.size fv ((List.range j).map fun (k : Nat) => ((0 : Int), (k : Int) + 2))) ∧ Off (Below w1.heap.size w1 wr)) (fun _ kv _ => n - (intOf kv).toNat)
  case atStart => exact ⟨0, by omega, rfl, ⟨ownQ_nil _ _⟩, ⟨Below.refl _ _⟩⟩
  case round =>
    obtain ⟨j, hj, rfl, HO, HB⟩ := hrel
    obtain ⟨wo, hwo⟩ : ∃ wo : World, wo = wr := ⟨_, rfl⟩
    rw [← hwo] at HB HO ⊢
    clear hwo
    by_cases hjn : j < n - 3
    · have hlt : (j : Int) + 2 < (q3 : Int) := by have := Hq3.out; omega
      have hw2 : IntKind.i64.wrap ((j : Int) + 2 + 1) = (j : Int) + 1 + 2 := by rw [IntKind.wrap_i64]; omega
      have HF := Off.mk (fan_succ j)
      have HLn : Off (((List.range j).map fun (k : Nat) => ((0 : Int), (k : Int) + 2)).length ≤ 1000) := ⟨by simp; omega⟩
      have hj7 : j + 3 < n := by omega
      clear hjn
      go_wp2_with (at_builtin; refine wpList_pair rfl _ _ rfl w1.heap.size _ _ 0 ((j : Int) + 2) HO.out HB.out.size HLn.out rfl rfl ?_)
      intro v3 w3 hO3 hb3 _
      rw [← HF.out] at hO3
      have HO3 := Off.mk hO3
      have HB3 := Off.mk (HB.out.trans hb3)
      clear hO3 hb3
      go_wp2
      go_roundw
      case rel => exact ⟨j + 1, by omega, by go_num, HO3, HB3⟩
      case measure =>
        simp only [intOf]
        omega
    · obtain rfl : j = n - 3 := by omega
      have hge : ¬ ((n - 3 : Nat) : Int) + 2 < (q3 : Int) := by have := Hq3.out; omega
      obtain ⟨A, c, hfv, hfI, _, _⟩ := ownQ_pairs HO.out (by simp; omega)
      rw [List.length_map, List.length_range] at hfv
      obtain ⟨m, hm⟩ : ∃ m, m = n - 3 := ⟨_, rfl⟩
      rw [← hm] at hfv hge HO ⊢
      subst hfv
      clear hfI
      have HOf : Off (OwnQ wo w1.heap.size (.slice A m c) (fanL n)) := ⟨by unfold fanL; rw [← hm]; exact HO.out⟩
      have hm5 : m < 5 := by omega
      have Hm := Off.mk hm
      clear HO hm
      go_wp2
      have HT0 := Off.mk (TabP.first HOf.out HB.out.size (by simp [fanL]; omega))
      have HB0 : Off (Below w1.heap.size w1 (wo.alloc (.cells #[.slice A m c] 22))) := ⟨HB.out.alloc HB.out.size _⟩
      obtain ⟨wz, hwz⟩ : ∃ wz : World, wz = wo.alloc (.cells #[.slice A m c] 22) := ⟨_, rfl⟩
      obtain ⟨g, hg⟩ : ∃ g, g = wo.heap.size := ⟨_, rfl⟩
      rw [← hwz, ← hg] at HT0 ⊢
      rw [← hwz] at HB0
      clear hwz hg HOf
      go_loopw [8, 9] (fun tv av wr => ∃ b : Nat, b ≤ C ∧ av = .int .i64 b ∧ (∃ vs M, Off (TabP wr w1.heap.size tv vs M) ∧ Off (chk n C (C - b) b M = true)) ∧ Off (Below w1.heap.size w1 wr)) (fun _ av _ => C - (intOf av).toNat)
      case atStart => exact ⟨0, by omega, rfl, ⟨_, _, HT0, HCK⟩, HB0⟩
      case round =>
        obtain ⟨b, hb, rfl, ⟨vs, M, HT, HK⟩, HBb⟩ := hrel
        obtain ⟨wo, hwo⟩ : ∃ wo : World, wo = wr := ⟨_, rfl⟩
        rw [← hwo] at HBb HT ⊢
        clear hwo HB HT0 HB0 HCK
        by_cases hbC : b < C
        · have hk := HK.out
          rw [show C - b = (C - b - 1) + 1 by omega, chk, Bool.and_eq_true, Bool.and_eq_true, decide_eq_true_iff] at hk
          obtain ⟨⟨⟨hbM, hMC⟩, hok⟩, hnext⟩ := hk
          have HOK := Off.mk hok
          have HNX := Off.mk hnext
          obtain ⟨tb, ct, rfl, _⟩ := HT.out.cell (by omega)
          obtain ⟨L, hL⟩ : ∃ L, M.length = L := ⟨_, rfl⟩
          have c1 : (b : Int) < (L : Int) := by omega
          have c2 : (L : Int) ≤ (C : Int) := by omega
          have HLE := Off.mk hL
          rw [hL]
          clear hok hnext HK hbM hMC hL
          go_wp2
          go_loopw [8, 10] (fun tv iv wr => ∃ i : Nat, i ≤ m ∧ iv = .int .i64 i ∧ (∃ vs, Off (TabP wr w1.heap.size tv vs (inM n b M i))) ∧ Off (Below w1.heap.size w1 wr)) (fun _ iv _ => m - (intOf iv).toNat)
          case atStart => exact ⟨0, by omega, rfl, ⟨vs, by rw [← HLE.out]; exact HT⟩, HBb⟩
          case round =>
            obtain ⟨i, hi, rfl, ⟨vs', HT'⟩, HBi⟩ := hrel
            obtain ⟨wo, hwo⟩ : ∃ wo : World, wo = wr := ⟨_, rfl⟩
            rw [← hwo] at HBi HT' ⊢
            clear hwo HT HBb
            by_cases him : i < m
            · have hiI : (i : Int) < (m : Int) := by omega
              have hoki := okIn_at HOK.out (i := i) (by have := Hm.out; omega)
              have HS : Off (inM n b M (i + 1) = addM (inM n b M i) (flipL n ((inM n b M i).getD b []) i)) := ⟨rfl⟩
              obtain ⟨M2, hM2⟩ : ∃ M2, M2 = inM n b M i := ⟨_, rfl⟩
              rw [← hM2] at HT' hoki HS
              unfold okI at hoki
              rw [Bool.and_eq_true, Bool.and_eq_true, decide_eq_true_iff] at hoki
              obtain ⟨⟨hbr, hsome⟩, hbM2, hM2C⟩ := hoki
              obtain ⟨y, hy⟩ := Option.isSome_iff_exists.1 hsome
              rw [hy] at HS
              obtain ⟨tb2, ct2, rfl, hcell⟩ := HT'.out.cell (by omega)
              have hrow := HT'.out.row b hbM2
              have hc0 := hcell b hbM2
              have hxl := brand_range hbr
              obtain ⟨X, hX⟩ : ∃ X, X = M2.getD b [] := ⟨_, rfl⟩
              rw [← hX] at hrow hbr hxl hy
              obtain ⟨A3, c3, hvb, hI3, hlc3, hA3⟩ := ownQ_pairs hrow (by omega)
              rw [hvb] at hc0
              have CF := Off.mk (flip_yes n X A3 c3 i hbr (by have := Hm.out; omega) wo hI3 hlc3 hA3)
              rw [hy] at CF
              have hylen : y.length ≤ 60 := by
                unfold flipL at hy
                rw [Option.map_eq_some_iff] at hy
                obtain ⟨p, _, rfl⟩ := hy
                rw [sortL_len', List.length_append, List.length_eraseIdx]
                split <;> simp <;> omega
              obtain ⟨L2, hL2⟩ : ∃ L2, M2.length = L2 := ⟨_, rfl⟩
              have c3' : (b : Int) < (L2 : Int) := by omega
              have HL2 := Off.mk hL2
              have hL2C : L2 ≤ C := by omega
              rw [hL2]
              clear hM2 hbr hsome hbM2 hM2C hcell hrow hxl hvb hI3 hlc3 hA3 hy hL2 hX
              go_wp2_with fail
              refine CF.out.mono ?_
              rintro e w4 ⟨hb4, v4, rfl, hO4⟩
              obtain ⟨A4, c4, rfl, hI4, _, _⟩ := ownQ_pairs hO4 (by omega)
              have HO4 := Off.mk hO4
              have HY60 := Off.mk hylen
              have HI4 := Off.mk hI4
              have HT4 := Off.mk (HT'.out.below hb4)
              have HB4 := Off.mk (belowC HBi.out hb4)
              have HAP : Off (∀ k, (Value.slice A4 y.length c4).ownBlock = some k → (Value.slice (some ⟨tb2, 0, none⟩) L2 ct2).ownBlock ≠ some k) := ⟨fun k hk e => by
                have h1 := (hO4.out.lt k hk).1
                have h2 := (HT'.out.own.lt k (by rw [HL2.out]; exact e)).2
                omega⟩
              have HOB : Off (OwnQ w4 w1.heap.size (.slice A4 y.length c4) y) := ⟨ownQ_mono hO4 HBi.out.size⟩
              clear hb4 hO4 hI4 CF HT' HO4
              go_wp2
              go_loopw [13, 14] (fun bv kv wr => ∃ k : Nat, k ≤ L2 ∧ kv = .int .i64 k ∧ (∃ f : Bool, bv = .bool f ∧ Off (f = true ↔ ∃ s, s < k ∧ M2.getD s [] = y)) ∧ Off (Below w4.heap.size w4 wr)) (fun _ kv _ => L2 - (intOf kv).toNat)
              case atStart => exact ⟨0, by omega, rfl, ⟨false, rfl, ⟨⟨fun e => by simp at e, fun ⟨s, hs, _⟩ => by omega⟩⟩⟩, ⟨Below.refl _ _⟩⟩
              case round =>
                obtain ⟨k, hk, rfl, ⟨f, rfl, HF⟩, HBk⟩ := hrel
                obtain ⟨wo, hwo⟩ : ∃ wo : World, wo = wr := ⟨_, rfl⟩
                rw [← hwo] at HBk ⊢
                clear hwo
                by_cases hkL : k < L2
                · have hkI : (k : Int) < (L2 : Int) := by omega
                  cases f with
                  | true =>
                    have HR : Off (∃ s, s < k + 1 ∧ M2.getD s [] = y) := ⟨by
                      obtain ⟨s, h1, h2⟩ := HF.out.1 rfl
                      exact ⟨s, by omega, h2⟩⟩
                    clear HF
                    go_wp2
                    go_roundw
                    case rel => exact ⟨k + 1, by omega, by go_num, ⟨true, rfl, ⟨⟨fun _ => HR.out, fun _ => rfl⟩⟩⟩, HBk⟩
                    case measure => simp only [intOf]; omega
                  | false =>
                    have hTk := HT4.out.below HBk.out
                    have hkM : k < M2.length := by rw [HL2.out]; exact hkL
                    obtain ⟨tb3, ct3, htv, hcell⟩ := hTk.cell (by omega)
                    rw [HL2.out] at htv
                    cases htv
                    have hc0 := hcell k hkM
                    have hrow := hTk.row k hkM
                    obtain ⟨Z, hZ⟩ : ∃ Z, Z = M2.getD k [] := ⟨_, rfl⟩
                    rw [← hZ] at hrow
                    obtain ⟨d, hd⟩ : ∃ d, decide (Z = y) = d := ⟨_, rfl⟩
                    have HR : Off (d = true ↔ ∃ s, s < k + 1 ∧ M2.getD s [] = y) := ⟨⟨fun h => ⟨k, by omega, by rw [← hZ]; rw [← hd, decide_eq_true_iff] at h; exact h⟩, fun ⟨s, h1, h2⟩ => by
                      by_cases e : s = k
                      · rw [← hd, decide_eq_true_iff, hZ, ← e]; exact h2
                      · have := HF.out.2 ⟨s, by omega, h2⟩
                        cases this⟩⟩
                    have hz100 := hTk.small k hkM
                    rw [← hZ] at hz100
                    obtain ⟨A5, c5, hv5, hI5, _, _⟩ := ownQ_pairs hrow (by omega)
                    rw [hv5] at hc0
                    have CP := Off.mk (pairs_any Z y A5 A4 c5 c4 d hd wo hI5 (HI4.out.below HBk.out))
                    clear HF hTk hkM hcell hrow hZ hd hz100 hv5 hI5
                    go_wp2_with fail
                    refine CP.out.mono ?_
                    rintro e w6 ⟨rfl, hb6⟩
                    have HB6 := Off.mk (belowC HBk.out hb6)
                    clear hb6 CP
                    go_wp2
                    go_roundw
                    case rel => exact ⟨k + 1, by omega, by go_num, ⟨d, rfl, by first | exact HR | exact ⟨by simpa using HR.out⟩⟩, HB6⟩
                    case measure => simp only [intOf]; omega
                · obtain rfl : k = L2 := by omega
                  have HT5 := Off.mk (HT4.out.below HBk.out)
                  have HB5 := Off.mk (belowC HB4.out HBk.out)
                  have HCON : Off (M2.contains y = f) := ⟨by
                    rw [Bool.eq_iff_iff, contains_iff, HL2.out]
                    exact HF.out.symm⟩
                  cases f with
                  | true =>
                    have HR : Off (inM n b M (i + 1) = M2) := ⟨by rw [HS.out, addM, if_pos HCON.out]⟩
                    clear HF HCON HS
                    go_wp2
                    go_roundw
                    case rel => exact ⟨i + 1, by omega, by go_num, ⟨vs', by rw [HR.out]; have h := HT5; rw [HL2.out] at h; exact h⟩, HB5⟩
                    case measure => simp only [intOf]; omega
                  | false =>
                    have HR : Off (inM n b M (i + 1) = M2 ++ [y]) := ⟨by rw [HS.out, addM, if_neg (by rw [HCON.out]; simp)]⟩
                    have HO6 := Off.mk (ownQ_below HOB.out HBk.out)
                    have HLn : Off (M2.length ≤ 3000) := ⟨by rw [HL2.out]; omega⟩
                    have HT6 : Off (TabP wo w1.heap.size (.slice (some ⟨tb2, 0, none⟩) k ct2) vs' M2) := ⟨by have h := HT5.out; rw [HL2.out] at h; exact h⟩
                    clear HF HCON HS HT5
                    go_wp2_with (at_builtin; refine wpList_rowP rfl _ _ rfl w1.heap.size _ vs' M2 y A4 y.length c4 HT6.out HO6.out HAP.out HB5.out.size HLn.out HY60.out rfl rfl ?_)
                    intro tv' w' vs7 hT' hb'
                    rw [← HR.out] at hT'
                    have HT7 := Off.mk hT'
                    have HB7 := Off.mk (HB5.out.trans hb')
                    clear hT' hb'
                    go_wp2
                    go_roundw
                    case rel => exact ⟨i + 1, by omega, by go_num, ⟨_, HT7⟩, HB7⟩
                    case measure => simp only [intOf]; omega
            · obtain rfl : i = m := by omega
              have HR : Off (chk n C (C - (b + 1)) (b + 1) (inM n b M i) = true) := ⟨by rw [Hm.out, show C - (b + 1) = C - b - 1 by omega]; exact HNX.out⟩
              go_wp2
              refine ⟨⟨b + 1, by omega, by go_num, ⟨_, _, HT', HR⟩, HBi⟩, ?_⟩
              simp only [intOf]; omega
        · obtain rfl : b = C := by omega
          have hk := HK.out
          rw [Nat.sub_self, chk, Bool.and_eq_true, decide_eq_true_iff, decide_eq_true_iff] at hk
          have hb0 : Off (M.length = b) := ⟨hk.2⟩
          by_cases hz : 0 < M.length
          · obtain ⟨tb, ct, rfl, _⟩ := HT.out.cell hz
            rw [hk.2]
            clear hk HK hz
            go_wp2_with (go_at_call 17; refine (alive_any _).mono ?_; rintro e w8 ⟨rfl, hb8⟩)
            go_ret
            exact ⟨rfl, belowC HB1.out (belowC HBb.out hb8)⟩
          · exfalso
            have := HPOS.out
            omega
theorem catalan_walk (x : Int) (w : World) (h1 : 0 ≤ x ∧ x < 256) : Calls Try.prog 7 #[.int .u8 x] w fun e w' => e = .returned (.bool true) ∧ Below w.heap.size w w' := by
  obtain ⟨a, rfl⟩ : ∃ a : Nat, x = (a : Int) := ⟨x.toNat, by omega⟩
  by_cases h7 : 7 < 3 + a % 10
  · exact catalan_great a _ w (by omega) rfl h7
  · have hc : a % 10 = 0 ∨ a % 10 = 1 ∨ a % 10 = 2 ∨ a % 10 = 3 ∨ a % 10 = 4 := by omega
    rcases hc with e | e | e | e | e
    · exact catalan_small a 3 1 w (by omega) (by omega) (by omega) (by decide +kernel) chk3 (by omega) (by omega)
    · exact catalan_small a 4 2 w (by omega) (by omega) (by omega) (by decide +kernel) chk4 (by omega) (by omega)
    · exact catalan_small a 5 5 w (by omega) (by omega) (by omega) (by decide +kernel) chk5 (by omega) (by omega)
    · exact catalan_small a 6 14 w (by omega) (by omega) (by omega) (by decide +kernel) chk6 (by omega) (by omega)
    · exact catalan_small a 7 42 w (by omega) (by omega) (by omega) (by decide +kernel) chk7 (by omega) (by omega)
end Go.Proofs.Ytddcdopimpfhcaa
