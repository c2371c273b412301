/- Contracts: half: the lower border of sorted points. -/
import Derived.Test.YtbpmiphipjkdlaaFf
import Derived.Test.YtbpmiphipjkdlaaAg
namespace Go.Proofs.Ytbpmiphipjkdlaa
open Go.RowKit Go.Shelf

def sliceLen : Value → Nat
  | .slice _ n _ => n
  | _ => 0
theorem QRow.ownQ {e : TypeId} {w : World} {base r k c : Nat} {xs : List (Int × Int)} (h : QRow e w base r k c xs) : OwnQ e w base (.slice (some ⟨r, 0, none⟩) k c) xs := ⟨by rw [h.len]; exact h.own⟩
theorem turn_cr (a b p : Int × Int) : turnP a b p = Hu.cr (Hu.sb b a) (Hu.sb p b) := rfl
theorem pop_sub {q : Int × Int} : ∀ (st : List (Int × Int)) (p : Int × Int), q ∈ Hu.pop st p → q ∈ st
  | [], p, h => by rw [Hu.pop_nil] at h; cases h
  | [a], p, h => by rwa [Hu.pop_one] at h
  | b :: a :: r, p, h => by
    by_cases hc : Hu.cr (Hu.sb b a) (Hu.sb p b) ≤ 0
    · rw [Hu.pop_yes hc] at h
      exact List.mem_cons_of_mem _ (pop_sub (a :: r) p h)
    · rwa [Hu.pop_no hc] at h
theorem stk_sub {q : Int × Int} : ∀ (l st : List (Int × Int)), q ∈ Hu.stk st l → q ∈ st ∨ q ∈ l
  | [], st, h => .inl h
  | p :: l, st, h => by
    rcases stk_sub l _ h with h | h
    · rcases List.mem_cons.1 h with h | h
      · exact .inr (h ▸ List.mem_cons_self ..)
      · exact .inl (pop_sub st p h)
    · exact .inr (List.mem_cons_of_mem _ h)
theorem pop_few (x : Int × Int) : ∀ (st : List (Int × Int)), (Hu.pop st x).length ≤ st.length
  | [] => by rw [Hu.pop_nil]; exact Nat.le_refl _
  | [b] => by rw [Hu.pop_one]; exact Nat.le_refl _
  | b :: a :: r => by
    by_cases hc : Hu.cr (Hu.sb b a) (Hu.sb x b) ≤ 0
    · rw [Hu.pop_yes hc]
      have := pop_few x (a :: r)
      simp only [List.length_cons] at this ⊢
      omega
    · rw [Hu.pop_no hc]; exact Nat.le_refl _
theorem stk_few : ∀ (l st : List (Int × Int)), (Hu.stk st l).length ≤ st.length + l.length
  | [], st => Nat.le_refl _
  | x :: l, st => by
    have h1 := stk_few l (x :: Hu.pop st x)
    have h2 := pop_few x st
    rw [Hu.stk]
    simp only [List.length_cons] at *
    omega
theorem block_below {w w1 : World} {B : Nat} {o : Obj} (hb : Below w.heap.size w w1) (h : w.heap[B]? = some o) : w1.heap[B]? = some o := by
  rw [hb.block B (Array.getElem?_eq_some_iff.1 h).1]
  exact h
set_option maxHeartbeats 4000000 in
set_option maxRecDepth 100000 in
theorem half_any (xs : PtL) (A : Option Addr) (c : Nat) (w : World) (h0 : xs ≠ []) (h60 : xs.length ≤ 60) (hin : ∀ q ∈ xs, inB 50 q) (hx : PairsI w A xs) :
    Calls Try.prog 80 #[.slice A xs.length c] w fun e w' => ∃ v, e = .returned v ∧ OwnQ 70 w' w.heap.size v (Hu.half xs) ∧ Below w.heap.size w w' := by
  obtain ⟨i0, hi, hz0, hz1, hz2⟩ := info_parts info70
  have HX := Off.mk hx
  have HIN := Off.mk hin
  have H0 := Off.mk h0
  clear hx hin h0
  go_enter Try.func80, Try.ntmps80
  go_wp2
  go_loopw [3, 8] (fun v iv wr => ∃ k : Nat, k ≤ xs.length ∧ iv = .int .i64 k ∧ Off (OwnQ 70 wr w.heap.size v (Hu.stk [] (xs.take k)).reverse) ∧ Off (Below w.heap.size w wr)) (fun _ iv _ => xs.length - (intOf iv).toNat)
  case atStart => exact ⟨0, by omega, rfl, ⟨ownQ_nil _ _ _⟩, ⟨Below.refl _ _⟩⟩
  case round =>
    obtain ⟨k, hk, rfl, HO, HB⟩ := hrel
    obtain ⟨wo, hwo⟩ : ∃ W : World, W = wr := ⟨_, rfl⟩
    rw [← hwo] at HO HB ⊢
    clear hwo
    by_cases hlt : k < xs.length
    · have hki : (k : Int) < (xs.length : Int) := by omega
      have hkw : IntKind.i64.wrap ((k : Int) + 1) = (k : Int) + 1 := by rw [IntKind.wrap_i64]; omega
      obtain ⟨ad, rfl, cA, cB⟩ := (HX.out.below HB.out).cell k hlt
      obtain ⟨p, hp⟩ : ∃ p, p = xs.getD k (0, 0) := ⟨_, rfl⟩
      rw [← hp] at cA cB
      have hpx : p = xs[k] := by rw [hp, List.getD_eq_getElem?_getD, List.getElem?_eq_getElem hlt]; rfl
      obtain ⟨st0, hst0⟩ : ∃ st, st = Hu.stk [] (xs.take k) := ⟨_, rfl⟩
      have HNX : Off (Hu.stk [] (xs.take (k + 1)) = p :: Hu.pop st0 p) := ⟨by rw [List.take_succ_eq_append_getElem hlt, Hu.stk_more, ← hst0, ← hpx]⟩
      have hpin : inB 50 p := by rw [hpx]; exact HIN.out _ (List.getElem_mem hlt)
      have HSIN : Off (∀ q ∈ st0, inB 50 q) := ⟨fun q hq => by
        rw [hst0] at hq
        rcases stk_sub _ _ hq with h | h
        · cases h
        · exact HIN.out q (List.mem_of_mem_take h)⟩
      have HSL : Off (st0.length ≤ 60) := ⟨by
        have := stk_few (xs.take k) []
        rw [← hst0, List.length_take, List.length_nil] at this
        omega⟩
      rw [← hst0] at HO
      have HPIN := Off.mk hpin
      clear hp hpx hst0 hpin
      obtain ⟨W1, hW1⟩ : ∃ W1, wo.alloc (.cells #[.int .i64 p.1, .int .i64 p.2] 70) = W1 := ⟨_, rfl⟩
      have hB1 := belowA (Below.refl wo.heap.size wo) (.cells #[.int .i64 p.1, .int .i64 p.2] 70)
      have hbx := block_new wo (.cells #[.int .i64 p.1, .int .i64 p.2] 70)
      rw [hW1] at hB1 hbx
      have HBX := Off.mk hbx
      have HO1 := Off.mk (ownQ_below HO.out hB1)
      have HB1 := Off.mk (belowC HB.out hB1)
      clear hbx hB1 HO HB
      go_wp2
      go_loopw [3] (fun v wi => ∃ st : List (Int × Int), Off (OwnQ 70 wi w.heap.size v st.reverse) ∧ Off (Hu.pop st p = Hu.pop st0 p) ∧ Off (∀ q ∈ st, inB 50 q) ∧ Off (st.length ≤ 60) ∧ Off (Below W1.heap.size W1 wi)) (fun v _ => sliceLen v)
      case atStart => exact ⟨st0, HO1, ⟨rfl⟩, HSIN, HSL, ⟨Below.refl _ _⟩⟩
      case round =>
        obtain ⟨st, HO, HP, HS, HL, HB⟩ := hrel
        obtain ⟨wi, hwi⟩ : ∃ W : World, W = wr := ⟨_, rfl⟩
        rw [← hwi] at HO HB ⊢
        clear hwi
        have hz := (two_facts (block_below HB.out HBX.out)).1
        obtain ⟨z0, z1⟩ := hz
        by_cases hshort : st.length < 2
        · have HPS : Off (Hu.pop st0 p = st) := ⟨by
            rw [← HP.out]
            match st, hshort with
            | [], _ => exact Hu.pop_nil p
            | [a], _ => exact Hu.pop_one a p⟩
          obtain ⟨A1, c1, rfl, hI1, _⟩ := ownQ_pairs HO.out (by have := HL.out; rw [List.length_reverse]; omega)
          obtain ⟨m, hm⟩ : ∃ m, m = st.reverse.length := ⟨_, rfl⟩
          have HOm := HO
          rw [← hm] at HOm ⊢
          have hd : decide (1 < (m : Int)) = false := decide_eq_false (by rw [List.length_reverse] at hm; omega)
          clear hI1 hm HO hshort
          go_wp2
          refine wp_region_held_drew (S := (fun u => Below wi.heap.size wi u)) (by kernel_rfl) (below_drew (Below.refl _ _)) (fun hHeld => ?_)
          refine wpAnyH_take (i := 0) (oi := ⟨some 12, _, _, _, _, _⟩) (v := ?_) rfl (by kernel_rfl) (by kernel_rfl) (by kernel_rfl) (fun _ _ _ h => h) (Or.inl ⟨by rfl, by intro w hSw; (try dsimp only at hSw); go_simp; try with_reducible rfl⟩) hHeld ?_
          try simp only [Act.put, List.setIfInBounds_toArray, List.set_cons_zero, List.set_cons_succ]
          refine wpAnyH_take (i := 1) (oi := ⟨some 13, _, _, _, _, _⟩) (v := ?_) rfl (by kernel_rfl) (by kernel_rfl) (by kernel_rfl) (fun _ _ _ h => h) (Or.inl ⟨by rfl, by intro w hSw; (try dsimp only at hSw); go_simp; try with_reducible rfl⟩) hHeld ?_
          try simp only [Act.put, List.setIfInBounds_toArray, List.set_cons_zero, List.set_cons_succ]
          refine wpAnyH_take (i := 2) (oi := ⟨some 14, _, _, _, _, _⟩) (v := ?_) rfl (by kernel_rfl) (by kernel_rfl) (by kernel_rfl) (fun _ _ _ h => h) (Or.inl ⟨by rfl, by intro w hSw; (try dsimp only at hSw); go_simp; try with_reducible rfl⟩) hHeld ?_
          try simp only [Act.put, List.setIfInBounds_toArray, List.set_cons_zero, List.set_cons_succ]
          refine wpAnyH_take (i := 3) (oi := ⟨some 15, _, _, _, _, _⟩) (v := ?_) rfl (by kernel_rfl) (by kernel_rfl) (by kernel_rfl) (fun _ _ _ h => h) (Or.inl ⟨by rfl, by intro w hSw; (try dsimp only at hSw); go_simp; try with_reducible rfl⟩) hHeld ?_
          try simp only [Act.put, List.setIfInBounds_toArray, List.set_cons_zero, List.set_cons_succ]
          refine wpAnyH_take (i := 4) (oi := ⟨some 16, _, _, _, _, _⟩) (v := undef) rfl (by kernel_rfl) (by kernel_rfl) (by kernel_rfl) (fun _ _ _ h => h) (Or.inr ⟨by rfl, rfl⟩) hHeld ?_
          try simp only [Act.put, List.setIfInBounds_toArray, List.set_cons_zero, List.set_cons_succ]
          refine wpAnyH_take (i := 5) (oi := ⟨some 17, _, _, _, _, _⟩) (v := undef) rfl (by kernel_rfl) (by kernel_rfl) (by kernel_rfl) (fun _ _ _ h => h) (Or.inr ⟨by rfl, rfl⟩) hHeld ?_
          try simp only [Act.put, List.setIfInBounds_toArray, List.set_cons_zero, List.set_cons_succ]
          refine wpAnyH_take (i := 6) (oi := ⟨some 18, _, _, _, _, _⟩) (v := undef) rfl (by kernel_rfl) (by kernel_rfl) (by kernel_rfl) (fun _ _ _ h => h) (Or.inr ⟨by rfl, rfl⟩) hHeld ?_
          try simp only [Act.put, List.setIfInBounds_toArray, List.set_cons_zero, List.set_cons_succ]
          refine wpAnyH_take (i := 7) (oi := ⟨some 19, _, _, _, _, _⟩) (v := undef) rfl (by kernel_rfl) (by kernel_rfl) (by kernel_rfl) (fun _ _ _ h => h) (Or.inr ⟨by rfl, rfl⟩) hHeld ?_
          try simp only [Act.put, List.setIfInBounds_toArray, List.set_cons_zero, List.set_cons_succ]
          refine wpAnyH_take (i := 8) (oi := ⟨some 20, _, _, _, _, _⟩) (v := undef) rfl (by kernel_rfl) (by kernel_rfl) (by kernel_rfl) (fun _ _ _ h => h) (Or.inr ⟨by rfl, rfl⟩) hHeld ?_
          try simp only [Act.put, List.setIfInBounds_toArray, List.set_cons_zero, List.set_cons_succ]
          refine wpAnyH_take (i := 9) (oi := ⟨some 21, _, _, _, _, _⟩) (v := undef) rfl (by kernel_rfl) (by kernel_rfl) (by kernel_rfl) (fun _ _ _ h => h) (Or.inr ⟨by rfl, rfl⟩) hHeld ?_
          try simp only [Act.put, List.setIfInBounds_toArray, List.set_cons_zero, List.set_cons_succ]
          refine wpAnyH_take (i := 10) (oi := ⟨some 22, _, _, _, _, _⟩) (v := undef) rfl (by kernel_rfl) (by kernel_rfl) (by kernel_rfl) (fun _ _ _ h => h) (Or.inr ⟨by rfl, rfl⟩) hHeld ?_
          try simp only [Act.put, List.setIfInBounds_toArray, List.set_cons_zero, List.set_cons_succ]
          refine wpAnyH_take (i := 11) (oi := ⟨some 23, _, _, _, _, _⟩) (v := undef) rfl (by kernel_rfl) (by kernel_rfl) (by kernel_rfl) (fun _ _ _ h => h) (Or.inr ⟨by rfl, rfl⟩) hHeld ?_
          try simp only [Act.put, List.setIfInBounds_toArray, List.set_cons_zero, List.set_cons_succ]
          refine wpAnyH_take (i := 12) (oi := ⟨some 24, _, _, _, _, _⟩) (v := undef) rfl (by kernel_rfl) (by kernel_rfl) (by kernel_rfl) (fun _ _ _ h => h) (Or.inr ⟨by rfl, rfl⟩) hHeld ?_
          try simp only [Act.put, List.setIfInBounds_toArray, List.set_cons_zero, List.set_cons_succ]
          refine wpAnyH_take (i := 13) (oi := ⟨some 25, _, _, _, _, _⟩) (v := undef) rfl (by kernel_rfl) (by kernel_rfl) (by kernel_rfl) (fun _ _ _ h => h) (Or.inr ⟨by rfl, rfl⟩) hHeld ?_
          try simp only [Act.put, List.setIfInBounds_toArray, List.set_cons_zero, List.set_cons_succ]
          refine wpAnyH_take (i := 14) (oi := ⟨some 26, _, _, _, _, _⟩) (v := undef) rfl (by kernel_rfl) (by kernel_rfl) (by kernel_rfl) (fun _ _ _ h => h) (Or.inr ⟨by rfl, rfl⟩) hHeld ?_
          try simp only [Act.put, List.setIfInBounds_toArray, List.set_cons_zero, List.set_cons_succ]
          refine wpAnyH_take (i := 15) (oi := ⟨some 27, _, _, _, _, _⟩) (v := undef) rfl (by kernel_rfl) (by kernel_rfl) (by kernel_rfl) (fun _ _ _ h => h) (Or.inr ⟨by rfl, rfl⟩) hHeld ?_
          try simp only [Act.put, List.setIfInBounds_toArray, List.set_cons_zero, List.set_cons_succ]
          refine wpAnyH_take (i := 16) (oi := ⟨some 28, _, _, _, _, _⟩) (v := undef) rfl (by kernel_rfl) (by kernel_rfl) (by kernel_rfl) (fun _ _ _ h => h) (Or.inr ⟨by rfl, rfl⟩) hHeld ?_
          try simp only [Act.put, List.setIfInBounds_toArray, List.set_cons_zero, List.set_cons_succ]
          refine wpAnyH_take (i := 17) (oi := ⟨some 29, _, _, _, _, _⟩) (v := undef) rfl (by kernel_rfl) (by kernel_rfl) (by kernel_rfl) (fun _ _ _ h => h) (Or.inr ⟨by rfl, rfl⟩) hHeld ?_
          try simp only [Act.put, List.setIfInBounds_toArray, List.set_cons_zero, List.set_cons_succ]
          refine wpAnyH_take (i := 18) (oi := ⟨some 30, _, _, _, _, _⟩) (v := undef) rfl (by kernel_rfl) (by kernel_rfl) (by kernel_rfl) (fun _ _ _ h => h) (Or.inr ⟨by rfl, rfl⟩) hHeld ?_
          try simp only [Act.put, List.setIfInBounds_toArray, List.set_cons_zero, List.set_cons_succ]
          refine wpAnyH_take (i := 19) (oi := ⟨some 31, _, _, _, _, _⟩) (v := ?_) rfl (by kernel_rfl) (by kernel_rfl) (by kernel_rfl) (fun _ _ _ h => h) (Or.inl ⟨by rfl, by intro w hSw; (try dsimp only at hSw); go_simp; try with_reducible rfl⟩) hHeld ?_
          try simp only [Act.put, List.setIfInBounds_toArray, List.set_cons_zero, List.set_cons_succ]
          refine wpAnyH_done (by kernel_rfl) ?_ _
          obtain ⟨V, hV⟩ : ∃ V, wi.drew = V := ⟨_, rfl⟩
          have HBU := Off.mk (below_drew (Below.refl wi.heap.size wi))
          rw [hV] at HBU ⊢
          clear hHeld hV
          have HOV := Off.mk (ownQ_below HOm.out HBU.out)
          have z0 := cellB HBU.out z0
          have z1 := cellB HBU.out z1
          have HLn : Off (st.reverse.length ≤ 1000) := ⟨by have := HL.out; rw [List.length_reverse]; omega⟩
          have HBV := Off.mk (belowC (belowC HB1.out HB.out) HBU.out)
          clear HOm HBU HBX HO1
          go_wp2_with (at_builtin; refine wpList_pair Try.underlying57 hi hz0 hz1 hz2 rfl rfl _ _ rfl w.heap.size _ _ p.1 p.2 HOV.out HBV.out.size HLn.out rfl rfl ?_)
          intro v4 w4 hO4 hb4 _
          have e4 : (Hu.stk [] (xs.take (k + 1))).reverse = st.reverse ++ [(p.1, p.2)] := by rw [HNX.out, HPS.out, List.reverse_cons]
          rw [← e4] at hO4
          have HO4 := Off.mk hO4
          have HB4 := Off.mk (HBV.out.trans hb4)
          clear hO4 hb4 e4
          go_wp2
          go_roundw
          case rel => exact ⟨k + 1, by omega, by go_num, HO4, HB4⟩
          case measure => simp only [intOf]; omega
        · obtain ⟨b, a, r, rfl⟩ : ∃ b a r, st = b :: a :: r := by
            match st, hshort with
            | [], h => exact absurd (by simp) h
            | [a], h => exact absurd (by simp) h
            | b :: a :: r, _ => exact ⟨b, a, r, rfl⟩
          have hlr : (b :: a :: r).reverse.length = r.length + 2 := by simp
          obtain ⟨g, cg, rfl, hgb, hrow⟩ := ownQ_row HO.out (by omega)
          rw [hlr] at hrow ⊢
          obtain ⟨i, hie⟩ : ∃ i, i = r.length := ⟨_, rfl⟩
          obtain ⟨j, hje⟩ : ∃ j, j = r.length + 1 := ⟨_, rfl⟩
          obtain ⟨m, hme⟩ : ∃ m, m = r.length + 2 := ⟨_, rfl⟩
          rw [← hme] at hrow ⊢
          have him : i < m := by omega
          have hjm : j < m := by omega
          have hii : (i : Int) < (m : Int) := by omega
          have hji : (j : Int) < (m : Int) := by omega
          have hiw : IntKind.i64.wrap ((m : Int) - 2) = (i : Int) := by have := HL.out; simp only [List.length_cons] at this; rw [IntKind.wrap_i64]; omega
          have hjw : IntKind.i64.wrap ((m : Int) - 1) = (j : Int) := by have := HL.out; simp only [List.length_cons] at this; rw [IntKind.wrap_i64]; omega
          have hd : decide (1 < (m : Int)) = true := decide_eq_true (by omega)
          have hmc : m ≤ cg := by
            rcases hrow.own.2 with ⟨e, _⟩ | ⟨_, _, _, e, _, _, h, _⟩
            · cases e
            · cases e; omega
          have hjc : j ≤ cg := by omega
          obtain ⟨x0, x1⟩ := hrow.cells him
          obtain ⟨y0, y1⟩ := hrow.cells hjm
          have ga : (b :: a :: r).reverse.getD i (0, 0) = a := by rw [hie]; simp
          have gb : (b :: a :: r).reverse.getD j (0, 0) = b := by rw [hje]; simp
          rw [ga] at x0 x1
          rw [gb] at y0 y1
          have hab : inB 50 a ∧ inB 50 b := ⟨HS.out a (by simp), HS.out b (by simp)⟩
          obtain ⟨tv, htv⟩ : ∃ t, t = turnP a b p := ⟨_, rfl⟩
          have C1 : Off (∀ W, Calls Try.prog 92 #[ptV a, ptV b, ptV p] W fun e w' => e = .returned (.int .i64 tv) ∧ Below W.heap.size W w') := ⟨fun W => by rw [htv]; exact turn_any a b p (inB_mono hab.1 (by decide)) (inB_mono hab.2 (by decide)) (inB_mono HPIN.out (by decide)) W⟩
          have HROW := Off.mk hrow
          have HJ := Off.mk hje
          have HM := Off.mk hme
          rw [turn_cr] at htv
          clear hrow ga gb hab hlr hie hje hme hshort HO
          by_cases hle : tv ≤ 0
          · have hdt : decide (tv ≤ 0) = true := decide_eq_true hle
            have HP2 : Off (Hu.pop (a :: r) p = Hu.pop st0 p) := ⟨by rw [← HP.out, Hu.pop_yes (by rw [← htv]; exact hle)]⟩
            clear htv hle
            go_wp2
            have keepS : ∀ {u v : World}, Below u.heap.size u v → (fun u => ((u.cell? ⟨g, i * 2, none⟩ = some (.int .i64 a.1) ∧ u.cell? ⟨g, i * 2 + 1, none⟩ = some (.int .i64 a.2)) ∧ (u.cell? ⟨g, j * 2, none⟩ = some (.int .i64 b.1) ∧ u.cell? ⟨g, j * 2 + 1, none⟩ = some (.int .i64 b.2)) ∧ u.cell? ⟨wo.heap.size, 0, none⟩ = some (.int .i64 p.1) ∧ u.cell? ⟨wo.heap.size, 1, none⟩ = some (.int .i64 p.2)) ∧ Below wi.heap.size wi u) u → (fun u => ((u.cell? ⟨g, i * 2, none⟩ = some (.int .i64 a.1) ∧ u.cell? ⟨g, i * 2 + 1, none⟩ = some (.int .i64 a.2)) ∧ (u.cell? ⟨g, j * 2, none⟩ = some (.int .i64 b.1) ∧ u.cell? ⟨g, j * 2 + 1, none⟩ = some (.int .i64 b.2)) ∧ u.cell? ⟨wo.heap.size, 0, none⟩ = some (.int .i64 p.1) ∧ u.cell? ⟨wo.heap.size, 1, none⟩ = some (.int .i64 p.2)) ∧ Below wi.heap.size wi u) v := fun hb ⟨⟨⟨x0, x1⟩, ⟨y0, y1⟩, z0, z1⟩, hB⟩ => ⟨⟨⟨cellB hb x0, cellB hb x1⟩, ⟨cellB hb y0, cellB hb y1⟩, cellB hb z0, cellB hb z1⟩, belowC hB hb⟩
            refine wp_region_held_drew (S := (fun u => ((u.cell? ⟨g, i * 2, none⟩ = some (.int .i64 a.1) ∧ u.cell? ⟨g, i * 2 + 1, none⟩ = some (.int .i64 a.2)) ∧ (u.cell? ⟨g, j * 2, none⟩ = some (.int .i64 b.1) ∧ u.cell? ⟨g, j * 2 + 1, none⟩ = some (.int .i64 b.2)) ∧ u.cell? ⟨wo.heap.size, 0, none⟩ = some (.int .i64 p.1) ∧ u.cell? ⟨wo.heap.size, 1, none⟩ = some (.int .i64 p.2)) ∧ Below wi.heap.size wi u)) (by kernel_rfl) ⟨⟨⟨x0, x1⟩, ⟨y0, y1⟩, z0, z1⟩, below_drew (Below.refl _ _)⟩ (fun hHeld => ?_)
            refine wpAnyH_take (i := 0) (oi := ⟨some 12, _, _, _, _, _⟩) (v := ?_) rfl (by kernel_rfl) (by kernel_rfl) (by kernel_rfl) (fun _ _ _ h => h) (Or.inl ⟨by rfl, by intro w hSw; (try dsimp only at hSw); go_simp; try with_reducible rfl⟩) hHeld ?_
            try simp only [Act.put, List.setIfInBounds_toArray, List.set_cons_zero, List.set_cons_succ]
            refine wpAnyH_take (i := 1) (oi := ⟨some 13, _, _, _, _, _⟩) (v := ?_) rfl (by kernel_rfl) (by kernel_rfl) (by kernel_rfl) (fun _ _ _ h => h) (Or.inl ⟨by rfl, by intro w hSw; (try dsimp only at hSw); go_simp; try with_reducible rfl⟩) hHeld ?_
            try simp only [Act.put, List.setIfInBounds_toArray, List.set_cons_zero, List.set_cons_succ]
            refine wpAnyH_take (i := 2) (oi := ⟨some 14, _, _, _, _, _⟩) (v := ?_) rfl (by kernel_rfl) (by kernel_rfl) (by kernel_rfl) (fun _ _ _ h => h) (Or.inl ⟨by rfl, by intro w hSw; (try dsimp only at hSw); go_simp; try with_reducible rfl⟩) hHeld ?_
            try simp only [Act.put, List.setIfInBounds_toArray, List.set_cons_zero, List.set_cons_succ]
            refine wpAnyH_take (i := 3) (oi := ⟨some 15, _, _, _, _, _⟩) (v := ?_) rfl (by kernel_rfl) (by kernel_rfl) (by kernel_rfl) (fun _ _ _ h => h) (Or.inl ⟨by rfl, by intro w hSw; (try dsimp only at hSw); go_simp; try with_reducible rfl⟩) hHeld ?_
            try simp only [Act.put, List.setIfInBounds_toArray, List.set_cons_zero, List.set_cons_succ]
            refine wpAnyH_take (i := 4) (oi := ⟨some 16, _, _, _, _, _⟩) (v := ?_) rfl (by kernel_rfl) (by kernel_rfl) (by kernel_rfl) (fun _ _ _ h => h) (Or.inl ⟨by rfl, by intro w hSw; (try dsimp only at hSw); go_simp; try with_reducible rfl⟩) hHeld ?_
            try simp only [Act.put, List.setIfInBounds_toArray, List.set_cons_zero, List.set_cons_succ]
            refine wpAnyH_take (i := 5) (oi := ⟨some 17, _, _, _, _, _⟩) (v := ?_) rfl (by kernel_rfl) (by kernel_rfl) (by kernel_rfl) (fun _ _ _ h => h) (Or.inl ⟨by rfl, by intro w hSw; (try dsimp only at hSw); go_simp; try with_reducible rfl⟩) hHeld ?_
            try simp only [Act.put, List.setIfInBounds_toArray, List.set_cons_zero, List.set_cons_succ]
            refine wpAnyH_take (i := 6) (oi := ⟨some 18, _, _, _, _, _⟩) (v := ?_) rfl (by kernel_rfl) (by kernel_rfl) (by kernel_rfl) (fun _ _ _ h => h) (Or.inl ⟨by rfl, by intro w hSw; (try dsimp only at hSw); go_simp; try with_reducible rfl⟩) hHeld ?_
            try simp only [Act.put, List.setIfInBounds_toArray, List.set_cons_zero, List.set_cons_succ]
            refine wpAnyH_take (i := 7) (oi := ⟨some 19, _, _, _, _, _⟩) (v := ?_) rfl (by kernel_rfl) (by kernel_rfl) (by kernel_rfl) (fun _ _ _ h => h) (Or.inl ⟨by rfl, by intro w hSw; (try dsimp only at hSw); go_simp; try with_reducible rfl⟩) hHeld ?_
            try simp only [Act.put, List.setIfInBounds_toArray, List.set_cons_zero, List.set_cons_succ]
            refine wpAnyH_take (i := 8) (oi := ⟨some 20, _, _, _, _, _⟩) (v := ?_) rfl (by kernel_rfl) (by kernel_rfl) (by kernel_rfl) (fun _ _ _ h => h) (Or.inl ⟨by rfl, by intro w hSw; (try dsimp only at hSw); go_simp; try with_reducible rfl⟩) hHeld ?_
            try simp only [Act.put, List.setIfInBounds_toArray, List.set_cons_zero, List.set_cons_succ]
            refine wpAnyH_take (i := 9) (oi := ⟨some 21, _, _, _, _, _⟩) (v := ?_) rfl (by kernel_rfl) (by kernel_rfl) (by kernel_rfl) (fun _ _ _ h => h) (Or.inl ⟨by rfl, by intro w hSw; (try dsimp only at hSw); go_simp; try with_reducible rfl⟩) hHeld ?_
            try simp only [Act.put, List.setIfInBounds_toArray, List.set_cons_zero, List.set_cons_succ]
            refine wpAnyH_take (i := 10) (oi := ⟨some 22, _, _, _, _, _⟩) (v := ?_) rfl (by kernel_rfl) (by kernel_rfl) (by kernel_rfl) (fun _ _ _ h => h) (Or.inl ⟨by rfl, by intro w hSw; (try dsimp only at hSw); go_simp; try with_reducible rfl⟩) hHeld ?_
            try simp only [Act.put, List.setIfInBounds_toArray, List.set_cons_zero, List.set_cons_succ]
            refine wpAnyH_take (i := 11) (oi := ⟨some 23, _, _, _, _, _⟩) (v := ?_) rfl (by kernel_rfl) (by kernel_rfl) (by kernel_rfl) (fun _ _ _ h => h) (Or.inl ⟨by rfl, by intro w hSw; (try dsimp only at hSw); go_simp; try with_reducible rfl⟩) hHeld ?_
            try simp only [Act.put, List.setIfInBounds_toArray, List.set_cons_zero, List.set_cons_succ]
            refine wpAnyH_take (i := 12) (oi := ⟨some 24, _, _, _, _, _⟩) (v := ?_) rfl (by kernel_rfl) (by kernel_rfl) (by kernel_rfl) (fun _ _ _ h => h) (Or.inl ⟨by rfl, by intro w hSw; (try dsimp only at hSw); go_simp; try with_reducible rfl⟩) hHeld ?_
            try simp only [Act.put, List.setIfInBounds_toArray, List.set_cons_zero, List.set_cons_succ]
            refine wpAnyH_take (i := 13) (oi := ⟨some 25, _, _, _, _, _⟩) (v := ?_) rfl (by kernel_rfl) (by kernel_rfl) (by kernel_rfl) (fun _ _ _ h => h) (Or.inl ⟨by rfl, by intro w hSw; (try dsimp only at hSw); go_simp; try with_reducible rfl⟩) hHeld ?_
            try simp only [Act.put, List.setIfInBounds_toArray, List.set_cons_zero, List.set_cons_succ]
            refine wpAnyH_take (i := 14) (oi := ⟨some 26, _, _, _, _, _⟩) (v := ?_) rfl (by kernel_rfl) (by kernel_rfl) (by kernel_rfl) (fun _ _ _ h => h) (Or.inl ⟨by rfl, by intro w hSw; (try dsimp only at hSw); go_simp; try with_reducible rfl⟩) hHeld ?_
            try simp only [Act.put, List.setIfInBounds_toArray, List.set_cons_zero, List.set_cons_succ]
            refine wpAnyH_take (i := 15) (oi := ⟨some 27, _, _, _, _, _⟩) (v := ?_) rfl (by kernel_rfl) (by kernel_rfl) (by kernel_rfl) (fun _ _ _ h => h) (Or.inl ⟨by rfl, by intro w hSw; (try dsimp only at hSw); go_simp; try with_reducible rfl⟩) hHeld ?_
            try simp only [Act.put, List.setIfInBounds_toArray, List.set_cons_zero, List.set_cons_succ]
            refine wpAnyH_take (i := 16) (oi := ⟨some 28, _, _, _, _, _⟩) (v := ?_) rfl (by kernel_rfl) (by kernel_rfl) (by kernel_rfl) (fun _ _ _ h => h) (Or.inl ⟨by rfl, by intro w hSw; (try dsimp only at hSw); go_simp; try with_reducible rfl⟩) hHeld ?_
            try simp only [Act.put, List.setIfInBounds_toArray, List.set_cons_zero, List.set_cons_succ]
            refine wpAnyH_ready (rs := [17]) (by kernel_rfl) (by simp) ?_
            refine AllReadyH.cons (o := ⟨some 29, _, _, _, _, _⟩) rfl (fun K hK => ?_) AllReadyH.nil
            go_simp
            refine (C1.out _).mono ?_
            rintro e w3 ⟨rfl, hb3⟩
            go_wp2_with fail
            refine hK.out _ _ (keepS hb3 hHeld) (fun hHeld => ?_)
            clear hK K
            try simp only [Act.put, List.setIfInBounds_toArray, List.set_cons_zero, List.set_cons_succ]
            refine wpAnyH_take (i := 18) (oi := ⟨some 30, _, _, _, _, _⟩) (v := ?_) rfl (by kernel_rfl) (by kernel_rfl) (by kernel_rfl) (fun _ _ _ h => h) (Or.inl ⟨by rfl, by intro w hSw; (try dsimp only at hSw); go_simp; try with_reducible rfl⟩) hHeld ?_
            try simp only [Act.put, List.setIfInBounds_toArray, List.set_cons_zero, List.set_cons_succ]
            refine wpAnyH_take (i := 19) (oi := ⟨some 31, _, _, _, _, _⟩) (v := ?_) rfl (by kernel_rfl) (by kernel_rfl) (by kernel_rfl) (fun _ _ _ h => h) (Or.inl ⟨by rfl, by intro w hSw; (try dsimp only at hSw); go_simp; try with_reducible rfl⟩) hHeld ?_
            try simp only [Act.put, List.setIfInBounds_toArray, List.set_cons_zero, List.set_cons_succ]
            refine wpAnyH_done (by kernel_rfl) ?_ _
            have HBU := Off.mk hHeld.2
            clear hHeld keepS
            have hr3 := row_cut (HROW.out.below HBU.out) (show j ≤ m by omega)
            have hcut : (b :: a :: r).reverse.take j = (a :: r).reverse := by rw [HJ.out, List.reverse_cons]; exact List.take_left' (by simp)
            rw [hcut] at hr3
            have HO3 := Off.mk hr3.ownQ
            clear hr3 hcut HROW
            go_wp2
            go_roundw
            case rel => exact ⟨a :: r, HO3, HP2, ⟨fun q hq => HS.out q (List.mem_cons_of_mem _ hq)⟩, ⟨by have := HL.out; simp only [List.length_cons] at this ⊢; omega⟩, ⟨belowC HB.out HBU.out⟩⟩
            case measure => simp only [sliceLen]; omega
          · have hdt : decide (tv ≤ 0) = false := decide_eq_false hle
            have HPS : Off (Hu.pop st0 p = b :: a :: r) := ⟨by rw [← HP.out, Hu.pop_no (by rw [← htv]; exact hle)]⟩
            have HOm := Off.mk HROW.out.ownQ
            obtain ⟨st, hst⟩ : ∃ st, st = b :: a :: r := ⟨_, rfl⟩
            rw [← hst] at HPS HOm HL
            clear htv hle hst
            go_wp2
            have keepS : ∀ {u v : World}, Below u.heap.size u v → (fun u => ((u.cell? ⟨g, i * 2, none⟩ = some (.int .i64 a.1) ∧ u.cell? ⟨g, i * 2 + 1, none⟩ = some (.int .i64 a.2)) ∧ (u.cell? ⟨g, j * 2, none⟩ = some (.int .i64 b.1) ∧ u.cell? ⟨g, j * 2 + 1, none⟩ = some (.int .i64 b.2)) ∧ u.cell? ⟨wo.heap.size, 0, none⟩ = some (.int .i64 p.1) ∧ u.cell? ⟨wo.heap.size, 1, none⟩ = some (.int .i64 p.2)) ∧ Below wi.heap.size wi u) u → (fun u => ((u.cell? ⟨g, i * 2, none⟩ = some (.int .i64 a.1) ∧ u.cell? ⟨g, i * 2 + 1, none⟩ = some (.int .i64 a.2)) ∧ (u.cell? ⟨g, j * 2, none⟩ = some (.int .i64 b.1) ∧ u.cell? ⟨g, j * 2 + 1, none⟩ = some (.int .i64 b.2)) ∧ u.cell? ⟨wo.heap.size, 0, none⟩ = some (.int .i64 p.1) ∧ u.cell? ⟨wo.heap.size, 1, none⟩ = some (.int .i64 p.2)) ∧ Below wi.heap.size wi u) v := fun hb ⟨⟨⟨x0, x1⟩, ⟨y0, y1⟩, z0, z1⟩, hB⟩ => ⟨⟨⟨cellB hb x0, cellB hb x1⟩, ⟨cellB hb y0, cellB hb y1⟩, cellB hb z0, cellB hb z1⟩, belowC hB hb⟩
            refine wp_region_held_drew (S := (fun u => ((u.cell? ⟨g, i * 2, none⟩ = some (.int .i64 a.1) ∧ u.cell? ⟨g, i * 2 + 1, none⟩ = some (.int .i64 a.2)) ∧ (u.cell? ⟨g, j * 2, none⟩ = some (.int .i64 b.1) ∧ u.cell? ⟨g, j * 2 + 1, none⟩ = some (.int .i64 b.2)) ∧ u.cell? ⟨wo.heap.size, 0, none⟩ = some (.int .i64 p.1) ∧ u.cell? ⟨wo.heap.size, 1, none⟩ = some (.int .i64 p.2)) ∧ Below wi.heap.size wi u)) (by kernel_rfl) ⟨⟨⟨x0, x1⟩, ⟨y0, y1⟩, z0, z1⟩, below_drew (Below.refl _ _)⟩ (fun hHeld => ?_)
            refine wpAnyH_take (i := 0) (oi := ⟨some 12, _, _, _, _, _⟩) (v := ?_) rfl (by kernel_rfl) (by kernel_rfl) (by kernel_rfl) (fun _ _ _ h => h) (Or.inl ⟨by rfl, by intro w hSw; (try dsimp only at hSw); go_simp; try with_reducible rfl⟩) hHeld ?_
            try simp only [Act.put, List.setIfInBounds_toArray, List.set_cons_zero, List.set_cons_succ]
            refine wpAnyH_take (i := 1) (oi := ⟨some 13, _, _, _, _, _⟩) (v := ?_) rfl (by kernel_rfl) (by kernel_rfl) (by kernel_rfl) (fun _ _ _ h => h) (Or.inl ⟨by rfl, by intro w hSw; (try dsimp only at hSw); go_simp; try with_reducible rfl⟩) hHeld ?_
            try simp only [Act.put, List.setIfInBounds_toArray, List.set_cons_zero, List.set_cons_succ]
            refine wpAnyH_take (i := 2) (oi := ⟨some 14, _, _, _, _, _⟩) (v := ?_) rfl (by kernel_rfl) (by kernel_rfl) (by kernel_rfl) (fun _ _ _ h => h) (Or.inl ⟨by rfl, by intro w hSw; (try dsimp only at hSw); go_simp; try with_reducible rfl⟩) hHeld ?_
            try simp only [Act.put, List.setIfInBounds_toArray, List.set_cons_zero, List.set_cons_succ]
            refine wpAnyH_take (i := 3) (oi := ⟨some 15, _, _, _, _, _⟩) (v := ?_) rfl (by kernel_rfl) (by kernel_rfl) (by kernel_rfl) (fun _ _ _ h => h) (Or.inl ⟨by rfl, by intro w hSw; (try dsimp only at hSw); go_simp; try with_reducible rfl⟩) hHeld ?_
            try simp only [Act.put, List.setIfInBounds_toArray, List.set_cons_zero, List.set_cons_succ]
            refine wpAnyH_take (i := 4) (oi := ⟨some 16, _, _, _, _, _⟩) (v := ?_) rfl (by kernel_rfl) (by kernel_rfl) (by kernel_rfl) (fun _ _ _ h => h) (Or.inl ⟨by rfl, by intro w hSw; (try dsimp only at hSw); go_simp; try with_reducible rfl⟩) hHeld ?_
            try simp only [Act.put, List.setIfInBounds_toArray, List.set_cons_zero, List.set_cons_succ]
            refine wpAnyH_take (i := 5) (oi := ⟨some 17, _, _, _, _, _⟩) (v := ?_) rfl (by kernel_rfl) (by kernel_rfl) (by kernel_rfl) (fun _ _ _ h => h) (Or.inl ⟨by rfl, by intro w hSw; (try dsimp only at hSw); go_simp; try with_reducible rfl⟩) hHeld ?_
            try simp only [Act.put, List.setIfInBounds_toArray, List.set_cons_zero, List.set_cons_succ]
            refine wpAnyH_take (i := 6) (oi := ⟨some 18, _, _, _, _, _⟩) (v := ?_) rfl (by kernel_rfl) (by kernel_rfl) (by kernel_rfl) (fun _ _ _ h => h) (Or.inl ⟨by rfl, by intro w hSw; (try dsimp only at hSw); go_simp; try with_reducible rfl⟩) hHeld ?_
            try simp only [Act.put, List.setIfInBounds_toArray, List.set_cons_zero, List.set_cons_succ]
            refine wpAnyH_take (i := 7) (oi := ⟨some 19, _, _, _, _, _⟩) (v := ?_) rfl (by kernel_rfl) (by kernel_rfl) (by kernel_rfl) (fun _ _ _ h => h) (Or.inl ⟨by rfl, by intro w hSw; (try dsimp only at hSw); go_simp; try with_reducible rfl⟩) hHeld ?_
            try simp only [Act.put, List.setIfInBounds_toArray, List.set_cons_zero, List.set_cons_succ]
            refine wpAnyH_take (i := 8) (oi := ⟨some 20, _, _, _, _, _⟩) (v := ?_) rfl (by kernel_rfl) (by kernel_rfl) (by kernel_rfl) (fun _ _ _ h => h) (Or.inl ⟨by rfl, by intro w hSw; (try dsimp only at hSw); go_simp; try with_reducible rfl⟩) hHeld ?_
            try simp only [Act.put, List.setIfInBounds_toArray, List.set_cons_zero, List.set_cons_succ]
            refine wpAnyH_take (i := 9) (oi := ⟨some 21, _, _, _, _, _⟩) (v := ?_) rfl (by kernel_rfl) (by kernel_rfl) (by kernel_rfl) (fun _ _ _ h => h) (Or.inl ⟨by rfl, by intro w hSw; (try dsimp only at hSw); go_simp; try with_reducible rfl⟩) hHeld ?_
            try simp only [Act.put, List.setIfInBounds_toArray, List.set_cons_zero, List.set_cons_succ]
            refine wpAnyH_take (i := 10) (oi := ⟨some 22, _, _, _, _, _⟩) (v := ?_) rfl (by kernel_rfl) (by kernel_rfl) (by kernel_rfl) (fun _ _ _ h => h) (Or.inl ⟨by rfl, by intro w hSw; (try dsimp only at hSw); go_simp; try with_reducible rfl⟩) hHeld ?_
            try simp only [Act.put, List.setIfInBounds_toArray, List.set_cons_zero, List.set_cons_succ]
            refine wpAnyH_take (i := 11) (oi := ⟨some 23, _, _, _, _, _⟩) (v := ?_) rfl (by kernel_rfl) (by kernel_rfl) (by kernel_rfl) (fun _ _ _ h => h) (Or.inl ⟨by rfl, by intro w hSw; (try dsimp only at hSw); go_simp; try with_reducible rfl⟩) hHeld ?_
            try simp only [Act.put, List.setIfInBounds_toArray, List.set_cons_zero, List.set_cons_succ]
            refine wpAnyH_take (i := 12) (oi := ⟨some 24, _, _, _, _, _⟩) (v := ?_) rfl (by kernel_rfl) (by kernel_rfl) (by kernel_rfl) (fun _ _ _ h => h) (Or.inl ⟨by rfl, by intro w hSw; (try dsimp only at hSw); go_simp; try with_reducible rfl⟩) hHeld ?_
            try simp only [Act.put, List.setIfInBounds_toArray, List.set_cons_zero, List.set_cons_succ]
            refine wpAnyH_take (i := 13) (oi := ⟨some 25, _, _, _, _, _⟩) (v := ?_) rfl (by kernel_rfl) (by kernel_rfl) (by kernel_rfl) (fun _ _ _ h => h) (Or.inl ⟨by rfl, by intro w hSw; (try dsimp only at hSw); go_simp; try with_reducible rfl⟩) hHeld ?_
            try simp only [Act.put, List.setIfInBounds_toArray, List.set_cons_zero, List.set_cons_succ]
            refine wpAnyH_take (i := 14) (oi := ⟨some 26, _, _, _, _, _⟩) (v := ?_) rfl (by kernel_rfl) (by kernel_rfl) (by kernel_rfl) (fun _ _ _ h => h) (Or.inl ⟨by rfl, by intro w hSw; (try dsimp only at hSw); go_simp; try with_reducible rfl⟩) hHeld ?_
            try simp only [Act.put, List.setIfInBounds_toArray, List.set_cons_zero, List.set_cons_succ]
            refine wpAnyH_take (i := 15) (oi := ⟨some 27, _, _, _, _, _⟩) (v := ?_) rfl (by kernel_rfl) (by kernel_rfl) (by kernel_rfl) (fun _ _ _ h => h) (Or.inl ⟨by rfl, by intro w hSw; (try dsimp only at hSw); go_simp; try with_reducible rfl⟩) hHeld ?_
            try simp only [Act.put, List.setIfInBounds_toArray, List.set_cons_zero, List.set_cons_succ]
            refine wpAnyH_take (i := 16) (oi := ⟨some 28, _, _, _, _, _⟩) (v := ?_) rfl (by kernel_rfl) (by kernel_rfl) (by kernel_rfl) (fun _ _ _ h => h) (Or.inl ⟨by rfl, by intro w hSw; (try dsimp only at hSw); go_simp; try with_reducible rfl⟩) hHeld ?_
            try simp only [Act.put, List.setIfInBounds_toArray, List.set_cons_zero, List.set_cons_succ]
            refine wpAnyH_ready (rs := [17]) (by kernel_rfl) (by simp) ?_
            refine AllReadyH.cons (o := ⟨some 29, _, _, _, _, _⟩) rfl (fun K hK => ?_) AllReadyH.nil
            go_simp
            refine (C1.out _).mono ?_
            rintro e w3 ⟨rfl, hb3⟩
            go_wp2_with fail
            refine hK.out _ _ (keepS hb3 hHeld) (fun hHeld => ?_)
            clear hK K
            try simp only [Act.put, List.setIfInBounds_toArray, List.set_cons_zero, List.set_cons_succ]
            refine wpAnyH_take (i := 18) (oi := ⟨some 30, _, _, _, _, _⟩) (v := ?_) rfl (by kernel_rfl) (by kernel_rfl) (by kernel_rfl) (fun _ _ _ h => h) (Or.inl ⟨by rfl, by intro w hSw; (try dsimp only at hSw); go_simp; try with_reducible rfl⟩) hHeld ?_
            try simp only [Act.put, List.setIfInBounds_toArray, List.set_cons_zero, List.set_cons_succ]
            refine wpAnyH_take (i := 19) (oi := ⟨some 31, _, _, _, _, _⟩) (v := ?_) rfl (by kernel_rfl) (by kernel_rfl) (by kernel_rfl) (fun _ _ _ h => h) (Or.inl ⟨by rfl, by intro w hSw; (try dsimp only at hSw); go_simp; try with_reducible rfl⟩) hHeld ?_
            try simp only [Act.put, List.setIfInBounds_toArray, List.set_cons_zero, List.set_cons_succ]
            refine wpAnyH_done (by kernel_rfl) ?_ _
            have HBU := Off.mk hHeld.2
            clear hHeld keepS
            obtain ⟨V, hV⟩ : ∃ V, w3 = V := ⟨_, rfl⟩
            rw [hV] at HBU ⊢
            clear hV HROW HP
            have HOV := Off.mk (ownQ_below HOm.out HBU.out)
            have z0 := cellB HBU.out z0
            have z1 := cellB HBU.out z1
            have HLn : Off (st.reverse.length ≤ 1000) := ⟨by have := HL.out; rw [List.length_reverse]; omega⟩
            have HBV := Off.mk (belowC (belowC HB1.out HB.out) HBU.out)
            clear HOm HBU HBX HO1
            go_wp2_with (at_builtin; refine wpList_pair Try.underlying57 hi hz0 hz1 hz2 rfl rfl _ _ rfl w.heap.size _ _ p.1 p.2 HOV.out HBV.out.size HLn.out rfl rfl ?_)
            intro v4 w4 hO4 hb4 _
            have e4 : (Hu.stk [] (xs.take (k + 1))).reverse = st.reverse ++ [(p.1, p.2)] := by rw [HNX.out, HPS.out, List.reverse_cons]
            rw [← e4] at hO4
            have HO4 := Off.mk hO4
            have HB4 := Off.mk (HBV.out.trans hb4)
            clear hO4 hb4 e4
            go_wp2
            go_roundw
            case rel => exact ⟨k + 1, by omega, by go_num, HO4, HB4⟩
            case measure => simp only [intOf]; omega
    · obtain rfl : k = xs.length := by omega
      have hne : ∃ b r, Hu.stk [] xs = b :: r := by
        cases xs with
        | nil => exact absurd rfl H0.out
        | cons p l => exact Hu.stk_some p l
      obtain ⟨b, r, hbr⟩ := hne
      have HO2 := HO.out
      rw [List.take_length, hbr] at HO2
      have hlr : (b :: r).reverse.length = r.length + 1 := by simp
      have hr60 : r.length ≤ 60 := by
        have := stk_few xs []
        rw [hbr] at this
        simp only [List.length_cons, List.length_nil] at this
        omega
      obtain ⟨g, cg, rfl, hgb, hrow⟩ := ownQ_row HO2 (by omega)
      rw [hlr] at hrow ⊢
      have hcut := row_cut hrow (show r.length ≤ r.length + 1 by omega)
      rw [show (b :: r).reverse.take r.length = Hu.half xs by unfold Hu.half; rw [hbr, List.reverse_cons, List.tail_cons]; exact List.take_left' (by simp)] at hcut
      have HC := Off.mk hcut.ownQ
      obtain ⟨m, hm⟩ : ∃ m, m = r.length + 1 := ⟨_, rfl⟩
      obtain ⟨j, hj⟩ : ∃ j, j = r.length := ⟨_, rfl⟩
      rw [← hm]
      rw [← hj] at HC
      have hjw : IntKind.i64.wrap ((m : Int) - 1) = (j : Int) := by rw [IntKind.wrap_i64]; omega
      have hjm : j ≤ m := by omega
      have hjm' : (j : Int) ≤ (m : Int) := by omega
      have hmc : m ≤ cg := by
        rcases hrow.own.2 with ⟨e, _⟩ | ⟨_, _, _, e, _, _, h, _⟩
        · cases e
        · cases e; omega
      have hjc : j ≤ cg := by omega
      clear hrow hcut HO2 HO hbr hlr hgb hm hj
      go_wp2
      go_ret
      exact ⟨_, rfl, HC.out, HB.out⟩
end Go.Proofs.Ytbpmiphipjkdlaa
