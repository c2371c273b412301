/- Contracts: half: the lower border of sorted points. Contracts: Hull. -/
import Derived.Test.YtbpmiphipjkdlaaFf
import Derived.Test.YtbpmiphipjkdlaaAg
import Derived.Test.YtbpmiphipjkdlaaAt
import Derived.Test.YtbpmiphipjkdlaaBs
import Derived.Laws.AppendOwnNone
namespace Go.Proofs.Ytbpmiphipjkdlaa
section
open Go.RowKit Go.Shelf

def sliceLen : Value → Nat
  | .slice _ n _ => n
  | _ => 0
theorem QRow.ownQ {e : TypeId} {w : World} {base r k c : Nat} {xs : List (Int × Int)} (h : QRow e w base r k c xs) : OwnQ e w base (.slice (some ⟨r, 0, none⟩) k c) xs := ⟨by rw [h.len]; exact h.own⟩
theorem turn_cr (a b p : Int × Int) : turnP a b p = Hu.cr (Hu.sb b a) (Hu.sb p b) := rfl
theorem pop_sub {q : Int × Int} : ∀ (st : List (Int × Int)) (p : Int × Int), q ∈ Hu.pop st p → q ∈ st
  | [], p, h => by rw [Hu.pop_nil] at h; cases h
  | [a], p, h => by rwa [Hu.pop_one] at h
  | b :: a :: r, p, h => by
    by_cases hc : Hu.cr (Hu.sb b a) (Hu.sb p b) ≤ 0
    · rw [Hu.pop_yes hc] at h
      exact List.mem_cons_of_mem _ (pop_sub (a :: r) p h)
    · rwa [Hu.pop_no hc] at h
theorem stk_sub {q : Int × Int} : ∀ (l st : List (Int × Int)), q ∈ Hu.stk st l → q ∈ st ∨ q ∈ l
  | [], st, h => .inl h
  | p :: l, st, h => by
    rcases stk_sub l _ h with h | h
    · rcases List.mem_cons.1 h with h | h
      · exact .inr (h ▸ List.mem_cons_self ..)
      · exact .inl (pop_sub st p h)
    · exact .inr (List.mem_cons_of_mem _ h)
theorem pop_few (x : Int × Int) : ∀ (st : List (Int × Int)), (Hu.pop st x).length ≤ st.length
  | [] => by rw [Hu.pop_nil]; exact Nat.le_refl _
  | [b] => by rw [Hu.pop_one]; exact Nat.le_refl _
  | b :: a :: r => by
    by_cases hc : Hu.cr (Hu.sb b a) (Hu.sb x b) ≤ 0
    · rw [Hu.pop_yes hc]
      have := pop_few x (a :: r)
      simp only [List.length_cons] at this ⊢
      omega
    · rw [Hu.pop_no hc]; exact Nat.le_refl _
theorem stk_few : ∀ (l st : List (Int × Int)), (Hu.stk st l).length ≤ st.length + l.length
  | [], st => Nat.le_refl _
  | x :: l, st => by
    have h1 := stk_few l (x :: Hu.pop st x)
    have h2 := pop_few x st
    rw [Hu.stk]
    simp only [List.length_cons] at *
    omega
theorem block_below {w w1 : World} {B : Nat} {o : Obj} (hb : Below w.heap.size w w1) (h : w.heap[B]? = some o) : w1.heap[B]? = some o := by
  rw [hb.block B (Array.getElem?_eq_some_iff.1 h).1]
  exact h
set_option maxHeartbeats 4000000 in
set_option maxRecDepth 100000 in
theorem half_any (xs : PtL) (A : Option Addr) (c : Nat) (w : World) (h0 : xs ≠ []) (h60 : xs.length ≤ 60) (hin : ∀ q ∈ xs, inB 50 q) (hx : PairsI w A xs) :
    Calls Try.prog 80 #[.slice A xs.length c] w fun e w' => ∃ v, e = .returned v ∧ OwnQ 70 w' w.heap.size v (Hu.half xs) ∧ Below w.heap.size w w' := by
  obtain ⟨i0, hi, hz0, hz1, hz2⟩ := info_parts info70
  have HX := Off.mk hx
  have HIN := Off.mk hin
  have H0 := Off.mk h0
  clear hx hin h0
  go_enter Try.func80, Try.ntmps80
  go_wp2
  go_loopw [3, 8] (fun v iv wr => ∃ k : Nat, k ≤ xs.length ∧ iv = .int .i64 k ∧ Off (OwnQ 70 wr w.heap.size v (Hu.stk [] (xs.take k)).reverse) ∧ Off (Below w.heap.size w wr)) (fun _ iv _ => xs.length - (intOf iv).toNat)
  case atStart => exact ⟨0, by omega, rfl, ⟨ownQ_nil _ _ _⟩, ⟨Below.refl _ _⟩⟩
  case round =>
    obtain ⟨k, hk, rfl, HO, HB⟩ := hrel
    obtain ⟨wo, hwo⟩ : ∃ W : World, W = wr := ⟨_, rfl⟩
    rw [← hwo] at HO HB ⊢
    clear hwo
    by_cases hlt : k < xs.length
    · have hki : (k : Int) < (xs.length : Int) := by omega
      have hkw : IntKind.i64.wrap ((k : Int) + 1) = (k : Int) + 1 := by rw [IntKind.wrap_i64]; omega
      obtain ⟨ad, rfl, cA, cB⟩ := (HX.out.below HB.out).cell k hlt
      obtain ⟨p, hp⟩ : ∃ p, p = xs.getD k (0, 0) := ⟨_, rfl⟩
      rw [← hp] at cA cB
      have hpx : p = xs[k] := by rw [hp, List.getD_eq_getElem?_getD, List.getElem?_eq_getElem hlt]; rfl
      obtain ⟨st0, hst0⟩ : ∃ st, st = Hu.stk [] (xs.take k) := ⟨_, rfl⟩
      have HNX : Off (Hu.stk [] (xs.take (k + 1)) = p :: Hu.pop st0 p) := ⟨by rw [List.take_succ_eq_append_getElem hlt, Hu.stk_more, ← hst0, ← hpx]⟩
      have hpin : inB 50 p := by rw [hpx]; exact HIN.out _ (List.getElem_mem hlt)
      have HSIN : Off (∀ q ∈ st0, inB 50 q) := ⟨fun q hq => by
        rw [hst0] at hq
        rcases stk_sub _ _ hq with h | h
        · cases h
        · exact HIN.out q (List.mem_of_mem_take h)⟩
      have HSL : Off (st0.length ≤ 60) := ⟨by
        have := stk_few (xs.take k) []
        rw [← hst0, List.length_take, List.length_nil] at this
        omega⟩
      rw [← hst0] at HO
      have HPIN := Off.mk hpin
      clear hp hpx hst0 hpin
      obtain ⟨W1, hW1⟩ : ∃ W1, wo.alloc (.cells #[.int .i64 p.1, .int .i64 p.2] 70) = W1 := ⟨_, rfl⟩
      have hB1 := belowA (Below.refl wo.heap.size wo) (.cells #[.int .i64 p.1, .int .i64 p.2] 70)
      have hbx := block_new wo (.cells #[.int .i64 p.1, .int .i64 p.2] 70)
      rw [hW1] at hB1 hbx
      have HBX := Off.mk hbx
      have HO1 := Off.mk (ownQ_below HO.out hB1)
      have HB1 := Off.mk (belowC HB.out hB1)
      clear hbx hB1 HO HB
      go_wp2
      go_loopw [3] (fun v wi => ∃ st : List (Int × Int), Off (OwnQ 70 wi w.heap.size v st.reverse) ∧ Off (Hu.pop st p = Hu.pop st0 p) ∧ Off (∀ q ∈ st, inB 50 q) ∧ Off (st.length ≤ 60) ∧ Off (Below W1.heap.size W1 wi)) (fun v _ => sliceLen v)
      case atStart => exact ⟨st0, HO1, ⟨rfl⟩, HSIN, HSL, ⟨Below.refl _ _⟩⟩
      case round =>
        obtain ⟨st, HO, HP, HS, HL, HB⟩ := hrel
        obtain ⟨wi, hwi⟩ : ∃ W : World, W = wr := ⟨_, rfl⟩
        rw [← hwi] at HO HB ⊢
        clear hwi
        have hz := (two_facts (block_below HB.out HBX.out)).1
        obtain ⟨z0, z1⟩ := hz
        by_cases hshort : st.length < 2
        · have HPS : Off (Hu.pop st0 p = st) := ⟨by
            rw [← HP.out]
            match st, hshort with
            | [], _ => exact Hu.pop_nil p
            | [a], _ => exact Hu.pop_one a p⟩
          obtain ⟨A1, c1, rfl, hI1, _⟩ := ownQ_pairs HO.out (by have := HL.out; rw [List.length_reverse]; omega)
          obtain ⟨m, hm⟩ : ∃ m, m = st.reverse.length := ⟨_, rfl⟩
          have HOm := HO
          rw [← hm] at HOm ⊢
          have hd : decide (1 < (m : Int)) = false := decide_eq_false (by rw [List.length_reverse] at hm; omega)
          clear hI1 hm HO hshort
          go_wp2
          refine wp_region_held_drew (S := (fun u => Below wi.heap.size wi u)) (by kernel_rfl) (below_drew (Below.refl _ _)) (fun hHeld => ?_)
          refine wpAnyH_take (i := 0) (oi := ⟨some 12, _, _, _, _, _⟩) (v := ?_) rfl (by kernel_rfl) (by kernel_rfl) (by kernel_rfl) (fun _ _ _ h => h) (Or.inl ⟨by rfl, by intro w hSw; (try dsimp only at hSw); go_simp; try with_reducible rfl⟩) hHeld ?_
          try simp only [Act.put, List.setIfInBounds_toArray, List.set_cons_zero, List.set_cons_succ]
          refine wpAnyH_take (i := 1) (oi := ⟨some 13, _, _, _, _, _⟩) (v := ?_) rfl (by kernel_rfl) (by kernel_rfl) (by kernel_rfl) (fun _ _ _ h => h) (Or.inl ⟨by rfl, by intro w hSw; (try dsimp only at hSw); go_simp; try with_reducible rfl⟩) hHeld ?_
          try simp only [Act.put, List.setIfInBounds_toArray, List.set_cons_zero, List.set_cons_succ]
          refine wpAnyH_take (i := 2) (oi := ⟨some 14, _, _, _, _, _⟩) (v := ?_) rfl (by kernel_rfl) (by kernel_rfl) (by kernel_rfl) (fun _ _ _ h => h) (Or.inl ⟨by rfl, by intro w hSw; (try dsimp only at hSw); go_simp; try with_reducible rfl⟩) hHeld ?_
          try simp only [Act.put, List.setIfInBounds_toArray, List.set_cons_zero, List.set_cons_succ]
          refine wpAnyH_take (i := 3) (oi := ⟨some 15, _, _, _, _, _⟩) (v := ?_) rfl (by kernel_rfl) (by kernel_rfl) (by kernel_rfl) (fun _ _ _ h => h) (Or.inl ⟨by rfl, by intro w hSw; (try dsimp only at hSw); go_simp; try with_reducible rfl⟩) hHeld ?_
          try simp only [Act.put, List.setIfInBounds_toArray, List.set_cons_zero, List.set_cons_succ]
          refine wpAnyH_take (i := 4) (oi := ⟨some 16, _, _, _, _, _⟩) (v := undef) rfl (by kernel_rfl) (by kernel_rfl) (by kernel_rfl) (fun _ _ _ h => h) (Or.inr ⟨by rfl, rfl⟩) hHeld ?_
          try simp only [Act.put, List.setIfInBounds_toArray, List.set_cons_zero, List.set_cons_succ]
          refine wpAnyH_take (i := 5) (oi := ⟨some 17, _, _, _, _, _⟩) (v := undef) rfl (by kernel_rfl) (by kernel_rfl) (by kernel_rfl) (fun _ _ _ h => h) (Or.inr ⟨by rfl, rfl⟩) hHeld ?_
          try simp only [Act.put, List.setIfInBounds_toArray, List.set_cons_zero, List.set_cons_succ]
          refine wpAnyH_take (i := 6) (oi := ⟨some 18, _, _, _, _, _⟩) (v := undef) rfl (by kernel_rfl) (by kernel_rfl) (by kernel_rfl) (fun _ _ _ h => h) (Or.inr ⟨by rfl, rfl⟩) hHeld ?_
          try simp only [Act.put, List.setIfInBounds_toArray, List.set_cons_zero, List.set_cons_succ]
          refine wpAnyH_take (i := 7) (oi := ⟨some 19, _, _, _, _, _⟩) (v := undef) rfl (by kernel_rfl) (by kernel_rfl) (by kernel_rfl) (fun _ _ _ h => h) (Or.inr ⟨by rfl, rfl⟩) hHeld ?_
          try simp only [Act.put, List.setIfInBounds_toArray, List.set_cons_zero, List.set_cons_succ]
          refine wpAnyH_take (i := 8) (oi := ⟨some 20, _, _, _, _, _⟩) (v := undef) rfl (by kernel_rfl) (by kernel_rfl) (by kernel_rfl) (fun _ _ _ h => h) (Or.inr ⟨by rfl, rfl⟩) hHeld ?_
          try simp only [Act.put, List.setIfInBounds_toArray, List.set_cons_zero, List.set_cons_succ]
          refine wpAnyH_take (i := 9) (oi := ⟨some 21, _, _, _, _, _⟩) (v := undef) rfl (by kernel_rfl) (by kernel_rfl) (by kernel_rfl) (fun _ _ _ h => h) (Or.inr ⟨by rfl, rfl⟩) hHeld ?_
          try simp only [Act.put, List.setIfInBounds_toArray, List.set_cons_zero, List.set_cons_succ]
          refine wpAnyH_take (i := 10) (oi := ⟨some 22, _, _, _, _, _⟩) (v := undef) rfl (by kernel_rfl) (by kernel_rfl) (by kernel_rfl) (fun _ _ _ h => h) (Or.inr ⟨by rfl, rfl⟩) hHeld ?_
          try simp only [Act.put, List.setIfInBounds_toArray, List.set_cons_zero, List.set_cons_succ]
          refine wpAnyH_take (i := 11) (oi := ⟨some 23, _, _, _, _, _⟩) (v := undef) rfl (by kernel_rfl) (by kernel_rfl) (by kernel_rfl) (fun _ _ _ h => h) (Or.inr ⟨by rfl, rfl⟩) hHeld ?_
          try simp only [Act.put, List.setIfInBounds_toArray, List.set_cons_zero, List.set_cons_succ]
          refine wpAnyH_take (i := 12) (oi := ⟨some 24, _, _, _, _, _⟩) (v := undef) rfl (by kernel_rfl) (by kernel_rfl) (by kernel_rfl) (fun _ _ _ h => h) (Or.inr ⟨by rfl, rfl⟩) hHeld ?_
          try simp only [Act.put, List.setIfInBounds_toArray, List.set_cons_zero, List.set_cons_succ]
          refine wpAnyH_take (i := 13) (oi := ⟨some 25, _, _, _, _, _⟩) (v := undef) rfl (by kernel_rfl) (by kernel_rfl) (by kernel_rfl) (fun _ _ _ h => h) (Or.inr ⟨by rfl, rfl⟩) hHeld ?_
          try simp only [Act.put, List.setIfInBounds_toArray, List.set_cons_zero, List.set_cons_succ]
          refine wpAnyH_take (i := 14) (oi := ⟨some 26, _, _, _, _, _⟩) (v := undef) rfl (by kernel_rfl) (by kernel_rfl) (by kernel_rfl) (fun _ _ _ h => h) (Or.inr ⟨by rfl, rfl⟩) hHeld ?_
          try simp only [Act.put, List.setIfInBounds_toArray, List.set_cons_zero, List.set_cons_succ]
          refine wpAnyH_take (i := 15) (oi := ⟨some 27, _, _, _, _, _⟩) (v := undef) rfl (by kernel_rfl) (by kernel_rfl) (by kernel_rfl) (fun _ _ _ h => h) (Or.inr ⟨by rfl, rfl⟩) hHeld ?_
          try simp only [Act.put, List.setIfInBounds_toArray, List.set_cons_zero, List.set_cons_succ]
          refine wpAnyH_take (i := 16) (oi := ⟨some 28, _, _, _, _, _⟩) (v := undef) rfl (by kernel_rfl) (by kernel_rfl) (by kernel_rfl) (fun _ _ _ h => h) (Or.inr ⟨by rfl, rfl⟩) hHeld ?_
          try simp only [Act.put, List.setIfInBounds_toArray, List.set_cons_zero, List.set_cons_succ]
          refine wpAnyH_take (i := 17) (oi := ⟨some 29, _, _, _, _, _⟩) (v := undef) rfl (by kernel_rfl) (by kernel_rfl) (by kernel_rfl) (fun _ _ _ h => h) (Or.inr ⟨by rfl, rfl⟩) hHeld ?_
          try simp only [Act.put, List.setIfInBounds_toArray, List.set_cons_zero, List.set_cons_succ]
          refine wpAnyH_take (i := 18) (oi := ⟨some 30, _, _, _, _, _⟩) (v := undef) rfl (by kernel_rfl) (by kernel_rfl) (by kernel_rfl) (fun _ _ _ h => h) (Or.inr ⟨by rfl, rfl⟩) hHeld ?_
          try simp only [Act.put, List.setIfInBounds_toArray, List.set_cons_zero, List.set_cons_succ]
          refine wpAnyH_take (i := 19) (oi := ⟨some 31, _, _, _, _, _⟩) (v := ?_) rfl (by kernel_rfl) (by kernel_rfl) (by kernel_rfl) (fun _ _ _ h => h) (Or.inl ⟨by rfl, by intro w hSw; (try dsimp only at hSw); go_simp; try with_reducible rfl⟩) hHeld ?_
          try simp only [Act.put, List.setIfInBounds_toArray, List.set_cons_zero, List.set_cons_succ]
          refine wpAnyH_done (by kernel_rfl) ?_ _
          obtain ⟨V, hV⟩ : ∃ V, wi.drew = V := ⟨_, rfl⟩
          have HBU := Off.mk (below_drew (Below.refl wi.heap.size wi))
          rw [hV] at HBU ⊢
          clear hHeld hV
          have HOV := Off.mk (ownQ_below HOm.out HBU.out)
          have z0 := cellB HBU.out z0
          have z1 := cellB HBU.out z1
          have HLn : Off (st.reverse.length ≤ 1000) := ⟨by have := HL.out; rw [List.length_reverse]; omega⟩
          have HBV := Off.mk (belowC (belowC HB1.out HB.out) HBU.out)
          clear HOm HBU HBX HO1
          go_wp2_with (at_builtin; refine wpList_pair Try.underlying57 hi hz0 hz1 hz2 rfl rfl _ _ rfl w.heap.size _ _ p.1 p.2 HOV.out HBV.out.size HLn.out rfl rfl ?_)
          intro v4 w4 hO4 hb4 _
          have e4 : (Hu.stk [] (xs.take (k + 1))).reverse = st.reverse ++ [(p.1, p.2)] := by rw [HNX.out, HPS.out, List.reverse_cons]
          rw [← e4] at hO4
          have HO4 := Off.mk hO4
          have HB4 := Off.mk (HBV.out.trans hb4)
          clear hO4 hb4 e4
          go_wp2
          go_roundw
          case rel => exact ⟨k + 1, by omega, by go_num, HO4, HB4⟩
          case measure => simp only [intOf]; omega
        · obtain ⟨b, a, r, rfl⟩ : ∃ b a r, st = b :: a :: r := by
            match st, hshort with
            | [], h => exact absurd (by simp) h
            | [a], h => exact absurd (by simp) h
            | b :: a :: r, _ => exact ⟨b, a, r, rfl⟩
          have hlr : (b :: a :: r).reverse.length = r.length + 2 := by simp
          obtain ⟨g, cg, rfl, hgb, hrow⟩ := ownQ_row HO.out (by omega)
          rw [hlr] at hrow ⊢
          obtain ⟨i, hie⟩ : ∃ i, i = r.length := ⟨_, rfl⟩
          obtain ⟨j, hje⟩ : ∃ j, j = r.length + 1 := ⟨_, rfl⟩
          obtain ⟨m, hme⟩ : ∃ m, m = r.length + 2 := ⟨_, rfl⟩
          rw [← hme] at hrow ⊢
          have him : i < m := by omega
          have hjm : j < m := by omega
          have hii : (i : Int) < (m : Int) := by omega
          have hji : (j : Int) < (m : Int) := by omega
          have hiw : IntKind.i64.wrap ((m : Int) - 2) = (i : Int) := by have := HL.out; simp only [List.length_cons] at this; rw [IntKind.wrap_i64]; omega
          have hjw : IntKind.i64.wrap ((m : Int) - 1) = (j : Int) := by have := HL.out; simp only [List.length_cons] at this; rw [IntKind.wrap_i64]; omega
          have hd : decide (1 < (m : Int)) = true := decide_eq_true (by omega)
          have hmc : m ≤ cg := by
            rcases hrow.own.2 with ⟨e, _⟩ | ⟨_, _, _, e, _, _, h, _⟩
            · cases e
            · cases e; omega
          have hjc : j ≤ cg := by omega
          obtain ⟨x0, x1⟩ := hrow.cells him
          obtain ⟨y0, y1⟩ := hrow.cells hjm
          have ga : (b :: a :: r).reverse.getD i (0, 0) = a := by rw [hie]; simp
          have gb : (b :: a :: r).reverse.getD j (0, 0) = b := by rw [hje]; simp
          rw [ga] at x0 x1
          rw [gb] at y0 y1
          have hab : inB 50 a ∧ inB 50 b := ⟨HS.out a (by simp), HS.out b (by simp)⟩
          obtain ⟨tv, htv⟩ : ∃ t, t = turnP a b p := ⟨_, rfl⟩
          have C1 : Off (∀ W, Calls Try.prog 92 #[ptV a, ptV b, ptV p] W fun e w' => e = .returned (.int .i64 tv) ∧ Below W.heap.size W w') := ⟨fun W => by rw [htv]; exact turn_any a b p (inB_mono hab.1 (by decide)) (inB_mono hab.2 (by decide)) (inB_mono HPIN.out (by decide)) W⟩
          have HROW := Off.mk hrow
          have HJ := Off.mk hje
          have HM := Off.mk hme
          rw [turn_cr] at htv
          clear hrow ga gb hab hlr hie hje hme hshort HO
          by_cases hle : tv ≤ 0
          · have hdt : decide (tv ≤ 0) = true := decide_eq_true hle
            have HP2 : Off (Hu.pop (a :: r) p = Hu.pop st0 p) := ⟨by rw [← HP.out, Hu.pop_yes (by rw [← htv]; exact hle)]⟩
            clear htv hle
            go_wp2
            have keepS : ∀ {u v : World}, Below u.heap.size u v → (fun u => ((u.cell? ⟨g, i * 2, none⟩ = some (.int .i64 a.1) ∧ u.cell? ⟨g, i * 2 + 1, none⟩ = some (.int .i64 a.2)) ∧ (u.cell? ⟨g, j * 2, none⟩ = some (.int .i64 b.1) ∧ u.cell? ⟨g, j * 2 + 1, none⟩ = some (.int .i64 b.2)) ∧ u.cell? ⟨wo.heap.size, 0, none⟩ = some (.int .i64 p.1) ∧ u.cell? ⟨wo.heap.size, 1, none⟩ = some (.int .i64 p.2)) ∧ Below wi.heap.size wi u) u → (fun u => ((u.cell? ⟨g, i * 2, none⟩ = some (.int .i64 a.1) ∧ u.cell? ⟨g, i * 2 + 1, none⟩ = some (.int .i64 a.2)) ∧ (u.cell? ⟨g, j * 2, none⟩ = some (.int .i64 b.1) ∧ u.cell? ⟨g, j * 2 + 1, none⟩ = some (.int .i64 b.2)) ∧ u.cell? ⟨wo.heap.size, 0, none⟩ = some (.int .i64 p.1) ∧ u.cell? ⟨wo.heap.size, 1, none⟩ = some (.int .i64 p.2)) ∧ Below wi.heap.size wi u) v := fun hb ⟨⟨⟨x0, x1⟩, ⟨y0, y1⟩, z0, z1⟩, hB⟩ => ⟨⟨⟨cellB hb x0, cellB hb x1⟩, ⟨cellB hb y0, cellB hb y1⟩, cellB hb z0, cellB hb z1⟩, belowC hB hb⟩
            refine wp_region_held_drew (S := (fun u => ((u.cell? ⟨g, i * 2, none⟩ = some (.int .i64 a.1) ∧ u.cell? ⟨g, i * 2 + 1, none⟩ = some (.int .i64 a.2)) ∧ (u.cell? ⟨g, j * 2, none⟩ = some (.int .i64 b.1) ∧ u.cell? ⟨g, j * 2 + 1, none⟩ = some (.int .i64 b.2)) ∧ u.cell? ⟨wo.heap.size, 0, none⟩ = some (.int .i64 p.1) ∧ u.cell? ⟨wo.heap.size, 1, none⟩ = some (.int .i64 p.2)) ∧ Below wi.heap.size wi u)) (by kernel_rfl) ⟨⟨⟨x0, x1⟩, ⟨y0, y1⟩, z0, z1⟩, below_drew (Below.refl _ _)⟩ (fun hHeld => ?_)
            refine wpAnyH_take (i := 0) (oi := ⟨some 12, _, _, _, _, _⟩) (v := ?_) rfl (by kernel_rfl) (by kernel_rfl) (by kernel_rfl) (fun _ _ _ h => h) (Or.inl ⟨by rfl, by intro w hSw; (try dsimp only at hSw); go_simp; try with_reducible rfl⟩) hHeld ?_
            try simp only [Act.put, List.setIfInBounds_toArray, List.set_cons_zero, List.set_cons_succ]
            refine wpAnyH_take (i := 1) (oi := ⟨some 13, _, _, _, _, _⟩) (v := ?_) rfl (by kernel_rfl) (by kernel_rfl) (by kernel_rfl) (fun _ _ _ h => h) (Or.inl ⟨by rfl, by intro w hSw; (try dsimp only at hSw); go_simp; try with_reducible rfl⟩) hHeld ?_
            try simp only [Act.put, List.setIfInBounds_toArray, List.set_cons_zero, List.set_cons_succ]
            refine wpAnyH_take (i := 2) (oi := ⟨some 14, _, _, _, _, _⟩) (v := ?_) rfl (by kernel_rfl) (by kernel_rfl) (by kernel_rfl) (fun _ _ _ h => h) (Or.inl ⟨by rfl, by intro w hSw; (try dsimp only at hSw); go_simp; try with_reducible rfl⟩) hHeld ?_
            try simp only [Act.put, List.setIfInBounds_toArray, List.set_cons_zero, List.set_cons_succ]
            refine wpAnyH_take (i := 3) (oi := ⟨some 15, _, _, _, _, _⟩) (v := ?_) rfl (by kernel_rfl) (by kernel_rfl) (by kernel_rfl) (fun _ _ _ h => h) (Or.inl ⟨by rfl, by intro w hSw; (try dsimp only at hSw); go_simp; try with_reducible rfl⟩) hHeld ?_
            try simp only [Act.put, List.setIfInBounds_toArray, List.set_cons_zero, List.set_cons_succ]
            refine wpAnyH_take (i := 4) (oi := ⟨some 16, _, _, _, _, _⟩) (v := ?_) rfl (by kernel_rfl) (by kernel_rfl) (by kernel_rfl) (fun _ _ _ h => h) (Or.inl ⟨by rfl, by intro w hSw; (try dsimp only at hSw); go_simp; try with_reducible rfl⟩) hHeld ?_
            try simp only [Act.put, List.setIfInBounds_toArray, List.set_cons_zero, List.set_cons_succ]
            refine wpAnyH_take (i := 5) (oi := ⟨some 17, _, _, _, _, _⟩) (v := ?_) rfl (by kernel_rfl) (by kernel_rfl) (by kernel_rfl) (fun _ _ _ h => h) (Or.inl ⟨by rfl, by intro w hSw; (try dsimp only at hSw); go_simp; try with_reducible rfl⟩) hHeld ?_
            try simp only [Act.put, List.setIfInBounds_toArray, List.set_cons_zero, List.set_cons_succ]
            refine wpAnyH_take (i := 6) (oi := ⟨some 18, _, _, _, _, _⟩) (v := ?_) rfl (by kernel_rfl) (by kernel_rfl) (by kernel_rfl) (fun _ _ _ h => h) (Or.inl ⟨by rfl, by intro w hSw; (try dsimp only at hSw); go_simp; try with_reducible rfl⟩) hHeld ?_
            try simp only [Act.put, List.setIfInBounds_toArray, List.set_cons_zero, List.set_cons_succ]
            refine wpAnyH_take (i := 7) (oi := ⟨some 19, _, _, _, _, _⟩) (v := ?_) rfl (by kernel_rfl) (by kernel_rfl) (by kernel_rfl) (fun _ _ _ h => h) (Or.inl ⟨by rfl, by intro w hSw; (try dsimp only at hSw); go_simp; try with_reducible rfl⟩) hHeld ?_
            try simp only [Act.put, List.setIfInBounds_toArray, List.set_cons_zero, List.set_cons_succ]
            refine wpAnyH_take (i := 8) (oi := ⟨some 20, _, _, _, _, _⟩) (v := ?_) rfl (by kernel_rfl) (by kernel_rfl) (by kernel_rfl) (fun _ _ _ h => h) (Or.inl ⟨by rfl, by intro w hSw; (try dsimp only at hSw); go_simp; try with_reducible rfl⟩) hHeld ?_
            try simp only [Act.put, List.setIfInBounds_toArray, List.set_cons_zero, List.set_cons_succ]
            refine wpAnyH_take (i := 9) (oi := ⟨some 21, _, _, _, _, _⟩) (v := ?_) rfl (by kernel_rfl) (by kernel_rfl) (by kernel_rfl) (fun _ _ _ h => h) (Or.inl ⟨by rfl, by intro w hSw; (try dsimp only at hSw); go_simp; try with_reducible rfl⟩) hHeld ?_
            try simp only [Act.put, List.setIfInBounds_toArray, List.set_cons_zero, List.set_cons_succ]
            refine wpAnyH_take (i := 10) (oi := ⟨some 22, _, _, _, _, _⟩) (v := ?_) rfl (by kernel_rfl) (by kernel_rfl) (by kernel_rfl) (fun _ _ _ h => h) (Or.inl ⟨by rfl, by intro w hSw; (try dsimp only at hSw); go_simp; try with_reducible rfl⟩) hHeld ?_
            try simp only [Act.put, List.setIfInBounds_toArray, List.set_cons_zero, List.set_cons_succ]
            refine wpAnyH_take (i := 11) (oi := ⟨some 23, _, _, _, _, _⟩) (v := ?_) rfl (by kernel_rfl) (by kernel_rfl) (by kernel_rfl) (fun _ _ _ h => h) (Or.inl ⟨by rfl, by intro w hSw; (try dsimp only at hSw); go_simp; try with_reducible rfl⟩) hHeld ?_
            try simp only [Act.put, List.setIfInBounds_toArray, List.set_cons_zero, List.set_cons_succ]
            refine wpAnyH_take (i := 12) (oi := ⟨some 24, _, _, _, _, _⟩) (v := ?_) rfl (by kernel_rfl) (by kernel_rfl) (by kernel_rfl) (fun _ _ _ h => h) (Or.inl ⟨by rfl, by intro w hSw; (try dsimp only at hSw); go_simp; try with_reducible rfl⟩) hHeld ?_
            try simp only [Act.put, List.setIfInBounds_toArray, List.set_cons_zero, List.set_cons_succ]
            refine wpAnyH_take (i := 13) (oi := ⟨some 25, _, _, _, _, _⟩) (v := ?_) rfl (by kernel_rfl) (by kernel_rfl) (by kernel_rfl) (fun _ _ _ h => h) (Or.inl ⟨by rfl, by intro w hSw; (try dsimp only at hSw); go_simp; try with_reducible rfl⟩) hHeld ?_
            try simp only [Act.put, List.setIfInBounds_toArray, List.set_cons_zero, List.set_cons_succ]
            refine wpAnyH_take (i := 14) (oi := ⟨some 26, _, _, _, _, _⟩) (v := ?_) rfl (by kernel_rfl) (by kernel_rfl) (by kernel_rfl) (fun _ _ _ h => h) (Or.inl ⟨by rfl, by intro w hSw; (try dsimp only at hSw); go_simp; try with_reducible rfl⟩) hHeld ?_
            try simp only [Act.put, List.setIfInBounds_toArray, List.set_cons_zero, List.set_cons_succ]
            refine wpAnyH_take (i := 15) (oi := ⟨some 27, _, _, _, _, _⟩) (v := ?_) rfl (by kernel_rfl) (by kernel_rfl) (by kernel_rfl) (fun _ _ _ h => h) (Or.inl ⟨by rfl, by intro w hSw; (try dsimp only at hSw); go_simp; try with_reducible rfl⟩) hHeld ?_
            try simp only [Act.put, List.setIfInBounds_toArray, List.set_cons_zero, List.set_cons_succ]
            refine wpAnyH_take (i := 16) (oi := ⟨some 28, _, _, _, _, _⟩) (v := ?_) rfl (by kernel_rfl) (by kernel_rfl) (by kernel_rfl) (fun _ _ _ h => h) (Or.inl ⟨by rfl, by intro w hSw; (try dsimp only at hSw); go_simp; try with_reducible rfl⟩) hHeld ?_
            try simp only [Act.put, List.setIfInBounds_toArray, List.set_cons_zero, List.set_cons_succ]
            refine wpAnyH_ready (rs := [17]) (by kernel_rfl) (by simp) ?_
            refine AllReadyH.cons (o := ⟨some 29, _, _, _, _, _⟩) rfl (fun K hK => ?_) AllReadyH.nil
            go_simp
            refine (C1.out _).mono ?_
            rintro e w3 ⟨rfl, hb3⟩
            go_wp2_with fail
            refine hK.out _ _ (keepS hb3 hHeld) (fun hHeld => ?_)
            clear hK K
            try simp only [Act.put, List.setIfInBounds_toArray, List.set_cons_zero, List.set_cons_succ]
            refine wpAnyH_take (i := 18) (oi := ⟨some 30, _, _, _, _, _⟩) (v := ?_) rfl (by kernel_rfl) (by kernel_rfl) (by kernel_rfl) (fun _ _ _ h => h) (Or.inl ⟨by rfl, by intro w hSw; (try dsimp only at hSw); go_simp; try with_reducible rfl⟩) hHeld ?_
            try simp only [Act.put, List.setIfInBounds_toArray, List.set_cons_zero, List.set_cons_succ]
            refine wpAnyH_take (i := 19) (oi := ⟨some 31, _, _, _, _, _⟩) (v := ?_) rfl (by kernel_rfl) (by kernel_rfl) (by kernel_rfl) (fun _ _ _ h => h) (Or.inl ⟨by rfl, by intro w hSw; (try dsimp only at hSw); go_simp; try with_reducible rfl⟩) hHeld ?_
            try simp only [Act.put, List.setIfInBounds_toArray, List.set_cons_zero, List.set_cons_succ]
            refine wpAnyH_done (by kernel_rfl) ?_ _
            have HBU := Off.mk hHeld.2
            clear hHeld keepS
            have hr3 := row_cut (HROW.out.below HBU.out) (show j ≤ m by omega)
            have hcut : (b :: a :: r).reverse.take j = (a :: r).reverse := by rw [HJ.out, List.reverse_cons]; exact List.take_left' (by simp)
            rw [hcut] at hr3
            have HO3 := Off.mk hr3.ownQ
            clear hr3 hcut HROW
            go_wp2
            go_roundw
            case rel => exact ⟨a :: r, HO3, HP2, ⟨fun q hq => HS.out q (List.mem_cons_of_mem _ hq)⟩, ⟨by have := HL.out; simp only [List.length_cons] at this ⊢; omega⟩, ⟨belowC HB.out HBU.out⟩⟩
            case measure => simp only [sliceLen]; omega
          · have hdt : decide (tv ≤ 0) = false := decide_eq_false hle
            have HPS : Off (Hu.pop st0 p = b :: a :: r) := ⟨by rw [← HP.out, Hu.pop_no (by rw [← htv]; exact hle)]⟩
            have HOm := Off.mk HROW.out.ownQ
            obtain ⟨st, hst⟩ : ∃ st, st = b :: a :: r := ⟨_, rfl⟩
            rw [← hst] at HPS HOm HL
            clear htv hle hst
            go_wp2
            have keepS : ∀ {u v : World}, Below u.heap.size u v → (fun u => ((u.cell? ⟨g, i * 2, none⟩ = some (.int .i64 a.1) ∧ u.cell? ⟨g, i * 2 + 1, none⟩ = some (.int .i64 a.2)) ∧ (u.cell? ⟨g, j * 2, none⟩ = some (.int .i64 b.1) ∧ u.cell? ⟨g, j * 2 + 1, none⟩ = some (.int .i64 b.2)) ∧ u.cell? ⟨wo.heap.size, 0, none⟩ = some (.int .i64 p.1) ∧ u.cell? ⟨wo.heap.size, 1, none⟩ = some (.int .i64 p.2)) ∧ Below wi.heap.size wi u) u → (fun u => ((u.cell? ⟨g, i * 2, none⟩ = some (.int .i64 a.1) ∧ u.cell? ⟨g, i * 2 + 1, none⟩ = some (.int .i64 a.2)) ∧ (u.cell? ⟨g, j * 2, none⟩ = some (.int .i64 b.1) ∧ u.cell? ⟨g, j * 2 + 1, none⟩ = some (.int .i64 b.2)) ∧ u.cell? ⟨wo.heap.size, 0, none⟩ = some (.int .i64 p.1) ∧ u.cell? ⟨wo.heap.size, 1, none⟩ = some (.int .i64 p.2)) ∧ Below wi.heap.size wi u) v := fun hb ⟨⟨⟨x0, x1⟩, ⟨y0, y1⟩, z0, z1⟩, hB⟩ => ⟨⟨⟨cellB hb x0, cellB hb x1⟩, ⟨cellB hb y0, cellB hb y1⟩, cellB hb z0, cellB hb z1⟩, belowC hB hb⟩
            refine wp_region_held_drew (S := (fun u => ((u.cell? ⟨g, i * 2, none⟩ = some (.int .i64 a.1) ∧ u.cell? ⟨g, i * 2 + 1, none⟩ = some (.int .i64 a.2)) ∧ (u.cell? ⟨g, j * 2, none⟩ = some (.int .i64 b.1) ∧ u.cell? ⟨g, j * 2 + 1, none⟩ = some (.int .i64 b.2)) ∧ u.cell? ⟨wo.heap.size, 0, none⟩ = some (.int .i64 p.1) ∧ u.cell? ⟨wo.heap.size, 1, none⟩ = some (.int .i64 p.2)) ∧ Below wi.heap.size wi u)) (by kernel_rfl) ⟨⟨⟨x0, x1⟩, ⟨y0, y1⟩, z0, z1⟩, below_drew (Below.refl _ _)⟩ (fun hHeld => ?_)
            refine wpAnyH_take (i := 0) (oi := ⟨some 12, _, _, _, _, _⟩) (v := ?_) rfl (by kernel_rfl) (by kernel_rfl) (by kernel_rfl) (fun _ _ _ h => h) (Or.inl ⟨by rfl, by intro w hSw; (try dsimp only at hSw); go_simp; try with_reducible rfl⟩) hHeld ?_
            try simp only [Act.put, List.setIfInBounds_toArray, List.set_cons_zero, List.set_cons_succ]
            refine wpAnyH_take (i := 1) (oi := ⟨some 13, _, _, _, _, _⟩) (v := ?_) rfl (by kernel_rfl) (by kernel_rfl) (by kernel_rfl) (fun _ _ _ h => h) (Or.inl ⟨by rfl, by intro w hSw; (try dsimp only at hSw); go_simp; try with_reducible rfl⟩) hHeld ?_
            try simp only [Act.put, List.setIfInBounds_toArray, List.set_cons_zero, List.set_cons_succ]
            refine wpAnyH_take (i := 2) (oi := ⟨some 14, _, _, _, _, _⟩) (v := ?_) rfl (by kernel_rfl) (by kernel_rfl) (by kernel_rfl) (fun _ _ _ h => h) (Or.inl ⟨by rfl, by intro w hSw; (try dsimp only at hSw); go_simp; try with_reducible rfl⟩) hHeld ?_
            try simp only [Act.put, List.setIfInBounds_toArray, List.set_cons_zero, List.set_cons_succ]
            refine wpAnyH_take (i := 3) (oi := ⟨some 15, _, _, _, _, _⟩) (v := ?_) rfl (by kernel_rfl) (by kernel_rfl) (by kernel_rfl) (fun _ _ _ h => h) (Or.inl ⟨by rfl, by intro w hSw; (try dsimp only at hSw); go_simp; try with_reducible rfl⟩) hHeld ?_
            try simp only [Act.put, List.setIfInBounds_toArray, List.set_cons_zero, List.set_cons_succ]
            refine wpAnyH_take (i := 4) (oi := ⟨some 16, _, _, _, _, _⟩) (v := ?_) rfl (by kernel_rfl) (by kernel_rfl) (by kernel_rfl) (fun _ _ _ h => h) (Or.inl ⟨by rfl, by intro w hSw; (try dsimp only at hSw); go_simp; try with_reducible rfl⟩) hHeld ?_
            try simp only [Act.put, List.setIfInBounds_toArray, List.set_cons_zero, List.set_cons_succ]
            refine wpAnyH_take (i := 5) (oi := ⟨some 17, _, _, _, _, _⟩) (v := ?_) rfl (by kernel_rfl) (by kernel_rfl) (by kernel_rfl) (fun _ _ _ h => h) (Or.inl ⟨by rfl, by intro w hSw; (try dsimp only at hSw); go_simp; try with_reducible rfl⟩) hHeld ?_
            try simp only [Act.put, List.setIfInBounds_toArray, List.set_cons_zero, List.set_cons_succ]
            refine wpAnyH_take (i := 6) (oi := ⟨some 18, _, _, _, _, _⟩) (v := ?_) rfl (by kernel_rfl) (by kernel_rfl) (by kernel_rfl) (fun _ _ _ h => h) (Or.inl ⟨by rfl, by intro w hSw; (try dsimp only at hSw); go_simp; try with_reducible rfl⟩) hHeld ?_
            try simp only [Act.put, List.setIfInBounds_toArray, List.set_cons_zero, List.set_cons_succ]
            refine wpAnyH_take (i := 7) (oi := ⟨some 19, _, _, _, _, _⟩) (v := ?_) rfl (by kernel_rfl) (by kernel_rfl) (by kernel_rfl) (fun _ _ _ h => h) (Or.inl ⟨by rfl, by intro w hSw; (try dsimp only at hSw); go_simp; try with_reducible rfl⟩) hHeld ?_
            try simp only [Act.put, List.setIfInBounds_toArray, List.set_cons_zero, List.set_cons_succ]
            refine wpAnyH_take (i := 8) (oi := ⟨some 20, _, _, _, _, _⟩) (v := ?_) rfl (by kernel_rfl) (by kernel_rfl) (by kernel_rfl) (fun _ _ _ h => h) (Or.inl ⟨by rfl, by intro w hSw; (try dsimp only at hSw); go_simp; try with_reducible rfl⟩) hHeld ?_
            try simp only [Act.put, List.setIfInBounds_toArray, List.set_cons_zero, List.set_cons_succ]
            refine wpAnyH_take (i := 9) (oi := ⟨some 21, _, _, _, _, _⟩) (v := ?_) rfl (by kernel_rfl) (by kernel_rfl) (by kernel_rfl) (fun _ _ _ h => h) (Or.inl ⟨by rfl, by intro w hSw; (try dsimp only at hSw); go_simp; try with_reducible rfl⟩) hHeld ?_
            try simp only [Act.put, List.setIfInBounds_toArray, List.set_cons_zero, List.set_cons_succ]
            refine wpAnyH_take (i := 10) (oi := ⟨some 22, _, _, _, _, _⟩) (v := ?_) rfl (by kernel_rfl) (by kernel_rfl) (by kernel_rfl) (fun _ _ _ h => h) (Or.inl ⟨by rfl, by intro w hSw; (try dsimp only at hSw); go_simp; try with_reducible rfl⟩) hHeld ?_
            try simp only [Act.put, List.setIfInBounds_toArray, List.set_cons_zero, List.set_cons_succ]
            refine wpAnyH_take (i := 11) (oi := ⟨some 23, _, _, _, _, _⟩) (v := ?_) rfl (by kernel_rfl) (by kernel_rfl) (by kernel_rfl) (fun _ _ _ h => h) (Or.inl ⟨by rfl, by intro w hSw; (try dsimp only at hSw); go_simp; try with_reducible rfl⟩) hHeld ?_
            try simp only [Act.put, List.setIfInBounds_toArray, List.set_cons_zero, List.set_cons_succ]
            refine wpAnyH_take (i := 12) (oi := ⟨some 24, _, _, _, _, _⟩) (v := ?_) rfl (by kernel_rfl) (by kernel_rfl) (by kernel_rfl) (fun _ _ _ h => h) (Or.inl ⟨by rfl, by intro w hSw; (try dsimp only at hSw); go_simp; try with_reducible rfl⟩) hHeld ?_
            try simp only [Act.put, List.setIfInBounds_toArray, List.set_cons_zero, List.set_cons_succ]
            refine wpAnyH_take (i := 13) (oi := ⟨some 25, _, _, _, _, _⟩) (v := ?_) rfl (by kernel_rfl) (by kernel_rfl) (by kernel_rfl) (fun _ _ _ h => h) (Or.inl ⟨by rfl, by intro w hSw; (try dsimp only at hSw); go_simp; try with_reducible rfl⟩) hHeld ?_
            try simp only [Act.put, List.setIfInBounds_toArray, List.set_cons_zero, List.set_cons_succ]
            refine wpAnyH_take (i := 14) (oi := ⟨some 26, _, _, _, _, _⟩) (v := ?_) rfl (by kernel_rfl) (by kernel_rfl) (by kernel_rfl) (fun _ _ _ h => h) (Or.inl ⟨by rfl, by intro w hSw; (try dsimp only at hSw); go_simp; try with_reducible rfl⟩) hHeld ?_
            try simp only [Act.put, List.setIfInBounds_toArray, List.set_cons_zero, List.set_cons_succ]
            refine wpAnyH_take (i := 15) (oi := ⟨some 27, _, _, _, _, _⟩) (v := ?_) rfl (by kernel_rfl) (by kernel_rfl) (by kernel_rfl) (fun _ _ _ h => h) (Or.inl ⟨by rfl, by intro w hSw; (try dsimp only at hSw); go_simp; try with_reducible rfl⟩) hHeld ?_
            try simp only [Act.put, List.setIfInBounds_toArray, List.set_cons_zero, List.set_cons_succ]
            refine wpAnyH_take (i := 16) (oi := ⟨some 28, _, _, _, _, _⟩) (v := ?_) rfl (by kernel_rfl) (by kernel_rfl) (by kernel_rfl) (fun _ _ _ h => h) (Or.inl ⟨by rfl, by intro w hSw; (try dsimp only at hSw); go_simp; try with_reducible rfl⟩) hHeld ?_
            try simp only [Act.put, List.setIfInBounds_toArray, List.set_cons_zero, List.set_cons_succ]
            refine wpAnyH_ready (rs := [17]) (by kernel_rfl) (by simp) ?_
            refine AllReadyH.cons (o := ⟨some 29, _, _, _, _, _⟩) rfl (fun K hK => ?_) AllReadyH.nil
            go_simp
            refine (C1.out _).mono ?_
            rintro e w3 ⟨rfl, hb3⟩
            go_wp2_with fail
            refine hK.out _ _ (keepS hb3 hHeld) (fun hHeld => ?_)
            clear hK K
            try simp only [Act.put, List.setIfInBounds_toArray, List.set_cons_zero, List.set_cons_succ]
            refine wpAnyH_take (i := 18) (oi := ⟨some 30, _, _, _, _, _⟩) (v := ?_) rfl (by kernel_rfl) (by kernel_rfl) (by kernel_rfl) (fun _ _ _ h => h) (Or.inl ⟨by rfl, by intro w hSw; (try dsimp only at hSw); go_simp; try with_reducible rfl⟩) hHeld ?_
            try simp only [Act.put, List.setIfInBounds_toArray, List.set_cons_zero, List.set_cons_succ]
            refine wpAnyH_take (i := 19) (oi := ⟨some 31, _, _, _, _, _⟩) (v := ?_) rfl (by kernel_rfl) (by kernel_rfl) (by kernel_rfl) (fun _ _ _ h => h) (Or.inl ⟨by rfl, by intro w hSw; (try dsimp only at hSw); go_simp; try with_reducible rfl⟩) hHeld ?_
            try simp only [Act.put, List.setIfInBounds_toArray, List.set_cons_zero, List.set_cons_succ]
            refine wpAnyH_done (by kernel_rfl) ?_ _
            have HBU := Off.mk hHeld.2
            clear hHeld keepS
            obtain ⟨V, hV⟩ : ∃ V, w3 = V := ⟨_, rfl⟩
            rw [hV] at HBU ⊢
            clear hV HROW HP
            have HOV := Off.mk (ownQ_below HOm.out HBU.out)
            have z0 := cellB HBU.out z0
            have z1 := cellB HBU.out z1
            have HLn : Off (st.reverse.length ≤ 1000) := ⟨by have := HL.out; rw [List.length_reverse]; omega⟩
            have HBV := Off.mk (belowC (belowC HB1.out HB.out) HBU.out)
            clear HOm HBU HBX HO1
            go_wp2_with (at_builtin; refine wpList_pair Try.underlying57 hi hz0 hz1 hz2 rfl rfl _ _ rfl w.heap.size _ _ p.1 p.2 HOV.out HBV.out.size HLn.out rfl rfl ?_)
            intro v4 w4 hO4 hb4 _
            have e4 : (Hu.stk [] (xs.take (k + 1))).reverse = st.reverse ++ [(p.1, p.2)] := by rw [HNX.out, HPS.out, List.reverse_cons]
            rw [← e4] at hO4
            have HO4 := Off.mk hO4
            have HB4 := Off.mk (HBV.out.trans hb4)
            clear hO4 hb4 e4
            go_wp2
            go_roundw
            case rel => exact ⟨k + 1, by omega, by go_num, HO4, HB4⟩
            case measure => simp only [intOf]; omega
    · obtain rfl : k = xs.length := by omega
      have hne : ∃ b r, Hu.stk [] xs = b :: r := by
        cases xs with
        | nil => exact absurd rfl H0.out
        | cons p l => exact Hu.stk_some p l
      obtain ⟨b, r, hbr⟩ := hne
      have HO2 := HO.out
      rw [List.take_length, hbr] at HO2
      have hlr : (b :: r).reverse.length = r.length + 1 := by simp
      have hr60 : r.length ≤ 60 := by
        have := stk_few xs []
        rw [hbr] at this
        simp only [List.length_cons, List.length_nil] at this
        omega
      obtain ⟨g, cg, rfl, hgb, hrow⟩ := ownQ_row HO2 (by omega)
      rw [hlr] at hrow ⊢
      have hcut := row_cut hrow (show r.length ≤ r.length + 1 by omega)
      rw [show (b :: r).reverse.take r.length = Hu.half xs by unfold Hu.half; rw [hbr, List.reverse_cons, List.tail_cons]; exact List.take_left' (by simp)] at hcut
      have HC := Off.mk hcut.ownQ
      obtain ⟨m, hm⟩ : ∃ m, m = r.length + 1 := ⟨_, rfl⟩
      obtain ⟨j, hj⟩ : ∃ j, j = r.length := ⟨_, rfl⟩
      rw [← hm]
      rw [← hj] at HC
      have hjw : IntKind.i64.wrap ((m : Int) - 1) = (j : Int) := by rw [IntKind.wrap_i64]; omega
      have hjm : j ≤ m := by omega
      have hjm' : (j : Int) ≤ (m : Int) := by omega
      have hmc : m ≤ cg := by
        rcases hrow.own.2 with ⟨e, _⟩ | ⟨_, _, _, e, _, _, h, _⟩
        · cases e
        · cases e; omega
      have hjc : j ≤ cg := by omega
      clear hrow hcut HO2 HO hbr hlr hgb hm hj
      go_wp2
      go_ret
      exact ⟨_, rfl, HC.out, HB.out⟩
end
section
open Go.RowKit Go.Shelf

set_option maxHeartbeats 1000000 in
theorem far76_any (p : Int × Int) (v : Bool) (hv : farP p = v) (w : World) : Calls Try.prog 76 #[ptV p] w fun e w' => e = .returned (.bool v) ∧ Below w.heap.size w w' := by
  unfold farP at hv
  have C1 := Off.mk (fun v hv W => far_any p.1 v hv W)
  have C2 := Off.mk (fun v hv W => far_any p.2 v hv W)
  have hB := Off.mk (belowA (Below.refl w.heap.size w) (.cells #[.int .i64 p.1, .int .i64 p.2] 34))
  cases h1 : farB p.1
  · rw [h1, Bool.false_or] at hv
    have C1' := Off.mk (C1.out false h1)
    have C2' := Off.mk (C2.out v hv)
    clear h1 hv C1 C2
    go_enter Try.func76, Try.ntmps76
    go_wp2_with fail
    refine (C1'.out _).mono ?_
    rintro e w1 ⟨rfl, hw1⟩
    subst w1
    go_wp2_with fail
    refine (C2'.out _).mono ?_
    rintro e w1 ⟨rfl, hw1⟩
    subst w1
    go_wp2
    go_ret
    exact ⟨rfl, hB.out⟩
  · rw [h1, Bool.true_or] at hv
    subst hv
    have C1' := Off.mk (C1.out true h1)
    clear h1 C1 C2
    go_enter Try.func76, Try.ntmps76
    go_wp2_with fail
    refine (C1'.out _).mono ?_
    rintro e w1 ⟨rfl, hw1⟩
    subst w1
    go_wp2
    go_ret
    exact ⟨rfl, hB.out⟩
set_option maxHeartbeats 1000000 in
set_option maxRecDepth 100000 in
theorem index96h_any (xs : List (Int × Int)) (A : Option Addr) (c : Nat) (w : World) (hx : PairsI w A xs) :
    Calls Try.prog 96 #[.slice A xs.length c, .func (.func 76) #[] #[]] w fun e w' => ∃ r : Int, e = .returned (.int .i64 r) ∧ decide (0 ≤ r) = xs.any farP ∧ Below w.heap.size w w' := by
  have hlen := hx.len
  have hcf : ∀ (args : Array Value) (w : World), (callFunc 76 args).run Try.prog w = .ok (.enter 76 args) w := enters_of Try.func76 (by kernel_rfl) rfl
  have HX := Off.mk hx
  clear hx
  go_enter Try.func96, Try.ntmps96
  go_wp2
  go_loopw [8] (fun i wr => ∃ k : Nat, k ≤ xs.length ∧ i = .int .i64 k ∧ Off (∀ j, j < k → farP (xs.getD j (0, 0)) = false) ∧ Off (Below w.heap.size w wr)) (fun i _ => xs.length - (intOf i).toNat)
  case atStart => exact ⟨0, by omega, rfl, ⟨fun j hj => by omega⟩, ⟨Below.refl _ _⟩⟩
  case round =>
    obtain ⟨k, hk, rfl, hno, HB⟩ := hrel
    by_cases hlt : k < xs.length
    · have hki : (k : Int) < (xs.length : Int) := by omega
      obtain ⟨ad, rfl, cA, cB⟩ := (HX.out.below HB.out).cell k hlt
      have CT := Off.mk (fun v hv => far76_any (xs.getD k (0, 0)) v hv wr)
      have HH : Off (farP (xs.getD k (0, 0)) = true → xs.any farP = true) := ⟨fun hv => by
        rw [List.any_eq_true]
        refine ⟨xs[k], List.getElem_mem hlt, ?_⟩
        rw [List.getD_eq_getElem?_getD, List.getElem?_eq_getElem hlt] at hv
        exact hv⟩
      have HE : Off (∀ j, j = k → farP (xs.getD j (0, 0)) = farP (xs.getD k (0, 0))) := ⟨fun j e => by rw [e]⟩
      obtain ⟨x, hx⟩ : ∃ x, x = xs.getD k (0, 0) := ⟨_, rfl⟩
      rw [← hx] at cA cB CT HH HE
      clear hx
      cases hp : farP x
      · have CT' := Off.mk (CT.out false hp)
        have HN : Off (∀ j, j < k + 1 → farP (xs.getD j (0, 0)) = false) := ⟨fun j hj => by
          by_cases e : j = k
          · rw [HE.out j e]; exact hp
          · exact hno.out j (by omega)⟩
        clear hp CT HH HE
        go_wp2_with (go_at_fn 76; refine (CT'.out).mono ?_; rintro e w1 ⟨rfl, hb1⟩; have HB1 := Off.mk (belowC HB.out hb1); clear hb1)
        go_roundw
        case rel => exact ⟨k + 1, by omega, by go_num, HN, HB1⟩
        case measure => simp only [intOf]; omega
      · have CT' := Off.mk (CT.out true hp)
        have HO := Off.mk (HH.out hp)
        clear hp CT HH HE
        go_wp2_with (go_at_fn 76; refine (CT'.out).mono ?_; rintro e w1 ⟨rfl, hb1⟩; have HB1 := Off.mk (belowC HB.out hb1); clear hb1)
        go_ret
        exact ⟨k, rfl, by rw [HO.out]; simp, HB1.out⟩
    · obtain rfl : k = xs.length := by omega
      have HO : Off (xs.any farP = false) := ⟨by
        rw [List.any_eq_false]
        intro y hy
        obtain ⟨j, hj, rfl⟩ := List.getElem_of_mem hy
        have := hno.out j hj
        rw [List.getD_eq_getElem?_getD, List.getElem?_eq_getElem hj] at this
        simpa using this⟩
      go_wp2
      go_ret
      exact ⟨-1, rfl, by rw [HO.out]; rfl, HB.out⟩
theorem contains63h_any (xs : List (Int × Int)) (A : Option Addr) (c : Nat) (v : Bool) (hv : xs.any farP = v) (w : World) (hx : PairsI w A xs) :
    Calls Try.prog 63 #[.slice A xs.length c, .func (.func 76) #[] #[]] w fun e w' => e = .returned (.bool v) ∧ Below w.heap.size w w' := by
  have CI := Off.mk (index96h_any xs A c w hx)
  have HV := Off.mk hv
  clear hx hv
  go_enter Try.func63, Try.ntmps63
  go_wp2_with (go_at_call 96; refine CI.out.mono ?_; rintro e w1 ⟨r, rfl, hr, hb1⟩)
  go_ret
  exact ⟨ret_bool (by rw [← HV.out, ← hr]), hb1⟩

open Go.Sort in
theorem reverse_row {w : World} {base r k c : Nat} {xs : List (Int × Int)} (h : QRow 70 w base r k c xs) (hb : base ≤ r) (hk : k ≤ 60) :
    Calls Try.prog 81 #[.slice (some ⟨r, 0, none⟩) k c] w fun e w' => e = .returned (.tuple #[]) ∧ QRow 70 w' base r k c xs.reverse ∧ Keeps r w w' := by
  have hs : xs.toArray.size = k := by simpa using h.len
  have hcon := AnyQ.slices_Reverse revLays 2 Try.isAgg70 Try.sizeOf70 encP (fun _ => rfl) (fun x v hv => by simp [encP] at hv; rcases hv with rfl | rfl <;> rfl) r 0 c xs.toArray w (holds_row h) (by rw [hs]; omega)
  rw [hs] at hcon
  refine Calls.mono hcon ?_
  rintro e w' ⟨rfl, n, rfl⟩
  have hrow := row_put (ys := xs.reverse) h (by rw [List.length_reverse]; exact h.len) hb n #[]
  have e1 : sortWorldK encP 2 w r 0 n xs.reverse.toArray #[] = putRowK encP 2 (Go.Sort.ahead w n) r 0 xs.toArray.reverse := by
    rw [List.reverse_toArray]
    unfold sortWorldK grow
    rw [Array.append_empty]
  rw [e1] at hrow
  exact ⟨rfl, hrow.1, hrow.2⟩
theorem wpList_join {w : World} {ops : Array Oper} {rest : List Oper} {o : Oper} {a : Act} {Q : Exit → Act → World → Prop} (hgd : o.guard = none) (s x : Operand)
    (ho : o.op = .call { callee := .builtin .append, args := #[s, x], argTypes := #[57, 57] }) (base : Nat) (v : Value) (l m : List (Int × Int)) (hv : OwnQ 70 w base v l) (hb : base ≤ w.heap.size) (hl60 : l.length ≤ 100) (hm60 : m.length ≤ 100)
    (A : Option Addr) (c : Nat) (hm : PairsI w A m) (hmc : m.length ≤ c) (hA : A = none → c = 0) (hs : a.eval s = v) (hx : a.eval x = .slice A m.length c)
    (h : ∀ v' w', OwnQ 70 w' base v' (l ++ m) → Below base w w' → wpList Try.prog ops Q rest (a.put o.dst v') w') : wpList Try.prog ops Q (o :: rest) a w := by
  obtain ⟨i0, hi, hz0, hz1, hz2⟩ := info_parts info70
  cases A with
  | none =>
    obtain rfl := hA rfl
    obtain rfl : m = [] := List.length_eq_zero_iff.1 (by omega)
    exact wpList_append_own_none hgd s x 57 ho base 70 i0 2 Try.underlying57 hi v l.length (pairCells l) hs hv.out hx (h _ _ (by rw [List.append_nil]; exact hv) (Below.refl _ _))
  | some ad =>
    refine wpList_append_own _ hgd s x 57 ho base 70 i0 _ 2 16 Try.underlying57 hi hz0 hz1 hz2 rfl (by decide) v l.length (pairCells l) hs hv.out ad m.length c (pairCells m) hx (by rw [pairCells_len]) (fun j u hj => pairs_cells hm rfl j u hj) (fun u hu => pairCells_one m u hu) (by unfold maxLen; omega) (by omega) hb ?_
    intro v' w' hown hgrow _
    refine h v' w' ⟨?_⟩ ((Below.refl _ _).grown hgrow hb (fun k e => ownQ_base hv e))
    rw [List.length_append]
    simpa [pairCells] using hown
/-- What Hull returns. -/
def hullR (H : PtL) : PtL × Int := if H.length < 3 then ([], 10) else if 10 < H.length then ([], 8) else (H, 0)
def HullIs (xs : PtL) (r : PtL × Int) : Prop :=
  (30 < xs.length ∧ r = ([], 3)) ∨ (xs.length ≤ 30 ∧ xs.any farP = true ∧ r = ([], 2)) ∨ ((xs.length ≤ 30 ∧ xs.any farP = false) ∧ xs = [] ∧ r = ([], 10)) ∨
  ((xs.length ≤ 30 ∧ xs.any farP = false) ∧ xs ≠ [] ∧ ∃ S, Hu.Sorted 1 S ∧ (∀ q, q ∈ xs ↔ q ∈ S) ∧ S.length ≤ 30 ∧ r = hullR (Hu.hull S))
/-- What is known behind a call of Hull. -/
def HullPost (xs : PtL) (base : Nat) (e : Ending) (w' : World) : Prop := ∃ r, HullIs xs r ∧ PtsRes w' base e r
theorem half_len (S : List (Int × Int)) (h : S.length ≤ 30) : (Hu.half S).length ≤ 30 := by
  have := stk_few S []
  unfold Hu.half
  rw [List.length_reverse, List.length_tail]
  simp only [List.length_nil] at this
  omega
set_option maxHeartbeats 4000000 in
set_option maxRecDepth 100000 in
theorem Hull_any (xs : PtL) (A : Option Addr) (c : Nat) (w : World) (hx : PairsI w A xs) :
    Calls Try.prog 40 #[.slice A xs.length c] w fun e w' => HullPost xs w.heap.size e w' ∧ Below w.heap.size w w' := by
  by_cases h30 : 30 < xs.length
  · have h30' : 30 < (xs.length : Int) := by omega
    have HI : Off (HullIs xs ([], 3)) := ⟨.inl ⟨h30, rfl⟩⟩
    clear hx
    go_enter Try.func40, Try.ntmps40
    go_wp2
    go_ret2
    exact ⟨⟨_, HI.out, ⟨_, rfl, ownQ_nil _ _ _⟩⟩, Below.refl _ _⟩
  have h30' : ¬ 30 < (xs.length : Int) := by omega
  cases hf : xs.any farP with
  | true =>
    have CF := Off.mk (contains63h_any xs A c true hf w hx)
    have HI : Off (HullIs xs ([], 2)) := ⟨.inr (.inl ⟨by omega, hf, rfl⟩)⟩
    clear hx hf
    go_enter Try.func40, Try.ntmps40
    go_wp2_with fail
    refine CF.out.mono ?_
    rintro e w1 ⟨rfl, hb1⟩
    go_wp2
    go_ret2
    exact ⟨⟨_, HI.out, ⟨_, rfl, ownQ_nil _ _ _⟩⟩, hb1⟩
  | false =>
    have CF := Off.mk (contains63h_any xs A c false hf w hx)
    by_cases h0 : xs = []
    · have HI : Off (HullIs xs ([], 10)) := ⟨.inr (.inr (.inl ⟨⟨by omega, hf⟩, h0, rfl⟩))⟩
      have hl0 : (xs.length : Int) = 0 := by rw [h0]; rfl
      have hb0 : ((xs.length : Int) == 0) = true := by rw [hl0]; rfl
      clear hx hf h0
      go_enter Try.func40, Try.ntmps40
      go_wp2_with fail
      refine CF.out.mono ?_
      rintro e w1 ⟨rfl, hb1⟩
      go_wp2
      go_ret2
      exact ⟨⟨_, HI.out, ⟨_, rfl, ownQ_nil _ _ _⟩⟩, hb1⟩
    · have hpos : 0 < xs.length := List.length_pos_iff.2 h0
      have hl0 : ¬ (xs.length : Int) = 0 := by omega
      have hb0 : ((xs.length : Int) == 0) = false := beq_eq_false_iff_ne.2 hl0
      have HI : Off (∀ S, Hu.Sorted 1 S → (∀ q, q ∈ xs ↔ q ∈ S) → S.length ≤ 30 → HullIs xs (hullR (Hu.hull S))) := ⟨fun S h1 h2 h3 => .inr (.inr (.inr ⟨⟨by omega, hf⟩, h0, S, h1, h2, h3, rfl⟩))⟩
      have CA := Off.mk (fun W (hb : Below w.heap.size w W) => as_any xs A c W (by omega) (hx.below hb))
      have HINX : Off (∀ q ∈ xs, inB 50 q) := ⟨fun q hq => by
        rw [List.any_eq_false] at hf
        exact (far_in _).1 (by simpa using hf q hq)⟩
      have HP := Off.mk (And.intro hpos (show xs.length ≤ 30 by omega))
      clear hx hf h0 hpos
      go_enter Try.func40, Try.ntmps40
      go_wp2_with fail
      refine CF.out.mono ?_
      rintro e w1 ⟨rfl, hb1⟩
      have HB1 := Off.mk hb1
      clear hb1
      go_wp2_with fail
      refine (CA.out _ HB1.out).mono ?_
      rintro e w2 ⟨v, rfl, hO2, hb2⟩
      obtain ⟨g, cg, rfl, hg, hrow⟩ := ownQ_row hO2 HP.out.1
      have HB2 := Off.mk (belowC HB1.out hb2)
      have HG := Off.mk (show w.heap.size ≤ g from Nat.le_trans HB1.out.size hg)
      obtain ⟨n, hn⟩ : ∃ n, n = xs.length := ⟨_, rfl⟩
      rw [← hn] at hrow ⊢
      have hn30 : n ≤ 30 := by rw [hn]; exact HP.out.2
      have HN := Off.mk (And.intro hn hn30)
      have HG1 := Off.mk hg
      have CS := Off.mk (sort_row hrow hg (by omega))
      clear hb2 hO2 hrow hn hn30 hg
      go_wp2_with fail
      refine CS.out.mono ?_
      rintro e w3 ⟨rfl, ys, hrow, hk3, hmem, hso⟩
      have HK3 := Off.mk hk3
      have HMEM := Off.mk hmem
      have HSO := Off.mk hso
      have hmc : n ≤ cg := by
        rcases hrow.own.2 with ⟨e, _⟩ | ⟨_, _, _, e, _, _, h, _⟩
        · cases e
        · cases e; omega
      have CC := Off.mk (compact_row hrow (by have := HN.out.2; omega) hmc)
      have HYL := Off.mk hrow.len
      clear hrow hk3 hmem hso hmc CS
      go_wp2_with fail
      refine CC.out.mono ?_
      rintro e w4 ⟨m, rfl, hmn, hrow, hk4⟩
      obtain ⟨c1, c2, c3, c4⟩ := compTo_facts (ys := ys) (by rw [HYL.out]; exact HSO.out) n (by rw [HYL.out]; exact Nat.le_refl _)
      obtain ⟨S, hS⟩ : ∃ S, S = compTo ys n := ⟨_, rfl⟩
      rw [← hS] at hrow c1 c2 c3 c4
      have hSm : ∀ q, q ∈ xs ↔ q ∈ S := fun q => by
        rw [c2, ← HMEM.out q, List.mem_iff_getElem]
        have hyl := HYL.out
        constructor
        · rintro ⟨i, hi, e⟩
          exact ⟨i, by omega, by rw [List.getD_eq_getElem?_getD, List.getElem?_eq_getElem hi]; exact e⟩
        · rintro ⟨i, hi, e⟩
          refine ⟨i, by omega, ?_⟩
          rw [List.getD_eq_getElem?_getD, List.getElem?_eq_getElem (show i < ys.length by omega)] at e
          exact e
      have HK4 := Off.mk (HK3.out.trans hk4)
      have HSS := Off.mk (And.intro c1 (And.intro hSm (And.intro (show S.length ≤ 30 by have := HN.out.2; omega) (c4 (by have := HP.out.1; have := HN.out.1; omega)))))
      have hml : m = S.length := hrow.len.symm
      subst hml
      obtain ⟨A4, k4, e4, hI4, _⟩ := ownQ_pairs hrow.ownQ (by have := HSS.out.2.2.1; omega)
      obtain ⟨e41, eL4, e43⟩ := Value.slice.injEq .. ▸ e4
      clear eL4 e4
      subst e41 e43
      have HROW := Off.mk hrow
      have CH := Off.mk (half_any S _ cg w4 HSS.out.2.2.2 (by have := HSS.out.2.2.1; omega) (fun q hq => HINX.out q ((HSS.out.2.1 q).2 hq)) hI4)
      clear hrow hk4 c1 c2 c3 c4 hSm hS hI4 CC hmn
      go_wp2_with fail
      refine CH.out.mono ?_
      rintro e w5 ⟨v5, rfl, hO5, hb5⟩
      have HB5 := Off.mk hb5
      have hrow5 := HROW.out.below hb5
      have hne5 : v5.ownBlock ≠ some g := fun e => by
        have := ownQ_base hO5 e
        have := HROW.out.lt
        omega
      have HO5 := Off.mk hO5
      have HNE5 := Off.mk hne5
      have CV := Off.mk (reverse_row hrow5 HG1.out (by have := HSS.out.2.2.1; omega))
      clear hb5 hO5 hne5 hrow5 CH
      go_wp2_with fail
      refine CV.out.mono ?_
      rintro e w6 ⟨rfl, hrow, hk6⟩
      have HO6 := Off.mk (ownQ_keeps2 HO5.out hk6 HNE5.out)
      have HK6 := Off.mk ((HK4.out.trans (Keeps.of_below HB5.out)).trans hk6)
      obtain ⟨A6, k6, e6, hI6, _⟩ := ownQ_pairs hrow.ownQ (by have := HSS.out.2.2.1; rw [List.length_reverse]; omega)
      obtain ⟨e61, eL6, e63⟩ := Value.slice.injEq .. ▸ e6
      clear eL6 e6
      subst e61 e63
      have CH := Off.mk (half_any S.reverse _ cg w6 (by have := HSS.out.2.2.2; simpa using this) (by have := HSS.out.2.2.1; rw [List.length_reverse]; omega) (fun q hq => HINX.out q ((HSS.out.2.1 q).2 (List.mem_reverse.1 hq))) hI6)
      rw [List.length_reverse] at CH
      clear hrow hk6 hI6 CV HO5
      go_wp2_with fail
      refine CH.out.mono ?_
      rintro e w7 ⟨v7, rfl, hO7, hb7⟩
      have hsz5 : w.heap.size ≤ w4.heap.size := Nat.le_trans HB2.out.size HK4.out.out.size
      have HO57 := Off.mk (ownQ_mono (ownQ_below HO6.out hb7) hsz5)
      have HB7 := Off.mk (Keeps.below HB2.out (HK6.out.trans (Keeps.of_below hb7)) HB2.out.size HG.out)
      have hl1 := half_len S HSS.out.2.2.1
      have hl2 := half_len S.reverse (by rw [List.length_reverse]; exact HSS.out.2.2.1)
      obtain ⟨A7, k7, rfl, hI7, hk7, hA7⟩ := ownQ_pairs hO7 (by omega)
      have HI7 := Off.mk (And.intro hI7 (And.intro hk7 (And.intro hA7 (And.intro hl1 hl2))))
      obtain ⟨mm, hmm⟩ : ∃ mm, mm = Hu.half S.reverse := ⟨_, rfl⟩
      rw [← hmm] at HI7 ⊢
      have HHH : Off (Hu.half S ++ mm = Hu.hull S) := ⟨by rw [hmm]; rfl⟩
      clear hO7 hb7 hI7 hk7 hA7 hl1 hl2 hmm hsz5 CH HO6
      go_wp2_with (at_builtin; refine wpList_join rfl _ _ rfl w.heap.size v5 (Hu.half S) mm HO57.out HB7.out.size (by have := HI7.out.2.2.2.1; omega) (by have := HI7.out.2.2.2.2; omega) A7 k7 HI7.out.1 HI7.out.2.1 HI7.out.2.2.1 rfl rfl ?_)
      intro v8 w8 hO8 hb8
      rw [HHH.out] at hO8
      obtain ⟨H, hH⟩ : ∃ H, H = Hu.hull S := ⟨_, rfl⟩
      have hHl : H.length ≤ 60 := by rw [hH, ← HHH.out, List.length_append]; have := HI7.out.2.2.2; omega
      rw [← hH] at hO8
      have HR := Off.mk (HI.out S HSS.out.1 HSS.out.2.1 HSS.out.2.2.1)
      rw [← hH] at HR
      have HB8 := Off.mk (HB7.out.trans hb8)
      obtain ⟨A8, k8, rfl, hI8, _⟩ := ownQ_pairs hO8 (by omega)
      have HI8 := Off.mk hI8
      clear hH hO8 hb8 hI8 HHH HI7 HO57 HSS HMEM HSO HI CA CF
      by_cases h3 : H.length < 3
      · have h3' : (H.length : Int) < 3 := by omega
        have HRR : Off (HullIs xs ([], 10)) := ⟨by have := HR.out; unfold hullR at this; rwa [if_pos h3] at this⟩
        go_wp2
        go_ret2
        exact ⟨⟨_, HRR.out, ⟨_, rfl, ownQ_nil _ _ _⟩⟩, HB8.out⟩
      · have h3' : ¬ (H.length : Int) < 3 := by omega
        by_cases h10 : 10 < H.length
        · have h10' : 10 < (H.length : Int) := by omega
          have HRR : Off (HullIs xs ([], 8)) := ⟨by have := HR.out; unfold hullR at this; rwa [if_neg h3, if_pos h10] at this⟩
          go_wp2
          go_ret2
          exact ⟨⟨_, HRR.out, ⟨_, rfl, ownQ_nil _ _ _⟩⟩, HB8.out⟩
        · have h10' : ¬ 10 < (H.length : Int) := by omega
          have HRR : Off (HullIs xs (H, 0)) := ⟨by have := HR.out; unfold hullR at this; rwa [if_neg h3, if_neg h10] at this⟩
          have CBK := Off.mk (fun W (hb : Below w8.heap.size w8 W) => back_any H A8 k8 W (by omega) (HI8.out.below hb))
          go_wp2_with fail
          refine (CBK.out _ (Below.refl _ _)).mono ?_
          rintro e w9 ⟨v9, rfl, hO9, hb9⟩
          have HO9 := Off.mk (ownQ_mono hO9 HB8.out.size)
          have HB9 := Off.mk (belowC HB8.out hb9)
          clear hO9 hb9
          go_wp2
          go_ret2
          exact ⟨⟨_, HRR.out, ⟨_, rfl, HO9.out⟩⟩, HB9.out⟩
end
end Go.Proofs.Ytbpmiphipjkdlaa
