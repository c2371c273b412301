/- Contracts: is one of four numbers far? Contracts: Sheared. -/
import Derived.Test.YtbpmiphipjkdlaaAf
import Derived.Test.YtbpmiphipjkdlaaAt
namespace Go.Proofs.Ytbpmiphipjkdlaa
section
open Go.RowKit Go.Shelf

set_option maxHeartbeats 1000000 in
set_option maxRecDepth 100000 in
theorem index95_any (xs : List Int) (A : Option Addr) (c : Nat) (w : World) (hx : IntsAt w A xs) :
    Calls Try.prog 95 #[.slice A xs.length c, .func (.func 62) #[] #[]] w fun e w' => ∃ r : Int, e = .returned (.int .i64 r) ∧ decide (0 ≤ r) = xs.any farB ∧ Below w.heap.size w w' := by
  have hlen := hx.len
  have hcf : ∀ (args : Array Value) (w : World), (callFunc 62 args).run Try.prog w = .ok (.enter 62 args) w := enters_of Try.func62 (by kernel_rfl) rfl
  have HX := Off.mk hx
  clear hx
  go_enter Try.func95, Try.ntmps95
  go_wp2
  go_loopw [8] (fun i wr => ∃ k : Nat, k ≤ xs.length ∧ i = .int .i64 k ∧ Off (∀ j, j < k → farB (xs.getD j 0) = false) ∧ Off (Below w.heap.size w wr)) (fun i _ => xs.length - (intOf i).toNat)
  case atStart => exact ⟨0, by omega, rfl, ⟨fun j hj => by omega⟩, ⟨Below.refl _ _⟩⟩
  case round =>
    obtain ⟨k, hk, rfl, hno, HB⟩ := hrel
    by_cases hlt : k < xs.length
    · have hki : (k : Int) < (xs.length : Int) := by omega
      obtain ⟨ad, rfl, cA⟩ := (HX.out.below HB.out).cell k hlt
      have CT := Off.mk (fun v hv => far_any (xs.getD k 0) v hv wr)
      have HH : Off (farB (xs.getD k 0) = true → xs.any farB = true) := ⟨fun hv => by
        rw [List.any_eq_true]
        refine ⟨xs[k], List.getElem_mem hlt, ?_⟩
        rw [List.getD_eq_getElem?_getD, List.getElem?_eq_getElem hlt] at hv
        exact hv⟩
      have HE : Off (∀ j, j = k → farB (xs.getD j 0) = farB (xs.getD k 0)) := ⟨fun j e => by rw [e]⟩
      obtain ⟨x, hx⟩ : ∃ x, x = xs.getD k 0 := ⟨_, rfl⟩
      rw [← hx] at cA CT HH HE
      clear hx
      cases hp : farB x
      · have CT' := Off.mk (CT.out false hp)
        have HN : Off (∀ j, j < k + 1 → farB (xs.getD j 0) = false) := ⟨fun j hj => by
          by_cases e : j = k
          · rw [HE.out j e]; exact hp
          · exact hno.out j (by omega)⟩
        clear hp CT HH HE
        go_wp2_with (go_at_fn 62; refine (CT'.out).mono ?_; rintro e w1 ⟨rfl, hb1⟩; subst w1)
        go_roundw
        case rel => exact ⟨k + 1, by omega, by go_num, HN, HB⟩
        case measure => simp only [intOf]; omega
      · have CT' := Off.mk (CT.out true hp)
        have HO := Off.mk (HH.out hp)
        clear hp CT HH HE
        go_wp2_with (go_at_fn 62; refine (CT'.out).mono ?_; rintro e w1 ⟨rfl, hb1⟩; subst w1)
        go_ret
        exact ⟨k, rfl, by rw [HO.out]; simp, HB.out⟩
    · obtain rfl : k = xs.length := by omega
      have HO : Off (xs.any farB = false) := ⟨by
        rw [List.any_eq_false]
        intro y hy
        obtain ⟨j, hj, rfl⟩ := List.getElem_of_mem hy
        have := hno.out j hj
        rw [List.getD_eq_getElem?_getD, List.getElem?_eq_getElem hj] at this
        simpa using this⟩
      go_wp2
      go_ret
      exact ⟨-1, rfl, by rw [HO.out]; rfl, HB.out⟩
theorem contains61_any (xs : List Int) (A : Option Addr) (c : Nat) (v : Bool) (hv : xs.any farB = v) (w : World) (hx : IntsAt w A xs) :
    Calls Try.prog 61 #[.slice A xs.length c, .func (.func 62) #[] #[]] w fun e w' => e = .returned (.bool v) ∧ Below w.heap.size w w' := by
  have CI := Off.mk (index95_any xs A c w hx)
  have HV := Off.mk hv
  clear hx hv
  go_enter Try.func61, Try.ntmps61
  go_wp2_with (go_at_call 95; refine CI.out.mono ?_; rintro e w1 ⟨r, rfl, hr, hb1⟩)
  go_ret
  exact ⟨ret_bool (by rw [← HV.out, ← hr]), hb1⟩
end
section
open Go.RowKit Go.Shelf

/-- A point sheared. -/
def shr (b0 b1 b2 b3 : Int) (p : Int × Int) : Int × Int := (b0 * p.1 + b1 * p.2, b2 * p.1 + b3 * p.2)
/-- Numbers by which nothing is sheared. -/
def shrBad (b0 b1 b2 b3 : Int) : Bool := [b0, b1, b2, b3].any farB || (decide (b0 * b3 - b1 * b2 ≠ 1) && decide (b0 * b3 - b1 * b2 ≠ -1))
def shrOk (xs : PtL) (b0 b1 b2 b3 : Int) : Bool := readP xs && !(shrBad b0 b1 b2 b3) && !((xs.map (shr b0 b1 b2 b3)).any farP)
def shrA (xs : PtL) (b0 b1 b2 b3 : Int) : PtL × Int := if shrOk xs b0 b1 b2 b3 = true then (xs.map (shr b0 b1 b2 b3), 0) else ([], 2)
/-- Points and an error. -/
def PtsRes (w' : World) (base : Nat) (e : Ending) (r : PtL × Int) : Prop := ∃ u, e = .returned (.tuple #[u, .int .i64 r.2]) ∧ OwnQ 34 w' base u r.1
theorem ptsRes_no (w' : World) (base : Nat) : PtsRes w' base (.returned (.tuple #[.slice none 0 0, .int .i64 2])) ([], 2) := ⟨_, rfl, ownQ_nil _ _ _⟩
theorem farB_in {x : Int} (h : farB x = false) : -50 ≤ x ∧ x ≤ 50 := by
  unfold farB at h
  rw [decide_eq_false_iff_not] at h
  omega
/-- The first points of a list, mapped. -/
def mapTo (f : Int × Int → Int × Int) (xs : PtL) (k : Nat) : PtL := (xs.take k).map f
theorem mapTo_len (f : Int × Int → Int × Int) (xs : PtL) (k : Nat) : (mapTo f xs k).length ≤ k := by unfold mapTo; rw [List.length_map, List.length_take]; omega
theorem mapTo_all (f : Int × Int → Int × Int) (xs : PtL) : mapTo f xs xs.length = xs.map f := by unfold mapTo; rw [List.take_length]
theorem map_take_more (f : Int × Int → Int × Int) (xs : PtL) (k : Nat) (h : k < xs.length) : mapTo f xs (k + 1) = mapTo f xs k ++ [((f (xs.getD k (0, 0))).1, (f (xs.getD k (0, 0))).2)] := by
  unfold mapTo
  rw [List.take_succ_eq_append_getElem h, List.map_append, List.getD_eq_getElem?_getD, List.getElem?_eq_getElem h]
  rfl
theorem mul50 {a b : Int} (ha : -50 ≤ a ∧ a ≤ 50) (hb : -50 ≤ b ∧ b ≤ 50) : -2500 ≤ a * b ∧ a * b ≤ 2500 := by
  have := mul_in (a := 50) (b := 50) ha hb (by omega) (by omega)
  omega
set_option maxRecDepth 100000 in
set_option maxHeartbeats 4000000 in
theorem Sheared_any (xs : PtL) (A : Option Addr) (c : Nat) (b0 b1 b2 b3 : Int) (w : World) (hx : PairsI w A xs) :
    Calls Try.prog 35 #[.slice A xs.length c, .agg #[.int .i64 b0, .int .i64 b1, .int .i64 b2, .int .i64 b3]] w fun e w' => PtsRes w' w.heap.size e (shrA xs b0 b1 b2 b3) ∧ Below w.heap.size w w' := by
  obtain ⟨i0, hi, hz0, hz1, hz2⟩ := info_parts info70
  have hbx := belowA (Below.refl _ w) (.cells #[.int .i64 b0, .int .i64 b1, .int .i64 b2, .int .i64 b3] 45)
  have hbq := four_facts (block_new w (.cells #[.int .i64 b0, .int .i64 b1, .int .i64 b2, .int .i64 b3] 45))
  obtain ⟨W0, hW0⟩ : ∃ W, w.alloc (.cells #[.int .i64 b0, .int .i64 b1, .int .i64 b2, .int .i64 b3] 45) = W := ⟨_, rfl⟩
  rw [hW0] at hbx hbq
  obtain ⟨⟨c0, c1, c2, c3⟩, _⟩ := hbq
  cases hv : readP xs with
  | false =>
    have HR : Off (shrA xs b0 b1 b2 b3 = ([], 2)) := ⟨by unfold shrA shrOk; rw [hv]; rfl⟩
    have CR := Off.mk (read_any xs A c W0 false hv (hx.below hbx))
    have HB := Off.mk hbx
    clear hx hbx hv
    go_enter Try.func35, Try.ntmps35
    go_wp2_with fail
    refine CR.out.mono ?_
    rintro e w1 ⟨⟨u, rfl, _, _⟩, hb1⟩
    go_wp2
    refine bodyPost_ret (v := .tuple #[.slice none 0 0, .int .i64 2]) (by simp [results, Try.results35, go_sem]) rfl ⟨by rw [HR.out]; exact ptsRes_no _ _, belowC HB.out hb1⟩
  | true =>
  have CR := Off.mk (read_any xs A c W0 true hv (hx.below hbx))
  have HB := Off.mk hbx
  have HV := Off.mk hv
  have CF := Off.mk (fun v (hv : [b0, b1, b2, b3].any farB = v) W (hb : Below W0.heap.size W0 W) => contains61_any [b0, b1, b2, b3] (some ⟨w.heap.size, 0, none⟩) 4 v hv W ⟨by simp, fun j hj => ⟨_, rfl, by
    match j, hj with
    | 0, _ => exact cellB hb c0
    | 1, _ => exact cellB hb c1
    | 2, _ => exact cellB hb c2
    | 3, _ => exact cellB hb c3⟩⟩)
  clear hx hbx hv
  cases hf : [b0, b1, b2, b3].any farB with
  | true =>
    have HR : Off (shrA xs b0 b1 b2 b3 = ([], 2)) := ⟨by unfold shrA shrOk shrBad; rw [HV.out, hf]; rfl⟩
    have CF' := Off.mk (CF.out true hf)
    clear CF hf
    go_enter Try.func35, Try.ntmps35
    go_wp2_with fail
    refine CR.out.mono ?_
    rintro e w1 ⟨⟨u, rfl, _, _⟩, hb1⟩
    have HB1 := Off.mk hb1
    clear hb1
    go_wp2_with fail
    refine (CF'.out _ HB1.out).mono ?_
    rintro e w2 ⟨rfl, hb2⟩
    go_wp2
    refine bodyPost_ret (v := .tuple #[.slice none 0 0, .int .i64 2]) (by simp [results, Try.results35, go_sem]) rfl ⟨by rw [HR.out]; exact ptsRes_no _ _, belowC (belowC HB.out HB1.out) hb2⟩
  | false =>
  have CF' := Off.mk (CF.out false hf)
  have HF := Off.mk hf
  have hb0 : -50 ≤ b0 ∧ b0 ≤ 50 := farB_in (by simp at hf; exact hf.1)
  have hb1 : -50 ≤ b1 ∧ b1 ≤ 50 := farB_in (by simp at hf; exact hf.2.1)
  have hb2 : -50 ≤ b2 ∧ b2 ≤ 50 := farB_in (by simp at hf; exact hf.2.2.1)
  have hb3 : -50 ≤ b3 ∧ b3 ≤ 50 := farB_in (by simp at hf; exact hf.2.2.2)
  have HH := Off.mk (And.intro hb0 (And.intro hb1 (And.intro hb2 hb3)))
  have p0 := mul50 hb0 hb3
  have p1 := mul50 hb1 hb2
  have W1 : IntKind.i64.wrap (b0 * b3) = b0 * b3 := by rw [IntKind.wrap_i64]; omega
  have W2 : IntKind.i64.wrap (b1 * b2) = b1 * b2 := by rw [IntKind.wrap_i64]; omega
  obtain ⟨d, hd⟩ : ∃ d, d = b0 * b3 - b1 * b2 := ⟨_, rfl⟩
  have W3 : IntKind.i64.wrap (b0 * b3 - b1 * b2) = d := by rw [IntKind.wrap_i64]; omega
  clear CF hf hb0 hb1 hb2 hb3 p0 p1
  by_cases hdd : d ≠ 1 ∧ d ≠ -1
  · have HR : Off (shrA xs b0 b1 b2 b3 = ([], 2)) := ⟨by unfold shrA shrOk shrBad; rw [HV.out, HF.out, ← hd]; simp [hdd.1, hdd.2]⟩
    have g1 : ((d : Int) != 1) = true := by simpa using hdd.1
    have g2 : ((d : Int) != -1) = true := by simpa using hdd.2
    clear hdd hd
    go_enter Try.func35, Try.ntmps35
    go_wp2_with fail
    refine CR.out.mono ?_
    rintro e w1 ⟨⟨u, rfl, _, _⟩, hb1⟩
    have c0 := cellB hb1 c0
    have c1 := cellB hb1 c1
    have c2 := cellB hb1 c2
    have c3 := cellB hb1 c3
    have HB1 := Off.mk hb1
    clear hb1
    go_wp2_with fail
    refine (CF'.out _ HB1.out).mono ?_
    rintro e w2 ⟨rfl, hb2⟩
    have c0 := cellB hb2 c0
    have c1 := cellB hb2 c1
    have c2 := cellB hb2 c2
    have c3 := cellB hb2 c3
    have HB2 := Off.mk (belowC (belowC HB.out HB1.out) hb2)
    clear hb2
    go_wp2
    refine bodyPost_ret (v := .tuple #[.slice none 0 0, .int .i64 2]) (by simp [results, Try.results35, go_sem]) rfl ⟨by rw [HR.out]; exact ptsRes_no _ _, HB2.out⟩
  have hbad : shrBad b0 b1 b2 b3 = false := by
    unfold shrBad
    rw [HF.out, ← hd, Bool.false_or, Bool.and_eq_false_iff]
    rw [decide_eq_false_iff_not, decide_eq_false_iff_not]
    omega
  have HBad := Off.mk hbad
  have hd1 : d = 1 ∨ d = -1 := by omega
  clear hdd hd hbad
  go_enter Try.func35, Try.ntmps35
  go_wp2_with fail
  refine CR.out.mono ?_
  rintro e w1 ⟨⟨u, rfl, h1, _⟩, hb1⟩
  have c0 := cellB hb1 c0
  have c1 := cellB hb1 c1
  have c2 := cellB hb1 c2
  have c3 := cellB hb1 c3
  have HB1 := Off.mk hb1
  obtain ⟨g, cg, rfl, _, hp⟩ := penAt_read HV.out (h1 trivial)
  have HP := Off.mk hp
  have h10 := hp.few
  clear h1 hp hb1
  go_wp2_with fail
  refine (CF'.out _ HB1.out).mono ?_
  rintro e w2 ⟨rfl, hb2⟩
  have c0 := cellB hb2 c0
  have c1 := cellB hb2 c1
  have c2 := cellB hb2 c2
  have c3 := cellB hb2 c3
  have HP := Off.mk (HP.out.below hb2)
  have HB2 := Off.mk (belowC (belowC HB.out HB1.out) hb2)
  clear hb2 HB1 CF' CR
  rcases hd1 with rfl | rfl
  all_goals
    go_wp2_with fail
    go_loopw [9, 43] (fun v kv wr => ∃ k : Nat, k ≤ xs.length ∧ kv = .int .i64 k ∧ Off (OwnQ 70 wr w2.heap.size v (mapTo (shr b0 b1 b2 b3) xs k)) ∧ Off (∀ j, j < k → farP (shr b0 b1 b2 b3 (xs.getD j (0, 0))) = false) ∧ Off (Below w2.heap.size w2 wr)) (fun _ kv _ => xs.length - (intOf kv).toNat)
    case atStart => exact ⟨0, by omega, rfl, ⟨ownQ_nil _ _ _⟩, ⟨fun j hj => by omega⟩, ⟨Below.refl _ _⟩⟩
    case round =>
      obtain ⟨k, hk, rfl, HO, HN', HBr⟩ := hrel
      obtain ⟨wo, hwo⟩ : ∃ wo : World, wo = wr := ⟨_, rfl⟩
      rw [← hwo] at HBr HO ⊢
      clear hwo
      by_cases hlt : k < xs.length
      · have hki : (k : Int) < (xs.length : Int) := by omega
        obtain ⟨cA, cB⟩ := (HP.out.below HBr.out).cell k hlt
        have hxn := HP.out.near k
        have HT := Off.mk (map_take_more (shr b0 b1 b2 b3) xs k hlt)
        have HLn : Off ((mapTo (shr b0 b1 b2 b3) xs k).length ≤ 1000) := ⟨by have := mapTo_len (shr b0 b1 b2 b3) xs k; omega⟩
        have HX : Off (∀ j, j = k → xs.getD j (0, 0) = xs.getD k (0, 0)) := ⟨fun j e => by rw [e]⟩
        have HFar : Off (farP (shr b0 b1 b2 b3 (xs.getD k (0, 0))) = true → shrA xs b0 b1 b2 b3 = ([], 2)) := ⟨fun h => by
          unfold shrA
          rw [if_neg]
          unfold shrOk
          have : (xs.map (shr b0 b1 b2 b3)).any farP = true := by
            rw [List.any_eq_true]
            refine ⟨shr b0 b1 b2 b3 xs[k], List.mem_map_of_mem (List.getElem_mem hlt), ?_⟩
            rw [List.getD_eq_getElem?_getD, List.getElem?_eq_getElem hlt] at h
            exact h
          rw [this]
          simp⟩
        obtain ⟨x, hx⟩ : ∃ x, x = xs.getD k (0, 0) := ⟨_, rfl⟩
        rw [← hx] at cA cB HT HX HFar hxn
        clear hx
        obtain ⟨⟨⟨e1, e2⟩, e3, e4⟩, hh0, hh1, hh2⟩ : (((-50 ≤ x.1 ∧ x.1 ≤ 50) ∧ -50 ≤ x.2 ∧ x.2 ≤ 50)) ∧ (-50 ≤ b0 ∧ b0 ≤ 50) ∧ (-50 ≤ b1 ∧ b1 ≤ 50) ∧ (-50 ≤ b2 ∧ b2 ≤ 50) ∧ (-50 ≤ b3 ∧ b3 ≤ 50) := ⟨by unfold inB at hxn; omega, HH.out⟩
        have q0 := mul50 hh0 ⟨e1, e2⟩
        have q1 := mul50 hh1 ⟨e3, e4⟩
        have q2 := mul50 hh2.1 ⟨e1, e2⟩
        have q3 := mul50 hh2.2 ⟨e3, e4⟩
        have V0 : IntKind.i64.wrap (b0 * x.1) = b0 * x.1 := by rw [IntKind.wrap_i64]; omega
        have V1 : IntKind.i64.wrap (b1 * x.2) = b1 * x.2 := by rw [IntKind.wrap_i64]; omega
        have V2 : IntKind.i64.wrap (b2 * x.1) = b2 * x.1 := by rw [IntKind.wrap_i64]; omega
        have V3 : IntKind.i64.wrap (b3 * x.2) = b3 * x.2 := by rw [IntKind.wrap_i64]; omega
        have V4 : IntKind.i64.wrap (b0 * x.1 + b1 * x.2) = (shr b0 b1 b2 b3 x).1 := by rw [IntKind.wrap_i64]; unfold shr; simp only; omega
        have V5 : IntKind.i64.wrap (b2 * x.1 + b3 * x.2) = (shr b0 b1 b2 b3 x).2 := by rw [IntKind.wrap_i64]; unfold shr; simp only; omega
        obtain ⟨y, hy⟩ : ∃ y, y = shr b0 b1 b2 b3 x := ⟨_, rfl⟩
        rw [← hy] at V4 V5 HT HFar
        have HY : Off (∀ j, j = k → shr b0 b1 b2 b3 (xs.getD j (0, 0)) = y) := ⟨fun j e => by rw [HX.out j e, hy]⟩
        have c0 := cellB HBr.out c0
        have c1 := cellB HBr.out c1
        have c2 := cellB HBr.out c2
        have c3 := cellB HBr.out c3
        clear hy e1 e2 e3 e4 hh0 hh1 hh2 q0 q1 q2 q3 hxn HX
        obtain ⟨wa, hwa⟩ : ∃ W, wo.alloc (.cells #[.int .i64 x.1, .int .i64 x.2] 70) = W := ⟨_, rfl⟩
        have hba : Below wo.heap.size wo wa := by rw [← hwa]; exact belowA (Below.refl _ wo) _
        have hsa : wa.heap.size = wo.heap.size + 1 := by rw [← hwa]; simp
        obtain ⟨⟨x0, x1⟩, _⟩ : (wa.cell? ⟨wo.heap.size, 0, none⟩ = some (.int .i64 x.1) ∧ wa.cell? ⟨wo.heap.size, 1, none⟩ = some (.int .i64 x.2)) ∧ True := ⟨by
          rw [← hwa]
          exact (two_facts (block_new wo (.cells #[.int .i64 x.1, .int .i64 x.2] 70))).1, trivial⟩
        have c0 := cellB hba c0
        have c1 := cellB hba c1
        have c2 := cellB hba c2
        have c3 := cellB hba c3
        obtain ⟨w3, hw3⟩ : ∃ W, wa.alloc (.cells #[.int .i64 y.1, .int .i64 y.2] 70) = W := ⟨_, rfl⟩
        have hb3 : Below wo.heap.size wo w3 := by rw [← hw3]; exact belowA hba _
        have hcy : w3.cell? ⟨wo.heap.size + 1, 0, none⟩ = some (.int .i64 y.1) ∧ w3.cell? ⟨wo.heap.size + 1, 1, none⟩ = some (.int .i64 y.2) := by
          obtain ⟨h, _⟩ := two_facts (block_new wa (.cells #[.int .i64 y.1, .int .i64 y.2] 70))
          rw [hw3, hsa] at h
          exact h
        obtain ⟨y0, y1⟩ := hcy
        have hsz3 : w3.heap.size = wo.heap.size + 2 := by rw [← hw3]; simp [hsa]
        have HB3 := Off.mk (belowC HBr.out hb3)
        have HO3 := Off.mk (ownQ_below HO.out hb3)
        have HS3 := Off.mk hsz3
      
        clear hb3 hsz3 hba
        cases h1 : farB y.1 with
        | true =>
          have C1 := Off.mk (fun W => far_any y.1 true h1 W)
          have HR := Off.mk (HFar.out (by unfold farP; rw [h1]; rfl))
          clear h1 HFar HT
          go_wp2_with fail
          refine (C1.out _).mono ?_
          rintro e w4 ⟨rfl, hw4⟩
          subst w4
          go_wp2
          refine bodyPost_ret (v := .tuple #[.slice none 0 0, .int .i64 2]) (by simp [results, Try.results35, go_sem]) rfl ⟨by rw [HR.out]; exact ptsRes_no _ _, belowC HB2.out HB3.out⟩
        | false =>
          have C1 := Off.mk (fun W => far_any y.1 false h1 W)
          cases h2 : farB y.2 with
          | true =>
            have C2 := Off.mk (fun W => far_any y.2 true h2 W)
            have HR := Off.mk (HFar.out (by unfold farP; rw [h2, Bool.or_true]))
            clear h1 h2 HFar HT
            go_wp2_with fail
            refine (C1.out _).mono ?_
            rintro e w4 ⟨rfl, hw4⟩
            subst w4
            go_wp2_with fail
            refine (C2.out _).mono ?_
            rintro e w4 ⟨rfl, hw4⟩
            subst w4
            go_wp2
            refine bodyPost_ret (v := .tuple #[.slice none 0 0, .int .i64 2]) (by simp [results, Try.results35, go_sem]) rfl ⟨by rw [HR.out]; exact ptsRes_no _ _, belowC HB2.out HB3.out⟩
          | false =>
            have C2 := Off.mk (fun W => far_any y.2 false h2 W)
            have HNN : Off (∀ j, j < k + 1 → farP (shr b0 b1 b2 b3 (xs.getD j (0, 0))) = false) := ⟨fun j hj => by
              by_cases e : j = k
              · rw [HY.out j e]; unfold farP; rw [h1, h2]; rfl
              · exact HN'.out j (by omega)⟩
            clear h1 h2 HFar
            go_wp2_with fail
            refine (C1.out _).mono ?_
            rintro e w4 ⟨rfl, hw4⟩
            subst w4
            go_wp2_with fail
            refine (C2.out _).mono ?_
            rintro e w4 ⟨rfl, hw4⟩
            subst w4
            go_wp2_with (at_builtin; refine wpList_pair Try.underlying57 hi hz0 hz1 hz2 rfl rfl _ _ rfl w2.heap.size _ _ y.1 y.2 HO3.out HB3.out.size HLn.out rfl (by rw [HS3.out]; rfl) ?_)
            intro v5 w5 hO5 hb5 _
            rw [← HT.out] at hO5
            have HO5 := Off.mk hO5
            have HB5 := Off.mk (HB3.out.trans hb5)
            clear hO5 hb5
            go_wp2
            go_roundw
            case rel => exact ⟨k + 1, by omega, by go_num, HO5, HNN, HB5⟩
            case measure => simp only [intOf]; omega
      · obtain rfl : k = xs.length := by omega
        have HR : Off (shrA xs b0 b1 b2 b3 = (xs.map (shr b0 b1 b2 b3), 0)) := ⟨by
          unfold shrA
          rw [if_pos]
          unfold shrOk
          rw [HV.out, HBad.out]
          have : (xs.map (shr b0 b1 b2 b3)).any farP = false := by
            rw [List.any_eq_false]
            intro y hy
            obtain ⟨x, hx, rfl⟩ := List.mem_map.1 hy
            obtain ⟨j, hj, rfl⟩ := List.getElem_of_mem hx
            have := HN'.out j hj
            rw [List.getD_eq_getElem?_getD, List.getElem?_eq_getElem hj] at this
            simpa using this
          rw [this]
          rfl⟩
        have hO := HO.out
        rw [mapTo_all] at hO
        obtain ⟨A1, c1', rfl, hI1, _⟩ := ownQ_pairs hO (by rw [List.length_map]; omega)
        have CB := Off.mk (back_any _ A1 c1' wo (by rw [List.length_map]; omega) hI1)
        rw [List.length_map] at CB ⊢
        clear hO hI1 HO
        go_wp2_with fail
        refine CB.out.mono ?_
        rintro e w6 ⟨u, rfl, hO6, hb6⟩
        have HO6 := Off.mk hO6
        have HB6 := Off.mk (belowC (belowC HB2.out HBr.out) hb6)
        have HSz : Off (w.heap.size ≤ wo.heap.size) := ⟨(belowC HB2.out HBr.out).size⟩
        clear hO6 hb6
        go_wp2
        refine bodyPost_ret (v := .tuple #[u, .int .i64 0]) (by simp [results, Try.results35, go_sem]) rfl ⟨by rw [HR.out]; exact ⟨u, rfl, ownQ_mono HO6.out HSz.out⟩, HB6.out⟩
end
end Go.Proofs.Ytbpmiphipjkdlaa
