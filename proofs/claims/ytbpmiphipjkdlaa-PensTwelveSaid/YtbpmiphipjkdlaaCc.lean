/- Contracts of the specification: Sheared. The walk of PensOpposites. Plain: strictly convex pens; a point on the line of a side, off the border, is outside. Plain: where there is an opposite pen, no side's line goes through the middle; the walk of PensOpposites. -/
import Derived.Test.YtbpmiphipjkdlaaBs
import Derived.Test.YtbpmiphipjkdlaaBi
import Derived.Test.YtbpmiphipjkdlaaBz
import Derived.Test.YtbpmiphipjkdlaaBa
import Derived.Test.YtbpmiphipjkdlaaBu
namespace Go.Proofs.Ytbpmiphipjkdlaa
section
open Go.RowKit Go.Shelf

theorem one_blockT (t : TypeId) {n : Nat} {w0 w : World} {A : Nat} {x y : Value} (p : Int × Int) (hb : Below n w0 w) (hA : n ≤ A) (bA : w.heap[A]? = some (.cells #[x, y] t (0, 0))) :
    ((w.setCell ⟨A, 0, none⟩ (.int .i64 p.1)).setCell ⟨A, 1, none⟩ (.int .i64 p.2)).heap[A]? = some (.cells #[.int .i64 p.1, .int .i64 p.2] t (0, 0)) ∧
    Below n w0 ((w.setCell ⟨A, 0, none⟩ (.int .i64 p.1)).setCell ⟨A, 1, none⟩ (.int .i64 p.2)) :=
  ⟨heap_setCell_same _ A 1 _ _ _ (heap_setCell_same w A 0 _ _ _ bA), (hb.setCell (p := ⟨A, 0, none⟩) hA _).setCell (p := ⟨A, 1, none⟩) hA _⟩
set_option maxRecDepth 100000 in
set_option maxHeartbeats 8000000 in
theorem ShearedR_any (xs : PtL) (A : Option Addr) (c : Nat) (b0 b1 b2 b3 : Int) (w : World) (hx : PairsI w A xs) :
    Calls Try.prog 36 #[.slice A xs.length c, .agg #[.int .i64 b0, .int .i64 b1, .int .i64 b2, .int .i64 b3]] w fun e w' => PtsRes w' w.heap.size e (shrA xs b0 b1 b2 b3) ∧ Below w.heap.size w w' := by
  obtain ⟨i0, hi, hz0, hz1, hz2⟩ := info_parts info34
  have hbx := belowA (Below.refl _ w) (.cells #[.int .i64 b0, .int .i64 b1, .int .i64 b2, .int .i64 b3] 45)
  have hbq := four_facts (block_new w (.cells #[.int .i64 b0, .int .i64 b1, .int .i64 b2, .int .i64 b3] 45))
  obtain ⟨W0, hW0⟩ : ∃ W, w.alloc (.cells #[.int .i64 b0, .int .i64 b1, .int .i64 b2, .int .i64 b3] 45) = W := ⟨_, rfl⟩
  rw [hW0] at hbx hbq
  obtain ⟨⟨c0, c1, c2, c3⟩, _⟩ := hbq
  have HB := Off.mk hbx
  cases hv : readP xs with
  | false =>
    have HR : Off (shrA xs b0 b1 b2 b3 = ([], 2)) := ⟨by unfold shrA shrOk; rw [hv]; rfl⟩
    have CR := Off.mk (isPenR_read xs A c W0 false hv (hx.below hbx))
    clear hx hbx hv
    go_enter Try.func36, Try.ntmps36
    go_wp2_with fail
    refine CR.out.mono ?_
    rintro e w1 ⟨rfl, hb1⟩
    go_wp2
    refine bodyPost_ret (v := .tuple #[.slice none 0 0, .int .i64 2]) (by simp [results, Try.results36, go_sem]) rfl ⟨by rw [HR.out]; exact ptsRes_no _ _, belowC HB.out hb1⟩
  | true =>
  have CR := Off.mk (isPenR_read xs A c W0 true hv (hx.below hbx))
  have HX := Off.mk (hx.below hbx)
  have HV := Off.mk hv
  obtain ⟨hn, h3, h10⟩ := near_all hv
  have HNear := Off.mk hn
  clear hx hbx hv hn
  go_enter Try.func36, Try.ntmps36
  go_wp2_with fail
  refine CR.out.mono ?_
  rintro e w1 ⟨rfl, hb1⟩
  have c0 := cellB hb1 c0
  have c1 := cellB hb1 c1
  have c2 := cellB hb1 c2
  have c3 := cellB hb1 c3
  have HB1 := Off.mk hb1
  clear hb1 CR hW0
  go_wp2_with fail
  go_loopw [6] (fun kv wr => ∃ k : Nat, k ≤ 4 ∧ kv = .int .i64 k ∧ Off (∀ j, j < k → farB ([b0, b1, b2, b3].getD j 0) = false) ∧ Off (Below w1.heap.size w1 wr)) (fun kv _ => 4 - (intOf kv).toNat)
  case atStart => exact ⟨0, by omega, rfl, ⟨fun j hj => by omega⟩, ⟨Below.refl _ _⟩⟩
  case round =>
    obtain ⟨k, hk, rfl, HF, HB2⟩ := hrel
    have c0 := cellB HB2.out c0
    have c1 := cellB HB2.out c1
    have c2 := cellB HB2.out c2
    have c3 := cellB HB2.out c3
    by_cases hlt : k < 4
    · have hki : (k : Int) < 4 := by omega
      have HFar : Off (farB ([b0, b1, b2, b3].getD k 0) = true → shrA xs b0 b1 b2 b3 = ([], 2)) := ⟨fun h => by
        have : [b0, b1, b2, b3].any farB = true := by
          rw [List.any_eq_true]
          refine ⟨[b0, b1, b2, b3].getD k 0, ?_, h⟩
          rw [List.getD_eq_getElem?_getD, List.getElem?_eq_getElem (by simpa using hlt)]
          exact List.getElem_mem _
        unfold shrA shrOk shrBad
        rw [this]
        simp⟩
      have HHB := Off.mk (Below.trans HB.out (Below.mono (HB1.out.trans (HB2.out.mono HB1.out.size)) HB.out.size))
      have HS : Off (∀ x, [b0, b1, b2, b3].getD k 0 = x → farB x = false → ∀ j, j < k + 1 → farB ([b0, b1, b2, b3].getD j 0) = false) := ⟨fun x e hx j hj => by
        by_cases hjk : j = k
        · rw [hjk, e]; exact hx
        · exact HF.out j (by omega)⟩
      obtain rfl | rfl | rfl | rfl : k = 0 ∨ k = 1 ∨ k = 2 ∨ k = 3 := by omega
      · have HS := Off.mk (HS.out b0 rfl)
        have hFar := HFar.out
        rw [show [b0, b1, b2, b3].getD 0 0 = b0 from rfl] at hFar
        clear HFar
        by_cases g1 : b0 < -50
        · have HR := Off.mk (hFar (by unfold farB; exact decide_eq_true (.inl g1)))
          have d1 := decide_eq_true g1
          clear hFar HS HF
          go_wp2
          refine bodyPost_ret (v := .tuple #[.slice none 0 0, .int .i64 2]) (by simp [results, Try.results36, go_sem]) rfl ⟨by rw [HR.out]; exact ptsRes_no _ _, HHB.out⟩
        by_cases g2 : 50 < b0
        · have HR := Off.mk (hFar (by unfold farB; exact decide_eq_true (.inr g2)))
          have d1 := decide_eq_false g1
          have d2 := decide_eq_true g2
          clear hFar HS HF
          go_wp2
          refine bodyPost_ret (v := .tuple #[.slice none 0 0, .int .i64 2]) (by simp [results, Try.results36, go_sem]) rfl ⟨by rw [HR.out]; exact ptsRes_no _ _, HHB.out⟩
        have HS := Off.mk (HS.out (by unfold farB; exact decide_eq_false (by omega)))
        have d1 := decide_eq_false g1
        have d2 := decide_eq_false g2
        clear hFar HF
        go_wp2
        go_roundw
        case rel => exact ⟨1, by omega, rfl, HS, HB2⟩
        case measure => simp [intOf]
      · have HS := Off.mk (HS.out b1 rfl)
        have hFar := HFar.out
        rw [show [b0, b1, b2, b3].getD 1 0 = b1 from rfl] at hFar
        clear HFar
        by_cases g1 : b1 < -50
        · have HR := Off.mk (hFar (by unfold farB; exact decide_eq_true (.inl g1)))
          have d1 := decide_eq_true g1
          clear hFar HS HF
          go_wp2
          refine bodyPost_ret (v := .tuple #[.slice none 0 0, .int .i64 2]) (by simp [results, Try.results36, go_sem]) rfl ⟨by rw [HR.out]; exact ptsRes_no _ _, HHB.out⟩
        by_cases g2 : 50 < b1
        · have HR := Off.mk (hFar (by unfold farB; exact decide_eq_true (.inr g2)))
          have d1 := decide_eq_false g1
          have d2 := decide_eq_true g2
          clear hFar HS HF
          go_wp2
          refine bodyPost_ret (v := .tuple #[.slice none 0 0, .int .i64 2]) (by simp [results, Try.results36, go_sem]) rfl ⟨by rw [HR.out]; exact ptsRes_no _ _, HHB.out⟩
        have HS := Off.mk (HS.out (by unfold farB; exact decide_eq_false (by omega)))
        have d1 := decide_eq_false g1
        have d2 := decide_eq_false g2
        clear hFar HF
        go_wp2
        go_roundw
        case rel => exact ⟨2, by omega, rfl, HS, HB2⟩
        case measure => simp [intOf]
      · have HS := Off.mk (HS.out b2 rfl)
        have hFar := HFar.out
        rw [show [b0, b1, b2, b3].getD 2 0 = b2 from rfl] at hFar
        clear HFar
        by_cases g1 : b2 < -50
        · have HR := Off.mk (hFar (by unfold farB; exact decide_eq_true (.inl g1)))
          have d1 := decide_eq_true g1
          clear hFar HS HF
          go_wp2
          refine bodyPost_ret (v := .tuple #[.slice none 0 0, .int .i64 2]) (by simp [results, Try.results36, go_sem]) rfl ⟨by rw [HR.out]; exact ptsRes_no _ _, HHB.out⟩
        by_cases g2 : 50 < b2
        · have HR := Off.mk (hFar (by unfold farB; exact decide_eq_true (.inr g2)))
          have d1 := decide_eq_false g1
          have d2 := decide_eq_true g2
          clear hFar HS HF
          go_wp2
          refine bodyPost_ret (v := .tuple #[.slice none 0 0, .int .i64 2]) (by simp [results, Try.results36, go_sem]) rfl ⟨by rw [HR.out]; exact ptsRes_no _ _, HHB.out⟩
        have HS := Off.mk (HS.out (by unfold farB; exact decide_eq_false (by omega)))
        have d1 := decide_eq_false g1
        have d2 := decide_eq_false g2
        clear hFar HF
        go_wp2
        go_roundw
        case rel => exact ⟨3, by omega, rfl, HS, HB2⟩
        case measure => simp [intOf]
      · have HS := Off.mk (HS.out b3 rfl)
        have hFar := HFar.out
        rw [show [b0, b1, b2, b3].getD 3 0 = b3 from rfl] at hFar
        clear HFar
        by_cases g1 : b3 < -50
        · have HR := Off.mk (hFar (by unfold farB; exact decide_eq_true (.inl g1)))
          have d1 := decide_eq_true g1
          clear hFar HS HF
          go_wp2
          refine bodyPost_ret (v := .tuple #[.slice none 0 0, .int .i64 2]) (by simp [results, Try.results36, go_sem]) rfl ⟨by rw [HR.out]; exact ptsRes_no _ _, HHB.out⟩
        by_cases g2 : 50 < b3
        · have HR := Off.mk (hFar (by unfold farB; exact decide_eq_true (.inr g2)))
          have d1 := decide_eq_false g1
          have d2 := decide_eq_true g2
          clear hFar HS HF
          go_wp2
          refine bodyPost_ret (v := .tuple #[.slice none 0 0, .int .i64 2]) (by simp [results, Try.results36, go_sem]) rfl ⟨by rw [HR.out]; exact ptsRes_no _ _, HHB.out⟩
        have HS := Off.mk (HS.out (by unfold farB; exact decide_eq_false (by omega)))
        have d1 := decide_eq_false g1
        have d2 := decide_eq_false g2
        clear hFar HF
        go_wp2
        go_roundw
        case rel => exact ⟨4, by omega, rfl, HS, HB2⟩
        case measure => simp [intOf]
    · have hk4 : (k : Int) = 4 := by omega
      rw [hk4]
      have hfb : [b0, b1, b2, b3].any farB = false := by
        have f0 := HF.out 0 (by omega)
        have f1 := HF.out 1 (by omega)
        have f2 := HF.out 2 (by omega)
        have f3 := HF.out 3 (by omega)
        simp only [List.getD_cons_zero, List.getD_cons_succ] at f0 f1 f2 f3
        simp [f0, f1, f2, f3]
      have HFb := Off.mk hfb
      have hb0 : -50 ≤ b0 ∧ b0 ≤ 50 := farB_in (by simp at hfb; exact hfb.1)
      have hb1 : -50 ≤ b1 ∧ b1 ≤ 50 := farB_in (by simp at hfb; exact hfb.2.1)
      have hb2 : -50 ≤ b2 ∧ b2 ≤ 50 := farB_in (by simp at hfb; exact hfb.2.2.1)
      have hb3 : -50 ≤ b3 ∧ b3 ≤ 50 := farB_in (by simp at hfb; exact hfb.2.2.2)
      have HH := Off.mk (And.intro hb0 (And.intro hb1 (And.intro hb2 hb3)))
      have p0 := mul50 hb0 hb3
      have p1 := mul50 hb1 hb2
      have W1 : IntKind.i64.wrap (b0 * b3) = b0 * b3 := by rw [IntKind.wrap_i64]; omega
      have W2 : IntKind.i64.wrap (b1 * b2) = b1 * b2 := by rw [IntKind.wrap_i64]; omega
      obtain ⟨d, hd⟩ : ∃ d, d = b0 * b3 - b1 * b2 := ⟨_, rfl⟩
      have W3 : IntKind.i64.wrap (b0 * b3 - b1 * b2) = d := by rw [IntKind.wrap_i64]; omega
      have HHB := Off.mk (HB.out.trans ((HB1.out.trans (HB2.out.mono HB1.out.size)).mono HB.out.size))
      clear hfb hb0 hb1 hb2 hb3 p0 p1 HF
      by_cases hdd : d ≠ 1 ∧ d ≠ -1
      · have HR : Off (shrA xs b0 b1 b2 b3 = ([], 2)) := ⟨by unfold shrA shrOk shrBad; rw [HV.out, HFb.out, ← hd]; simp [hdd.1, hdd.2]⟩
        have g1 : ((d : Int) != 1) = true := by simpa using hdd.1
        have g2 : ((d : Int) != -1) = true := by simpa using hdd.2
        clear hdd hd
        go_wp2
        refine bodyPost_ret (v := .tuple #[.slice none 0 0, .int .i64 2]) (by simp [results, Try.results36, go_sem]) rfl ⟨by rw [HR.out]; exact ptsRes_no _ _, HHB.out⟩
      have hbad : shrBad b0 b1 b2 b3 = false := by
        unfold shrBad
        rw [HFb.out, ← hd, Bool.false_or, Bool.and_eq_false_iff]
        rw [decide_eq_false_iff_not, decide_eq_false_iff_not]
        omega
      have HBad := Off.mk hbad
      have hd1 : d = 1 ∨ d = -1 := by omega
      have HX := Off.mk (HX.out.below (HB1.out.trans (HB2.out.mono HB1.out.size)))
      clear hdd hd hbad
      obtain ⟨w2, hw2⟩ : ∃ w2 : World, w2 = wr := ⟨_, rfl⟩
      rw [← hw2] at HX HHB c0 c1 c2 c3 ⊢
      clear hw2 HB2
      rcases hd1 with rfl | rfl
      all_goals
        go_wp2_with fail
        go_loopw [8, 9] (fun v kv wr => ∃ k : Nat, k ≤ xs.length ∧ kv = .int .i64 k ∧ Off (OwnQ 34 wr w2.heap.size v (mapTo (shr b0 b1 b2 b3) xs k)) ∧ Off (∀ j, j < k → farP (shr b0 b1 b2 b3 (xs.getD j (0, 0))) = false) ∧ Off (Below w2.heap.size w2 wr)) (fun _ kv _ => xs.length - (intOf kv).toNat)
        case atStart => exact ⟨0, by omega, rfl, ⟨ownQ_nil _ _ _⟩, ⟨fun j hj => by omega⟩, ⟨Below.refl _ _⟩⟩
        case round =>
          obtain ⟨k, hk, rfl, HO, HN', HBr⟩ := hrel
          obtain ⟨wo, hwo⟩ : ∃ wo : World, wo = wr := ⟨_, rfl⟩
          rw [← hwo] at HBr HO ⊢
          clear hwo
          by_cases hlt : k < xs.length
          · have hki : (k : Int) < (xs.length : Int) := by omega
            obtain ⟨ad, rfl, z0, z1⟩ := (HX.out.below HBr.out).cell k hlt
            have hxn := HNear.out k
            have HT := Off.mk (map_take_more (shr b0 b1 b2 b3) xs k hlt)
            have HLn : Off ((mapTo (shr b0 b1 b2 b3) xs k).length ≤ 1000) := ⟨by have := mapTo_len (shr b0 b1 b2 b3) xs k; omega⟩
            have HXk : Off (∀ j, j = k → xs.getD j (0, 0) = xs.getD k (0, 0)) := ⟨fun j e => by rw [e]⟩
            have HFar : Off (farP (shr b0 b1 b2 b3 (xs.getD k (0, 0))) = true → shrA xs b0 b1 b2 b3 = ([], 2)) := ⟨fun h => by
              unfold shrA
              rw [if_neg]
              unfold shrOk
              have : (xs.map (shr b0 b1 b2 b3)).any farP = true := by
                rw [List.any_eq_true]
                refine ⟨shr b0 b1 b2 b3 xs[k], List.mem_map_of_mem (List.getElem_mem hlt), ?_⟩
                rw [List.getD_eq_getElem?_getD, List.getElem?_eq_getElem hlt] at h
                exact h
              rw [this]
              simp⟩
            obtain ⟨z, hz⟩ : ∃ z, z = xs.getD k (0, 0) := ⟨_, rfl⟩
            rw [← hz] at z0 z1 HT HXk HFar hxn
            clear hz
            obtain ⟨⟨⟨e1, e2⟩, e3, e4⟩, hh0, hh1, hh2⟩ : (((-50 ≤ z.1 ∧ z.1 ≤ 50) ∧ -50 ≤ z.2 ∧ z.2 ≤ 50)) ∧ (-50 ≤ b0 ∧ b0 ≤ 50) ∧ (-50 ≤ b1 ∧ b1 ≤ 50) ∧ (-50 ≤ b2 ∧ b2 ≤ 50) ∧ (-50 ≤ b3 ∧ b3 ≤ 50) := ⟨by unfold inB at hxn; omega, HH.out⟩
            have q0 := mul50 hh0 ⟨e1, e2⟩
            have q1 := mul50 hh1 ⟨e3, e4⟩
            have q2 := mul50 hh2.1 ⟨e1, e2⟩
            have q3 := mul50 hh2.2 ⟨e3, e4⟩
            have V0 : IntKind.i64.wrap (b0 * z.1) = b0 * z.1 := by rw [IntKind.wrap_i64]; omega
            have V1 : IntKind.i64.wrap (b1 * z.2) = b1 * z.2 := by rw [IntKind.wrap_i64]; omega
            have V2 : IntKind.i64.wrap (b2 * z.1) = b2 * z.1 := by rw [IntKind.wrap_i64]; omega
            have V3 : IntKind.i64.wrap (b3 * z.2) = b3 * z.2 := by rw [IntKind.wrap_i64]; omega
            have V4 : IntKind.i64.wrap (b0 * z.1 + b1 * z.2) = (shr b0 b1 b2 b3 z).1 := by rw [IntKind.wrap_i64]; unfold shr; simp only; omega
            have V5 : IntKind.i64.wrap (b2 * z.1 + b3 * z.2) = (shr b0 b1 b2 b3 z).2 := by rw [IntKind.wrap_i64]; unfold shr; simp only; omega
            obtain ⟨y, hy⟩ : ∃ y, y = shr b0 b1 b2 b3 z := ⟨_, rfl⟩
            rw [← hy] at V4 V5 HT HFar
            have HY : Off (∀ j, j = k → shr b0 b1 b2 b3 (xs.getD j (0, 0)) = y) := ⟨fun j e => by rw [HXk.out j e, hy]⟩
            have c0 := cellB HBr.out c0
            have c1 := cellB HBr.out c1
            have c2 := cellB HBr.out c2
            have c3 := cellB HBr.out c3
            clear hy e1 e2 e3 e4 hh0 hh1 hh2 q0 q1 q2 q3 hxn HXk
            have keepS : ∀ v : World, Below wo.heap.size wo v → (fun w' => ((w'.cell? ⟨w.heap.size, 0, none⟩ = some (.int .i64 b0) ∧ w'.cell? ⟨w.heap.size, 1, none⟩ = some (.int .i64 b1)) ∧ w'.cell? ⟨w.heap.size, 2, none⟩ = some (.int .i64 b2) ∧ w'.cell? ⟨w.heap.size, 3, none⟩ = some (.int .i64 b3)) ∧ w'.cell? (ad.add (k * 2)) = some (.int .i64 z.1) ∧ w'.cell? ⟨(ad.add (k * 2)).block, (ad.add (k * 2)).off + 1, none⟩ = some (.int .i64 z.2)) v := fun v hb => ⟨⟨⟨cellB hb c0, cellB hb c1⟩, cellB hb c2, cellB hb c3⟩, cellB hb z0, cellB hb z1⟩
            have HO0 := Off.mk HO.out
            go_wp2_with fail
            refine wp_region_held_drew (S := (fun w' => ((w'.cell? ⟨w.heap.size, 0, none⟩ = some (.int .i64 b0) ∧ w'.cell? ⟨w.heap.size, 1, none⟩ = some (.int .i64 b1)) ∧ w'.cell? ⟨w.heap.size, 2, none⟩ = some (.int .i64 b2) ∧ w'.cell? ⟨w.heap.size, 3, none⟩ = some (.int .i64 b3)) ∧ w'.cell? (ad.add (k * 2)) = some (.int .i64 z.1) ∧ w'.cell? ⟨(ad.add (k * 2)).block, (ad.add (k * 2)).off + 1, none⟩ = some (.int .i64 z.2))) (by kernel_rfl) ⟨⟨⟨c0, c1⟩, c2, c3⟩, z0, z1⟩ (fun hHeld => ?_)
            refine wpAnyH_take (i := 0) (oi := ⟨some 51, _, _, _, _, _⟩) (v := ?_) rfl (by kernel_rfl) (by kernel_rfl) (by kernel_rfl) (fun _ _ _ h => h) (Or.inl ⟨by rfl, by intro w hSw; (try dsimp only at hSw); go_simp; try with_reducible rfl⟩) hHeld ?_
            try simp only [Act.put, List.setIfInBounds_toArray, List.set_cons_zero, List.set_cons_succ]
            refine wpAnyH_take (i := 1) (oi := ⟨some 52, _, _, _, _, _⟩) (v := ?_) rfl (by kernel_rfl) (by kernel_rfl) (by kernel_rfl) (fun _ _ _ h => h) (Or.inl ⟨by rfl, by intro w hSw; (try dsimp only at hSw); go_simp; try with_reducible rfl⟩) hHeld ?_
            try simp only [Act.put, List.setIfInBounds_toArray, List.set_cons_zero, List.set_cons_succ]
            refine wpAnyH_take (i := 2) (oi := ⟨some 53, _, _, _, _, _⟩) (v := ?_) rfl (by kernel_rfl) (by kernel_rfl) (by kernel_rfl) (fun _ _ _ h => h) (Or.inl ⟨by rfl, by intro w hSw; (try dsimp only at hSw); go_simp; try with_reducible rfl⟩) hHeld ?_
            try simp only [Act.put, List.setIfInBounds_toArray, List.set_cons_zero, List.set_cons_succ]
            refine wpAnyH_take (i := 3) (oi := ⟨some 54, _, _, _, _, _⟩) (v := ?_) rfl (by kernel_rfl) (by kernel_rfl) (by kernel_rfl) (fun _ _ _ h => h) (Or.inl ⟨by rfl, by intro w hSw; (try dsimp only at hSw); go_simp; try with_reducible rfl⟩) hHeld ?_
            try simp only [Act.put, List.setIfInBounds_toArray, List.set_cons_zero, List.set_cons_succ]
            refine wpAnyH_take (i := 4) (oi := ⟨some 55, _, _, _, _, _⟩) (v := ?_) rfl (by kernel_rfl) (by kernel_rfl) (by kernel_rfl) (fun _ _ _ h => h) (Or.inl ⟨by rfl, by intro w hSw; (try dsimp only at hSw); go_simp; try with_reducible rfl⟩) hHeld ?_
            try simp only [Act.put, List.setIfInBounds_toArray, List.set_cons_zero, List.set_cons_succ]
            refine wpAnyH_take (i := 5) (oi := ⟨some 56, _, _, _, _, _⟩) (v := ?_) rfl (by kernel_rfl) (by kernel_rfl) (by kernel_rfl) (fun _ _ _ h => h) (Or.inl ⟨by rfl, by intro w hSw; (try dsimp only at hSw); go_simp; try with_reducible rfl⟩) hHeld ?_
            try simp only [Act.put, List.setIfInBounds_toArray, List.set_cons_zero, List.set_cons_succ]
            refine wpAnyH_take (i := 6) (oi := ⟨some 57, _, _, _, _, _⟩) (v := ?_) rfl (by kernel_rfl) (by kernel_rfl) (by kernel_rfl) (fun _ _ _ h => h) (Or.inl ⟨by rfl, by intro w hSw; (try dsimp only at hSw); go_simp; try with_reducible rfl⟩) hHeld ?_
            try simp only [Act.put, List.setIfInBounds_toArray, List.set_cons_zero, List.set_cons_succ]
            refine wpAnyH_take (i := 7) (oi := ⟨some 58, _, _, _, _, _⟩) (v := ?_) rfl (by kernel_rfl) (by kernel_rfl) (by kernel_rfl) (fun _ _ _ h => h) (Or.inl ⟨by rfl, by intro w hSw; (try dsimp only at hSw); go_simp; try with_reducible rfl⟩) hHeld ?_
            try simp only [Act.put, List.setIfInBounds_toArray, List.set_cons_zero, List.set_cons_succ]
            refine wpAnyH_take (i := 8) (oi := ⟨some 59, _, _, _, _, _⟩) (v := ?_) rfl (by kernel_rfl) (by kernel_rfl) (by kernel_rfl) (fun _ _ _ h => h) (Or.inl ⟨by rfl, by intro w hSw; (try dsimp only at hSw); go_simp; try with_reducible rfl⟩) hHeld ?_
            try simp only [Act.put, List.setIfInBounds_toArray, List.set_cons_zero, List.set_cons_succ]
            refine wpAnyH_take (i := 9) (oi := ⟨some 60, _, _, _, _, _⟩) (v := ?_) rfl (by kernel_rfl) (by kernel_rfl) (by kernel_rfl) (fun _ _ _ h => h) (Or.inl ⟨by rfl, by intro w hSw; (try dsimp only at hSw); go_simp; try with_reducible rfl⟩) hHeld ?_
            try simp only [Act.put, List.setIfInBounds_toArray, List.set_cons_zero, List.set_cons_succ]
            refine wpAnyH_take (i := 10) (oi := ⟨some 61, _, _, _, _, _⟩) (v := ?_) rfl (by kernel_rfl) (by kernel_rfl) (by kernel_rfl) (fun _ _ _ h => h) (Or.inl ⟨by rfl, by intro w hSw; (try dsimp only at hSw); go_simp; try with_reducible rfl⟩) hHeld ?_
            try simp only [Act.put, List.setIfInBounds_toArray, List.set_cons_zero, List.set_cons_succ]
            refine wpAnyH_take (i := 11) (oi := ⟨some 62, _, _, _, _, _⟩) (v := ?_) rfl (by kernel_rfl) (by kernel_rfl) (by kernel_rfl) (fun _ _ _ h => h) (Or.inl ⟨by rfl, by intro w hSw; (try dsimp only at hSw); go_simp; try with_reducible rfl⟩) hHeld ?_
            try simp only [Act.put, List.setIfInBounds_toArray, List.set_cons_zero, List.set_cons_succ]
            refine wpAnyH_take (i := 12) (oi := ⟨some 63, _, _, _, _, _⟩) (v := ?_) rfl (by kernel_rfl) (by kernel_rfl) (by kernel_rfl) (fun _ _ _ h => h) (Or.inl ⟨by rfl, by intro w hSw; (try dsimp only at hSw); go_simp; try with_reducible rfl⟩) hHeld ?_
            try simp only [Act.put, List.setIfInBounds_toArray, List.set_cons_zero, List.set_cons_succ]
            refine wpAnyH_take (i := 13) (oi := ⟨some 64, _, _, _, _, _⟩) (v := ?_) rfl (by kernel_rfl) (by kernel_rfl) (by kernel_rfl) (fun _ _ _ h => h) (Or.inl ⟨by rfl, by intro w hSw; (try dsimp only at hSw); go_simp; try with_reducible rfl⟩) hHeld ?_
            try simp only [Act.put, List.setIfInBounds_toArray, List.set_cons_zero, List.set_cons_succ]
            refine wpAnyH_take (i := 14) (oi := ⟨some 65, _, _, _, _, _⟩) (v := ?_) rfl (by kernel_rfl) (by kernel_rfl) (by kernel_rfl) (fun _ _ _ h => h) (Or.inl ⟨by rfl, by intro w hSw; (try dsimp only at hSw); go_simp; try with_reducible rfl⟩) hHeld ?_
            try simp only [Act.put, List.setIfInBounds_toArray, List.set_cons_zero, List.set_cons_succ]
            refine wpAnyH_take (i := 15) (oi := ⟨some 66, _, _, _, _, _⟩) (v := ?_) rfl (by kernel_rfl) (by kernel_rfl) (by kernel_rfl) (fun _ _ _ h => h) (Or.inl ⟨by rfl, by intro w hSw; (try dsimp only at hSw); go_simp; try with_reducible rfl⟩) hHeld ?_
            try simp only [Act.put, List.setIfInBounds_toArray, List.set_cons_zero, List.set_cons_succ]
            refine wpAnyH_take (i := 16) (oi := ⟨some 67, _, _, _, _, _⟩) (v := ?_) rfl (by kernel_rfl) (by kernel_rfl) (by kernel_rfl) (fun _ _ _ h => h) (Or.inl ⟨by rfl, by intro w hSw; (try dsimp only at hSw); go_simp; try with_reducible rfl⟩) hHeld ?_
            try simp only [Act.put, List.setIfInBounds_toArray, List.set_cons_zero, List.set_cons_succ]
            refine wpAnyH_take (i := 17) (oi := ⟨some 68, _, _, _, _, _⟩) (v := ?_) rfl (by kernel_rfl) (by kernel_rfl) (by kernel_rfl) (fun _ _ _ h => h) (Or.inl ⟨by rfl, by intro w hSw; (try dsimp only at hSw); go_simp; try with_reducible rfl⟩) hHeld ?_
            try simp only [Act.put, List.setIfInBounds_toArray, List.set_cons_zero, List.set_cons_succ]
            refine wpAnyH_take (i := 18) (oi := ⟨some 69, _, _, _, _, _⟩) (v := ?_) rfl (by kernel_rfl) (by kernel_rfl) (by kernel_rfl) (fun _ _ _ h => h) (Or.inl ⟨by rfl, by intro w hSw; (try dsimp only at hSw); go_simp; try with_reducible rfl⟩) hHeld ?_
            try simp only [Act.put, List.setIfInBounds_toArray, List.set_cons_zero, List.set_cons_succ]
            refine wpAnyH_take (i := 19) (oi := ⟨some 70, _, _, _, _, _⟩) (v := ?_) rfl (by kernel_rfl) (by kernel_rfl) (by kernel_rfl) (fun _ _ _ h => h) (Or.inl ⟨by rfl, by intro w hSw; (try dsimp only at hSw); go_simp; try with_reducible rfl⟩) hHeld ?_
            try simp only [Act.put, List.setIfInBounds_toArray, List.set_cons_zero, List.set_cons_succ]
            refine wpAnyH_take (i := 20) (oi := ⟨some 71, _, _, _, _, _⟩) (v := ?_) rfl (by kernel_rfl) (by kernel_rfl) (by kernel_rfl) (fun _ _ _ h => h) (Or.inl ⟨by rfl, by intro w hSw; (try dsimp only at hSw); go_simp; try with_reducible rfl⟩) hHeld ?_
            try simp only [Act.put, List.setIfInBounds_toArray, List.set_cons_zero, List.set_cons_succ]
            refine wpAnyH_take (i := 21) (oi := ⟨some 72, _, _, _, _, _⟩) (v := ?_) rfl (by kernel_rfl) (by kernel_rfl) (by kernel_rfl) (fun _ _ _ h => h) (Or.inl ⟨by rfl, by intro w hSw; (try dsimp only at hSw); go_simp; try with_reducible rfl⟩) hHeld ?_
            try simp only [Act.put, List.setIfInBounds_toArray, List.set_cons_zero, List.set_cons_succ]
            refine wpAnyH_take (i := 22) (oi := ⟨some 73, _, _, _, _, _⟩) (v := ?_) rfl (by kernel_rfl) (by kernel_rfl) (by kernel_rfl) (fun _ _ _ h => h) (Or.inl ⟨by rfl, by intro w hSw; (try dsimp only at hSw); go_simp; try with_reducible rfl⟩) hHeld ?_
            try simp only [Act.put, List.setIfInBounds_toArray, List.set_cons_zero, List.set_cons_succ]
            refine wpAnyH_take (i := 23) (oi := ⟨some 74, _, _, _, _, _⟩) (v := ?_) rfl (by kernel_rfl) (by kernel_rfl) (by kernel_rfl) (fun _ _ _ h => h) (Or.inl ⟨by rfl, by intro w hSw; (try dsimp only at hSw); go_simp; try with_reducible rfl⟩) hHeld ?_
            try simp only [Act.put, List.setIfInBounds_toArray, List.set_cons_zero, List.set_cons_succ]
            refine wpAnyH_take (i := 24) (oi := ⟨some 75, _, _, _, _, _⟩) (v := ?_) rfl (by kernel_rfl) (by kernel_rfl) (by kernel_rfl) (fun _ _ _ h => h) (Or.inl ⟨by rfl, by intro w hSw; (try dsimp only at hSw); go_simp; try with_reducible rfl⟩) hHeld ?_
            try simp only [Act.put, List.setIfInBounds_toArray, List.set_cons_zero, List.set_cons_succ]
            refine wpAnyH_take (i := 25) (oi := ⟨some 76, _, _, _, _, _⟩) (v := ?_) rfl (by kernel_rfl) (by kernel_rfl) (by kernel_rfl) (fun _ _ _ h => h) (Or.inl ⟨by rfl, by intro w hSw; (try dsimp only at hSw); go_simp; try with_reducible rfl⟩) hHeld ?_
            try simp only [Act.put, List.setIfInBounds_toArray, List.set_cons_zero, List.set_cons_succ]
            refine wpAnyH_take (i := 26) (oi := ⟨some 77, _, _, _, _, _⟩) (v := ?_) rfl (by kernel_rfl) (by kernel_rfl) (by kernel_rfl) (fun _ _ _ h => h) (Or.inl ⟨by rfl, by intro w hSw; (try dsimp only at hSw); go_simp; try with_reducible rfl⟩) hHeld ?_
            try simp only [Act.put, List.setIfInBounds_toArray, List.set_cons_zero, List.set_cons_succ]
            refine wpAnyH_take (i := 27) (oi := ⟨some 78, _, _, _, _, _⟩) (v := ?_) rfl (by kernel_rfl) (by kernel_rfl) (by kernel_rfl) (fun _ _ _ h => h) (Or.inl ⟨by rfl, by intro w hSw; (try dsimp only at hSw); go_simp; try with_reducible rfl⟩) hHeld ?_
            try simp only [Act.put, List.setIfInBounds_toArray, List.set_cons_zero, List.set_cons_succ]
            refine wpAnyH_take (i := 28) (oi := ⟨some 79, _, _, _, _, _⟩) (v := ?_) rfl (by kernel_rfl) (by kernel_rfl) (by kernel_rfl) (fun _ _ _ h => h) (Or.inl ⟨by rfl, by intro w hSw; (try dsimp only at hSw); go_simp; try with_reducible rfl⟩) hHeld ?_
            try simp only [Act.put, List.setIfInBounds_toArray, List.set_cons_zero, List.set_cons_succ]
            refine wpAnyH_take (i := 29) (oi := ⟨some 80, _, _, _, _, _⟩) (v := ?_) rfl (by kernel_rfl) (by kernel_rfl) (by kernel_rfl) (fun _ _ _ h => h) (Or.inl ⟨by rfl, by intro w hSw; (try dsimp only at hSw); go_simp; try with_reducible rfl⟩) hHeld ?_
            try simp only [Act.put, List.setIfInBounds_toArray, List.set_cons_zero, List.set_cons_succ]
            refine wpAnyH_take (i := 30) (oi := ⟨some 81, _, _, _, _, _⟩) (v := ?_) rfl (by kernel_rfl) (by kernel_rfl) (by kernel_rfl) (fun _ _ _ h => h) (Or.inl ⟨by rfl, by intro w hSw; (try dsimp only at hSw); go_simp; try with_reducible rfl⟩) hHeld ?_
            try simp only [Act.put, List.setIfInBounds_toArray, List.set_cons_zero, List.set_cons_succ]
            refine wpAnyH_take (i := 31) (oi := ⟨some 82, _, _, _, _, _⟩) (v := ?_) rfl (by kernel_rfl) (by kernel_rfl) (by kernel_rfl) (fun _ _ _ h => h) (Or.inl ⟨by rfl, by intro w hSw; (try dsimp only at hSw); go_simp; try with_reducible rfl⟩) hHeld ?_
            try simp only [Act.put, List.setIfInBounds_toArray, List.set_cons_zero, List.set_cons_succ]
            refine wpAnyH_take (i := 32) (oi := ⟨some 83, _, _, _, _, _⟩) (v := ?_) rfl (by kernel_rfl) (by kernel_rfl) (by kernel_rfl) (fun _ _ _ h => h) (Or.inl ⟨by rfl, by intro w hSw; (try dsimp only at hSw); go_simp; try with_reducible rfl⟩) hHeld ?_
            try simp only [Act.put, List.setIfInBounds_toArray, List.set_cons_zero, List.set_cons_succ]
            refine wpAnyH_take (i := 33) (oi := ⟨some 84, _, _, _, _, _⟩) (v := ?_) rfl (by kernel_rfl) (by kernel_rfl) (by kernel_rfl) (fun _ _ _ h => h) (Or.inl ⟨by rfl, by intro w hSw; (try dsimp only at hSw); go_simp; try with_reducible rfl⟩) hHeld ?_
            try simp only [Act.put, List.setIfInBounds_toArray, List.set_cons_zero, List.set_cons_succ]
            refine wpAnyH_take (i := 34) (oi := ⟨some 85, _, _, _, _, _⟩) (v := ?_) rfl (by kernel_rfl) (by kernel_rfl) (by kernel_rfl) (fun _ _ _ h => h) (Or.inl ⟨by rfl, by intro w hSw; (try dsimp only at hSw); go_simp; try with_reducible rfl⟩) hHeld ?_
            try simp only [Act.put, List.setIfInBounds_toArray, List.set_cons_zero, List.set_cons_succ]
            obtain ⟨V0, hV0⟩ : ∃ V, wo.drew = V := ⟨_, rfl⟩
            have hb0 : Below wo.heap.size wo V0 := by rw [← hV0]; exact (Below.refl _ wo).drew
            rw [hV0] at hHeld ⊢
            clear hV0
            have SS := hHeld
            refine wpAnyH_ready (rs := [35]) (by kernel_rfl) (by simp) ?_
            refine AllReadyH.cons (o := ⟨some 10, _, _, _, _, _⟩) rfl (fun K hK => ?_) AllReadyH.nil
            go_simp
            refine hK.out _ _ (keepS _ (belowA hb0 (.cells #[.int .i64 0, .int .i64 0] 34))) (fun hHeld => ?_)
            clear hK K
            try simp only [Act.put, List.setIfInBounds_toArray, List.set_cons_zero, List.set_cons_succ]
            have hb1 := belowA hb0 (.cells #[.int .i64 0, .int .i64 0] 34)
            have bA := block_new V0 (.cells #[.int .i64 0, .int .i64 0] 34)
            have szA := hb0.size
            obtain ⟨U, hU⟩ : ∃ U, V0.alloc (.cells #[.int .i64 0, .int .i64 0] 34) = U := ⟨_, rfl⟩
            rw [hU] at hb1 bA ⊢
            rw [hU] at hHeld
            clear hU
            obtain ⟨⟨x0, x1⟩, y0, y1⟩ := two_facts bA
            refine wpAnyH_ready (rs := [36]) (by kernel_rfl) (by simp) ?_
            refine AllReadyH.cons (o := ⟨none, _, _, _, _, _⟩) rfl (fun K hK => ?_) AllReadyH.nil
            go_simp
            refine hK.out _ _ (keepS _ (((hb1.setCell (p := ⟨V0.heap.size, 0, none⟩) szA _).setCell (p := ⟨V0.heap.size, 1, none⟩) szA _))) (fun hHeld => ?_)
            clear hK K
            try simp only [Act.put, List.setIfInBounds_toArray, List.set_cons_zero, List.set_cons_succ]
            refine wpAnyH_done (by kernel_rfl) ?_ _
            clear hHeld SS keepS x0 x1 y0 y1
            have ST := one_blockT 34 y hb1 szA bA
            clear bA hb1
            generalize (U.setCell ⟨V0.heap.size, 0, none⟩ (.int .i64 y.1)).setCell ⟨V0.heap.size, 1, none⟩ (.int .i64 y.2) = V at ST ⊢
            obtain ⟨P, hP⟩ : ∃ P, V0.heap.size = P := ⟨_, rfl⟩
            rw [hP] at ST ⊢
            clear hP szA
            obtain ⟨⟨l0, l1⟩, _⟩ := two_facts ST.1
            have HBV := Off.mk (HBr.out.trans (ST.2.mono HBr.out.size))
            have HOV := Off.mk (ownQ_below HO0.out ST.2)
            have HST := Off.mk ST.1
            clear ST
            cases hin : decide (inB 50 y) with
            | false =>
              have C1 := Off.mk (fun W => inRange_any y false hin W)
              have HR := Off.mk (HFar.out (by
                have h1 := of_decide_eq_false hin
                rw [← far_in] at h1
                simpa using h1))
              clear hin HFar HT
              go_wp2_with fail
              refine (C1.out _).mono ?_
              rintro e w4 ⟨rfl, hb4⟩
              have HB4 := Off.mk (HHB.out.trans ((belowC HBV.out hb4).mono HHB.out.size))
              clear hb4
              go_wp2
              refine bodyPost_ret (v := .tuple #[.slice none 0 0, .int .i64 2]) (by simp [results, Try.results36, go_sem]) rfl ⟨by rw [HR.out]; exact ptsRes_no _ _, HB4.out⟩
            | true =>
              have C1 := Off.mk (fun W => inRange_any y true hin W)
              have HNN : Off (∀ j, j < k + 1 → farP (shr b0 b1 b2 b3 (xs.getD j (0, 0))) = false) := ⟨fun j hj => by
                by_cases e : j = k
                · rw [HY.out j e]; exact (far_in y).2 (of_decide_eq_true hin)
                · exact HN'.out j (by omega)⟩
              clear hin HFar
              go_wp2_with fail
              refine (C1.out _).mono ?_
              rintro e w4 ⟨rfl, hb4⟩
              have HB4 := Off.mk (belowC HBV.out hb4)
              have HO4 := Off.mk (ownQ_below HOV.out hb4)
              obtain ⟨⟨l0, l1⟩, _⟩ := two_facts ((hb4.block _ (Array.getElem?_eq_some_iff.1 HST.out).1).trans HST.out)
              clear hb4
              go_wp2_with (at_builtin; refine wpList_pair Try.underlying22 hi hz0 hz1 hz2 rfl rfl _ _ rfl w2.heap.size _ _ y.1 y.2 HO4.out HB4.out.size HLn.out rfl rfl ?_)
              intro v5 w5 hO5 hb5 _
              rw [← HT.out] at hO5
              have HO5 := Off.mk hO5
              have HB5 := Off.mk (HB4.out.trans hb5)
              clear hO5 hb5
              go_wp2
              go_roundw
              case rel => exact ⟨k + 1, by omega, by go_num, HO5, HNN, HB5⟩
              case measure => simp only [intOf]; omega
          · obtain rfl : k = xs.length := by omega
            have HR : Off (shrA xs b0 b1 b2 b3 = (xs.map (shr b0 b1 b2 b3), 0)) := ⟨by
              unfold shrA
              rw [if_pos]
              unfold shrOk
              rw [HV.out, HBad.out]
              have : (xs.map (shr b0 b1 b2 b3)).any farP = false := by
                rw [List.any_eq_false]
                intro y hy
                obtain ⟨x, hx, rfl⟩ := List.mem_map.1 hy
                obtain ⟨j, hj, rfl⟩ := List.getElem_of_mem hx
                have := HN'.out j hj
                rw [List.getD_eq_getElem?_getD, List.getElem?_eq_getElem hj] at this
                simpa using this
              rw [this]
              rfl⟩
            have hO := HO.out
            rw [mapTo_all] at hO
            have HOE := Off.mk hO
            have HBE := Off.mk (HHB.out.trans (HBr.out.mono HHB.out.size))
            clear hO HO
            go_wp2
            refine bodyPost_ret (v := .tuple #[u8, .int .i64 0]) (by simp [results, Try.results36, go_sem]) rfl ⟨by rw [HR.out]; exact ⟨_, rfl, ownQ_mono HOE.out HHB.out.size⟩, HBE.out⟩
end
section
section
open Go.RowKit Go.Shelf

theorem oppA_len (xs : PtL) (h : xs.length ≤ 60) : (oppA xs).1.length ≤ 60 := by
  unfold oppA
  split
  · split
    · rw [← oppTo_all, oppTo_len]; exact h
    · exact Nat.zero_le _
  · exact Nat.zero_le _
theorem shrA_len (xs : PtL) (b0 b1 b2 b3 : Int) (h : xs.length ≤ 60) : (shrA xs b0 b1 b2 b3).1.length ≤ 60 := by
  unfold shrA
  split
  · rw [List.length_map]; exact h
  · exact Nat.zero_le _
set_option maxRecDepth 100000 in
set_option maxHeartbeats 8000000 in
theorem opposites_walk' (hd : ∀ xs : PtL, readP xs = true → hasOpp xs = true → ∀ i, i < xs.length → crossP (sideAt xs i).1 (sideAt xs i).2 ≠ 0) (xs : PtL) (A : Option Addr) (c : Nat) (b0 b1 b2 b3 : Int) (w : World) (hx : xs.length ≤ 140737488351232 → PairsI w A xs) :
    Calls Try.prog 10 #[.slice A xs.length c, .agg #[.int .i64 b0, .int .i64 b1, .int .i64 b2, .int .i64 b3]] w fun e w' => e = .returned (.bool true) ∧ Below w.heap.size w w' := by
  have hbx := belowA (Below.refl _ w) (.cells #[.int .i64 b0, .int .i64 b1, .int .i64 b2, .int .i64 b3] 45)
  have hbq := four_facts (block_new w (.cells #[.int .i64 b0, .int .i64 b1, .int .i64 b2, .int .i64 b3] 45))
  obtain ⟨W0, hW0⟩ : ∃ W, w.alloc (.cells #[.int .i64 b0, .int .i64 b1, .int .i64 b2, .int .i64 b3] 45) = W := ⟨_, rfl⟩
  rw [hW0] at hbx hbq
  obtain ⟨⟨c0, c1, c2, c3⟩, _⟩ := hbq
  have HB := Off.mk hbx
  by_cases hf : xs.length ≤ 60
  · have hx := hx (by omega)
    have HX := Off.mk (hx.below hbx)
    have CF := Off.mk (few_any xs A c true (decide_eq_true hf) W0)
    have C1 := Off.mk (fun W (hb : Below W0.heap.size W0 W) => Opposite_any xs A c W (HX.out.below hb) (hd xs))
    have C2 := Off.mk (fun W (hb : Below W0.heap.size W0 W) => OppositeR_any xs A c W (HX.out.below hb) (hd xs))
    have C3 := Off.mk (fun W (hb : Below W0.heap.size W0 W) => Sheared_any xs A c b0 b1 b2 b3 W (HX.out.below hb))
    have C4 := Off.mk (fun W (hb : Below W0.heap.size W0 W) => ShearedR_any xs A c b0 b1 b2 b3 W (HX.out.below hb))
    have hl1 := oppA_len xs hf
    have hl2 := shrA_len xs b0 b1 b2 b3 hf
    obtain ⟨⟨os, e1⟩, hos⟩ : ∃ y, y = oppA xs := ⟨_, rfl⟩
    obtain ⟨⟨ss, e2⟩, hss⟩ : ∃ y, y = shrA xs b0 b1 b2 b3 := ⟨_, rfl⟩
    rw [← hos] at C1 C2 hl1
    rw [← hss] at C3 C4 hl2
    simp only at hl1 hl2
    clear hx hf hbx hos hss
    go_enter Try.func10, Try.ntmps10
    go_wp2_with fail
    refine CF.out.mono ?_
    rintro e w0 ⟨rfl, hw0⟩
    subst w0
    clear hW0
    go_wp2_with fail
    refine (C1.out _ (Below.refl _ _)).mono ?_
    rintro e w1 ⟨⟨u1, rfl, hO1⟩, hb1⟩
    obtain ⟨A1, k1, rfl, hI1, _⟩ := ownQ_pairs hO1 (by simp only; omega)
    simp only at hI1
    have c0 := cellB hb1 c0
    have c1 := cellB hb1 c1
    have c2 := cellB hb1 c2
    have c3 := cellB hb1 c3
    have HB1 := Off.mk hb1
    have HI1 := Off.mk hI1
    clear hb1 hO1 hI1
    go_wp2_with fail
    refine (C2.out _ HB1.out).mono ?_
    rintro e w2 ⟨⟨u2, rfl, hO2⟩, hb2⟩
    obtain ⟨A2, k2, rfl, hI2, _⟩ := ownQ_pairs hO2 (by simp only; omega)
    simp only at hI2
    have c0 := cellB hb2 c0
    have c1 := cellB hb2 c1
    have c2 := cellB hb2 c2
    have c3 := cellB hb2 c3
    have CS1 := Off.mk (same_any os os A1 A2 k1 k2 true (decide_eq_true rfl) w2 (HI1.out.below hb2) hI2)
    have HB2 := Off.mk (belowC HB1.out hb2)
    clear hb2 hO2 hI2 HI1
    go_wp2_with fail
    refine CS1.out.mono ?_
    rintro e w3 ⟨rfl, hb3⟩
    have c0 := cellB hb3 c0
    have c1 := cellB hb3 c1
    have c2 := cellB hb3 c2
    have c3 := cellB hb3 c3
    have HB3 := Off.mk (belowC HB2.out hb3)
    clear hb3
    go_wp2_with fail
    refine (C3.out _ HB3.out).mono ?_
    rintro e w4 ⟨⟨u4, rfl, hO4⟩, hb4⟩
    obtain ⟨A4, k4, rfl, hI4, _⟩ := ownQ_pairs hO4 (by simp only; omega)
    simp only at hI4
    have c0 := cellB hb4 c0
    have c1 := cellB hb4 c1
    have c2 := cellB hb4 c2
    have c3 := cellB hb4 c3
    have HB4 := Off.mk (belowC HB3.out hb4)
    have HI4 := Off.mk hI4
    clear hb4 hO4 hI4
    go_wp2_with fail
    refine (C4.out _ HB4.out).mono ?_
    rintro e w5 ⟨⟨u5, rfl, hO5⟩, hb5⟩
    obtain ⟨A5, k5, rfl, hI5, _⟩ := ownQ_pairs hO5 (by simp only; omega)
    simp only at hI5
    have CS2 := Off.mk (same_any ss ss A4 A5 k4 k5 true (decide_eq_true rfl) w5 (HI4.out.below hb5) hI5)
    have HB5 := Off.mk (belowC HB4.out hb5)
    clear hb5 hO5 hI5 HI4
    go_wp2_with fail
    refine CS2.out.mono ?_
    rintro e w6 ⟨rfl, hb6⟩
    have HB6 := Off.mk (belowC HB5.out hb6)
    clear hb6
    go_wp2_with fail
    refine (alive_any _).mono ?_
    rintro e w7 ⟨rfl, hb7⟩
    go_wp2
    go_ret
    exact ⟨rfl, belowC (HB.out.trans (HB6.out.mono HB.out.size)) hb7⟩
  · have CF := Off.mk (few_any xs A c false (decide_eq_false hf) W0)
    clear hx hf hbx
    go_enter Try.func10, Try.ntmps10
    go_wp2_with fail
    refine CF.out.mono ?_
    rintro e w0 ⟨rfl, hw0⟩
    subst w0
    go_wp2_with fail
    refine (alive_any _).mono ?_
    rintro e w3 ⟨rfl, hb3⟩
    go_wp2
    go_ret
    exact ⟨rfl, belowC HB.out hb3⟩
end
section
open Go.RowKit Go.Shelf

section
variable {b0 b1 b2 b3 : Int}
theorem lin_inj (hd : b0 * b3 - b1 * b2 ≠ 0) {p q : Int × Int} (h : shr b0 b1 b2 b3 p = shr b0 b1 b2 b3 q) : p = q := by
  unfold shr at h
  simp only [Prod.mk.injEq] at h
  obtain ⟨h1, h2⟩ := h
  have e1 : (b0 * b3 - b1 * b2) * (p.1 - q.1) = b3 * ((b0 * p.1 + b1 * p.2) - (b0 * q.1 + b1 * q.2)) - b1 * ((b2 * p.1 + b3 * p.2) - (b2 * q.1 + b3 * q.2)) := by grind
  have e2 : (b0 * b3 - b1 * b2) * (p.2 - q.2) = b0 * ((b2 * p.1 + b3 * p.2) - (b2 * q.1 + b3 * q.2)) - b2 * ((b0 * p.1 + b1 * p.2) - (b0 * q.1 + b1 * q.2)) := by grind
  rw [h1, h2, Int.sub_self, Int.sub_self, Int.mul_zero, Int.mul_zero] at e1 e2
  have f1 := (Int.mul_eq_zero.1 (e1.trans (Int.sub_self 0))).resolve_left hd
  have f2 := (Int.mul_eq_zero.1 (e2.trans (Int.sub_self 0))).resolve_left hd
  exact Prod.ext (by omega) (by omega)
theorem lin_sep (hd : b0 * b3 - b1 * b2 ≠ 0) {p q r s : Int × Int} (h : Pk.Sep p q r s) : Pk.Sep (shr b0 b1 b2 b3 p) (shr b0 b1 b2 b3 q) (shr b0 b1 b2 b3 r) (shr b0 b1 b2 b3 s) := by
  obtain ⟨n, ⟨h1, h2⟩, h3, h4⟩ := h
  obtain ⟨d, ed⟩ : ∃ d, d = b0 * b3 - b1 * b2 := ⟨_, rfl⟩
  have hdd : 0 < d * d := by
    rw [← ed] at hd
    rcases Int.lt_or_gt_of_ne hd with h | h
    · exact Int.mul_pos_of_neg_of_neg h h
    · exact Int.mul_pos h h
  have key : ∀ x y : Int × Int, 0 < Pk.dt n (Pk.vsub x y) → 0 < Pk.dt (d * (b3 * n.1 - b2 * n.2), d * (b0 * n.2 - b1 * n.1)) (Pk.vsub (shr b0 b1 b2 b3 x) (shr b0 b1 b2 b3 y)) := fun x y hp => by
    have e : Pk.dt (d * (b3 * n.1 - b2 * n.2), d * (b0 * n.2 - b1 * n.1)) (Pk.vsub (shr b0 b1 b2 b3 x) (shr b0 b1 b2 b3 y)) = d * d * Pk.dt n (Pk.vsub x y) := by
      rw [ed]; unfold Pk.dt Pk.vsub shr; simp only; grind
    rw [e]
    exact Int.mul_pos hdd hp
  exact ⟨(d * (b3 * n.1 - b2 * n.2), d * (b0 * n.2 - b1 * n.1)), ⟨key _ _ h1, key _ _ h2⟩, key _ _ h3, key _ _ h4⟩
theorem pen_lin {n : Nat} {v u : Nat → Int × Int} (hd : b0 * b3 - b1 * b2 ≠ 0) (hp : Pk.Pen n v) (h : ∀ i, u i = shr b0 b1 b2 b3 (v i)) : Pk.Pen n u := by
  refine ⟨hp.n3, fun i => by rw [h, h, hp.per], fun i => ?_, fun i => ?_, fun i k h1 h2 => ?_⟩
  · rw [h, h]
    exact fun e => hp.ne i (lin_inj hd e)
  · rw [h, h, h, shr_sub, shr_sub, shr_crs]
    rintro ⟨q1, q2⟩
    have hc : Pk.crs (Pk.vsub (v (i + 1)) (v i)) (Pk.vsub (v (i + 2)) (v (i + 1))) = 0 := (Int.mul_eq_zero.1 q1).resolve_left hd
    exact hp.fold i ⟨hc, shr_dt hc q2⟩
  · rw [h, h, h, h]
    exact lin_sep hd (hp.sep i k h1 h2)
end
theorem dv_per {n : Nat} {v : Nat → Int × Int} (hp : Pk.Pen n v) (i : Nat) : Pk.dv v (i + n) = Pk.dv v i := by
  unfold Pk.dv
  rw [hp.per, show i + n + 1 = i + 1 + n by omega, hp.per]
/-- The total variation of a walk is no less than what lies between two of its places. -/
theorem var_ge (s : Nat → Int) (a : Nat) : ∀ m, ((s (a + m) - s a).natAbs : Int) ≤ Pk.nsum (fun k => ((s (k + 1) - s k).natAbs : Int)) (a + m) - Pk.nsum (fun k => ((s (k + 1) - s k).natAbs : Int)) a
  | 0 => by simp
  | m + 1 => by
    have h := var_ge s a m
    rw [show a + (m + 1) = a + m + 1 by omega, Pk.nsum]
    omega
/-- A pen that turns to the left at all posts lies to the left of each side. -/
theorem left_of {n : Nat} {v : Nat → Int × Int} (hp : Pk.Pen n v) (hl : ∀ j, 0 < Pk.crs (Pk.dv v j) (Pk.dv v (j + 1))) (i t : Nat) (h2 : 2 ≤ t) (htn : t < n) :
    0 < Pk.crs (Pk.dv v i) (Pk.vsub (v (i + t)) (v i)) := by
  obtain ⟨e, he⟩ : ∃ e, e = Pk.dv v i := ⟨_, rfl⟩
  have hne : e ≠ (0, 0) := by rw [he]; exact Pk.vsub_ne (hp.ne i)
  have hD : 0 < e.1 * e.1 - e.2 * (-e.2) := by have := Pk.sq_pos hne; unfold Pk.dt at this; rw [Int.mul_neg]; omega
  have hpu : Pk.Pen n (fun j => shr e.1 e.2 (-e.2) e.1 (v j)) := pen_lin (b0 := e.1) (b1 := e.2) (b2 := -e.2) (b3 := e.1) (by omega) hp (fun _ => rfl)
  have hdu : ∀ j, Pk.dv (fun j => shr e.1 e.2 (-e.2) e.1 (v j)) j = shr e.1 e.2 (-e.2) e.1 (Pk.dv v j) := fun j => by unfold Pk.dv; rw [shr_sub]
  obtain ⟨s, hs⟩ : ∃ s : Nat → Int, s = fun j => (Pk.crs e (Pk.dv v j)).sign := ⟨_, rfl⟩
  have htau : ∀ j, Pk.tau (fun j => shr e.1 e.2 (-e.2) e.1 (v j)) j = ((s (j + 1) - s j).natAbs : Int) := fun j => by
    unfold Pk.tau Pk.W
    rw [hdu, hdu, shr_crs, Int.sign_eq_one_of_pos (Int.mul_pos hD (hl j)), Int.mul_one, hs]
    have e1 : ∀ x : Int × Int, (shr e.1 e.2 (-e.2) e.1 x).2 = Pk.crs e x := fun x => by unfold shr Pk.crs; simp only; grind
    rw [e1, e1]
  have hsp : ∀ j, s (j + n) = s j := fun j => by rw [hs]; simp only; rw [dv_per hp]
  have hsum : Pk.nsum (fun k => ((s (i + k + 1) - s (i + k)).natAbs : Int)) n = 4 := by
    have h1 := Pk.taus_all hpu
    rw [Pk.taus_nsum, Pk.nsum_congr n (fun j _ => htau j)] at h1
    have h2 := nsum_rot (F := fun k => ((s (k + 1) - s k).natAbs : Int)) (n := n) (fun j => by rw [show j + n + 1 = j + 1 + n by omega, hsp, hsp]) i
    have h3 : 0 ≤ Pk.nsum (fun k => ((s (i + k + 1) - s (i + k)).natAbs : Int)) n := by
      have := var_ge (fun k => s (i + k)) 0 n
      simp only [Nat.zero_add, Pk.nsum] at this
      have e : Pk.nsum (fun k => ((s (i + (k + 1)) - s (i + k)).natAbs : Int)) n = Pk.nsum (fun k => ((s (i + k + 1) - s (i + k)).natAbs : Int)) n := rfl
      omega
    rcases Pk.rho_two hpu with e | e <;> rw [e] at h1 <;> omega
  have hn3 := hp.n3
  have s0 : s i = 0 := by rw [hs]; simp only; rw [← he]; have : Pk.crs e e = 0 := by { unfold Pk.crs; grind }; rw [this]; rfl
  have y1 : 0 < Pk.crs e (Pk.dv v (i + 1)) := by rw [he]; exact hl i
  have yl : Pk.crs e (Pk.dv v (i + (n - 1))) < 0 := by
    have h1 := hl (i + (n - 1))
    rw [show i + (n - 1) + 1 = i + n by omega, dv_per hp, ← he] at h1
    have : Pk.crs e (Pk.dv v (i + (n - 1))) = - Pk.crs (Pk.dv v (i + (n - 1))) e := by unfold Pk.crs; grind
    omega
  have s1 : s (i + 1) = 1 := by rw [hs]; exact Int.sign_eq_one_of_pos y1
  have sl : s (i + (n - 1)) = -1 := by rw [hs]; exact Int.sign_eq_neg_one_of_neg yl
  have uni : ∀ a b, 1 ≤ a → a < b → b ≤ n - 1 → Pk.crs e (Pk.dv v (i + a)) < 0 → Pk.crs e (Pk.dv v (i + b)) ≤ 0 := by
    intro a b ha hab hb hna
    apply Int.not_lt.1
    intro hpb
    have sa : s (i + a) = -1 := by rw [hs]; exact Int.sign_eq_neg_one_of_neg hna
    have sb : s (i + b) = 1 := by rw [hs]; exact Int.sign_eq_one_of_pos hpb
    have v1 := var_ge (fun k => s (i + k)) 0 1
    have v2 := var_ge (fun k => s (i + k)) 1 (a - 1)
    have v3 := var_ge (fun k => s (i + k)) a (b - a)
    have v4 := var_ge (fun k => s (i + k)) b (n - 1 - b)
    have v5 := var_ge (fun k => s (i + k)) (n - 1) 1
    rw [show 1 + (a - 1) = a by omega] at v2
    rw [show a + (b - a) = b by omega] at v3
    rw [show b + (n - 1 - b) = n - 1 by omega] at v4
    rw [show n - 1 + 1 = n by omega] at v5
    rw [Nat.zero_add, show s (i + 0) = 0 from s0, s1] at v1
    rw [s1, sa] at v2
    rw [sa, sb] at v3
    rw [sb, sl] at v4
    rw [sl, hsp, s0] at v5
    have e5 : Pk.nsum (fun k => ((s (i + (k + 1)) - s (i + k)).natAbs : Int)) n = 4 := hsum
    have e0 : Pk.nsum (fun k => ((s (i + (k + 1)) - s (i + k)).natAbs : Int)) 0 = 0 := rfl
    omega
  have Yn : ∀ k, Pk.crs e (Pk.vsub (v (i + (k + 1))) (v i)) = Pk.crs e (Pk.vsub (v (i + k)) (v i)) + Pk.crs e (Pk.dv v (i + k)) := fun k => by
    unfold Pk.dv Pk.crs Pk.vsub
    rw [show i + (k + 1) = i + k + 1 by omega]
    simp only
    grind
  have Yend : Pk.crs e (Pk.vsub (v (i + n)) (v i)) = 0 := by rw [hp.per, Pk.vsub_self]; unfold Pk.crs; simp
  have up : ∀ k, (∀ a, 1 ≤ a → a < k + 2 → 0 ≤ Pk.crs e (Pk.dv v (i + a))) → 0 < Pk.crs e (Pk.vsub (v (i + (k + 2))) (v i)) := by
    intro k
    induction k with
    | zero =>
      intro _
      rw [show 0 + 2 = 1 + 1 from rfl, Yn 1, show (1 : Nat) = 0 + 1 from rfl, Yn 0, Nat.add_zero, Pk.vsub_self, ← he]
      have e1 : Pk.crs e (0, 0) = 0 := by unfold Pk.crs; simp
      have e2 : Pk.crs e e = 0 := by unfold Pk.crs; grind
      have := y1
      rw [Nat.zero_add]
      omega
    | succ k ih =>
      intro h
      rw [show k + 1 + 2 = (k + 2) + 1 by omega, Yn]
      have h1 := ih (fun a h1 h2 => h a h1 (by omega))
      have h2 := h (k + 2) (by omega) (by omega)
      omega
  have down : ∀ r, r + 1 ≤ n - 1 → (∀ b, n - (r + 1) ≤ b → b < n → Pk.crs e (Pk.dv v (i + b)) ≤ 0) → 0 < Pk.crs e (Pk.vsub (v (i + (n - (r + 1)))) (v i)) := by
    intro r
    induction r with
    | zero =>
      intro _ _
      have h1 := Yn (n - 1)
      rw [show n - 1 + 1 = n by omega, Yend] at h1
      rw [show n - (0 + 1) = n - 1 by omega]
      omega
    | succ r ih =>
      intro hr h
      have h1 := Yn (n - (r + 1 + 1))
      rw [show n - (r + 1 + 1) + 1 = n - (r + 1) by omega] at h1
      have h2 := ih (by omega) (fun b h1 h2 => h b (by omega) h2)
      have h3 := h (n - (r + 1 + 1)) (Nat.le_refl _) (by omega)
      omega
  rw [← he]
  by_cases hex : ∃ a, 1 ≤ a ∧ a < t ∧ Pk.crs e (Pk.dv v (i + a)) < 0
  · obtain ⟨a, ha1, ha2, ha3⟩ := hex
    have := down (n - t - 1) (by omega) (fun b h1 h2 => uni a b ha1 (by omega) (by omega) ha3)
    rwa [show n - (n - t - 1 + 1) = t by omega] at this
  · have := up (t - 2) (fun a h1 h2 => Int.not_lt.1 fun h => hex ⟨a, h1, by omega, h⟩)
    rwa [show t - 2 + 2 = t by omega] at this
end
section
open Go.RowKit Go.Shelf

theorem shr_mirror (p : Int × Int) : shr 1 0 0 (-1) p = (p.1, -p.2) := by
  unfold shr
  exact Prod.ext (by simp only; omega) (by simp only; omega)
/-- The same for pens that turn to one side, whichever it is. -/
theorem side_of {n : Nat} {v : Nat → Int × Int} (hp : Pk.Pen n v) {s : Int} (hs : s = 1 ∨ s = -1) (hl : ∀ j, 0 < s * Pk.crs (Pk.dv v j) (Pk.dv v (j + 1))) (i t : Nat) (h2 : 2 ≤ t) (htn : t < n) :
    0 < s * Pk.crs (Pk.dv v i) (Pk.vsub (v (i + t)) (v i)) := by
  rcases hs with rfl | rfl
  · rw [Int.one_mul]
    exact left_of hp (fun j => by have := hl j; rwa [Int.one_mul] at this) i t h2 htn
  · have hpu : Pk.Pen n (fun j => shr 1 0 0 (-1) (v j)) := pen_lin (by decide) hp (fun _ => rfl)
    have hdu : ∀ j, Pk.dv (fun j => shr 1 0 0 (-1) (v j)) j = shr 1 0 0 (-1) (Pk.dv v j) := fun j => by unfold Pk.dv; rw [shr_sub]
    have h := left_of hpu (fun j => by
      rw [hdu, hdu, shr_crs]
      have := hl j
      omega) i t h2 htn
    rw [hdu, shr_sub, shr_crs] at h
    omega
/-- A point on the line of a side of a strictly convex pen, off its border, is outside. -/
theorem line_out {n : Nat} {v : Nat → Int × Int} (hp : Pk.Pen n v) {s : Int} (hs : s = 1 ∨ s = -1) (hl : ∀ j, 0 < s * Pk.crs (Pk.dv v j) (Pk.dv v (j + 1))) (i : Nat) {p : Int × Int}
    (h0 : Pk.crs (Pk.dv v i) (Pk.vsub p (v i)) = 0) (hoff : ¬ Pk.On (v i) (v (i + 1)) p) : Pk.tot n v p = 0 := by
  obtain ⟨e, he⟩ : ∃ e, e = Pk.dv v i := ⟨_, rfl⟩
  have hn3 := hp.n3
  have hb := Pk.beyond (hp.ne i) (by rw [← Pk.crs_ab]; exact h0) hoff
  have hsg : ∃ g : Int, (g = 1 ∨ g = -1) ∧ 0 < g * Pk.dt e (Pk.vsub (v i) p) ∧ 0 < g * Pk.dt e (Pk.vsub (v (i + 1)) p) := by
    have ed : e = Pk.vsub (v (i + 1)) (v i) := he
    rw [← ed] at hb
    have e1 : ∀ x y, Pk.dt e (Pk.vsub x y) = - Pk.dt e (Pk.vsub y x) := fun x y => by unfold Pk.dt Pk.vsub; grind
    have f1 := e1 (v i) p
    have f2 := e1 (v (i + 1)) p
    rcases hb with ⟨h1, h2⟩ | ⟨h1, h2⟩
    · exact ⟨-1, .inr rfl, by omega, by omega⟩
    · exact ⟨1, .inl rfl, by omega, by omega⟩
  obtain ⟨g, hg, g1, g2⟩ := hsg
  obtain ⟨K, hK0, hK⟩ := Pk.great_num (fun j => g * Pk.dt e (Pk.vsub (v (i + j)) p)) n
  have hall : ∀ t, t < n → 0 < Pk.dt (K * s * (-e.2) + g * e.1, K * s * e.1 + g * e.2) (Pk.vsub (v (i + t)) p) := fun t ht => by
    have e1 : Pk.dt (K * s * (-e.2) + g * e.1, K * s * e.1 + g * e.2) (Pk.vsub (v (i + t)) p) = K * (s * Pk.crs e (Pk.vsub (v (i + t)) p)) + g * Pk.dt e (Pk.vsub (v (i + t)) p) := by unfold Pk.dt Pk.crs Pk.vsub; simp only; grind
    have e2 : Pk.crs e (Pk.vsub (v (i + t)) p) = Pk.crs e (Pk.vsub (v (i + t)) (v i)) := by
      rw [← he] at h0
      have : Pk.crs e (Pk.vsub (v (i + t)) p) = Pk.crs e (Pk.vsub (v (i + t)) (v i)) - Pk.crs e (Pk.vsub p (v i)) := by unfold Pk.crs Pk.vsub; grind
      omega
    rw [e1, e2]
    by_cases t0 : t = 0
    · subst t0
      rw [Nat.add_zero, Pk.vsub_self]
      have : Pk.crs e (0, 0) = 0 := by unfold Pk.crs; simp
      rw [this, Int.mul_zero, Int.mul_zero]
      omega
    by_cases t1 : t = 1
    · subst t1
      have : Pk.crs e (Pk.vsub (v (i + 1)) (v i)) = 0 := by
        rw [show Pk.vsub (v (i + 1)) (v i) = e from he.symm]
        unfold Pk.crs
        grind
      rw [this, Int.mul_zero, Int.mul_zero]
      omega
    have h1 := side_of hp hs hl i t (by omega) ht
    rw [← he] at h1
    have h2 := (hK t ht).1
    have h3 := Int.mul_le_mul_of_nonneg_left (show 1 ≤ s * Pk.crs e (Pk.vsub (v (i + t)) (v i)) by omega) (Int.le_of_lt hK0)
    omega
  have hall' : ∀ t, t ≤ n → 0 < Pk.dt (K * s * (-e.2) + g * e.1, K * s * e.1 + g * e.2) (Pk.vsub (v (i + t)) p) := fun t ht => by
    by_cases h : t < n
    · exact hall t h
    · obtain rfl : t = n := by omega
      rw [hp.per]
      have := hall 0 (by omega)
      rwa [Nat.add_zero] at this
  have h1 := Pk.rowW_half n hall'
  rw [hp.per, Pk.W_self, Pk.rowW_all hp.per] at h1
  exact h1
theorem opp_side (xs : PtL) (hv : readP xs = true) (hop : hasOpp xs = true) (i : Nat) (hi : i < xs.length) : crossP (sideAt xs i).1 (sideAt xs i).2 ≠ 0 := by
  have hp := pen_of hv
  have hcv := convexP_true hv
  unfold hasOpp at hop
  rw [Bool.and_eq_true, Bool.and_eq_true, decide_eq_true_eq, decide_eq_true_eq, hcv, Bool.and_eq_true, Bool.not_eq_true'] at hop
  obtain ⟨⟨_, hc, hst⟩, hw⟩ := hop
  rw [where_tot hv] at hw
  split at hw
  · omega
  next hob =>
  split at hw
  · omega
  next htot =>
  rw [← Bool.not_eq_true, hit_iff hv] at hst
  have hnz : ∀ j, (Pk.crs (Pk.dv (postAt xs) j) (Pk.dv (postAt xs) (j + 1))).sign ≠ 0 := fun j e => hst ⟨j, e⟩
  have hone : ¬ (Hit (postAt xs) 1 ∧ Hit (postAt xs) (-1)) := by
    rintro ⟨h1, h2⟩
    unfold convexR at hc
    rw [(hit_iff hv 1).2 h1, (hit_iff hv (-1)).2 h2] at hc
    simp at hc
  have hs : ∃ s : Int, (s = 1 ∨ s = -1) ∧ ∀ j, 0 < s * Pk.crs (Pk.dv (postAt xs) j) (Pk.dv (postAt xs) (j + 1)) := by
    by_cases h1 : Hit (postAt xs) 1
    · refine ⟨1, .inl rfl, fun j => ?_⟩
      rcases Pk.sign_cases (Pk.crs (Pk.dv (postAt xs) j) (Pk.dv (postAt xs) (j + 1))) with ⟨_, h⟩ | ⟨h, _⟩ | ⟨h, _⟩
      · omega
      · exact absurd h (hnz j)
      · exact absurd ⟨h1, j, h⟩ hone
    · refine ⟨-1, .inr rfl, fun j => ?_⟩
      rcases Pk.sign_cases (Pk.crs (Pk.dv (postAt xs) j) (Pk.dv (postAt xs) (j + 1))) with ⟨h, _⟩ | ⟨h, _⟩ | ⟨_, h⟩
      · exact absurd ⟨j, h⟩ h1
      · exact absurd h (hnz j)
      · omega
  obtain ⟨s, hs, hl⟩ := hs
  rw [side_post' xs i hi]
  intro h0
  simp only at h0
  apply htot
  refine line_out hp hs hl i (p := (0, 0)) ?_ (fun ho => hob (Pk.OnB.of hp ho))
  have : Pk.crs (Pk.dv (postAt xs) i) (Pk.vsub (0, 0) (postAt xs i)) = crossP (postAt xs i) (postAt xs (i + 1)) := by unfold Pk.crs Pk.dv Pk.vsub crossP; grind
  rw [this]
  exact h0
theorem opposites_walk (xs : PtL) (A : Option Addr) (c : Nat) (b0 b1 b2 b3 : Int) (w : World) (hx : xs.length ≤ 140737488351232 → PairsI w A xs) :
    Calls Try.prog 10 #[.slice A xs.length c, .agg #[.int .i64 b0, .int .i64 b1, .int .i64 b2, .int .i64 b3]] w fun e w' => e = .returned (.bool true) ∧ Below w.heap.size w w' :=
  opposites_walk' opp_side xs A c b0 b1 b2 b3 w hx
end
end
end Go.Proofs.Ytbpmiphipjkdlaa
