/- From a law's walk to its row: the arguments as a row reads them. PensHull is proved: for every input the law answers true, and its arguments read as before. -/
import Derived.Test.YtbpmiphipjkdlaaRows
import Derived.Test.YtbpmiphipjkdlaaAa
import Derived.Test.YtbpmiphipjkdlaaAb
import Derived.ProofKit
import Derived.OpenShut
import Derived.ChangeOld
import Derived.SizedLaws
import Derived.Lib.SmallJoins
import Derived.Carry
import Derived.Deep.SlicePairs
import Derived.Test.YtbpmiphipjkdlaaGc
namespace Go.Proofs.Ytbpmiphipjkdlaa
section
open Go.Joins Go.ChangeShapes Go.WideShapes Go.ChangeAt Go.RowKit Go.Deep

theorem own_knob : ownKnob Try.prog.godebug = none := by kernel_rfl
theorem laid_out : laidOutB Try.prog = true := by kernel_rfl
theorem u16_range {x : Int} (h : (Lit.int .u16 x).wf = true) : 0 ≤ x ∧ x < 65536 := by
  simp only [Lit.wf, Bool.and_eq_true, decide_eq_true_eq, show IntKind.u16.min = 0 by decide, show IntKind.u16.max = 65535 by decide] at h
  omega
theorem i16_range {x : Int} (h : (Lit.int .i16 x).wf = true) : -32768 ≤ x ∧ x < 32768 := by
  simp only [Lit.wf, Bool.and_eq_true, decide_eq_true_eq, show IntKind.i16.min = -32768 by decide, show IntKind.i16.max = 32767 by decide] at h
  omega
theorem u8_range {x : Int} (h : (Lit.int .u8 x).wf = true) : 0 ≤ x ∧ x < 256 := by
  simp only [Lit.wf, Bool.and_eq_true, decide_eq_true_eq, show IntKind.u8.min = 0 by decide, show IntKind.u8.max = 255 by decide] at h
  omega

set_option maxRecDepth 100000 in
theorem pairs_of {H : Type} {enc : TypeId × Value → H} {W : World} {base : Nat} {spare : Nat → Bool} {held : Bool} {r : Reach} {b0 : Nat} {v : Value} {d : DataW H} {ps : List MemPlace}
    (hval : Value.okWide Try.prog W r b0 22 v) (h : DataW.Trod enc Try.prog W base spare held 22 v d ps) : ∃ (a : Option Addr) (xs : List (Int × Int)) (c : Nat), v = .slice a xs.length c ∧ (xs.length ≤ 140737488351232 → PairsI W a xs) ∧ xs.length ≤ c ∧ (a = none → c = 0) := by
  obtain ⟨a0, len, cap, rfl⟩ := okWide_slice Try.underlying22 hval
  obtain ⟨fuel, hm⟩ := h
  rcases open_slice_pairs Try.underlying22 Try.underlying34 (by kernel_rfl) rfl rfl (by kernel_rfl) (by kernel_rfl) hm with ⟨hcs, _⟩ | ⟨a, len', cap', m, n, V0, V1, D0, D1, P0, P1, hcs, _, hlc, _, hmm, _, hi⟩
  · simp [Value.cells] at hcs
    obtain ⟨rfl, rfl, rfl⟩ := hcs
    exact ⟨none, [], 0, rfl, fun h => ⟨by simp, fun j hj => by simp at hj⟩, Nat.le_refl _, fun _ => rfl⟩
  · simp [Value.cells] at hcs
    obtain ⟨rfl, rfl, rfl⟩ := hcs
    have hlm : len ≤ m := by rw [hmm]; split <;> omega
    have each : ∀ i, i < len → ∃ q : Int × Int, W.cell? (a.add (i * 2)) = some (.int .i64 q.1) ∧ W.cell? (a.add (i * 2 + 1)) = some (.int .i64 q.2) := fun i hl => by
      obtain ⟨c0, c1, t0, t1⟩ := hi i (by omega)
      obtain ⟨x, e0, _⟩ := DataW.trod_int Try.underlying3 t0
      obtain ⟨y, e1, _⟩ := DataW.trod_int Try.underlying3 t1
      simp at e0 e1
      exact ⟨(x, y), by rw [c0, e0], by rw [c1, e1]⟩
    have hq : ∃ f : Nat → Int × Int, ∀ i, i < len → W.cell? (a.add (i * 2)) = some (.int .i64 (f i).1) ∧ W.cell? (a.add (i * 2 + 1)) = some (.int .i64 (f i).2) := by
      refine ⟨fun i => if h : i < len then (each i h).choose else (0, 0), fun i h => ?_⟩
      simp only [dif_pos h]
      exact (each i h).choose_spec
    obtain ⟨f, hf⟩ := hq
    refine ⟨some a, (List.range len).map f, cap, by simp, fun hb => ⟨hb, fun j hj => ⟨a, rfl, ?_⟩⟩, by simpa using hlc, fun e => by cases e⟩
    have hj' : j < len := by simpa using hj
    obtain ⟨f0, f1⟩ := hf j hj'
    have e : ((List.range len).map f).getD j (0, 0) = f j := by simp [List.getD_eq_getElem?_getD, hj']
    rw [e]
    refine ⟨f0, ?_⟩
    have hadd : a.add (j * 2 + 1) = ⟨(a.add (j * 2)).block, (a.add (j * 2)).off + 1, none⟩ := by
      unfold Addr.add
      rw [if_neg (by omega)]
      by_cases h0 : j * 2 = 0
      · rw [if_pos h0, h0]
      · rw [if_neg h0]
        simp only [Addr.mk.injEq, and_true, true_and]
        omega
    rw [← hadd]
    exact f1
set_option maxRecDepth 100000 in
theorem pair_of {H : Type} {enc : TypeId × Value → H} {W : World} {base : Nat} {spare : Nat → Bool} {held : Bool} {r : Reach} {b0 : Nat} {v : Value} {d : DataW H} {ps : List MemPlace}
    (hval : Value.okWide Try.prog W r b0 34 v) (h : DataW.Trod enc Try.prog W base spare held 34 v d ps) : ∃ x y : Int, v = .agg #[.int .i64 x, .int .i64 y] := by
  obtain ⟨cs, rfl, hs⟩ := okWide_struct Try.underlying34 hval
  obtain ⟨fuel, hm⟩ := h
  obtain ⟨y0, y1, n, _, hl, t0, t1⟩ := trod_struct2 Try.underlying34 hm
  have hs2 : cs.size = 2 := hs
  obtain ⟨a, b, rfl⟩ : ∃ a b, cs = #[a, b] := by
    obtain ⟨l⟩ := cs
    match l, hs2 with
    | [a, b], _ => exact ⟨a, b, rfl⟩
  obtain ⟨x, e0, _⟩ := DataW.trod_int Try.underlying3 t0
  obtain ⟨y, e1, _⟩ := DataW.trod_int Try.underlying3 t1
  have h3 : Try.prog.cellsOf 3 = 1 := by kernel_rfl
  have e0' : a = .int .i64 x := by simpa [Value.cells, h3] using e0
  have e1' : b = .int .i64 y := by simpa [Value.cells, h3] using e1
  exact ⟨x, y, by rw [e0', e1']⟩
theorem okWide_arr {P : Program} {W : World} {r : Reach} {b0 : Nat} {t : TypeId} {v : Value} {n : Nat} {e : TypeId} (ht : P.underlying t = some (.array n e)) (h : Value.okWide P W r b0 t v) : ∃ cs, v = .agg cs ∧ cs.size = P.cellsOf t := by
  simp only [Value.okWide, ht] at h
  obtain ⟨cs, h1, h2, _⟩ := h
  exact ⟨cs, h1, h2⟩
set_option maxRecDepth 100000 in
theorem four_of {H : Type} {enc : TypeId × Value → H} {W : World} {base : Nat} {spare : Nat → Bool} {held : Bool} {r : Reach} {b0 : Nat} {v : Value} {d : DataW H} {ps : List MemPlace}
    (hval : Value.okWide Try.prog W r b0 45 v) (h : DataW.Trod enc Try.prog W base spare held 45 v d ps) : ∃ x y z t : Int, v = .agg #[.int .i64 x, .int .i64 y, .int .i64 z, .int .i64 t] := by
  obtain ⟨cs, rfl, hs⟩ := okWide_arr Try.underlying45 hval
  obtain ⟨fuel, hm⟩ := h
  obtain ⟨xs, m, _, _, _, hl, hi⟩ := DataW.trod_array Try.underlying45 hm
  have hs4 : cs.size = 4 := hs
  obtain ⟨a, b, c, e, rfl⟩ : ∃ a b c e, cs = #[a, b, c, e] := by
    obtain ⟨l⟩ := cs
    match l, hs4 with
    | [a, b, c, e], _ => exact ⟨a, b, c, e, rfl⟩
  have h3 : Try.prog.cellsOf 3 = 1 := by kernel_rfl
  obtain ⟨q0, q1, q2, q3, rfl⟩ : ∃ q0 q1 q2 q3, xs = [q0, q1, q2, q3] := by
    match xs, hl with
    | [a, b, c, e], _ => exact ⟨a, b, c, e, rfl⟩
  have t0 := hi 0 (by decide)
  have t1 := hi 1 (by decide)
  have t2 := hi 2 (by decide)
  have t3 := hi 3 (by decide)
  obtain ⟨x, e0, _⟩ := DataW.trod_int Try.underlying3 t0
  obtain ⟨y, e1, _⟩ := DataW.trod_int Try.underlying3 t1
  obtain ⟨z, e2, _⟩ := DataW.trod_int Try.underlying3 t2
  obtain ⟨t, e3, _⟩ := DataW.trod_int Try.underlying3 t3
  have e0' : a = .int .i64 x := by simpa [Value.cells, h3] using e0
  have e1' : b = .int .i64 y := by simpa [Value.cells, h3] using e1
  have e2' : c = .int .i64 z := by simpa [Value.cells, h3] using e2
  have e3' : e = .int .i64 t := by simpa [Value.cells, h3] using e3
  exact ⟨x, y, z, t, by rw [e0', e1', e2', e3']⟩
end
section
open Go.ChangeShapes Go.WideShapes Go.ChangeAt Go.RowKit

set_option maxRecDepth 100000 in
theorem pensHull_lifted (os : Os) (started : os.Started) (H : Type) (enc : TypeId × Value → H) :
    ReturnsInHanded {} Try.checked os 15 .any (Rows.pensHullSpec.pre6 enc Try.prog Try.f15 Rows.pensHullRow.domain false) (Rows.pensHullSpec.post enc Try.prog Try.f15 false true false false) := by
  refine returnsInHanded_of_change (C := Try.checked) own_knob started (by kernel_rfl) Try.func15
    (ChangeSpec.witness6 (enc := enc) (C := Try.checked) false ⟨#[], #[.slice none 0 0], []⟩ 8 (by kernel_rfl) (by kernel_rfl) (by kernel_rfl) (by kernel_rfl)) ?_
  intro W base args ds gs before hval0 hW hcnd _
  have hval : ∀ (j : Nat) t v, Try.f15.params[j]? = some t → args[j]? = some v → Value.okWide Try.prog W .any base t v := hval0
  have hW' := hW
  obtain ⟨p, q, hA0, hV, rfl, hfz, hnd⟩ := hW
  have hA : DataW.TrodAll enc Try.prog W 0 (fun _ => true) true Try.f15.params.toList args.toList ds p := hA0
  rw [Try.params15] at hA hval
  obtain ⟨v0, d0, rfl, rfl, h0⟩ := trodAll_one hA
  obtain ⟨rfl, rfl⟩ := trodVars_none hV
  have k0 := h0
  have lt0 : ∀ x ∈ p, x.block < W.heap.size := by obtain ⟨m, hm⟩ := k0; exact DataW.trod_lt m _ _ _ hm
  obtain ⟨A0, xs0, c0, rfl, hP0⟩ := pairs_of (hval 0 22 v0 rfl rfl) h0
  clear hA0 hval0
  simp only [List.append_nil] at hW'
  refine (hull_walk xs0 A0 c0 W hP0.1).mono fun e W' ⟨he, bel⟩ => ?_
  subst he
  exact ⟨_, rfl, _, _, _, [], _, [], hW', trodAll_mk1 (shut_bool Try.underlying4 _), trodAll_mk1 (Below.trod laid_out (by kernel_rfl) (of_decide_eq_true (by kernel_rfl)) k0 bel lt0), rfl, bel.frame _, fun h => by cases h⟩

theorem pensHull_holds : Rows.PensHullSaid :=
  OpenClaim.holds_of_wide 15 Try.f15 rfl rfl rfl rfl rfl rfl rfl ⟨rfl, rfl, rfl, rfl, rfl⟩ rfl rfl rfl rfl rfl (by kernel_rfl) Try.func15 (by kernel_rfl)
    (of_decide_eq_true (by kernel_rfl)) (by unfold Func.isWrapper; first | (rw [if_pos (by decide +kernel)]; kernel_rfl) | (rw [if_neg (by decide +kernel)]; exact ⟨rfl, rfl⟩))
    (fun os started H enc _ => pensHull_lifted os started H enc)
#print axioms pensHull_holds
end
end Go.Proofs.Ytbpmiphipjkdlaa
