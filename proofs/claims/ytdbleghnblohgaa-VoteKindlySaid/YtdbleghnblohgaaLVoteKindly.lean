/- VoteKindly is proved: for every body the law answers true, and its argument reads as before. -/
import Derived.Test.YtdbleghnblohgaaLbody
import Derived.Test.YtdbleghnblohgaaVz
namespace Go.Proofs.Ytdbleghnblohgaa
open Go.ChangeShapes Go.WideShapes Go.ChangeAt Go.RowKit

theorem voteKindly_walk (q : Int) (l : List Int) (A : Option Addr) (c : Nat) (w : World) (h : Reads w A l c) :
    Calls Try.prog 12 #[.agg #[.int .i64 q, .slice A l.length c]] w fun e w' => e = .returned (.bool true) ∧ Below w.heap.size w w' := by
  by_cases h30 : 30 < l.length
  · exact kindly_many q l A c w h30
  · have hl := h.2.1 (by omega)
    cases hb : bodyB q l
    · exact kindly_no q l A c w hl (by omega) hb
    · exact kindly_yes q l A c w hl hb

set_option maxRecDepth 100000 in
theorem voteKindly_lifted (os : Os) (started : os.Started) (H : Type) (enc : TypeId × Value → H) :
    ReturnsInHanded {} Try.checked os 12 .any (Rows.voteKindlySpec.pre6 enc Try.prog Try.f12 Rows.voteKindlyRow.domain false) (Rows.voteKindlySpec.post enc Try.prog Try.f12 false true false false) := by
  refine returnsInHanded_of_change (C := Try.checked) own_knob started (by kernel_rfl) Try.func12
    (ChangeSpec.witness6 (enc := enc) (C := Try.checked) false ⟨#[], #[.agg #[.int .i64 0, .slice none 0 0]], []⟩ 8 (by kernel_rfl) (by kernel_rfl) (by kernel_rfl) (by kernel_rfl)) ?_
  intro W base args ds gs before hval0 hW hcnd _
  have hval : ∀ (j : Nat) t v, Try.f12.params[j]? = some t → args[j]? = some v → Value.okWide Try.prog W .any base t v := hval0
  have hW' := hW
  obtain ⟨p, q, hA0, hV, rfl, hfz, hnd⟩ := hW
  have hA : DataW.TrodAll enc Try.prog W 0 (fun _ => true) true Try.f12.params.toList args.toList ds p := hA0
  rw [Try.params12] at hA hval
  obtain ⟨v0, d0, rfl, rfl, h0⟩ := trodAll_one hA
  obtain ⟨rfl, rfl⟩ := trodVars_none hV
  have k0 := h0
  have lt0 : ∀ x ∈ p, x.block < W.heap.size := by obtain ⟨m, hm⟩ := k0; exact DataW.trod_lt m _ _ _ hm
  obtain ⟨c0, c1, y0, y1, m, rfl, rfl, rfl, hy0, hy1⟩ := Joins.open_agg2 Try.underlying24 (by kernel_rfl) (by kernel_rfl) (hval 0 24 v0 rfl rfl) h0
  obtain ⟨a, e0, rfl, wa⟩ := DataW.trod_int Try.underlying3 hy0
  obtain ⟨A, l, c, rfl, hR⟩ := reads_of hy1
  simp at e0
  subst e0
  clear hA0 hval0
  simp only [List.append_nil] at hW'
  refine (voteKindly_walk a l A c W hR).mono fun e W' ⟨he, bel⟩ => ?_
  subst he
  exact ⟨_, rfl, _, _, _, [], _, [], hW', trodAll_mk1 (shut_bool Try.underlying4 _), trodAll_mk1 (Below.trod laid_out (by kernel_rfl) (of_decide_eq_true (by kernel_rfl)) k0 bel lt0), rfl, bel.frame _, fun h => by cases h⟩

theorem voteKindly_holds : Rows.VoteKindlySaid :=
  OpenClaim.holds_of_wide 12 Try.f12 rfl rfl rfl rfl rfl rfl rfl ⟨rfl, rfl, rfl, rfl, rfl⟩ rfl rfl rfl rfl rfl (by kernel_rfl) Try.func12 (by kernel_rfl)
    (of_decide_eq_true (by kernel_rfl)) (by unfold Func.isWrapper; first | (rw [if_pos (by decide +kernel)]; kernel_rfl) | (rw [if_neg (by decide +kernel)]; exact ⟨rfl, rfl⟩))
    (fun os started H enc _ => voteKindly_lifted os started H enc)
#print axioms voteKindly_holds
end Go.Proofs.Ytdbleghnblohgaa
