/- Contracts: is one of four numbers far? -/
import Derived.Test.YtbpmiphipjkdlaaAf
namespace Go.Proofs.Ytbpmiphipjkdlaa
open Go.RowKit Go.Shelf

set_option maxHeartbeats 1000000 in
set_option maxRecDepth 100000 in
theorem index95_any (xs : List Int) (A : Option Addr) (c : Nat) (w : World) (hx : IntsAt w A xs) :
    Calls Try.prog 95 #[.slice A xs.length c, .func (.func 62) #[] #[]] w fun e w' => ∃ r : Int, e = .returned (.int .i64 r) ∧ decide (0 ≤ r) = xs.any farB ∧ Below w.heap.size w w' := by
  have hlen := hx.len
  have hcf : ∀ (args : Array Value) (w : World), (callFunc 62 args).run Try.prog w = .ok (.enter 62 args) w := enters_of Try.func62 (by kernel_rfl) rfl
  have HX := Off.mk hx
  clear hx
  go_enter Try.func95, Try.ntmps95
  go_wp2
  go_loopw [8] (fun i wr => ∃ k : Nat, k ≤ xs.length ∧ i = .int .i64 k ∧ Off (∀ j, j < k → farB (xs.getD j 0) = false) ∧ Off (Below w.heap.size w wr)) (fun i _ => xs.length - (intOf i).toNat)
  case atStart => exact ⟨0, by omega, rfl, ⟨fun j hj => by omega⟩, ⟨Below.refl _ _⟩⟩
  case round =>
    obtain ⟨k, hk, rfl, hno, HB⟩ := hrel
    by_cases hlt : k < xs.length
    · have hki : (k : Int) < (xs.length : Int) := by omega
      obtain ⟨ad, rfl, cA⟩ := (HX.out.below HB.out).cell k hlt
      have CT := Off.mk (fun v hv => far_any (xs.getD k 0) v hv wr)
      have HH : Off (farB (xs.getD k 0) = true → xs.any farB = true) := ⟨fun hv => by
        rw [List.any_eq_true]
        refine ⟨xs[k], List.getElem_mem hlt, ?_⟩
        rw [List.getD_eq_getElem?_getD, List.getElem?_eq_getElem hlt] at hv
        exact hv⟩
      have HE : Off (∀ j, j = k → farB (xs.getD j 0) = farB (xs.getD k 0)) := ⟨fun j e => by rw [e]⟩
      obtain ⟨x, hx⟩ : ∃ x, x = xs.getD k 0 := ⟨_, rfl⟩
      rw [← hx] at cA CT HH HE
      clear hx
      cases hp : farB x
      · have CT' := Off.mk (CT.out false hp)
        have HN : Off (∀ j, j < k + 1 → farB (xs.getD j 0) = false) := ⟨fun j hj => by
          by_cases e : j = k
          · rw [HE.out j e]; exact hp
          · exact hno.out j (by omega)⟩
        clear hp CT HH HE
        go_wp2_with (go_at_fn 62; refine (CT'.out).mono ?_; rintro e w1 ⟨rfl, hb1⟩; subst w1)
        go_roundw
        case rel => exact ⟨k + 1, by omega, by go_num, HN, HB⟩
        case measure => simp only [intOf]; omega
      · have CT' := Off.mk (CT.out true hp)
        have HO := Off.mk (HH.out hp)
        clear hp CT HH HE
        go_wp2_with (go_at_fn 62; refine (CT'.out).mono ?_; rintro e w1 ⟨rfl, hb1⟩; subst w1)
        go_ret
        exact ⟨k, rfl, by rw [HO.out]; simp, HB.out⟩
    · obtain rfl : k = xs.length := by omega
      have HO : Off (xs.any farB = false) := ⟨by
        rw [List.any_eq_false]
        intro y hy
        obtain ⟨j, hj, rfl⟩ := List.getElem_of_mem hy
        have := hno.out j hj
        rw [List.getD_eq_getElem?_getD, List.getElem?_eq_getElem hj] at this
        simpa using this⟩
      go_wp2
      go_ret
      exact ⟨-1, rfl, by rw [HO.out]; rfl, HB.out⟩
theorem contains61_any (xs : List Int) (A : Option Addr) (c : Nat) (v : Bool) (hv : xs.any farB = v) (w : World) (hx : IntsAt w A xs) :
    Calls Try.prog 61 #[.slice A xs.length c, .func (.func 62) #[] #[]] w fun e w' => e = .returned (.bool v) ∧ Below w.heap.size w w' := by
  have CI := Off.mk (index95_any xs A c w hx)
  have HV := Off.mk hv
  clear hx hv
  go_enter Try.func61, Try.ntmps61
  go_wp2_with (go_at_call 95; refine CI.out.mono ?_; rintro e w1 ⟨r, rfl, hr, hb1⟩)
  go_ret
  exact ⟨ret_bool (by rw [← HV.out, ← hr]), hb1⟩
end Go.Proofs.Ytbpmiphipjkdlaa
