/- Contracts: fits. -/
import Derived.Test.YtddcdopimpfhcaaBd
namespace Go.Proofs.Ytddcdopimpfhcaa
open Go.RowKit Go.Shelf

/-- A line is another one, or crosses it. -/
def hitB (p q : Int × Int) : Bool := decide (p = q) || crossB p q
set_option maxHeartbeats 1000000 in
theorem index_fits (p0 p1 : Int) (xs : List (Int × Int)) (A : Option Addr) (c P : Nat) (w : World) (hx : PairsI w A xs) (hP : w.heap[P]? = some (.cells #[.int .i64 p0, .int .i64 p1] 36 (0, 0))) :
    Calls Try.prog 87 #[.slice A xs.length c, .func (.func 77) #[] #[.pointer (some ⟨P, 0, none⟩)]] w fun e w' => ∃ r : Int, e = .returned (.int .i64 r) ∧ decide (0 ≤ r) = xs.any (hitB (p0, p1)) ∧ Below w.heap.size w w' := by
  have hlen := hx.len
  have hcf : ∀ (args : Array Value) (w : World), (callFunc 77 args).run Try.prog w = .ok (.enter 77 args) w := enters_of Try.func77 (by kernel_rfl) rfl
  have HP := Off.mk hP
  have HX := Off.mk hx
  clear hP hx
  go_enter Try.func87, Try.ntmps87
  go_wp2
  go_loopw [8] (fun i wr => ∃ k : Nat, k ≤ xs.length ∧ i = .int .i64 k ∧ Below w.heap.size w wr ∧ Off (∀ j, j < k → hitB (p0, p1) (xs.getD j (0, 0)) = false)) (fun i _ => xs.length - (intOf i).toNat)
  case atStart => exact ⟨0, by omega, rfl, Below.refl _ _, ⟨fun j hj => by omega⟩⟩
  case round =>
    obtain ⟨k, hk, rfl, hB, hno⟩ := hrel
    by_cases hlt : k < xs.length
    · have hki : (k : Int) < (xs.length : Int) := by omega
      obtain ⟨ad, rfl, cA, cB⟩ := (HX.out.below hB).cell k hlt
      have CT := Off.mk (fun v hv => fits1_any p0 p1 (xs.getD k (0, 0)).1 (xs.getD k (0, 0)).2 v hv P wr (blockB hB HP.out))
      have HH : Off (hitB (p0, p1) (xs.getD k (0, 0)) = true → xs.any (hitB (p0, p1)) = true) := ⟨fun hv => by
        rw [List.any_eq_true]
        refine ⟨xs[k], List.getElem_mem hlt, ?_⟩
        rw [List.getD_eq_getElem?_getD, List.getElem?_eq_getElem hlt] at hv
        exact hv⟩
      have HE : Off (∀ j, j = k → hitB (p0, p1) (xs.getD j (0, 0)) = hitB (p0, p1) (xs.getD k (0, 0))) := ⟨fun j e => by rw [e]⟩
      obtain ⟨x, hx⟩ : ∃ x, x = xs.getD k (0, 0) := ⟨_, rfl⟩
      rw [← hx] at cA cB CT HH HE
      clear hx
      cases hp : hitB (p0, p1) x
      · have CT' := Off.mk (CT.out false hp)
        have HN : Off (∀ j, j < k + 1 → hitB (p0, p1) (xs.getD j (0, 0)) = false) := ⟨fun j hj => by
          by_cases e : j = k
          · rw [HE.out j e]; exact hp
          · exact hno.out j (by omega)⟩
        clear hp CT HH HE
        go_wp2_with (go_at_fn 77; refine (CT'.out).mono ?_; rintro e w1 ⟨rfl, hb1⟩)
        go_roundw
        case rel => exact ⟨k + 1, by omega, by go_num, belowC hB hb1, HN⟩
        case measure => simp only [intOf]; omega
      · have CT' := Off.mk (CT.out true hp)
        have HO := Off.mk (HH.out hp)
        clear hp CT HH HE
        go_wp2_with (go_at_fn 77; refine (CT'.out).mono ?_; rintro e w1 ⟨rfl, hb1⟩)
        go_ret
        exact ⟨k, rfl, by rw [HO.out]; simp, belowC hB hb1⟩
    · obtain rfl : k = xs.length := by omega
      have HO : Off (xs.any (hitB (p0, p1)) = false) := ⟨by
        rw [List.any_eq_false]
        intro y hy
        obtain ⟨j, hj, rfl⟩ := List.getElem_of_mem hy
        have := hno.out j hj
        rw [List.getD_eq_getElem?_getD, List.getElem?_eq_getElem hj] at this
        simpa using this⟩
      go_wp2
      go_ret
      exact ⟨-1, rfl, by rw [HO.out]; rfl, hB⟩
set_option maxHeartbeats 1000000 in
theorem contains_fits (p0 p1 : Int) (xs : List (Int × Int)) (A : Option Addr) (c P : Nat) (v : Bool) (hv : xs.any (hitB (p0, p1)) = v) (w : World) (hx : PairsI w A xs) (hP : w.heap[P]? = some (.cells #[.int .i64 p0, .int .i64 p1] 36 (0, 0))) :
    Calls Try.prog 76 #[.slice A xs.length c, .func (.func 77) #[] #[.pointer (some ⟨P, 0, none⟩)]] w fun e w' => e = .returned (.bool v) ∧ Below w.heap.size w w' := by
  have CI := Off.mk (index_fits p0 p1 xs A c P w hx hP)
  have HV := Off.mk hv
  clear hx hP hv
  go_enter Try.func76, Try.ntmps76
  go_wp2_with (go_at_call 87; refine CI.out.mono ?_; rintro e w1 ⟨r, rfl, hr, hb1⟩)
  go_ret
  exact ⟨ret_bool (by rw [← HV.out, ← hr]), hb1⟩
end Go.Proofs.Ytddcdopimpfhcaa
