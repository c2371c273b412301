/- Contracts: the points out of range; as. -/
import Derived.Test.YtbpmiphipjkdlaaAc
namespace Go.Proofs.Ytbpmiphipjkdlaa
open Go.RowKit Go.Shelf

def farP (p : Int × Int) : Bool := farB p.1 || farB p.2
set_option maxHeartbeats 1000000 in
theorem far83_any (p : Int × Int) (v : Bool) (hv : farP p = v) (w : World) : Calls Try.prog 83 #[ptV p] w fun e w' => e = .returned (.bool v) ∧ Below w.heap.size w w' := by
  unfold farP at hv
  have C1 := Off.mk (fun v hv W => far_any p.1 v hv W)
  have C2 := Off.mk (fun v hv W => far_any p.2 v hv W)
  have hB := Off.mk (belowA (Below.refl w.heap.size w) (.cells #[.int .i64 p.1, .int .i64 p.2] 34))
  cases h1 : farB p.1
  · rw [h1, Bool.false_or] at hv
    have C1' := Off.mk (C1.out false h1)
    have C2' := Off.mk (C2.out v hv)
    clear h1 hv C1 C2
    go_enter Try.func83, Try.ntmps83
    go_wp2_with fail
    refine (C1'.out _).mono ?_
    rintro e w1 ⟨rfl, hw1⟩
    subst w1
    go_wp2_with fail
    refine (C2'.out _).mono ?_
    rintro e w1 ⟨rfl, hw1⟩
    subst w1
    go_wp2
    go_ret
    exact ⟨rfl, hB.out⟩
  · rw [h1, Bool.true_or] at hv
    subst hv
    have C1' := Off.mk (C1.out true h1)
    clear h1 C1 C2
    go_enter Try.func83, Try.ntmps83
    go_wp2_with fail
    refine (C1'.out _).mono ?_
    rintro e w1 ⟨rfl, hw1⟩
    subst w1
    go_wp2
    go_ret
    exact ⟨rfl, hB.out⟩
set_option maxHeartbeats 1000000 in
set_option maxRecDepth 100000 in
theorem index96_any (xs : List (Int × Int)) (A : Option Addr) (c : Nat) (w : World) (hx : PairsI w A xs) :
    Calls Try.prog 96 #[.slice A xs.length c, .func (.func 83) #[] #[]] w fun e w' => ∃ r : Int, e = .returned (.int .i64 r) ∧ decide (0 ≤ r) = xs.any farP ∧ Below w.heap.size w w' := by
  have hlen := hx.len
  have hcf : ∀ (args : Array Value) (w : World), (callFunc 83 args).run Try.prog w = .ok (.enter 83 args) w := enters_of Try.func83 (by kernel_rfl) rfl
  have HX := Off.mk hx
  clear hx
  go_enter Try.func96, Try.ntmps96
  go_wp2
  go_loopw [8] (fun i wr => ∃ k : Nat, k ≤ xs.length ∧ i = .int .i64 k ∧ Off (∀ j, j < k → farP (xs.getD j (0, 0)) = false) ∧ Off (Below w.heap.size w wr)) (fun i _ => xs.length - (intOf i).toNat)
  case atStart => exact ⟨0, by omega, rfl, ⟨fun j hj => by omega⟩, ⟨Below.refl _ _⟩⟩
  case round =>
    obtain ⟨k, hk, rfl, hno, HB⟩ := hrel
    by_cases hlt : k < xs.length
    · have hki : (k : Int) < (xs.length : Int) := by omega
      obtain ⟨ad, rfl, cA, cB⟩ := (HX.out.below HB.out).cell k hlt
      have CT := Off.mk (fun v hv => far83_any (xs.getD k (0, 0)) v hv wr)
      have HH : Off (farP (xs.getD k (0, 0)) = true → xs.any farP = true) := ⟨fun hv => by
        rw [List.any_eq_true]
        refine ⟨xs[k], List.getElem_mem hlt, ?_⟩
        rw [List.getD_eq_getElem?_getD, List.getElem?_eq_getElem hlt] at hv
        exact hv⟩
      have HE : Off (∀ j, j = k → farP (xs.getD j (0, 0)) = farP (xs.getD k (0, 0))) := ⟨fun j e => by rw [e]⟩
      obtain ⟨x, hx⟩ : ∃ x, x = xs.getD k (0, 0) := ⟨_, rfl⟩
      rw [← hx] at cA cB CT HH HE
      clear hx
      cases hp : farP x
      · have CT' := Off.mk (CT.out false hp)
        have HN : Off (∀ j, j < k + 1 → farP (xs.getD j (0, 0)) = false) := ⟨fun j hj => by
          by_cases e : j = k
          · rw [HE.out j e]; exact hp
          · exact hno.out j (by omega)⟩
        clear hp CT HH HE
        go_wp2_with (go_at_fn 83; refine (CT'.out).mono ?_; rintro e w1 ⟨rfl, hb1⟩; have HB1 := Off.mk (belowC HB.out hb1); clear hb1)
        go_roundw
        case rel => exact ⟨k + 1, by omega, by go_num, HN, HB1⟩
        case measure => simp only [intOf]; omega
      · have CT' := Off.mk (CT.out true hp)
        have HO := Off.mk (HH.out hp)
        clear hp CT HH HE
        go_wp2_with (go_at_fn 83; refine (CT'.out).mono ?_; rintro e w1 ⟨rfl, hb1⟩; have HB1 := Off.mk (belowC HB.out hb1); clear hb1)
        go_ret
        exact ⟨k, rfl, by rw [HO.out]; simp, HB1.out⟩
    · obtain rfl : k = xs.length := by omega
      have HO : Off (xs.any farP = false) := ⟨by
        rw [List.any_eq_false]
        intro y hy
        obtain ⟨j, hj, rfl⟩ := List.getElem_of_mem hy
        have := hno.out j hj
        rw [List.getD_eq_getElem?_getD, List.getElem?_eq_getElem hj] at this
        simpa using this⟩
      go_wp2
      go_ret
      exact ⟨-1, rfl, by rw [HO.out]; rfl, HB.out⟩
theorem contains63_any (xs : List (Int × Int)) (A : Option Addr) (c : Nat) (v : Bool) (hv : xs.any farP = v) (w : World) (hx : PairsI w A xs) :
    Calls Try.prog 63 #[.slice A xs.length c, .func (.func 83) #[] #[]] w fun e w' => e = .returned (.bool v) ∧ Below w.heap.size w w' := by
  have CI := Off.mk (index96_any xs A c w hx)
  have HV := Off.mk hv
  clear hx hv
  go_enter Try.func63, Try.ntmps63
  go_wp2_with (go_at_call 96; refine CI.out.mono ?_; rintro e w1 ⟨r, rfl, hr, hb1⟩)
  go_ret
  exact ⟨ret_bool (by rw [← HV.out, ← hr]), hb1⟩
set_option maxHeartbeats 1000000 in
set_option maxRecDepth 100000 in
theorem as_any (xs : List (Int × Int)) (A : Option Addr) (c : Nat) (w : World) (h60 : xs.length ≤ 60) (hx : PairsI w A xs) :
    Calls Try.prog 65 #[.slice A xs.length c] w fun e w' => ∃ v, e = .returned v ∧ OwnQ 70 w' w.heap.size v xs ∧ Below w.heap.size w w' := by
  obtain ⟨i0, hi, hz0, hz1, hz2⟩ := info_parts info70
  have HX := Off.mk hx
  clear hx
  go_enter Try.func65, Try.ntmps65
  go_wp2
  go_loopw [3, 8] (fun v kv wr => ∃ k : Nat, k ≤ xs.length ∧ kv = .int .i64 k ∧ Off (OwnQ 70 wr w.heap.size v (xs.take k)) ∧ Off (Below w.heap.size w wr)) (fun _ kv _ => xs.length - (intOf kv).toNat)
  case atStart => exact ⟨0, by omega, rfl, ⟨ownQ_nil _ _ _⟩, ⟨Below.refl _ _⟩⟩
  case round =>
    obtain ⟨k, hk, rfl, HO, HB⟩ := hrel
    obtain ⟨wo, hwo⟩ : ∃ wo : World, wo = wr := ⟨_, rfl⟩
    rw [← hwo] at HB HO ⊢
    clear hwo
    by_cases hlt : k < xs.length
    · have hki : (k : Int) < (xs.length : Int) := by omega
      obtain ⟨ad, rfl, cA, cB⟩ := (HX.out.below HB.out).cell k hlt
      have HT : Off (xs.take (k + 1) = xs.take k ++ [((xs.getD k (0, 0)).1, (xs.getD k (0, 0)).2)]) := ⟨by
        rw [List.take_succ_eq_append_getElem hlt, List.getD_eq_getElem?_getD, List.getElem?_eq_getElem hlt]
        rfl⟩
      have HLn : Off ((xs.take k).length ≤ 1000) := ⟨by rw [List.length_take]; omega⟩
      obtain ⟨x, hx⟩ : ∃ x, x = xs.getD k (0, 0) := ⟨_, rfl⟩
      rw [← hx] at cA cB HT
      have HOa := Off.mk (ownQ_below HO.out ((Below.refl _ wo).alloc (Nat.le_refl _) (.cells #[.int .i64 x.1, .int .i64 x.2] 34)))
      have HBa := Off.mk (belowA HB.out (.cells #[.int .i64 x.1, .int .i64 x.2] 34))
      clear hx
      go_wp2_with (at_builtin; refine wpList_pair Try.underlying57 hi hz0 hz1 hz2 rfl rfl _ _ rfl w.heap.size _ _ x.1 x.2 HOa.out HBa.out.size HLn.out rfl (by rw [World.size_alloc]; rfl) ?_)
      intro v3 w3 hO3 hb3 _
      rw [← HT.out] at hO3
      have HO3 := Off.mk hO3
      have HB3 := Off.mk (HBa.out.trans hb3)
      clear hO3 hb3
      go_wp2
      go_roundw
      case rel => exact ⟨k + 1, by omega, by go_num, HO3, HB3⟩
      case measure => simp only [intOf]; omega
    · obtain rfl : k = xs.length := by omega
      have HO' : Off (OwnQ 70 wo w.heap.size u3 xs) := ⟨by have := HO.out; rw [List.take_length] at this; exact this⟩
      go_wp2
      go_ret
      exact ⟨_, rfl, HO'.out, HB.out⟩
end Go.Proofs.Ytbpmiphipjkdlaa
