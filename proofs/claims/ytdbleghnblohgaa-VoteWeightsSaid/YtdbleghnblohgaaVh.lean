/- Contracts: IndexFunc, ContainsFunc, ruled. -/
import Derived.Test.YtdbleghnblohgaaVg
import Derived.Test.YtdbleghnblohgaaPm
namespace Go.Proofs.Ytdbleghnblohgaa
open Go.RowKit Go.Shelf

/-- What lies between a call's begin and its end, for a search through a slice by a closure. -/
structure Asks (P : Program) (R : World → World → Prop) (g : Nat) (lb : Array Value) (A : Option Addr) (l : List Int) (p : Int → Bool) (w : World) : Prop where
  refl : R w w
  trans : ∀ a b, R w a → R a b → R w b
  ints : ∀ W, R w W → IntsAt W A l
  ask : ∀ W j, R w W → j < l.length → Calls P g (#[.int .i64 (l.getD j 0)] ++ lb) W fun e w' => e = .returned (.bool (p (l.getD j 0))) ∧ R W w'
def IdxPost (R : World → World → Prop) (p : Int → Bool) (l : List Int) (w : World) (e : Ending) (w' : World) : Prop :=
  ∃ r : Int, e = .returned (.int .i64 r) ∧ decide (0 ≤ r) = l.any p ∧ R w w'
theorem any_true {p : Int → Bool} {l : List Int} {k : Nat} (hk : k < l.length) (h : p (l.getD k 0) = true) : l.any p = true := by
  rw [List.any_eq_true]
  refine ⟨l[k], List.getElem_mem hk, ?_⟩
  rw [List.getD_eq_getElem?_getD, List.getElem?_eq_getElem hk] at h
  exact h
theorem any_false {p : Int → Bool} {l : List Int} (h : ∀ j, j < l.length → p (l.getD j 0) = false) : l.any p = false := by
  rw [List.any_eq_false]
  intro x hx
  obtain ⟨k, hk, rfl⟩ := List.mem_iff_getElem.1 hx
  have := h k hk
  rw [List.getD_eq_getElem?_getD, List.getElem?_eq_getElem hk] at this
  simp at this
  simp [this]

set_option maxHeartbeats 1000000 in
theorem index_any (R : World → World → Prop) (g : Nat) (lb : Array Value) (A : Option Addr) (l : List Int) (p : Int → Bool) (n c : Nat) (w : World) (hg : Enters Try.prog g) (hn : l.length = n) (h : Asks Try.prog R g lb A l p w) :
    Calls Try.prog 80 #[.slice A n c, .func (.func g) #[] lb] w (IdxPost R p l w) := by
  subst hn
  have hlen := (h.ints w h.refl).len
  have hcf : ∀ (args : Array Value) (w : World), (callFunc g args).run Try.prog w = .ok (.enter g args) w := hg
  go_enter Try.func80, Try.ntmps80
  go_wp2
  go_loopw [8] (fun i wr => ∃ k : Nat, k ≤ l.length ∧ i = .int .i64 k ∧ R w wr ∧ Off (∀ j, j < k → p (l.getD j 0) = false))
    (fun i _ => l.length - (intOf i).toNat)
  case atStart => exact ⟨0, by omega, rfl, h.refl, ⟨fun j hj => by omega⟩⟩
  case round =>
    obtain ⟨k, hk, rfl, hr, hno⟩ := hrel
    by_cases hlt : k < l.length
    · have HI := h.ints wr hr
      obtain ⟨ad, rfl, hc⟩ := HI.cell k hlt
      have hask := Off.mk (h.ask wr k hr hlt)
      obtain ⟨x, hx⟩ : ∃ x, x = l.getD k 0 := ⟨_, rfl⟩
      rw [← hx] at hc hask
      have HX := Off.mk hx
      clear hx HI
      cases hp : p x
      · rw [hp] at hask
        go_wp2_with (go_at_fn g; refine (hask.out).mono ?_; rintro e w1 ⟨rfl, hr1⟩)
        go_roundw
        case rel => exact ⟨k + 1, by omega, by go_num, h.trans _ _ hr hr1, ⟨fun j hj => by
          by_cases e : j = k
          · subst e; rw [← HX.out]; exact hp
          · exact hno.out j (by omega)⟩⟩
        case measure => simp only [intOf]; omega
      · rw [hp] at hask
        have HA : Off (l.any p = true) := ⟨any_true hlt (by rw [← HX.out]; exact hp)⟩
        clear hp
        go_wp2_with (go_at_fn g; refine (hask.out).mono ?_; rintro e w1 ⟨rfl, hr1⟩)
        go_ret
        exact ⟨k, rfl, by rw [HA.out]; simp, h.trans _ _ hr hr1⟩
    · have HA : Off (l.any p = false) := ⟨any_false fun j hj => hno.out j (by omega)⟩
      go_wp2
      go_ret
      exact ⟨-1, rfl, by rw [HA.out]; rfl, hr⟩

set_option maxHeartbeats 1000000 in
theorem contains_any (R : World → World → Prop) (g : Nat) (lb : Array Value) (A : Option Addr) (l : List Int) (p : Int → Bool) (n c : Nat) (w : World) (hg : Enters Try.prog g) (hn : l.length = n) (h : Asks Try.prog R g lb A l p w) :
    Calls Try.prog 73 #[.slice A n c, .func (.func g) #[] lb] w fun e w' => e = .returned (.bool (l.any p)) ∧ R w w' := by
  go_enter Try.func73, Try.ntmps73
  go_wp2_with (go_at_call 80; refine (index_any R g lb A l p n c _ hg hn h).mono ?_; rintro e w1 ⟨r, rfl, hd, hr⟩; have HD := Off.mk hd; clear hd)
  go_ret
  exact ⟨ret_bool HD.out, hr⟩

theorem and_any (x s : Int) (hx : 0 ≤ x) (hx' : x < 256) (hs : 0 ≤ s) (hs' : s < 256) : bits .and .i64 x s = andI x s := by
  obtain ⟨a, rfl⟩ := Int.eq_ofNat_of_zero_le hx
  obtain ⟨b, rfl⟩ := Int.eq_ofNat_of_zero_le hs
  exact (bits_nat .i64 8 (by decide) (fun n h0 h1 => by rw [IntKind.wrap_i64]; omega) a b (by omega) (by omega)).1

set_option maxHeartbeats 1000000 in
theorem ruled1 (x s : Int) (B : Nat) (w : World) (hx : 0 ≤ x) (hx' : x < 256) (hs : 0 ≤ s) (hs' : s < 256) (hc : w.cell? ⟨B, 0, none⟩ = some (.int .i64 s)) :
    Calls Try.prog 74 #[.int .i64 x, .pointer (some ⟨B, 0, none⟩)] w fun e w' => e = .returned (.bool (subB x s || subB s x)) ∧ w' = w := by
  have ha := and_any x s hx hx' hs hs'
  have hcom : Off (andI x s = andI s x) := ⟨by unfold andI; rw [Nat.and_comm]⟩
  by_cases h1 : andI x s = x
  · have h1' : (andI x s == x) = true := beq_iff_eq.2 h1
    have HF : Off ((subB x s || subB s x) = true) := ⟨by simp [subB, h1]⟩
    clear h1
    go_enter Try.func74, Try.ntmps74
    go_wp2
    go_ret
    exact ⟨ret_bool HF.out.symm, rfl⟩
  · have h1' : (andI x s == x) = false := beq_eq_false_iff_ne.2 h1
    have HF : Off ((subB x s || subB s x) = (andI x s == s)) := ⟨by
      rw [show subB x s = false by simp [subB, h1], Bool.false_or, subB, ← hcom.out]
      rfl⟩
    clear h1
    go_enter Try.func74, Try.ntmps74
    go_wp2
    go_ret
    exact ⟨ret_bool HF.out.symm, rfl⟩
end Go.Proofs.Ytdbleghnblohgaa
