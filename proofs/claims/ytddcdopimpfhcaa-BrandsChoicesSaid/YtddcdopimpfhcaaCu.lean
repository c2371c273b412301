/- The law BrandsCuts: its walk. -/
import Derived.Test.YtddcdopimpfhcaaCt
namespace Go.Proofs.Ytddcdopimpfhcaa
open Go.RowKit Go.Shelf


theorem ints_none (w : World) (A : Option Addr) : IntsAt w A [] := ⟨by simp, fun j hj => by simp at hj⟩
def ListRes (w : World) (m : List Int) (er : Int) (e : Ending) (w' : World) : Prop := ∃ A c, e = .returned (.tuple #[.slice A m.length c, .int .i64 er]) ∧ IntsAt w' A m ∧ Below w.heap.size w w'
theorem listRes {w w' : World} {o : Option (List Int)} {er : Int} {e : Ending} (h : ListPost w o er e w') : ListRes w (o.getD []) (if o.isSome then 0 else er) e w' := by
  obtain ⟨hb, h⟩ := h
  cases o with
  | none => exact ⟨none, 0, h, ints_none _ _, hb⟩
  | some m =>
    obtain ⟨A, c, e, hI⟩ := h
    exact ⟨A, c, e, hI, hb⟩
theorem both_cut (l : List Int) (i : Int) : ∃ (m : List Int) (er : Int), (∀ A c w, IntsAt w A l → l.length ≤ c → (A = none → c = 0) → Calls Try.prog 43 #[.slice A l.length c, .int .i64 i] w (ListRes w m er)) ∧
    ∀ A c w, IntsAt w A l → Calls Try.prog 44 #[.slice A l.length c, .int .i64 i] w (ListRes w m er) := by
  by_cases h : roundB l = true ∧ 0 ≤ i ∧ i < l.length
  · obtain ⟨hv, h0, h1⟩ := h
    obtain ⟨k, rfl⟩ : ∃ k : Nat, i = (k : Int) := ⟨i.toNat, by omega⟩
    exact ⟨_, _, fun A c w hl hlc hA => (cut_any l A c k hv (by omega) w hl hlc hA).mono fun e w' h => listRes h, fun A c w hl => (rcut_any l A c k hv (by omega) w hl).mono fun e w' h => listRes h⟩
  · refine ⟨[], 2, fun A c w hl _ _ => (cut_arg l A c i h w hl).mono ?_, fun A c w hl => (rcut_arg l A c i h w hl).mono ?_⟩
    · rintro e w' ⟨rfl, hw⟩; subst hw; exact ⟨none, 0, rfl, ints_none _ _, Below.refl _ _⟩
    · rintro e w' ⟨rfl, hw⟩; subst hw; exact ⟨none, 0, rfl, ints_none _ _, Below.refl _ _⟩
theorem both_glue (l : List Int) (i : Int) : ∃ (m : List Int) (er : Int), (∀ A c w, IntsAt w A l → l.length ≤ c → (A = none → c = 0) → Calls Try.prog 45 #[.slice A l.length c, .int .i64 i] w (ListRes w m er)) ∧
    ∀ A c w, IntsAt w A l → Calls Try.prog 46 #[.slice A l.length c, .int .i64 i] w (ListRes w m er) := by
  by_cases h : roundB l = true ∧ 0 ≤ i ∧ i < l.length
  · obtain ⟨hv, h0, h1⟩ := h
    obtain ⟨k, rfl⟩ : ∃ k : Nat, i = (k : Int) := ⟨i.toNat, by omega⟩
    exact ⟨_, _, fun A c w hl hlc hA => (glue_any l A c k hv (by omega) w hl hlc hA).mono fun e w' h => listRes h, fun A c w hl => (rglue_any l A c k hv (by omega) w hl).mono fun e w' h => listRes h⟩
  · refine ⟨[], 2, fun A c w hl _ _ => (glue_arg l A c i h w hl).mono ?_, fun A c w hl => (rglue_arg l A c i h w hl).mono ?_⟩
    · rintro e w' ⟨rfl, hw⟩; subst hw; exact ⟨none, 0, rfl, ints_none _ _, Below.refl _ _⟩
    · rintro e w' ⟨rfl, hw⟩; subst hw; exact ⟨none, 0, rfl, ints_none _ _, Below.refl _ _⟩
theorem cuts_many (l : List Int) (A : Option Addr) (c : Nat) (i : Int) (w : World) (h60 : 60 < l.length) :
    Calls Try.prog 15 #[.slice A l.length c, .int .i64 i] w fun e w' => e = .returned (.bool true) ∧ Below w.heap.size w w' := by
  go_enter Try.func15, Try.ntmps15
  go_wp2_with (go_at_call 17; refine (alive_any _).mono ?_; rintro e w2 ⟨rfl, hb2⟩)
  go_ret
  exact ⟨rfl, hb2⟩
set_option maxHeartbeats 4000000 in
set_option maxRecDepth 100000 in
theorem cuts_few (l : List Int) (A : Option Addr) (c : Nat) (i : Int) (w : World) (hl : IntsAt w A l) (hlc : l.length ≤ c) (hA : A = none → c = 0) (h60 : l.length ≤ 60) :
    Calls Try.prog 15 #[.slice A l.length c, .int .i64 i] w fun e w' => e = .returned (.bool true) ∧ Below w.heap.size w w' := by
  obtain ⟨m1, e1, CA, CB⟩ := both_cut l i
  obtain ⟨m2, e2, CC, CD⟩ := both_glue l i
  have HX := Off.mk hl
  go_enter Try.func15, Try.ntmps15
  go_wp2_with (at_builtin; refine wpList_copyI rfl _ _ rfl A l c hl hlc h60 hA rfl rfl ?_)
  intro v1 w1 hO1 hb1
  obtain ⟨A1, c1, rfl, hI1, hc1, hA1⟩ := own_ints' hO1 (by omega)
  have HI1 := Off.mk hI1
  have HB1 := Off.mk hb1
  have C1 := Off.mk (CA A1 c1 w1 hI1 hc1 hA1)
  have C2 := Off.mk (fun W (hW : Below w.heap.size w W) => CB A c W (hl.below hW))
  have C3 := Off.mk (fun W (hW : Below w1.heap.size w1 W) => CC A1 c1 W (hI1.below hW) hc1 hA1)
  have C4 := Off.mk (fun W (hW : Below w.heap.size w W) => CD A c W (hl.below hW))
  clear CA CB CC CD hO1 hI1 hb1 hl hc1 hA1
  go_wp2_with fail
  refine C1.out.mono ?_
  rintro e w2 ⟨A2, c2, rfl, hI2, hb2⟩
  have HI2 := Off.mk hI2
  have H12 := Off.mk hb2
  have HB2 := Off.mk (belowC HB1.out hb2)
  clear hI2 hb2 C1
  go_wp2_with fail
  refine (C2.out _ HB2.out).mono ?_
  rintro e w3 ⟨A3, c3, rfl, hI3, hb3⟩
  have CS := Off.mk (same_any m1 m1 A2 A3 c2 c3 true (by simp) _ (HI2.out.below hb3) hI3)
  have H13 := Off.mk (belowC H12.out hb3)
  have HB3 := Off.mk (belowC HB2.out hb3)
  clear hI3 hb3 C2 HI2
  go_wp2_with fail
  refine CS.out.mono ?_
  rintro e w4 ⟨rfl, hb4⟩
  have H14 := Off.mk (belowC H13.out hb4)
  have HB4 := Off.mk (belowC HB3.out hb4)
  clear hb4 CS
  go_wp2_with fail
  refine (C3.out _ H14.out).mono ?_
  rintro e w5 ⟨A5, c5, rfl, hI5, hb5⟩
  have HI5 := Off.mk hI5
  have H15 := Off.mk (belowC H14.out hb5)
  have HB5 := Off.mk (belowC HB4.out hb5)
  clear hI5 hb5 C3
  go_wp2_with fail
  refine (C4.out _ HB5.out).mono ?_
  rintro e w6 ⟨A6, c6, rfl, hI6, hb6⟩
  have CS := Off.mk (same_any m2 m2 A5 A6 c5 c6 true (by simp) _ (HI5.out.below hb6) hI6)
  have H16 := Off.mk (belowC H15.out hb6)
  have HB6 := Off.mk (belowC HB5.out hb6)
  clear hI6 hb6 C4 HI5
  go_wp2_with fail
  refine CS.out.mono ?_
  rintro e w7 ⟨rfl, hb7⟩
  have HB7 := Off.mk (belowC HB6.out hb7)
  have CT := Off.mk (same_any l l A1 A c1 c true (by simp) _ (HI1.out.below (belowC H16.out hb7)) (HX.out.below HB7.out))
  clear hb7 CS
  go_wp2_with fail
  refine CT.out.mono ?_
  rintro e w8 ⟨rfl, hb8⟩
  have HB8 := Off.mk (belowC HB7.out hb8)
  clear hb8 CT
  go_wp2_with (go_at_call 17; refine (alive_any _).mono ?_; rintro e w9 ⟨rfl, hb9⟩)
  go_ret
  exact ⟨rfl, belowC HB8.out hb9⟩
theorem cuts_walk (l : List Int) (A : Option Addr) (c : Nat) (i : Int) (w : World) (hx : l.length ≤ 140737488351232 → IntsAt w A l) (hlc : l.length ≤ c) (hA : A = none → c = 0) :
    Calls Try.prog 15 #[.slice A l.length c, .int .i64 i] w fun e w' => e = .returned (.bool true) ∧ Below w.heap.size w w' := by
  by_cases h60 : l.length ≤ 60
  · exact cuts_few l A c i w (hx (by omega)) hlc hA h60
  · exact cuts_many l A c i w (by omega)
end Go.Proofs.Ytddcdopimpfhcaa
