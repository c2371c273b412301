/- The law BrandsOf: its walk. -/
import Derived.Test.YtddcdopimpfhcaaCo
namespace Go.Proofs.Ytddcdopimpfhcaa
open Go.RowKit Go.Shelf

def OfPost (w : World) (ms : List (Int × Int)) (e : Int) (r : Ending) (w' : World) : Prop := ∃ A c, r = .returned (.tuple #[.slice A ms.length c, .int .i64 e]) ∧ PairsI w' A ms ∧ Below w.heap.size w w'
theorem ofPost_flip {w w' : World} {o : Option (List (Int × Int))} {r : Ending} (h : FlipPost w o r w') (hl : ∀ m, o = some m → m.length ≤ 140737488351232) : OfPost w (o.getD []) (if o.isSome then 0 else 10) r w' := by
  obtain ⟨hb, h⟩ := h
  cases o with
  | none => exact ⟨none, 0, h, pairs_nil _ _, hb⟩
  | some m =>
    obtain ⟨v, e, hO⟩ := h
    obtain ⟨A, c, rfl, hI, _⟩ := ownQ_pairs hO (hl m rfl)
    exact ⟨A, c, e, hI, hb⟩
theorem ofRun_len : ∀ (f : Nat) (now names : List Int) (out m : List (Int × Int)), ofRun f now names out = some m → m.length ≤ out.length + f
  | 0, _, _, _, m, h => by simp [ofRun] at h
  | f + 1, now, names, out, m, h => by
    rw [ofRun] at h
    split at h
    · split at h
      · split at h
        · cases h
        · have := ofRun_len f _ _ _ m h
          rw [List.length_append] at this
          simp at this
          omega
      · cases h
    · split at h
      · cases h; omega
      · cases h
theorem ofL_len {l : List Int} {m : List (Int × Int)} (h : ofL l = some m) : m.length ≤ l.length := by
  unfold ofL at h
  rw [Option.map_eq_some_iff] at h
  obtain ⟨p, hp, rfl⟩ := h
  rw [sortL_len']
  have := ofRun_len _ _ _ _ _ hp
  simpa using this
theorem both_of (l : List Int) : ∃ (ms : List (Int × Int)) (e : Int), (∀ A c w, IntsAt w A l → l.length ≤ c → (A = none → c = 0) → Calls Try.prog 36 #[.slice A l.length c] w (OfPost w ms e)) ∧
    ∀ A c w, IntsAt w A l → Calls Try.prog 40 #[.slice A l.length c] w (OfPost w ms e) := by
  cases hv : roundB l with
  | false =>
    refine ⟨[], 2, fun A c w hl hlc hA => (of_arg l A c hv w hl).mono ?_, fun A c w hl => (rof_arg l A c hv w hl).mono ?_⟩
    · rintro e w1 ⟨rfl, hw⟩; subst w1; exact ⟨none, 0, rfl, pairs_nil _ _, Below.refl _ _⟩
    · rintro e w1 ⟨rfl, hw⟩; subst w1; exact ⟨none, 0, rfl, pairs_nil _ _, Below.refl _ _⟩
  | true =>
    have h12 := (roundB_iff.1 hv).1.2
    refine ⟨_, _, fun A c w hl hlc hA => (of_any l A c hv w hl hlc hA).mono fun e w1 h => ofPost_flip h (fun m hm => by have := ofL_len hm; omega), fun A c w hl => (rof_any l A c hv w hl).mono fun e w1 h => ofPost_flip h (fun m hm => by have := ofL_len hm; omega)⟩
theorem both_closed (l : List Int) : ∃ (x : Bool) (e : Int), (∀ A c w, IntsAt w A l → Calls Try.prog 41 #[.slice A l.length c] w fun r w' => r = .returned (.tuple #[.bool x, .int .i64 e]) ∧ Below w.heap.size w w') ∧
    ∀ A c w, IntsAt w A l → Calls Try.prog 42 #[.slice A l.length c] w fun r w' => r = .returned (.tuple #[.bool x, .int .i64 e]) ∧ w' = w := by
  cases hv : roundB l with
  | false =>
    refine ⟨false, 2, fun A c w hl => (closed_no l A c hv w hl).mono ?_, fun A c w hl => rclosed_no l A c hv w hl⟩
    rintro e w1 ⟨rfl, hw⟩; subst w1; exact ⟨rfl, Below.refl _ _⟩
  | true => exact ⟨_, _, fun A c w hl => closed_yes l A c _ rfl hv w hl, fun A c w hl => rclosed_yes l A c _ rfl hv w hl⟩
theorem of_many (l : List Int) (A : Option Addr) (c : Nat) (w : World) (h60 : 60 < l.length) :
    Calls Try.prog 13 #[.slice A l.length c] w fun e w' => e = .returned (.bool true) ∧ Below w.heap.size w w' := by
  go_enter Try.func13, Try.ntmps13
  go_wp2_with (go_at_call 17; refine (alive_any _).mono ?_; rintro e w2 ⟨rfl, hb2⟩)
  go_ret
  exact ⟨rfl, hb2⟩
set_option maxHeartbeats 4000000 in
set_option maxRecDepth 100000 in
theorem of_few (l : List Int) (A : Option Addr) (c : Nat) (w : World) (hl : IntsAt w A l) (hlc : l.length ≤ c) (hA : A = none → c = 0) (h60 : l.length ≤ 60) :
    Calls Try.prog 13 #[.slice A l.length c] w fun e w' => e = .returned (.bool true) ∧ Below w.heap.size w w' := by
  obtain ⟨ms, e1, CA, CB⟩ := both_of l
  obtain ⟨x, e2, CC, CD⟩ := both_closed l
  have HX := Off.mk hl
  go_enter Try.func13, Try.ntmps13
  go_wp2_with (at_builtin; refine wpList_copyI rfl _ _ rfl A l c hl hlc h60 hA rfl rfl ?_)
  intro v1 w1 hO1 hb1
  obtain ⟨A1, c1, rfl, hI1, hc1, hA1⟩ := own_ints' hO1 (by omega)
  have HI1 := Off.mk hI1
  have HB1 := Off.mk hb1
  have C1 := Off.mk (CA A1 c1 w1 hI1 hc1 hA1)
  have C2 := Off.mk (fun W (hW : Below w.heap.size w W) => CB A c W (hl.below hW))
  have C3 := Off.mk (fun W (hW : Below w1.heap.size w1 W) => CC A1 c1 W (hI1.below hW))
  have C4 := Off.mk (fun W (hW : Below w.heap.size w W) => CD A c W (hl.below hW))
  clear CA CB CC CD hO1 hI1 hb1 hl hc1 hA1
  go_wp2_with fail
  refine C1.out.mono ?_
  rintro e w2 ⟨A2, c2, rfl, hP2, hb2⟩
  have HP2 := Off.mk hP2
  have H12 := Off.mk hb2
  have HB2 := Off.mk (belowC HB1.out hb2)
  clear hP2 hb2 C1
  go_wp2_with fail
  refine (C2.out _ HB2.out).mono ?_
  rintro e w3 ⟨A3, c3, rfl, hP3, hb3⟩
  have HP2 := Off.mk (HP2.out.below hb3)
  have HP3 := Off.mk hP3
  have H13 := Off.mk (belowC H12.out hb3)
  have HB3 := Off.mk (belowC HB2.out hb3)
  clear hP3 hb3 C2
  go_wp2_with fail
  refine (pairs_any ms ms A2 A3 c2 c3 true (by simp) _ HP2.out HP3.out).mono ?_
  rintro e w4 ⟨rfl, hb4⟩
  have H14 := Off.mk (belowC H13.out hb4)
  have HB4 := Off.mk (belowC HB3.out hb4)
  clear hb4
  go_wp2_with fail
  refine (C3.out _ H14.out).mono ?_
  rintro e w5 ⟨rfl, hb5⟩
  have H15 := Off.mk (belowC H14.out hb5)
  have HB5 := Off.mk (belowC HB4.out hb5)
  clear hb5 C3
  go_wp2_with fail
  refine (C4.out _ HB5.out).mono ?_
  rintro e w6 ⟨rfl, hw6⟩
  subst w6
  clear C4
  have CS := Off.mk (same_any l l A1 A c1 c true (by simp) _ (HI1.out.below H15.out) (HX.out.below HB5.out))
  go_wp2_with fail
  refine CS.out.mono ?_
  rintro e w7 ⟨rfl, hb7⟩
  have HB7 := Off.mk (belowC HB5.out hb7)
  clear hb7 CS
  go_wp2_with (go_at_call 17; refine (alive_any _).mono ?_; rintro e w8 ⟨rfl, hb8⟩)
  go_ret
  exact ⟨rfl, belowC HB7.out hb8⟩
theorem of_walk (l : List Int) (A : Option Addr) (c : Nat) (w : World) (hx : l.length ≤ 140737488351232 → IntsAt w A l) (hlc : l.length ≤ c) (hA : A = none → c = 0) :
    Calls Try.prog 13 #[.slice A l.length c] w fun e w' => e = .returned (.bool true) ∧ Below w.heap.size w w' := by
  by_cases h60 : l.length ≤ 60
  · exact of_few l A c w (hx (by omega)) hlc hA h60
  · exact of_many l A c w (by omega)
end Go.Proofs.Ytddcdopimpfhcaa
