/- Contracts: rules, Rules, Other. -/
import Derived.Test.YtdbleghnblohgaaVi
namespace Go.Proofs.Ytdbleghnblohgaa
open Go.RowKit Go.Shelf

theorem isRule_range {n : Int} {l : List Int} (h : isRule n l = true) : (∃ m : Nat, n = m ∧ 1 ≤ m ∧ m ≤ 5) ∧ 0 < l.length ∧ ∀ j, j < l.length → 1 ≤ l.getD j 0 ∧ l.getD j 0 < 2 ^ n.toNat := by
  simp only [isRule, Bool.and_eq_true, decide_eq_true_eq] at h
  exact ⟨⟨n.toNat, by omega, by omega, by omega⟩, h.1.2.2, okTo_range _ _ _ h.2⟩

set_option maxHeartbeats 1000000 in
theorem rules11 (x s : Int) (B : Nat) (w : World) (hx : 0 ≤ x) (hx' : x < 256) (hs : 0 ≤ s) (hs' : s < 256) (hc : w.cell? ⟨B, 0, none⟩ = some (.int .i64 s)) :
    Calls Try.prog 76 #[.int .i64 x, .pointer (some ⟨B, 0, none⟩)] w fun e w' => e = .returned (.bool (subB x s)) ∧ w' = w := by
  have ha := and_any x s hx hx' hs hs'
  go_enter Try.func76, Try.ntmps76
  go_wp2
  go_ret
  exact ⟨rfl, rfl⟩

/-- The sets of a rule are small numbers. -/
def Small (l : List Int) : Prop := ∀ j, j < l.length → 0 ≤ l.getD j 0 ∧ l.getD j 0 < 256
set_option maxHeartbeats 1000000 in
theorem rules1_any (s : Int) (l : List Int) (A : Option Addr) (c B : Nat) (w : World) (hl : IntsAt w A l) (hsm : Off (Small l)) (hs : 0 ≤ s) (hs' : s < 256) (hc : w.cell? ⟨B, 0, none⟩ = some (.slice A l.length c)) :
    Calls Try.prog 75 #[.int .i64 s, .pointer (some ⟨B, 0, none⟩)] w fun e w' => e = .returned (.bool (ruleB l s)) ∧ Below w.heap.size w w' := by
  have HB : Off (∀ o, Below w.heap.size w (w.alloc o)) := ⟨fun o => (Below.refl _ _).alloc (Nat.le_refl _) _⟩
  have hcB : ∀ o, (w.alloc o).cell? ⟨B, 0, none⟩ = some (.slice A l.length c) := fun o => cellB (HB.out o) hc
  have eg := enters_of Try.func76 (by kernel_rfl) rfl
  go_enter Try.func75, Try.ntmps75
  go_wp2_with (go_at_call 73; refine (contains_any (fun a b => a = b) 76 _ A l (fun x => subB x s) l.length c _ eg rfl
    ⟨rfl, fun _ _ h1 h2 => h1.trans h2, fun W' h => by cases h; exact hl.below (HB.out _), fun W' j h hj => by
      cases h
      have := hsm.out j hj
      refine (rules11 (l.getD j 0) s w.heap.size _ this.1 this.2 hs hs' (by go_simp)).mono ?_
      rintro e w' ⟨he, hw⟩
      exact ⟨he, hw.symm⟩⟩).mono ?_; rintro e w1 ⟨rfl, rfl⟩)
  go_ret
  exact ⟨rfl, HB.out _⟩

set_option maxHeartbeats 1000000 in
theorem rules_any (A : Option Addr) (n c : Nat) (w : World) :
    Calls Try.prog 55 #[.slice A n c] w fun e w' => e = .returned (.func (.func 75) #[] #[.pointer (some ⟨w.heap.size, 0, none⟩)]) ∧ w'.cell? ⟨w.heap.size, 0, none⟩ = some (.slice A n c) ∧ Below w.heap.size w w' := by
  go_enter Try.func55, Try.ntmps55
  go_wp2
  go_ret
  exact ⟨rfl, by go_simp, (Below.refl _ _).alloc (Nat.le_refl _) _⟩

theorem rules_tells (n : Nat) (hn : n ≤ 8) (l : List Int) (A : Option Addr) (c B : Nat) (w : World) (hl : IntsAt w A l) (hsm : Off (Small l)) (hc : w.cell? ⟨B, 0, none⟩ = some (.slice A l.length c)) :
    Tells Try.prog 75 #[.pointer (some ⟨B, 0, none⟩)] n (ruleB l) w :=
  ⟨fun W s hW h0 h1 => by
    have := (pow_le n hn).2
    exact rules1_any s l A c B W (hl.below hW) hsm h0 (by omega) (cellB hW hc)⟩
theorem small_of {n : Int} {l : List Int} (h : isRule n l = true) : Small l := fun j hj => by
  obtain ⟨⟨m, rfl, _, hm⟩, _, hr⟩ := isRule_range h
  have := hr j hj
  rw [Int.toNat_natCast] at this
  have := (pow_le m (by omega)).2
  omega

set_option maxHeartbeats 1000000 in
theorem Rules_no (n set : Int) (l : List Int) (A : Option Addr) (c : Nat) (w : World) (hl : IntsAt w A l) (hlc : l.length ≤ c) (h : ¬ (isRule n l = true ∧ 0 ≤ set ∧ set < 2 ^ n.toNat)) :
    Calls Try.prog 34 #[.int .i64 n, .slice A l.length c, .int .i64 set] w fun e w' => e = .returned (.tuple #[.bool false, .int .i64 2]) ∧ Below w.heap.size w w' := by
  cases hr : isRule n l
  · go_enter Try.func34, Try.ntmps34
    go_wp2_with (go_at_call 54; refine (hr ▸ ruled_any n l A c _ hl hlc).mono ?_; rintro e w1 ⟨rfl, hb1⟩)
    go_ret2
    exact ⟨rfl, hb1⟩
  · obtain ⟨⟨m, rfl, hm1, hm⟩, _⟩ := isRule_range hr
    rw [Int.toNat_natCast] at h
    have hp := pow_le m (by omega)
    by_cases h0 : set < 0
    · clear h
      go_enter Try.func34, Try.ntmps34
      go_wp2_with (go_at_call 54; refine (hr ▸ ruled_any m l A c _ hl hlc).mono ?_; rintro e w1 ⟨rfl, hb1⟩)
      go_ret2
      exact ⟨rfl, hb1⟩
    · have h1 : 2 ^ m ≤ set := by
        have : ¬ (set < 2 ^ m) := fun h2 => h ⟨hr, by omega, h2⟩
        omega
      clear h
      go_enter Try.func34, Try.ntmps34
      go_wp2_with (go_at_call 54; refine (hr ▸ ruled_any m l A c _ hl hlc).mono ?_; rintro e w1 ⟨rfl, hb1⟩)
      go_ret2
      exact ⟨rfl, hb1⟩

set_option maxHeartbeats 1000000 in
theorem Rules_yes (m : Nat) (set : Int) (l : List Int) (A : Option Addr) (c : Nat) (w : World) (hl : IntsAt w A l) (hlc : l.length ≤ c) (hr : isRule m l = true) (h0 : 0 ≤ set) (h1 : set < 2 ^ m) :
    Calls Try.prog 34 #[.int .i64 m, .slice A l.length c, .int .i64 set] w fun e w' => e = .returned (.tuple #[.bool (ruleB l set), .int .i64 0]) ∧ Below w.heap.size w w' := by
  obtain ⟨⟨m', e, hm1, hm⟩, _⟩ := isRule_range hr
  obtain rfl : m = m' := by omega
  have hsm := Off.mk (small_of hr)
  have hp := pow_le m (by omega)
  clear e
  go_enter Try.func34, Try.ntmps34
  go_wp2_with (first
    | (go_at_call 54; refine (hr ▸ ruled_any m l A c _ hl hlc).mono ?_; rintro e w1 ⟨rfl, hb1⟩)
    | (go_at_call 55; refine (rules_any A l.length c _).mono ?_; rintro e w2 ⟨rfl, hc2, hb2⟩)
    | (go_at_call 75; refine (rules1_any set l A c _ _ (hl.below (hb1.trans (hb2.mono hb1.size))) hsm h0 (by omega) hc2).mono ?_; rintro e w3 ⟨rfl, hb3⟩))
  go_ret2
  exact ⟨rfl, (hb1.trans (hb2.mono hb1.size)).trans (hb3.mono (Nat.le_trans hb1.size hb2.size))⟩
end Go.Proofs.Ytdbleghnblohgaa
