/- Contracts: Wins, Least of a body. -/
import Derived.Test.YtdbleghnblohgaaVb
import Derived.Deep.RegionHeld3
import Derived.Deep.DeepCutAuto
import Derived.KernelRfl
namespace Go.Proofs.Ytdbleghnblohgaa
open Go.RowKit Go.Shelf

theorem Body.weights {q : Int} {l : List Int} (h : bodyB q l = true) : l.length ≤ 8 ∧ Off (∀ j, j < l.length → 0 ≤ l.getD j 0 ∧ l.getD j 0 ≤ 1000) := by
  have := of_decide_eq_true h
  exact ⟨this.2.1, ⟨this.2.2.1⟩⟩
theorem wins_tells (q : Int) (l : List Int) (A : Option Addr) (c B : Nat) (w : World) (hb : BodyAt w B q A l.length c) (hl : IntsAt w A l)
    (h8 : l.length ≤ 8) (hw : Off (∀ j, j < l.length → 0 ≤ l.getD j 0 ∧ l.getD j 0 ≤ 1000)) :
    Tells Try.prog 78 #[.pointer (some ⟨B, 0, none⟩)] l.length (winB q l) w :=
  ⟨fun W s hW h0 h1 => by
    have h256 : (2 : Int) ^ l.length ≤ 256 := (pow_le l.length h8).2
    have hB := hb.below hW
    refine (wins1 s q l A c B W hB.quota hB.weights (hl.below hW) h8 hw h0 (by omega)).mono ?_
    rintro e w' ⟨he, rfl⟩
    exact ⟨he, Below.refl _ _⟩⟩

theorem box_body (w : World) (q : Int) (A : Option Addr) (n c : Nat) : BodyAt (w.alloc (.cells #[.int .i64 q, .slice A n c] 24)) w.heap.size q A n c :=
  ⟨by go_simp, by go_simp⟩

set_option maxHeartbeats 1000000 in
theorem Wins_any (q set : Int) (l : List Int) (A : Option Addr) (c : Nat) (w : World) (hl : IntsAt w A l) :
    Calls Try.prog 25 #[.agg #[.int .i64 q, .slice A l.length c], .int .i64 set] w fun e w' =>
      e = .returned (if bodyB q l = true ∧ 0 ≤ set ∧ set < 2 ^ l.length then .tuple #[.bool (winB q l set), .int .i64 0] else .tuple #[.bool false, .int .i64 2]) ∧ Below w.heap.size w w' := by
  have HB : Off (∀ o, Below w.heap.size w (w.alloc o)) := ⟨fun o => (Below.refl _ _).alloc (Nat.le_refl _) _⟩
  cases hbody : bodyB q l
  · have hF : Off ((if false = true ∧ 0 ≤ set ∧ set < 2 ^ l.length then (Value.tuple #[.bool (winB q l set), .int .i64 0]) else .tuple #[.bool false, .int .i64 2]) = .tuple #[.bool false, .int .i64 2]) := ⟨by simp⟩
    rw [hF.out]
    go_enter Try.func25, Try.ntmps25
    go_wp2_with (go_at_call 43; refine (read_any q l A c _ (hl.below (HB.out _))).mono ?_; rintro e w1 ⟨rfl, hb1⟩)
    go_ret2
    exact ⟨rfl, (HB.out _).trans (hb1.mono (HB.out _).size)⟩
  · obtain ⟨h8, hw⟩ := Body.weights hbody
    have h256 := pow_le l.length h8
    by_cases h0 : set < 0
    · have hF : Off ((if true = true ∧ 0 ≤ set ∧ set < 2 ^ l.length then (Value.tuple #[.bool (winB q l set), .int .i64 0]) else .tuple #[.bool false, .int .i64 2]) = .tuple #[.bool false, .int .i64 2]) := ⟨by rw [if_neg (by omega)]⟩
      rw [hF.out]
      go_enter Try.func25, Try.ntmps25
      go_wp2_with (go_at_call 43; refine (read_any q l A c _ (hl.below (HB.out _))).mono ?_; rintro e w1 ⟨rfl, hb1⟩)
      go_ret2
      exact ⟨rfl, (HB.out _).trans (hb1.mono (HB.out _).size)⟩
    by_cases h1 : 2 ^ l.length ≤ set
    · have hF : Off ((if true = true ∧ 0 ≤ set ∧ set < 2 ^ l.length then (Value.tuple #[.bool (winB q l set), .int .i64 0]) else .tuple #[.bool false, .int .i64 2]) = .tuple #[.bool false, .int .i64 2]) := ⟨by rw [if_neg (by omega)]⟩
      rw [hF.out]
      go_enter Try.func25, Try.ntmps25
      go_wp2_with (go_at_call 43; refine (read_any q l A c _ (hl.below (HB.out _))).mono ?_; rintro e w1 ⟨rfl, hb1⟩; have hB := (box_body w q A l.length c).below hb1; have hq := hB.quota; have hs := hB.weights)
      go_ret2
      exact ⟨rfl, (HB.out _).trans (hb1.mono (HB.out _).size)⟩
    · have hF : Off ((if true = true ∧ 0 ≤ set ∧ set < 2 ^ l.length then (Value.tuple #[.bool (winB q l set), .int .i64 0]) else .tuple #[.bool false, .int .i64 2]) = .tuple #[.bool (winB q l set), .int .i64 0]) := ⟨by rw [if_pos ⟨rfl, by omega, by omega⟩]⟩
      rw [hF.out]
      go_enter Try.func25, Try.ntmps25
      go_wp2_with (first
        | (go_at_call 43; refine (read_any q l A c _ (hl.below (HB.out _))).mono ?_; rintro e w1 ⟨rfl, hb1⟩; have hB := (box_body w q A l.length c).below hb1; have hq := hB.quota; have hs := hB.weights)
        | (go_at_call 59; refine (wins_any q l A c _).mono ?_; rintro e w2 ⟨rfl, hB2, hb2⟩)
        | (go_at_call 78; refine (wins1 set q l A c _ _ hB2.quota hB2.weights (hl.below ((HB.out _).trans ((hb1.trans (hb2.mono hb1.size)).mono (HB.out _).size))) h8 hw (by omega) (by omega)).mono ?_; rintro e w3 ⟨rfl, rfl⟩))
      go_ret2
      exact ⟨rfl, (HB.out _).trans ((hb1.trans (hb2.mono hb1.size)).mono (HB.out _).size)⟩

set_option maxHeartbeats 1000000 in
theorem Least_no (q : Int) (l : List Int) (A : Option Addr) (c : Nat) (w : World) (hl : IntsAt w A l) (hbody : bodyB q l = false) :
    Calls Try.prog 27 #[.agg #[.int .i64 q, .slice A l.length c]] w fun e w' => e = .returned (.tuple #[.slice none 0 0, .int .i64 2]) ∧ Below w.heap.size w w' := by
  have HB : Off (∀ o, Below w.heap.size w (w.alloc o)) := ⟨fun o => (Below.refl _ _).alloc (Nat.le_refl _) _⟩
  go_enter Try.func27, Try.ntmps27
  go_wp2_with (go_at_call 43; refine (read_any q l A c _ (hl.below (HB.out _))).mono ?_; rintro e w1 ⟨rfl, hb1⟩)
  go_ret2
  exact ⟨rfl, (HB.out _).trans (hb1.mono (HB.out _).size)⟩

set_option maxHeartbeats 1000000 in
theorem Least_yes (q : Int) (l : List Int) (A : Option Addr) (c : Nat) (w : World) (hl : IntsAt w A l) (hbody : bodyB q l = true) :
    Calls Try.prog 27 #[.agg #[.int .i64 q, .slice A l.length c]] w fun e w' => ∃ v, e = .returned (.tuple #[v, .int .i64 0]) ∧ Own w' w.heap.size v (leastTo (winB q l) l.length (2 ^ l.length)) ∧ Below w.heap.size w w' := by
  have HB : Off (∀ o, Below w.heap.size w (w.alloc o)) := ⟨fun o => (Below.refl _ _).alloc (Nat.le_refl _) _⟩
  obtain ⟨h8, hw⟩ := Body.weights hbody
  have eg := enters_of Try.func78 (by kernel_rfl) rfl
  go_enter Try.func27, Try.ntmps27
  go_wp2_with (go_at_call 43; refine (read_any q l A c _ (hl.below (HB.out _))).mono ?_; rintro e w1 ⟨rfl, hb1⟩; have hB := (box_body w q A l.length c).below hb1; have hq := hB.quota; have hs := hB.weights)
  have hbw1 : Below w.heap.size w w1 := (HB.out _).trans (hb1.mono (HB.out _).size)
  go_region_held3 (fun w' => w'.cell? ⟨w.heap.size, 0, none⟩ = some (.int .i64 q) ∧ w'.cell? ⟨w.heap.size, 1, none⟩ = some (.slice A l.length c))
    (first | go_keep | exact ⟨cellB hb2 hq, cellB hb2 hs⟩ | exact ⟨cellB hb3 (cellB hb2 hq), cellB hb3 (cellB hb2 hs)⟩)
    (first
      | (go_at_call 59; refine (wins_any q l A c _).mono ?_; rintro e w2 ⟨rfl, hB2, hb2⟩)
      | (go_at_call 60; refine (least_any 78 _ (winB q l) l.length eg _ (wins_tells q l A c _ _ hB2 (hl.below (hbw1.drew.trans (hb2.mono hbw1.size))) h8 hw) h8).mono ?_; rintro e w3 ⟨v, rfl, hO, hb3⟩))
  go_wp2
  go_ret2
  exact ⟨_, rfl, own_mono hO (Nat.le_trans hbw1.size hb2.size), hbw1.drew.trans ((hb2.trans (hb3.mono hb2.size)).mono hbw1.size)⟩
end Go.Proofs.Ytdbleghnblohgaa
