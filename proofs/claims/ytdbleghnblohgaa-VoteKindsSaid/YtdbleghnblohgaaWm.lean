/- Contract: Same of two bodies. -/
import Derived.Test.YtdbleghnblohgaaWl
import Derived.Test.YtdbleghnblohgaaPw
namespace Go.Proofs.Ytdbleghnblohgaa
open Go.RowKit Go.Shelf

/-- Do the same sets of n drovers win least? -/
def sameB (q r : Int) (l k : List Int) : Bool := decide (l.length = k.length) && decide (leastTo (winB q l) l.length (2 ^ l.length) = leastTo (winB r k) k.length (2 ^ k.length))

theorem wins_some (q : Int) (l : List Int) (A : Option Addr) (n c : Nat) (hn : l.length = n) (w : World) :
    Calls Try.prog 59 #[.agg #[.int .i64 q, .slice A n c]] w fun e w' => ∃ B, e = .returned (.func (.func 78) #[] #[.pointer (some ⟨B, 0, none⟩)]) ∧ BodyAt w' B q A l.length c ∧ Below w.heap.size w w' := by
  subst hn
  exact (wins_any q l A c w).mono fun e w' ⟨h1, h2, h3⟩ => ⟨_, h1, h2, h3⟩

set_option maxHeartbeats 4000000 in
theorem Same_yes (q r : Int) (l k : List Int) (A B : Option Addr) (c d : Nat) (w : World) (hl : IntsAt w A l) (hk : IntsAt w B k) (hq : bodyB q l = true) (hr : bodyB r k = true) :
    Calls Try.prog 39 #[.agg #[.int .i64 q, .slice A l.length c], .agg #[.int .i64 r, .slice B k.length d]] w fun e w' => e = .returned (.tuple #[.bool (sameB q r l k), .int .i64 0]) ∧ Below w.heap.size w w' := by
  have HB : Off (∀ o o', Below w.heap.size w ((w.alloc o).alloc o')) := ⟨fun o o' => belowA ((Below.refl _ _).alloc (Nat.le_refl _) _) _⟩
  have hA2 : Below (w.alloc (.cells #[.int .i64 q, .slice A l.length c] 24)).heap.size (w.alloc (.cells #[.int .i64 q, .slice A l.length c] 24)) ((w.alloc (.cells #[.int .i64 q, .slice A l.length c] 24)).alloc (.cells #[.int .i64 r, .slice B k.length d] 24)) := (Below.refl _ _).alloc (Nat.le_refl _) _
  have hB1 := Off.mk ((box_body w q A l.length c).below hA2)
  have hB2 := Off.mk (box_body (w.alloc (.cells #[.int .i64 q, .slice A l.length c] 24)) r B k.length d)
  obtain ⟨hl8, hlw⟩ := Body.weights hq
  obtain ⟨hk8, hkw⟩ := Body.weights hr
  have HS : Off (sameB q r l k = (decide (l.length = k.length) && decide (leastTo (winB q l) l.length (2 ^ l.length) = leastTo (winB r k) k.length (2 ^ k.length)))) := ⟨rfl⟩
  have eg := enters_of Try.func78 (by kernel_rfl) rfl
  clear hA2
  go_enter Try.func39, Try.ntmps39
  go_wp2_with fail
  refine (read_any q l A c _ (hl.below (HB.out _ _))).mono ?_
  rw [hq]
  rintro e w1 ⟨rfl, hb1⟩
  have B1 := belowC (HB.out _ _) hb1
  have hx1 := hB1.out.below hb1
  have hb := hB2.out.below hb1
  have h1 := hb.quota
  have h2 := hb.weights
  rw [show (w.alloc (.cells #[.int .i64 q, .slice A l.length c] 24)).heap.size = w.heap.size + 1 by simp] at h1 h2
  go_wp2_with fail
  refine (read_any r k B d _ (hk.below B1)).mono ?_
  rw [hr]
  rintro e w2 ⟨rfl, hb2⟩
  have B2 := belowC B1 hb2
  have hx2 := hx1.below hb2
  have f0 := hx2.quota
  have f1 := hx2.weights
  have g0 := cellB hb2 h1
  have g1 := cellB hb2 h2
  clear hx1 hb h1 h2 hx2 hb1 hb2 hB1 hB2 B1
  by_cases hn : l.length = k.length
  · have hn' : ((l.length : Int) == (k.length : Int)) = true := by rw [beq_iff_eq]; omega
    have hk8' : Off (k.length ≤ 8) := ⟨hk8⟩
    have HN := Off.mk hn
    clear hn
    go_wp2
    go_region_held3 (fun w' => (w'.cell? ⟨w.heap.size, 0, none⟩ = some (.int .i64 q) ∧ w'.cell? ⟨w.heap.size, 1, none⟩ = some (.slice A l.length c)) ∧ (w'.cell? ⟨w.heap.size + 1, 0, none⟩ = some (.int .i64 r) ∧ w'.cell? ⟨w.heap.size + 1, 1, none⟩ = some (.slice B k.length d)))
          (first | go_keep | exact ⟨⟨f0, f1⟩, g0, g1⟩)
          (first
            | (go_at_call 68; refine (equal_any _ _ A4 A6 c4 c6 _ (hI4.below (hb5.trans (hb6.mono hb5.size))) hI6).mono ?_; rintro e w7 ⟨rfl, hb7⟩; have f0 := cellB hb7 f0; have f1 := cellB hb7 f1; have g0 := cellB hb7 g0; have g1 := cellB hb7 g1)
            | (go_at_call 60; refine (least_any 78 _ (winB r k) k.length eg _ (wins_tells r k B d _ _ hB5 (hk.below B5) hk8 hkw) hk8).mono ?_; rintro e w6 ⟨v6, rfl, hO6, hb6⟩; obtain ⟨A6, c6, rfl, hI6, _⟩ := own_ints hO6 (Nat.le_trans (leastTo_length _ _ _) (by have := pow_256 hk8'.out; omega)); have f0 := cellB hb6 f0; have f1 := cellB hb6 f1; have g0 := cellB hb6 g0; have g1 := cellB hb6 g1; have B6 := belowC B5 hb6)
            | (go_at_call_of 59 (Value.agg #[.int .i64 r, .slice B k.length d]); refine (wins_some r k B k.length d rfl _).mono ?_; rintro e w5 ⟨Bb, rfl, hB5, hb5⟩; have f0 := cellB hb5 f0; have f1 := cellB hb5 f1; have g0 := cellB hb5 g0; have g1 := cellB hb5 g1; have B5 := belowC B4 hb5)
            | (go_at_call 60; refine (least_any 78 _ (winB q l) l.length eg _ (wins_tells q l A c _ _ hB3 (hl.below B3) hl8 hlw) hl8).mono ?_; rintro e w4 ⟨v4, rfl, hO4, hb4⟩; obtain ⟨A4, c4, rfl, hI4, _⟩ := own_ints hO4 (Nat.le_trans (leastTo_length _ _ _) (by have := pow_256 hl8; omega)); have f0 := cellB hb4 f0; have f1 := cellB hb4 f1; have g0 := cellB hb4 g0; have g1 := cellB hb4 g1; have B4 := belowC B3 hb4)
            | (go_at_call_of 59 (Value.agg #[.int .i64 q, .slice A l.length c]); refine (wins_some q l A l.length c rfl _).mono ?_; rintro e w3 ⟨Ba, rfl, hB3, hb3⟩; have f0 := cellB hb3 f0; have f1 := cellB hb3 f1; have g0 := cellB hb3 g0; have g1 := cellB hb3 g1; have B3 := belowC B2.drew hb3))

    have HT : Off (sameB q r l k = decide (leastTo (winB q l) l.length (2 ^ l.length) = leastTo (winB r k) k.length (2 ^ k.length))) := ⟨by rw [HS.out, decide_eq_true HN.out, Bool.true_and]⟩
    go_wp2
    go_ret2
    exact ⟨by rw [HT.out]; rfl, belowC B6 hb7⟩
  · have hn' : ((l.length : Int) == (k.length : Int)) = false := by rw [beq_eq_false_iff_ne]; omega
    have HF : Off (sameB q r l k = false) := ⟨by rw [HS.out, decide_eq_false hn]; rfl⟩
    clear hn
    go_wp2
    go_quiet (fail)
    go_wp2
    go_ret2
    exact ⟨by rw [HF.out]; rfl, below_drewN' B2 _⟩
end Go.Proofs.Ytdbleghnblohgaa
