/- Contracts: slices.Equal, Same. -/
import Derived.Test.YtdbleghnblohgaaVo
namespace Go.Proofs.Ytdbleghnblohgaa
open Go.RowKit Go.Shelf

set_option maxHeartbeats 1000000 in
theorem equal_any (a b : List Int) (A B : Option Addr) (ca cb : Nat) (w : World) (ha : IntsAt w A a) (hb : IntsAt w B b) :
    Calls Try.prog 68 #[.slice A a.length ca, .slice B b.length cb] w fun e w' => e = .returned (.bool (decide (a = b))) ∧ Below w.heap.size w w' := by
  have hla := ha.len
  have hlb := hb.len
  by_cases hl : a.length = b.length
  · have hl' : ((a.length : Int) != (b.length : Int)) = false := by rw [bne_eq_false_iff_eq]; omega
    have h1 : a.length ≤ b.length := by omega
    have h2 : b.length ≤ a.length := by omega
    have HL := Off.mk hl
    clear hl
    go_enter Try.func68, Try.ntmps68
    go_wp2
    go_loopw [13] (fun i wr => ∃ k : Nat, k ≤ a.length ∧ i = .int .i64 k ∧ (∃ m, wr = w.drewN m) ∧ Off (∀ j, j < k → a.getD j 0 = b.getD j 0)) (fun i _ => a.length - (intOf i).toNat)
    case atStart => exact ⟨0, by omega, rfl, ⟨0, rfl⟩, ⟨fun j hj => by omega⟩⟩
    case round =>
      obtain ⟨k, hk, rfl, ⟨m, rfl⟩, hs⟩ := hrel
      by_cases hlt : k < a.length
      · obtain ⟨ad, rfl, hc⟩ := ha.cell k hlt
        obtain ⟨bd, rfl, hd⟩ := hb.cell k (by omega)
        obtain ⟨x, hx⟩ : ∃ x, x = a.getD k 0 := ⟨_, rfl⟩
        obtain ⟨y, hy⟩ : ∃ y, y = b.getD k 0 := ⟨_, rfl⟩
        rw [← hx] at hc
        rw [← hy] at hd
        have HX := Off.mk hx
        have HY := Off.mk hy
        have hk0 : (0 : Int) ≤ (k : Int) := by omega
        have hk1 : (k : Int) < (a.length : Int) := by omega
        have hk2 : (k : Int) < (b.length : Int) := by omega
        clear hx hy
        by_cases hxy : x = y
        · have hxy' : (x != y) = false := by rw [bne_eq_false_iff_eq]; exact hxy
          have HE := Off.mk hxy
          clear hxy
          go_wp2
          go_quiet (fail)
          go_wp2
          go_roundw
          case rel => exact ⟨k + 1, by omega, by go_num, ⟨_, rfl⟩, ⟨fun j hj => by
            by_cases e : j = k
            · subst e; rw [← HX.out, ← HY.out]; exact HE.out
            · exact hs.out j (by omega)⟩⟩
          case measure => simp only [intOf]; omega
        · have hxy' : (x != y) = true := by rw [bne_iff_ne]; exact hxy
          have HF : Off (decide (a = b) = false) := ⟨decide_eq_false (fun e => hxy (by rw [HX.out, HY.out, e]))⟩
          clear hxy
          go_wp2
          go_quiet (fail)
          go_wp2
          go_ret
          exact ⟨by rw [HF.out]; rfl, below_drewN' (below_drewN' (Below.refl _ _) _) _⟩
      · have HT : Off (decide (a = b) = true) := ⟨decide_eq_true (getD_ext HL.out (fun j hj => hs.out j (by omega)))⟩
        go_wp2
        go_ret
        exact ⟨by rw [HT.out]; rfl, below_drewN' (Below.refl _ _) _⟩
  · have hl' : ((a.length : Int) != (b.length : Int)) = true := by rw [bne_iff_ne]; omega
    have HF : Off (decide (a = b) = false) := ⟨decide_eq_false (fun e => hl (by rw [e]))⟩
    clear hl
    go_enter Try.func68, Try.ntmps68
    go_wp2
    go_ret
    exact ⟨by rw [HF.out]; rfl, Below.refl _ _⟩

set_option maxHeartbeats 2000000 in
theorem Same_no (q r : Int) (l k : List Int) (A B : Option Addr) (c d : Nat) (w : World) (hl : IntsAt w A l) (hk : IntsAt w B k) (h : ¬ (bodyB q l = true ∧ bodyB r k = true)) :
    Calls Try.prog 39 #[.agg #[.int .i64 q, .slice A l.length c], .agg #[.int .i64 r, .slice B k.length d]] w fun e w' => e = .returned (.tuple #[.bool false, .int .i64 2]) ∧ Below w.heap.size w w' := by
  have HB : Off (∀ o o', Below w.heap.size w ((w.alloc o).alloc o')) := ⟨fun o o' => belowA ((Below.refl _ _).alloc (Nat.le_refl _) _) _⟩
  cases hq : bodyB q l
  · clear h
    go_enter Try.func39, Try.ntmps39
    go_wp2_with fail
    refine (read_any q l A c _ (hl.below (HB.out _ _))).mono ?_
    rw [hq]
    rintro e w1 ⟨rfl, hb1⟩
    go_wp2
    go_ret2
    exact ⟨rfl, belowC (HB.out _ _) hb1⟩
  · have hr : bodyB r k = false := by
      cases e : bodyB r k
      · rfl
      · exact absurd ⟨hq, e⟩ h
    have hB2 := Off.mk (box_body (w.alloc (.cells #[.int .i64 q, .slice A l.length c] 24)) r B k.length d)
    clear h
    go_enter Try.func39, Try.ntmps39
    go_wp2_with fail
    refine (read_any q l A c _ (hl.below (HB.out _ _))).mono ?_
    rw [hq]
    rintro e w1 ⟨rfl, hb1⟩
    have B1 := belowC (HB.out _ _) hb1
    have hb := hB2.out.below hb1
    have h1 := hb.quota
    have h2 := hb.weights
    rw [show (w.alloc (.cells #[.int .i64 q, .slice A l.length c] 24)).heap.size = w.heap.size + 1 by simp] at h1 h2
    go_wp2_with fail
    refine (read_any r k B d _ (hk.below B1)).mono ?_
    rw [hr]
    rintro e w2 ⟨rfl, hb2⟩
    go_wp2
    go_ret2
    exact ⟨rfl, belowC B1 hb2⟩
end Go.Proofs.Ytdbleghnblohgaa
