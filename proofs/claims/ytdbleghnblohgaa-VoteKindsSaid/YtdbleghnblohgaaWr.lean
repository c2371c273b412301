/- Contract: the specification's Same. -/
import Derived.Test.YtdbleghnblohgaaVv
import Derived.Test.YtdbleghnblohgaaWm
namespace Go.Proofs.Ytdbleghnblohgaa
open Go.RowKit Go.Shelf

set_option maxHeartbeats 2000000 in
theorem rSame_no (q r : Int) (l k : List Int) (A B : Option Addr) (c d : Nat) (w : World) (hl : IntsAt w A l) (hk : IntsAt w B k) (hl30 : l.length ≤ 30) (hk30 : k.length ≤ 30) (h : ¬ (bodyB q l = true ∧ bodyB r k = true)) :
    Calls Try.prog 41 #[.agg #[.int .i64 q, .slice A l.length c], .agg #[.int .i64 r, .slice B k.length d]] w fun e w' => e = .returned (.tuple #[.bool false, .int .i64 2]) ∧ Below w.heap.size w w' := by
  have HB : Off (∀ o o', Below w.heap.size w ((w.alloc o).alloc o')) := ⟨fun o o' => belowA ((Below.refl _ _).alloc (Nat.le_refl _) _) _⟩
  cases hq : bodyB q l
  · clear h
    go_enter Try.func41, Try.ntmps41
    go_wp2_with fail
    refine (rIsBody q l A c _ (hl.below (HB.out _ _)) hl30).mono ?_
    rw [hq]
    rintro e w1 ⟨rfl, hb1⟩
    go_wp2
    go_ret2
    exact ⟨rfl, belowC (HB.out _ _) hb1⟩
  · have hr : bodyB r k = false := by
      cases e : bodyB r k
      · rfl
      · exact absurd ⟨hq, e⟩ h
    have hB2 := Off.mk (box_body (w.alloc (.cells #[.int .i64 q, .slice A l.length c] 24)) r B k.length d)
    clear h
    go_enter Try.func41, Try.ntmps41
    go_wp2_with fail
    refine (rIsBody q l A c _ (hl.below (HB.out _ _)) hl30).mono ?_
    rw [hq]
    rintro e w1 ⟨rfl, hb1⟩
    have B1 := belowC (HB.out _ _) hb1
    have hb := hB2.out.below hb1
    have h1 := hb.quota
    have h2 := hb.weights
    rw [show (w.alloc (.cells #[.int .i64 q, .slice A l.length c] 24)).heap.size = w.heap.size + 1 by simp] at h1 h2
    go_wp2_with fail
    refine (rIsBody r k B d _ (hk.below B1) hk30).mono ?_
    rw [hr]
    rintro e w2 ⟨rfl, hb2⟩
    go_wp2
    go_ret2
    exact ⟨rfl, belowC B1 hb2⟩
theorem same_diff {q r : Int} {l k : List Int} (hn : l.length = k.length) {s : Nat} (hs : s < 2 ^ l.length) (hq : bodyB q l = true) (hr : bodyB r k = true) (h : winB q l s ≠ winB r k s) : sameB q r l k = false := by
  obtain ⟨h8, hw⟩ := Body.weights hq
  obtain ⟨k8, kw⟩ := Body.weights hr
  unfold sameB
  rw [decide_eq_true hn, Bool.true_and]
  refine decide_eq_false fun e => h ?_
  have h1 := rule_least (winB q l) l.length h8 (fun a b _ _ hab hp => win_sub q l hw.out a b hab hp) s hs
  have h2 := rule_least (winB r k) k.length k8 (fun a b _ _ hab hp => win_sub r k kw.out a b hab hp) s (by rw [← hn]; exact hs)
  rw [← h1, ← h2, e]
theorem same_all {q r : Int} {l k : List Int} (hn : l.length = k.length) (h8 : l.length ≤ 8) (h : ∀ s : Nat, s < 2 ^ l.length → winB q l s = winB r k s) : sameB q r l k = true := by
  unfold sameB
  rw [decide_eq_true hn, Bool.true_and, ← hn]
  exact decide_eq_true (least_congr _ _ _ h8 h)

set_option maxHeartbeats 4000000 in
theorem rSame_yes (q r : Int) (l k : List Int) (A B : Option Addr) (c d : Nat) (w : World) (hl : IntsAt w A l) (hk : IntsAt w B k) (hq : bodyB q l = true) (hr : bodyB r k = true) :
    Calls Try.prog 41 #[.agg #[.int .i64 q, .slice A l.length c], .agg #[.int .i64 r, .slice B k.length d]] w fun e w' => e = .returned (.tuple #[.bool (sameB q r l k), .int .i64 0]) ∧ Below w.heap.size w w' := by
  have HB : Off (∀ o o', Below w.heap.size w ((w.alloc o).alloc o')) := ⟨fun o o' => belowA ((Below.refl _ _).alloc (Nat.le_refl _) _) _⟩
  have hA2 : Below (w.alloc (.cells #[.int .i64 q, .slice A l.length c] 24)).heap.size (w.alloc (.cells #[.int .i64 q, .slice A l.length c] 24)) ((w.alloc (.cells #[.int .i64 q, .slice A l.length c] 24)).alloc (.cells #[.int .i64 r, .slice B k.length d] 24)) := (Below.refl _ _).alloc (Nat.le_refl _) _
  have hB1 := Off.mk ((box_body w q A l.length c).below hA2)
  have hB2 := Off.mk (box_body (w.alloc (.cells #[.int .i64 q, .slice A l.length c] 24)) r B k.length d)
  obtain ⟨hl8, hlw⟩ := Body.weights hq
  obtain ⟨hk8, hkw⟩ := Body.weights hr
  have hpow := pow_le l.length hl8
  clear hA2
  go_enter Try.func41, Try.ntmps41
  go_wp2_with fail
  refine (rIsBody q l A c _ (hl.below (HB.out _ _)) (by omega)).mono ?_
  rw [hq]
  rintro e w1 ⟨rfl, hb1⟩
  have B1 := belowC (HB.out _ _) hb1
  have hx1 := hB1.out.below hb1
  have hb := hB2.out.below hb1
  have h1 := hb.quota
  have h2 := hb.weights
  rw [show (w.alloc (.cells #[.int .i64 q, .slice A l.length c] 24)).heap.size = w.heap.size + 1 by simp] at h1 h2
  go_wp2_with fail
  refine (rIsBody r k B d _ (hk.below B1) (by omega)).mono ?_
  rw [hr]
  rintro e w2 ⟨rfl, hb2⟩
  have B2 := belowC B1 hb2
  have hx2 := hx1.below hb2
  have F0 := Off.mk hx2.quota
  have F1 := Off.mk hx2.weights
  have G0 := Off.mk (cellB hb2 h1)
  have G1 := Off.mk (cellB hb2 h2)
  have f0 := F0.out
  have f1 := F1.out
  have g0 := G0.out
  have g1 := G1.out
  clear hx1 hb h1 h2 hx2 hb1 hb2 hB1 hB2 B1
  by_cases hn : l.length = k.length
  · have hn' : ((l.length : Int) != (k.length : Int)) = false := by rw [bne_eq_false_iff_eq]; omega
    have HN := Off.mk hn
    have HQ := Off.mk hq
    have HR := Off.mk hr
    have hk256 : (2 : Int) ^ l.length ≤ 256 := hpow.2
    have HP : Off (∀ (s : Int) v, winB q l s = v → ∀ W, Below w2.heap.size w2 W → 0 ≤ s → s < 256 → Calls Try.prog 46 #[.agg #[.int .i64 q, .slice A l.length c], .int .i64 s] W fun e w' => e = .returned (.bool v) ∧ Below W.heap.size W w') :=
      ⟨fun s v e W h h0 h1 => by rw [← e]; exact rwins q s l A c W (hl.below (belowC B2 h)) hl8 hlw h0 h1⟩
    have HPr : Off (∀ (s : Int) v, winB r k s = v → ∀ W, Below w2.heap.size w2 W → 0 ≤ s → s < 256 → Calls Try.prog 46 #[.agg #[.int .i64 r, .slice B k.length d], .int .i64 s] W fun e w' => e = .returned (.bool v) ∧ Below W.heap.size W w') :=
      ⟨fun s v e W h h0 h1 => by rw [← e]; exact rwins r s k B d W (hk.below (belowC B2 h)) hk8 hkw h0 h1⟩
    have hnp := nat_pow l.length
    clear hn hq hr hl hk
    go_wp2
    go_loopw [6] (fun i wr => ∃ s : Nat, (s : Int) ≤ 2 ^ l.length ∧ i = .int .i64 s ∧ Below w2.heap.size w2 wr ∧ Off (∀ j : Nat, j < s → winB q l j = winB r k j)) (fun i _ => (2 ^ l.length - intOf i).toNat)
    case atStart => exact ⟨0, by simp only [Int.natCast_zero]; omega, rfl, Below.refl _ _, ⟨fun j hj => by omega⟩⟩
    case round =>
      clear f0 f1 g0 g1
      obtain ⟨s, hs, rfl, hb, hall⟩ := hrel
      obtain ⟨wo, rfl⟩ : ∃ wo : World, wo = wr := ⟨_, rfl⟩
      have f0 := cellB hb F0.out
      have f1 := cellB hb F1.out
      have g0 := cellB hb G0.out
      have g1 := cellB hb G1.out
      by_cases hlt : (s : Int) < 2 ^ l.length
      · have HD : Off (winB q l s ≠ winB r k s → sameB q r l k = false) := ⟨fun h => same_diff HN.out (by omega) HQ.out HR.out h⟩
        obtain ⟨x, hx⟩ : ∃ x, winB q l (s : Int) = x := ⟨_, rfl⟩
        obtain ⟨y, hy⟩ : ∃ y, winB r k (s : Int) = y := ⟨_, rfl⟩
        go_wp2
        go_region_held3 (fun w' => (w'.cell? ⟨w.heap.size, 0, none⟩ = some (.int .i64 q) ∧ w'.cell? ⟨w.heap.size, 1, none⟩ = some (.slice A l.length c)) ∧ (w'.cell? ⟨w.heap.size + 1, 0, none⟩ = some (.int .i64 r) ∧ w'.cell? ⟨w.heap.size + 1, 1, none⟩ = some (.slice B k.length d)))
            (first | go_keep | exact ⟨⟨f0, f1⟩, g0, g1⟩)
            (first
              | (go_at_call_of 46 (Value.agg #[.int .i64 r, .slice B k.length d]); refine (HPr.out _ _ hy _ B4 (by omega) (by omega)).mono ?_; rintro e w4 ⟨rfl, hb4⟩; have f0 := cellB hb4 f0; have f1 := cellB hb4 f1; have g0 := cellB hb4 g0; have g1 := cellB hb4 g1; have B5 := belowC B4 hb4)
              | (go_at_call_of 46 (Value.agg #[.int .i64 q, .slice A l.length c]); refine (HP.out _ _ hx _ hb.drew (by omega) (by omega)).mono ?_; rintro e w3 ⟨rfl, hb3⟩; have f0 := cellB hb3 f0; have f1 := cellB hb3 f1; have g0 := cellB hb3 g0; have g1 := cellB hb3 g1; have B4 := belowC hb.drew hb3))
        cases x <;> cases y
        · go_wp2
          go_roundw
          case rel => exact ⟨s + 1, by omega, by go_num, B5, ⟨fun j hj => by
            by_cases e : j = s
            · subst e; rw [hx, hy]
            · exact hall.out j (by omega)⟩⟩
          case measure => simp only [intOf]; omega
        · have HF := Off.mk (HD.out (by rw [hx, hy]; decide))
          go_wp2
          go_ret2
          exact ⟨by rw [HF.out]; rfl, belowC B2 B5⟩
        · have HF := Off.mk (HD.out (by rw [hx, hy]; decide))
          go_wp2
          go_ret2
          exact ⟨by rw [HF.out]; rfl, belowC B2 B5⟩
        · go_wp2
          go_roundw
          case rel => exact ⟨s + 1, by omega, by go_num, B5, ⟨fun j hj => by
            by_cases e : j = s
            · subst e; rw [hx, hy]
            · exact hall.out j (by omega)⟩⟩
          case measure => simp only [intOf]; omega
      · have HT := Off.mk (same_all HN.out hl8 (fun j hj => hall.out j (by omega)))
        go_wp2
        go_ret2
        exact ⟨by rw [HT.out]; rfl, belowC B2 hb⟩
  · have hn' : ((l.length : Int) != (k.length : Int)) = true := by rw [bne_iff_ne]; omega
    have HF : Off (sameB q r l k = false) := ⟨by unfold sameB; rw [decide_eq_false hn]; rfl⟩
    clear hn
    go_wp2
    go_ret2
    exact ⟨by rw [HF.out]; rfl, B2⟩
end Go.Proofs.Ytdbleghnblohgaa
