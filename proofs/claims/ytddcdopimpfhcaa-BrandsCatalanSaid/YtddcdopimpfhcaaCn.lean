/- The law BrandsBetween: its walk. -/
import Derived.Test.YtddcdopimpfhcaaCm
namespace Go.Proofs.Ytddcdopimpfhcaa
open Go.RowKit Go.Shelf

theorem both_between (l : List Int) (A : Option Addr) (c : Nat) (i k : Int) : ∃ x e : Int, (∀ w, IntsAt w A l → Calls Try.prog 33 #[.slice A l.length c, .int .i64 i, .int .i64 k] w fun r w' => r = .returned (.tuple #[.int .i64 x, .int .i64 e]) ∧ Below w.heap.size w w') ∧
    ∀ w, IntsAt w A l → Calls Try.prog 38 #[.slice A l.length c, .int .i64 i, .int .i64 k] w fun r w' => r = .returned (.tuple #[.int .i64 x, .int .i64 e]) ∧ w' = w := by
  by_cases h : roundB l = true ∧ 0 ≤ i ∧ i < l.length ∧ i ≤ k ∧ k ≤ i + l.length
  · obtain ⟨hb, h0, h1, h2, h3⟩ := h
    obtain ⟨a, rfl⟩ : ∃ a : Nat, i = (a : Int) := ⟨i.toNat, by omega⟩
    obtain ⟨d, rfl⟩ : ∃ d : Nat, k = (a : Int) + (d : Int) := ⟨(k - a).toNat, by omega⟩
    exact ⟨_, _, fun w hl => between_yes l A c a d hb (by omega) (by omega) w hl, fun w hl => rbetween_yes l A c a d hb (by omega) (by omega) w hl⟩
  · exact ⟨_, _, fun w hl => between_no l A c i k h w hl, fun w hl => rbetween_no l A c i k h w hl⟩
/-- A number is stored at the beginning of a row. -/
theorem Tab.store {w : World} {base tb c n1 : Nat} {vs : Nat → Value} {rows : Nat → List Int} (h : Tab w base tb c n1 vs rows) {r : Nat} (hr : r < n1) {g z cz : Nat} (hv : vs r = .slice (some ⟨g, 0, none⟩) z cz) (y : Int) :
    Tab (w.setCell ⟨g, 0, none⟩ (.int .i64 y)) base tb c n1 vs (fun s => if s = r then (rows r).set 0 y else rows s) ∧ w.grownBy (w.setCell ⟨g, 0, none⟩ (.int .i64 y)) (some g) ∧ base ≤ g := by
  have hO := h.row r hr
  have hblk : (vs r).ownBlock = some g := by rw [hv]; rfl
  have hz : z = (rows r).length := by
    have := hO.out.2
    rw [hv] at this
    rcases this with ⟨e, _⟩ | ⟨g', cap, cur, e, _⟩
    · cases e
    · cases e; rfl
  have hO' := hO.out
  rw [hv, ← hz] at hO'
  obtain ⟨ho, hg⟩ := hO'.stored 0 (.int .i64 y)
  refine ⟨⟨h.own.kept hg (.inr (fun e => (h.apart r hr g hblk).1 (by cases e; rfl))), fun s hs => ?_, h.apart⟩, hg, (hO.out.lt g hblk).1⟩
  by_cases e : s = r
  · subst e
    simp only [if_pos]
    refine ⟨?_⟩
    rw [List.length_set, hv, ← hz]
    rw [show nums ((rows s).set 0 y) = (nums (rows s)).set 0 (.int .i64 y) from nums_set _ _ _]
    exact ho
  · simp only [if_neg e]
    refine own_kept (h.row s hs) hg ?_
    cases e3 : (vs s).ownBlock with
    | none => exact .inl rfl
    | some k => exact .inr (fun e2 => (h.apart s hs k e3).2 r hr (fun x => e x.symm) (by rw [hblk]; exact e2.symm))
theorem between_many (l : List Int) (A : Option Addr) (c : Nat) (i k : Int) (w : World) (h60 : 60 < l.length) :
    Calls Try.prog 12 #[.slice A l.length c, .int .i64 i, .int .i64 k] w fun e w' => e = .returned (.bool true) ∧ Below w.heap.size w w' := by
  go_enter Try.func12, Try.ntmps12
  go_wp2_with (go_at_call 17; refine (alive_any _).mono ?_; rintro e w2 ⟨rfl, hb2⟩)
  go_ret
  exact ⟨rfl, hb2⟩
set_option linter.unusedSimpArgs false in
set_option maxHeartbeats 4000000 in
set_option maxRecDepth 100000 in
theorem between_few_no (l : List Int) (A : Option Addr) (c : Nat) (i k : Int) (hb : roundB l = false) (w : World) (hl : IntsAt w A l) (h60 : l.length ≤ 60) :
    Calls Try.prog 12 #[.slice A l.length c, .int .i64 i, .int .i64 k] w fun e w' => e = .returned (.bool true) ∧ Below w.heap.size w w' := by
  obtain ⟨x, e, CB, CR⟩ := both_between l A c i k
  have C1 := Off.mk (CB w hl)
  have C2 := Off.mk (fun W (hW : Below w.heap.size w W) => CR W (hl.below hW))
  have C3 := Off.mk (fun W (hW : Below w.heap.size w W) => rfrieze_no l A c hb W (hl.below hW))
  have C4 := Off.mk (fun W (hW : Below w.heap.size w W) => frieze_no l A c hb W (hl.below hW))
  clear CB CR hl hb
  go_enter Try.func12, Try.ntmps12
  go_wp2_with (first
    | (go_at_call 33; refine C1.out.mono ?_; rintro e w1 ⟨rfl, hb1⟩; have HB1 := Off.mk hb1; clear hb1)
    | (go_at_call 38; refine (C2.out _ HB1.out).mono ?_; rintro e w2 ⟨rfl, hw2⟩; subst w2)
    | (go_at_call 39; refine (C3.out _ HB1.out).mono ?_; rintro e w2 ⟨rfl, hw2⟩; subst w2))
  clear C1 C2 C3
  go_loopw [12] (fun av wr => ∃ a : Nat, a ≤ 2 ∧ av = .int .i64 a ∧ Off (Below w.heap.size w wr)) (fun av _ => 2 - (intOf av).toNat)
  case atStart => exact ⟨0, by omega, rfl, HB1⟩
  case round =>
    clear HB1
    obtain ⟨a, ha, rfl, HB⟩ := hrel
    by_cases ha2 : a < 2
    · obtain ⟨wa, rfl⟩ : ∃ wo : World, wo = wr := ⟨_, rfl⟩
      go_wp2_with fail
      refine (C4.out _ HB.out).mono ?_
      rintro e w2 ⟨rfl, hw2⟩
      subst w2
      go_wp2
      refine wp_loop_rounds 1 ?_
      rw [rounds_succ]
      go_wp2
      go_roundw
      case rel => exact ⟨a + 1, by omega, by go_num, HB⟩
      case measure => simp only [intOf]; omega
    · obtain rfl : a = 2 := by omega
      go_wp2_with (go_at_call 17; refine (alive_any _).mono ?_; rintro e w2 ⟨rfl, hb2⟩)
      go_ret
      exact ⟨rfl, belowC HB.out hb2⟩
set_option linter.unusedSimpArgs false in
set_option maxHeartbeats 4000000 in
set_option maxRecDepth 100000 in
theorem between_few_yes (l : List Int) (A : Option Addr) (c : Nat) (i k : Int) (hb : roundB l = true) (w : World) (hl : IntsAt w A l) (h60 : l.length ≤ 60) :
    Calls Try.prog 12 #[.slice A l.length c, .int .i64 i, .int .i64 k] w fun e w' => e = .returned (.bool true) ∧ Below w.heap.size w w' := by
  obtain ⟨x, e, CB, CR⟩ := both_between l A c i k
  have C1 := Off.mk (CB w hl)
  have C2 := Off.mk (fun W (hW : Below w.heap.size w W) => CR W (hl.below hW))
  have C3 := Off.mk (fun W (hW : Below w.heap.size w W) => rfrieze_yes l A c hb W (hl.below hW))
  have C4 := Off.mk (fun W (hW : Below w.heap.size w W) => frieze_yes l A c hb W (hl.below hW))
  have hn12 := (roundB_iff.1 hb).1
  have HLen : Off (∀ r, (frRow l l.length r).length = l.length) := ⟨fun r => frRow_len _ _ _⟩
  obtain ⟨R, hR⟩ : ∃ R, R = frRow l l.length := ⟨_, rfl⟩
  rw [← hR] at C3 C4 HLen
  clear CB CR hl hb hR
  go_enter Try.func12, Try.ntmps12
  go_wp2_with (first
    | (go_at_call 33; refine C1.out.mono ?_; rintro e w1 ⟨rfl, hb1⟩; have HB1 := Off.mk hb1; clear hb1)
    | (go_at_call 38; refine (C2.out _ HB1.out).mono ?_; rintro e w2 ⟨rfl, hw2⟩; subst w2)
    | (go_at_call 39; refine (C3.out _ HB1.out).mono ?_; rintro e w2 ⟨tv, us, rfl, hT, hb2⟩; obtain ⟨bb, cb, rfl, _⟩ := hT.cell (by omega); have HT2 := Off.mk hT; have HB2 := Off.mk (belowC HB1.out hb2); clear hT hb2))
  clear C1 C2 C3
  have HBs := Off.mk (Below.refl w2.heap.size w2)
  go_loopw [12] (fun av wr => ∃ a : Nat, a ≤ 2 ∧ av = .int .i64 a ∧ Off (Below w2.heap.size w2 wr)) (fun av _ => 2 - (intOf av).toNat)
  case atStart => exact ⟨0, by omega, rfl, HBs⟩
  case round =>
    clear HBs
    obtain ⟨a, ha, rfl, HB⟩ := hrel
    by_cases ha2 : a < 2
    · obtain ⟨wa, rfl⟩ : ∃ wo : World, wo = wr := ⟨_, rfl⟩
      go_wp2_with fail
      refine (C4.out _ (belowC HB2.out HB.out)).mono ?_
      rintro e w3 ⟨tb, ct, vs, rfl, hT, hb3⟩
      have HT3 := Off.mk (show Tab w3 wa.heap.size tb ct (l.length + 1) vs (fun s => if s < 0 then (R s).set 0 (-7) else R s) by simpa using hT)
      have HB3 := Off.mk hb3
      clear hT hb3
      go_wp2
      go_loopw [15] (fun rv wr => ∃ r : Nat, r ≤ l.length + 1 ∧ rv = .int .i64 r ∧ Off (Tab wr wa.heap.size tb ct (l.length + 1) vs (fun s => if s < r then (R s).set 0 (-7) else R s)) ∧ Off (Below wa.heap.size wa wr)) (fun rv _ => l.length + 1 - (intOf rv).toNat)
      case atStart => exact ⟨0, by omega, rfl, HT3, HB3⟩
      case round =>
        clear HT3 HB3
        obtain ⟨r, hr, rfl, HT, HB3⟩ := hrel
        obtain ⟨wb, rfl⟩ : ∃ wo : World, wo = wr := ⟨_, rfl⟩
        by_cases hrl : r < l.length + 1
        · have hTb := HT2.out.below (belowC HB.out HB3.out)
          obtain ⟨bb', cb', e', hcb⟩ := hTb.cell (by omega)
          cases e'
          have y0 := hcb r hrl
          obtain ⟨x0, xf⟩ := HT.out.cell hrl
          have hrow := HT.out.row r hrl
          rw [if_neg (Nat.lt_irrefl r)] at hrow
          obtain ⟨A1, c1, hv1, hI1, _⟩ := own_ints hrow (by rw [HLen.out]; omega)
          obtain ⟨A2, c2, hv2, hI2, _⟩ := own_ints (hTb.row r hrl) (by rw [HLen.out]; omega)
          obtain ⟨ad, rfl, z0⟩ := hI1.cell 0 (by rw [HLen.out]; omega)
          obtain ⟨g, rfl⟩ : ∃ g, ad = ⟨g, 0, none⟩ := by
            rcases hrow.out.2 with ⟨e, _⟩ | ⟨g, cap, cur, e, _⟩
            · rw [hv1] at e; cases e
            · rw [hv1] at e; cases e; exact ⟨g, rfl⟩
          have CS := Off.mk (fun W (hW : Below wb.heap.size wb W) => same_any (R r) (R r) (some ⟨g, 0, none⟩) A2 c1 c2 true (by simp) W (hI1.below hW) (hI2.below hW))
          rw [HLen.out] at CS hv1 hv2
          rw [hv1] at x0
          rw [hv2] at y0
          obtain ⟨z, hz⟩ : ∃ z, z = (R r).getD 0 0 := ⟨_, rfl⟩
          rw [Addr.add_zero', ← hz] at z0
          have hzf : wb.frozen? ⟨g, 0, none⟩ = false := by
            have h1 := hrow.out
            rw [hv1, HLen.out] at h1
            exact h1.frozenAt 0
          have HV1 := Off.mk hv1
          have HF : Off (∀ s, (if s = r then (if r < r then (R r).set 0 (-7) else R r).set 0 (-7) else if s < r then (R s).set 0 (-7) else R s) = if s < r + 1 then (R s).set 0 (-7) else R s) := ⟨fun s => by
            by_cases e : s = r
            · subst e; rw [if_pos rfl, if_neg (Nat.lt_irrefl s), if_pos (by omega)]
            · rw [if_neg e]
              by_cases e2 : s < r
              · rw [if_pos e2, if_pos (by omega)]
              · rw [if_neg e2, if_neg (by omega)]⟩
          have HBw := Off.mk (below_drew (Below.refl wb.heap.size wb))
          have hrI : (r : Int) < (l.length : Int) + 1 := by omega
          have hl0 : (0 : Int) < (l.length : Int) := by omega
          have HFr : Off (∀ W, Below wb.heap.size wb W → W.frozen? ⟨g, 0, none⟩ = false ∧ W.cell? ⟨g, 0, none⟩ = some (.int .i64 z) ∧ Tab W wa.heap.size tb ct (l.length + 1) vs (fun s => if s < r then (R s).set 0 (-7) else R s)) := ⟨fun W hW => by
            have hT' := HT.out.below hW
            refine ⟨?_, cellB hW z0, hT'⟩
            have h1 := (hT'.row r hrl).out
            rw [if_neg (Nat.lt_irrefl r), hv1, HLen.out] at h1
            exact h1.frozenAt 0⟩
          have HB3' := Off.mk HB3.out
          clear hTb hrow hI1 hI2 hv1 hv2 hz HT xf hzf z0 hcb
          go_wp2
          refine wp_region_held_drew (S := (fun w' => w'.cell? ⟨tb, r, none⟩ = some (.slice (some ⟨g, 0, none⟩) l.length c1) ∧ w'.cell? ⟨bb, r, none⟩ = some (.slice A2 l.length c2))) (by kernel_rfl) ⟨x0, y0⟩ (fun hHeld => ?_)
          refine wpAnyH_take (i := 0) (oi := ⟨some 72, _, _, _, _, _⟩) (v := ?_) rfl (by kernel_rfl) (by kernel_rfl) (by kernel_rfl) (fun _ _ _ h => h) (Or.inl ⟨by rfl, by intro w hSw; (try dsimp only at hSw); go_simp; try with_reducible rfl⟩) hHeld ?_
          try simp only [Act.put, List.setIfInBounds_toArray, List.set_cons_zero, List.set_cons_succ]
          refine wpAnyH_take (i := 1) (oi := ⟨some 73, _, _, _, _, _⟩) (v := ?_) rfl (by kernel_rfl) (by kernel_rfl) (by kernel_rfl) (fun _ _ _ h => h) (Or.inl ⟨by rfl, by intro w hSw; (try dsimp only at hSw); go_simp; try with_reducible rfl⟩) hHeld ?_
          try simp only [Act.put, List.setIfInBounds_toArray, List.set_cons_zero, List.set_cons_succ]
          refine wpAnyH_take (i := 2) (oi := ⟨some 74, _, _, _, _, _⟩) (v := ?_) rfl (by kernel_rfl) (by kernel_rfl) (by kernel_rfl) (fun _ _ _ h => h) (Or.inl ⟨by rfl, by intro w hSw; (try dsimp only at hSw); go_simp; try with_reducible rfl⟩) hHeld ?_
          try simp only [Act.put, List.setIfInBounds_toArray, List.set_cons_zero, List.set_cons_succ]
          refine wpAnyH_take (i := 3) (oi := ⟨some 75, _, _, _, _, _⟩) (v := ?_) rfl (by kernel_rfl) (by kernel_rfl) (by kernel_rfl) (fun _ _ _ h => h) (Or.inl ⟨by rfl, by intro w hSw; (try dsimp only at hSw); go_simp; try with_reducible rfl⟩) hHeld ?_
          try simp only [Act.put, List.setIfInBounds_toArray, List.set_cons_zero, List.set_cons_succ]
          refine wpAnyH_take (i := 4) (oi := ⟨some 76, _, _, _, _, _⟩) (v := ?_) rfl (by kernel_rfl) (by kernel_rfl) (by kernel_rfl) (fun _ _ _ h => h) (Or.inl ⟨by rfl, by intro w hSw; (try dsimp only at hSw); go_simp; try with_reducible rfl⟩) hHeld ?_
          try simp only [Act.put, List.setIfInBounds_toArray, List.set_cons_zero, List.set_cons_succ]
          refine wpAnyH_take (i := 5) (oi := ⟨some 77, _, _, _, _, _⟩) (v := ?_) rfl (by kernel_rfl) (by kernel_rfl) (by kernel_rfl) (fun _ _ _ h => h) (Or.inl ⟨by rfl, by intro w hSw; (try dsimp only at hSw); go_simp; try with_reducible rfl⟩) hHeld ?_
          try simp only [Act.put, List.setIfInBounds_toArray, List.set_cons_zero, List.set_cons_succ]
          refine wpAnyH_take (i := 6) (oi := ⟨some 78, _, _, _, _, _⟩) (v := ?_) rfl (by kernel_rfl) (by kernel_rfl) (by kernel_rfl) (fun _ _ _ h => h) (Or.inl ⟨by rfl, by intro w hSw; (try dsimp only at hSw); go_simp; try with_reducible rfl⟩) hHeld ?_
          try simp only [Act.put, List.setIfInBounds_toArray, List.set_cons_zero, List.set_cons_succ]
          refine wpAnyH_take (i := 7) (oi := ⟨some 79, _, _, _, _, _⟩) (v := ?_) rfl (by kernel_rfl) (by kernel_rfl) (by kernel_rfl) (fun _ _ _ h => h) (Or.inl ⟨by rfl, by intro w hSw; (try dsimp only at hSw); go_simp; try with_reducible rfl⟩) hHeld ?_
          try simp only [Act.put, List.setIfInBounds_toArray, List.set_cons_zero, List.set_cons_succ]
          refine wpAnyH_ready (rs := [8]) (by kernel_rfl) (by simp) ?_
          refine AllReadyH.cons (o := ⟨some 80, _, _, _, _, _⟩) rfl (fun K hK => ?_) AllReadyH.nil
          go_simp
          go_at_call 32
          refine (CS.out _ HBw.out).mono ?_
          rintro e w5 ⟨rfl, hb5⟩
          have HB5 := Off.mk (HBw.out.trans hb5)
          go_wp2_with fail
          refine hK.out _ _ ⟨cellB hb5 hHeld.1, cellB hb5 hHeld.2⟩ (fun hHeld => ?_)
          clear hK K
          try simp only [Act.put, List.setIfInBounds_toArray, List.set_cons_zero, List.set_cons_succ]
          refine wpAnyH_take (i := 9) (oi := ⟨some 81, _, _, _, _, _⟩) (v := ?_) rfl (by kernel_rfl) (by kernel_rfl) (by kernel_rfl) (fun _ _ _ h => h) (Or.inl ⟨by rfl, by intro w hSw; (try dsimp only at hSw); go_simp; try with_reducible rfl⟩) hHeld ?_
          try simp only [Act.put, List.setIfInBounds_toArray, List.set_cons_zero, List.set_cons_succ]
          refine wpAnyH_done (by kernel_rfl) ?_ _
          obtain ⟨hzf, hz5, hT5⟩ := HFr.out w5 HB5.out
          have x5 := cellB HB5.out x0
          have hB5 := belowC HB3'.out HB5.out
          have HT5 := Off.mk hT5
          have HB6 := Off.mk hB5
          clear hb5 hHeld HFr CS x0 y0 HB3 hT5 hB5
          go_wp2
          obtain ⟨hT6, hg6, hbg⟩ := HT5.out.store hrl HV1.out (-7)
          simp only [HF.out] at hT6
          go_roundw
          case rel => exact ⟨r + 1, by omega, by go_num, ⟨hT6⟩, ⟨HB6.out.grown hg6 HB6.out.size (fun k e => by cases e; exact hbg)⟩⟩
          case measure => simp only [intOf]; omega
        · obtain rfl : r = l.length + 1 := by omega
          have HBe := Off.mk (belowC HB.out HB3.out)
          go_wp2
          go_roundw
          case rel => exact ⟨a + 1, by omega, by go_num, HBe⟩
          case measure => simp only [intOf]; omega
    · obtain rfl : a = 2 := by omega
      go_wp2_with (go_at_call 17; refine (alive_any _).mono ?_; rintro e w4 ⟨rfl, hb4⟩)
      go_ret
      exact ⟨rfl, belowC (belowC HB2.out HB.out) hb4⟩
theorem between_walk (l : List Int) (A : Option Addr) (c : Nat) (i k : Int) (w : World) (hx : l.length ≤ 140737488351232 → IntsAt w A l) (_ : l.length ≤ c) (_ : A = none → c = 0) :
    Calls Try.prog 12 #[.slice A l.length c, .int .i64 i, .int .i64 k] w fun e w' => e = .returned (.bool true) ∧ Below w.heap.size w w' := by
  by_cases h60 : l.length ≤ 60
  · cases hb : roundB l
    · exact between_few_no l A c i k hb w (hx (by omega)) h60
    · exact between_few_yes l A c i k hb w (hx (by omega)) h60
  · exact between_many l A c i k w (by omega)
end Go.Proofs.Ytddcdopimpfhcaa
