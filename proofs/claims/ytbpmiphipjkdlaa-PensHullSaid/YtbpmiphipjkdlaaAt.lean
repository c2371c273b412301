/- Contracts: back, Convex, Where. -/
import Derived.Test.YtbpmiphipjkdlaaAs
import Derived.Test.YtbpmiphipjkdlaaAj
namespace Go.Proofs.Ytbpmiphipjkdlaa
open Go.RowKit Go.Shelf

set_option maxHeartbeats 1000000 in
set_option maxRecDepth 100000 in
theorem back_any (xs : List (Int × Int)) (A : Option Addr) (c : Nat) (w : World) (h60 : xs.length ≤ 60) (hx : PairsI w A xs) :
    Calls Try.prog 58 #[.slice A xs.length c] w fun e w' => ∃ v, e = .returned v ∧ OwnQ 34 w' w.heap.size v xs ∧ Below w.heap.size w w' := by
  obtain ⟨i0, hi, hz0, hz1, hz2⟩ := info_parts info34
  have HX := Off.mk hx
  clear hx
  go_enter Try.func58, Try.ntmps58
  go_wp2
  go_loopw [3, 8] (fun v kv wr => ∃ k : Nat, k ≤ xs.length ∧ kv = .int .i64 k ∧ Off (OwnQ 34 wr w.heap.size v (xs.take k)) ∧ Off (Below w.heap.size w wr)) (fun _ kv _ => xs.length - (intOf kv).toNat)
  case atStart => exact ⟨0, by omega, rfl, ⟨ownQ_nil _ _ _⟩, ⟨Below.refl _ _⟩⟩
  case round =>
    obtain ⟨k, hk, rfl, HO, HB⟩ := hrel
    obtain ⟨wo, hwo⟩ : ∃ wo : World, wo = wr := ⟨_, rfl⟩
    rw [← hwo] at HB HO ⊢
    clear hwo
    by_cases hlt : k < xs.length
    · have hki : (k : Int) < (xs.length : Int) := by omega
      obtain ⟨ad, rfl, cA, cB⟩ := (HX.out.below HB.out).cell k hlt
      have HT : Off (xs.take (k + 1) = xs.take k ++ [((xs.getD k (0, 0)).1, (xs.getD k (0, 0)).2)]) := ⟨by
        rw [List.take_succ_eq_append_getElem hlt, List.getD_eq_getElem?_getD, List.getElem?_eq_getElem hlt]
        rfl⟩
      have HLn : Off ((xs.take k).length ≤ 1000) := ⟨by rw [List.length_take]; omega⟩
      obtain ⟨x, hx⟩ : ∃ x, x = xs.getD k (0, 0) := ⟨_, rfl⟩
      rw [← hx] at cA cB HT
      have HOa := Off.mk (ownQ_below HO.out ((Below.refl _ wo).alloc (Nat.le_refl _) (.cells #[.int .i64 x.1, .int .i64 x.2] 70)))
      have HBa := Off.mk (belowA HB.out (.cells #[.int .i64 x.1, .int .i64 x.2] 70))
      clear hx
      go_wp2_with (at_builtin; refine wpList_pair Try.underlying22 hi hz0 hz1 hz2 rfl rfl _ _ rfl w.heap.size _ _ x.1 x.2 HOa.out HBa.out.size HLn.out rfl (by rw [World.size_alloc]; rfl) ?_)
      intro v3 w3 hO3 hb3 _
      rw [← HT.out] at hO3
      have HO3 := Off.mk hO3
      have HB3 := Off.mk (HBa.out.trans hb3)
      clear hO3 hb3
      go_wp2
      go_roundw
      case rel => exact ⟨k + 1, by omega, by go_num, HO3, HB3⟩
      case measure => simp only [intOf]; omega
    · obtain rfl : k = xs.length := by omega
      have HO' : Off (OwnQ 34 wo w.heap.size u3 xs) := ⟨by have := HO.out; rw [List.take_length] at this; exact this⟩
      go_wp2
      go_ret
      exact ⟨_, rfl, HO'.out, HB.out⟩
instance (b : Int) (p : Int × Int) : Decidable (inB b p) := by unfold inB; infer_instance
theorem Convex_any (xs : PtL) (A : Option Addr) (c : Nat) (w : World) (hx : PairsI w A xs) :
    Calls Try.prog 28 #[.slice A xs.length c] w fun e w' => e = .returned (if readP xs = true then .tuple #[.bool (convexP xs false), .int .i64 0] else .tuple #[.bool false, .int .i64 2]) ∧ Below w.heap.size w w' := by
  cases hv : readP xs with
  | false =>
    have CR := Off.mk (read_any xs A c w false hv hx)
    clear hx
    rw [if_neg (by simp)]
    go_enter Try.func28, Try.ntmps28
    go_wp2_with fail
    refine CR.out.mono ?_
    rintro e w1 ⟨⟨u, rfl, _, _⟩, hb1⟩
    go_wp2
    refine bodyPost_ret (v := .tuple #[.bool false, .int .i64 2]) (by simp [results, Try.results28, go_sem]) rfl ⟨rfl, hb1⟩
  | true =>
    have CR := Off.mk (read_any xs A c w true hv hx)
    clear hx
    rw [if_pos rfl]
    have HV := Off.mk hv
    clear hv
    go_enter Try.func28, Try.ntmps28
    go_wp2_with fail
    refine CR.out.mono ?_
    rintro e w1 ⟨⟨u, rfl, h1, _⟩, hb1⟩
    obtain ⟨g, cg, rfl, _, hp⟩ := penAt_read HV.out (h1 trivial)
    have C1 : Off (∀ c, Calls Try.prog 54 #[.slice (some ⟨g, 0, none⟩) xs.length c, .bool false] w1 fun e w' => e = .returned (.bool (convexP xs false)) ∧ Below w1.heap.size w1 w') := ⟨fun c => convex_any xs g c false w1 hp⟩
    clear h1 hp
    go_wp2_with fail
    refine (C1.out _).mono ?_
    rintro e w2 ⟨rfl, hb2⟩
    go_wp2
    refine bodyPost_ret (v := .tuple #[.bool (convexP xs false), .int .i64 0]) (by simp [results, Try.results28, go_sem]) rfl ⟨rfl, belowC hb1 hb2⟩
theorem where_pen (xs : PtL) (g c : Nat) (q : Int × Int) (w : World) (hp : PenAt w g xs) (hq : inB 2097152 q) :
    Calls Try.prog 55 #[.slice (some ⟨g, 0, none⟩) xs.length c, ptV q] w fun e w' => e = .returned (.int .i64 (whereP xs q)) ∧ Below w.heap.size w w' :=
  where_any xs g c q w hp.lt hp.few (fun i => inB_mono (hp.near i) (by decide)) hq hp.cell
theorem Where_no (xs : PtL) (A : Option Addr) (c : Nat) (q : Int × Int) (w : World) (hv : readP xs = false) (hx : PairsI w A xs) :
    Calls Try.prog 30 #[.slice A xs.length c, ptV q] w fun e w' => e = .returned (.tuple #[.int .i64 0, .int .i64 2]) ∧ Below w.heap.size w w' := by
  have hbx := belowA (Below.refl _ w) (.cells #[.int .i64 q.1, .int .i64 q.2] 34)
  have CR := Off.mk (read_any xs A c _ false hv (hx.below hbx))
  have HB := Off.mk hbx
  clear hx hbx
  go_enter Try.func30, Try.ntmps30
  go_wp2_with fail
  refine CR.out.mono ?_
  rintro e w1 ⟨⟨u, rfl, _, _⟩, hb1⟩
  go_wp2
  refine bodyPost_ret (v := .tuple #[.int .i64 0, .int .i64 2]) (by simp [results, Try.results30, go_sem]) rfl ⟨rfl, belowC HB.out hb1⟩
theorem Where_le (xs : PtL) (A : Option Addr) (c : Nat) (q : Int × Int) (w : World) (hv : readP xs = true) (hx : PairsI w A xs) (hle : q.1 < q.2) :
    Calls Try.prog 30 #[.slice A xs.length c, ptV q] w fun e w' => e = .returned (if inB 1048576 q then .tuple #[.int .i64 (whereP xs q), .int .i64 0] else .tuple #[.int .i64 0, .int .i64 4]) ∧ Below w.heap.size w w' := by
  have hbx := belowA (Below.refl _ w) (.cells #[.int .i64 q.1, .int .i64 q.2] 34)
  have hbq := two_facts (block_new w (.cells #[.int .i64 q.1, .int .i64 q.2] 34))
  have CR := Off.mk (read_any xs A c _ true hv (hx.below hbx))
  have HB := Off.mk hbx
  have HV := Off.mk hv
  obtain ⟨⟨c0, c1⟩, _⟩ := hbq
  clear hx hbx hv
  obtain ⟨lo, hlo⟩ : ∃ lo, lo = min q.1 q.2 := ⟨_, rfl⟩
  obtain ⟨hi, hhi⟩ : ∃ hi, hi = max q.1 q.2 := ⟨_, rfl⟩
  have m1 : min q.1 q.2 = q.1 := by omega
  have m2 : max q.1 q.2 = q.2 := by omega
  have m3 : ¬ q.2 < q.1 := by omega
  by_cases k1 : q.1 < -1048576
  · rw [if_neg (by unfold inB; omega)]
    clear hlo hhi
    have d1 := decide_eq_true k1
    go_enter Try.func30, Try.ntmps30
    go_wp2_with fail
    refine CR.out.mono ?_
    rintro e w1 ⟨⟨u, rfl, _, _⟩, hb1⟩
    have c0 := cellB hb1 c0
    have c1 := cellB hb1 c1
    go_wp2
    refine bodyPost_ret (v := .tuple #[.int .i64 0, .int .i64 4]) (by simp [results, Try.results30, go_sem]) rfl ⟨rfl, belowC HB.out hb1⟩
  by_cases k2 : 1048576 < q.2
  · rw [if_neg (by unfold inB; omega)]
    clear hlo hhi
    have d1 := decide_eq_false k1
    have d2 := decide_eq_true k2
    go_enter Try.func30, Try.ntmps30
    go_wp2_with fail
    refine CR.out.mono ?_
    rintro e w1 ⟨⟨u, rfl, _, _⟩, hb1⟩
    have c0 := cellB hb1 c0
    have c1 := cellB hb1 c1
    go_wp2
    refine bodyPost_ret (v := .tuple #[.int .i64 0, .int .i64 4]) (by simp [results, Try.results30, go_sem]) rfl ⟨rfl, belowC HB.out hb1⟩
  have hq : inB 1048576 q := by unfold inB; omega
  rw [if_pos hq]
  have HQ := Off.mk hq
  have d1 := decide_eq_false k1
  have d2 := decide_eq_false k2
  clear hlo hhi hq
  go_enter Try.func30, Try.ntmps30
  go_wp2_with fail
  refine CR.out.mono ?_
  rintro e w1 ⟨⟨u, rfl, h1, _⟩, hb1⟩
  have c0 := cellB hb1 c0
  have c1 := cellB hb1 c1
  obtain ⟨g, cg, rfl, _, hp⟩ := penAt_read HV.out (h1 trivial)
  have C1 : Off (∀ W c, Below w1.heap.size w1 W → Calls Try.prog 55 #[.slice (some ⟨g, 0, none⟩) xs.length c, ptV q] W fun e w' => e = .returned (.int .i64 (whereP xs q)) ∧ Below W.heap.size W w') := ⟨fun W c hb => where_pen xs g c q W (hp.below hb) (inB_mono HQ.out (by decide))⟩
  have HB1 := Off.mk hb1
  clear h1 hp hb1
  go_wp2_with fail
  refine (C1.out _ _ (Below.refl _ _)).mono ?_
  rintro e w2 ⟨rfl, hb2⟩
  go_wp2
  refine bodyPost_ret (v := .tuple #[.int .i64 (whereP xs q), .int .i64 0]) (by simp [results, Try.results30, go_sem]) rfl ⟨rfl, belowC (belowC HB.out HB1.out) hb2⟩
theorem Where_eq (xs : PtL) (A : Option Addr) (c : Nat) (q : Int × Int) (w : World) (hv : readP xs = true) (hx : PairsI w A xs) (heq : Off (q.1 = q.2)) :
    Calls Try.prog 30 #[.slice A xs.length c, ptV q] w fun e w' => e = .returned (if inB 1048576 q then .tuple #[.int .i64 (whereP xs q), .int .i64 0] else .tuple #[.int .i64 0, .int .i64 4]) ∧ Below w.heap.size w w' := by
  have hbx := belowA (Below.refl _ w) (.cells #[.int .i64 q.1, .int .i64 q.2] 34)
  have hbq := two_facts (block_new w (.cells #[.int .i64 q.1, .int .i64 q.2] 34))
  have CR := Off.mk (read_any xs A c _ true hv (hx.below hbx))
  have HB := Off.mk hbx
  have HV := Off.mk hv
  obtain ⟨⟨c0, c1⟩, _⟩ := hbq
  clear hx hbx hv
  obtain ⟨lo, hlo⟩ : ∃ lo, lo = min q.1 q.2 := ⟨_, rfl⟩
  obtain ⟨hi, hhi⟩ : ∃ hi, hi = max q.1 q.2 := ⟨_, rfl⟩
  have heq' := heq.out
  have m1 : min q.1 q.2 = q.1 := by omega
  have m2 : max q.1 q.2 = q.1 := by omega
  have m3 : ¬ q.2 < q.1 := by omega
  have m4 : ¬ q.1 < q.2 := by omega
  have m5 : q.1 ≤ q.2 := by omega
  have m6 : q.2 ≤ q.1 := by omega
  by_cases k1 : q.2 < -1048576
  · rw [if_neg (by unfold inB; omega)]
    clear hlo hhi heq' m5 m6
    have d1 := decide_eq_true k1
    have k1' : q.1 < -1048576 := by omega
    have d1' := decide_eq_true k1'
    go_enter Try.func30, Try.ntmps30
    go_wp2_with fail
    refine CR.out.mono ?_
    rintro e w1 ⟨⟨u, rfl, _, _⟩, hb1⟩
    have c0 := cellB hb1 c0
    have c1 := cellB hb1 c1
    go_wp2
    refine bodyPost_ret (v := .tuple #[.int .i64 0, .int .i64 4]) (by simp [results, Try.results30, go_sem]) rfl ⟨rfl, belowC HB.out hb1⟩
  by_cases k2 : 1048576 < q.1
  · rw [if_neg (by unfold inB; omega)]
    clear hlo hhi heq' m5 m6
    have d1 := decide_eq_false k1
    have k1' : ¬ q.1 < -1048576 := by omega
    have d1' := decide_eq_false k1'
    have d2 := decide_eq_true k2
    have k2' : 1048576 < q.2 := by omega
    go_enter Try.func30, Try.ntmps30
    go_wp2_with fail
    refine CR.out.mono ?_
    rintro e w1 ⟨⟨u, rfl, _, _⟩, hb1⟩
    have c0 := cellB hb1 c0
    have c1 := cellB hb1 c1
    go_wp2
    refine bodyPost_ret (v := .tuple #[.int .i64 0, .int .i64 4]) (by simp [results, Try.results30, go_sem]) rfl ⟨rfl, belowC HB.out hb1⟩
  have hq : inB 1048576 q := by unfold inB; omega
  rw [if_pos hq]
  have HQ := Off.mk hq
  have d1 := decide_eq_false k1
  have k1' : ¬ q.1 < -1048576 := by omega
  have d1' := decide_eq_false k1'
  have d2 := decide_eq_false k2
  have k2' : ¬ 1048576 < q.2 := by omega
  clear hlo hhi heq' m5 m6 hq
  go_enter Try.func30, Try.ntmps30
  go_wp2_with fail
  refine CR.out.mono ?_
  rintro e w1 ⟨⟨u, rfl, h1, _⟩, hb1⟩
  have c0 := cellB hb1 c0
  have c1 := cellB hb1 c1
  obtain ⟨g, cg, rfl, _, hp⟩ := penAt_read HV.out (h1 trivial)
  have C1 : Off (∀ W c, Below w1.heap.size w1 W → Calls Try.prog 55 #[.slice (some ⟨g, 0, none⟩) xs.length c, ptV q] W fun e w' => e = .returned (.int .i64 (whereP xs q)) ∧ Below W.heap.size W w') := ⟨fun W c hb => where_pen xs g c q W (hp.below hb) (inB_mono HQ.out (by decide))⟩
  have HB1 := Off.mk hb1
  clear h1 hp hb1
  go_wp2_with fail
  refine (C1.out _ _ (Below.refl _ _)).mono ?_
  rintro e w2 ⟨rfl, hb2⟩
  go_wp2
  refine bodyPost_ret (v := .tuple #[.int .i64 (whereP xs q), .int .i64 0]) (by simp [results, Try.results30, go_sem]) rfl ⟨rfl, belowC (belowC HB.out HB1.out) hb2⟩
theorem Where_gt (xs : PtL) (A : Option Addr) (c : Nat) (q : Int × Int) (w : World) (hv : readP xs = true) (hx : PairsI w A xs) (hgt : q.2 < q.1) :
    Calls Try.prog 30 #[.slice A xs.length c, ptV q] w fun e w' => e = .returned (if inB 1048576 q then .tuple #[.int .i64 (whereP xs q), .int .i64 0] else .tuple #[.int .i64 0, .int .i64 4]) ∧ Below w.heap.size w w' := by
  have hbx := belowA (Below.refl _ w) (.cells #[.int .i64 q.1, .int .i64 q.2] 34)
  have hbq := two_facts (block_new w (.cells #[.int .i64 q.1, .int .i64 q.2] 34))
  have CR := Off.mk (read_any xs A c _ true hv (hx.below hbx))
  have HB := Off.mk hbx
  have HV := Off.mk hv
  obtain ⟨⟨c0, c1⟩, _⟩ := hbq
  clear hx hbx hv
  obtain ⟨lo, hlo⟩ : ∃ lo, lo = min q.1 q.2 := ⟨_, rfl⟩
  obtain ⟨hi, hhi⟩ : ∃ hi, hi = max q.1 q.2 := ⟨_, rfl⟩
  have m1 : min q.1 q.2 = q.2 := by omega
  have m2 : max q.1 q.2 = q.1 := by omega
  have m3 : ¬ q.1 < q.2 := by omega
  by_cases k1 : q.2 < -1048576
  · rw [if_neg (by unfold inB; omega)]
    clear hlo hhi
    have d1 := decide_eq_true k1
    go_enter Try.func30, Try.ntmps30
    go_wp2_with fail
    refine CR.out.mono ?_
    rintro e w1 ⟨⟨u, rfl, _, _⟩, hb1⟩
    have c0 := cellB hb1 c0
    have c1 := cellB hb1 c1
    go_wp2
    refine bodyPost_ret (v := .tuple #[.int .i64 0, .int .i64 4]) (by simp [results, Try.results30, go_sem]) rfl ⟨rfl, belowC HB.out hb1⟩
  by_cases k2 : 1048576 < q.1
  · rw [if_neg (by unfold inB; omega)]
    clear hlo hhi
    have d1 := decide_eq_false k1
    have d2 := decide_eq_true k2
    go_enter Try.func30, Try.ntmps30
    go_wp2_with fail
    refine CR.out.mono ?_
    rintro e w1 ⟨⟨u, rfl, _, _⟩, hb1⟩
    have c0 := cellB hb1 c0
    have c1 := cellB hb1 c1
    go_wp2
    refine bodyPost_ret (v := .tuple #[.int .i64 0, .int .i64 4]) (by simp [results, Try.results30, go_sem]) rfl ⟨rfl, belowC HB.out hb1⟩
  have hq : inB 1048576 q := by unfold inB; omega
  rw [if_pos hq]
  have HQ := Off.mk hq
  have d1 := decide_eq_false k1
  have d2 := decide_eq_false k2
  clear hlo hhi hq
  go_enter Try.func30, Try.ntmps30
  go_wp2_with fail
  refine CR.out.mono ?_
  rintro e w1 ⟨⟨u, rfl, h1, _⟩, hb1⟩
  have c0 := cellB hb1 c0
  have c1 := cellB hb1 c1
  obtain ⟨g, cg, rfl, _, hp⟩ := penAt_read HV.out (h1 trivial)
  have C1 : Off (∀ W c, Below w1.heap.size w1 W → Calls Try.prog 55 #[.slice (some ⟨g, 0, none⟩) xs.length c, ptV q] W fun e w' => e = .returned (.int .i64 (whereP xs q)) ∧ Below W.heap.size W w') := ⟨fun W c hb => where_pen xs g c q W (hp.below hb) (inB_mono HQ.out (by decide))⟩
  have HB1 := Off.mk hb1
  clear h1 hp hb1
  go_wp2_with fail
  refine (C1.out _ _ (Below.refl _ _)).mono ?_
  rintro e w2 ⟨rfl, hb2⟩
  go_wp2
  refine bodyPost_ret (v := .tuple #[.int .i64 (whereP xs q), .int .i64 0]) (by simp [results, Try.results30, go_sem]) rfl ⟨rfl, belowC (belowC HB.out HB1.out) hb2⟩
theorem Where_any (xs : PtL) (A : Option Addr) (c : Nat) (q : Int × Int) (w : World) (hx : PairsI w A xs) :
    Calls Try.prog 30 #[.slice A xs.length c, ptV q] w fun e w' => e = .returned (if readP xs = true then (if inB 1048576 q then .tuple #[.int .i64 (whereP xs q), .int .i64 0] else .tuple #[.int .i64 0, .int .i64 4]) else .tuple #[.int .i64 0, .int .i64 2]) ∧ Below w.heap.size w w' := by
  cases hv : readP xs with
  | false => exact Where_no xs A c q w hv hx
  | true =>
    rcases Int.lt_trichotomy q.1 q.2 with h | h | h
    · exact Where_le xs A c q w hv hx h
    · exact Where_eq xs A c q w hv hx ⟨h⟩
    · exact Where_gt xs A c q w hv hx h
end Go.Proofs.Ytbpmiphipjkdlaa
