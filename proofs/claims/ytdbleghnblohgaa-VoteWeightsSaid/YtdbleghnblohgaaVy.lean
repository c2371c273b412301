/- Contracts: Kinds. -/
import Derived.Test.YtdbleghnblohgaaVv
import Derived.RangeFuncBox
namespace Go.Proofs.Ytdbleghnblohgaa
open Go.RowKit Go.Shelf
set_option maxRecDepth 100000

/-- The drovers that turn nothing, those whose lack loses, those who win alone. -/
def noneOf (n : Nat) (acc : List (Nat × Nat)) : Int := acc.foldl (fun m x => without m x.1) (2 ^ n - 1)
def everyTo (p : Int → Bool) (n : Nat) : Nat → Int
  | 0 => 0
  | k + 1 => if p (without (2 ^ n - 1) k) then everyTo p n k else with_ (everyTo p n k) k
def singleTo (p : Int → Bool) : Nat → Int
  | 0 => 0
  | k + 1 => if p (2 ^ k) then with_ (singleTo p k) k else singleTo p k
theorem noneOf_snoc (n : Nat) (acc : List (Nat × Nat)) (x : Nat × Nat) : noneOf n (acc ++ [x]) = without (noneOf n acc) x.1 := by simp [noneOf]
theorem noneOf_range (n : Nat) (hn : n ≤ 8) (acc : List (Nat × Nat)) : 0 ≤ noneOf n acc ∧ noneOf n acc < 256 := by
  have hp := pow_le n hn
  have H : ∀ (acc : List (Nat × Nat)) (m : Int), 0 ≤ m ∧ m < 256 → 0 ≤ acc.foldl (fun m x => without m x.1) m ∧ acc.foldl (fun m x => without m x.1) m < 256 := by
    intro acc
    induction acc with
    | nil => intro m h; exact h
    | cons x acc ih =>
      intro m h
      rw [List.foldl_cons]
      have := without_range m x.1 8 h.1 (by omega)
      exact ih _ ⟨this.1, by omega⟩
  exact H acc _ (by omega)
theorem with_lt : ∀ i : Fin 8, ∀ s : Fin 256, s.val < 2 ^ i.val → with_ ((s.val : Nat) : Int) i = (s.val : Int) + 2 ^ i.val := by decide +kernel
theorem with_under (k : Nat) (hk : k < 8) (x : Int) (h0 : 0 ≤ x) (h1 : x < 2 ^ k) : with_ x k = x + 2 ^ k := by
  have hp := pow_le k (by omega)
  obtain ⟨s, rfl⟩ := Int.eq_ofNat_of_zero_le h0
  exact with_lt ⟨k, hk⟩ ⟨s, by omega⟩ (by simp only; exact_mod_cast h1)
theorem everyTo_range (p : Int → Bool) (n k : Nat) (hk : k ≤ 8) : 0 ≤ everyTo p n k ∧ everyTo p n k < 2 ^ k := by
  induction k with
  | zero => simp [everyTo]
  | succ k ih =>
    have h := ih (by omega)
    have hp : (0 : Int) < 2 ^ k := Int.pow_pos (by decide)
    rw [Int.pow_succ]
    simp only [everyTo]
    split
    · omega
    · rw [with_under k (by omega) _ h.1 h.2]; omega
theorem singleTo_range (p : Int → Bool) (k : Nat) (hk : k ≤ 8) : 0 ≤ singleTo p k ∧ singleTo p k < 2 ^ k := by
  induction k with
  | zero => simp [singleTo]
  | succ k ih =>
    have h := ih (by omega)
    have hp : (0 : Int) < 2 ^ k := Int.pow_pos (by decide)
    rw [Int.pow_succ]
    simp only [singleTo]
    split
    · rw [with_under k (by omega) _ h.1 h.2]; omega
    · omega

set_option maxHeartbeats 1000000 in
theorem kinds1 (Bo n : Nat) (hn : n ≤ 8) (acc : List (Nat × Nat)) (W : World) (i s : Nat) (h : Boxed W Bo 3 (.int .i64 (noneOf n acc))) (hi : i < n) :
    Calls Try.prog 67 #[.int .i64 i, .int .i64 s, .pointer (some ⟨Bo, 0, none⟩)] W fun e w' => e = .returned (.tuple #[]) ∧ Boxed w' Bo 3 (.int .i64 (noneOf n (acc ++ [(i, s)]))) ∧ Keeps Bo W w' := by
  have hr := noneOf_range n hn acc
  have HN : Off (noneOf n (acc ++ [(i, s)]) = without (noneOf n acc) i) := ⟨noneOf_snoc _ _ _⟩
  have hc := h.cell
  have hfz := h.frozen
  have HB := Off.mk h
  obtain ⟨m, hm⟩ : ∃ m, m = noneOf n acc := ⟨_, rfl⟩
  rw [← hm] at hc hr HN
  have ha := andNot_pow m i hr.1 hr.2 (by omega)
  have hp := pow_le i (by omega)
  have hp0 : (0 : Int) < 2 ^ i := Int.pow_pos (by decide)
  have hw1 : IntKind.i64.wrap ((2 : Int) ^ i) = 2 ^ i := by rw [IntKind.wrap_i64]; omega
  clear hm h
  go_enter Try.func67, Try.ntmps67
  go_wp2_with fail
  refine wp_region_still_tail 4 (by kernel_rfl) (by kernel_rfl) ?_
  simp only [List.take_succ_cons, List.take_zero, List.drop_succ_cons, List.drop_zero]
  repeat still_step
  refine wpStill_nil ?_
  change wpList _ _ _ _ _ W.drew
  go_wp2
  go_end0
  have hB' := HB.out.set (.int .i64 (without m i))
  have hg := grownBy_setCell' W Bo (.int .i64 (without m i))
  refine ⟨rfl, ?_, ⟨⟨hg.os, hg.tape, hg.output, hg.size, hg.block⟩⟩⟩
  rw [HN.out]
  exact hB'
theorem kinds1_finds (Bo n : Nat) (hn : n ≤ 8) : Finds Try.prog 67 #[.pointer (some ⟨Bo, 0, none⟩)] n Bo (fun acc W => Boxed W Bo 3 (.int .i64 (noneOf n acc))) :=
  ⟨fun _ _ _ h hb => (hb.block Bo h.lt).trans h, fun acc W i s h _ hi _ _ => kinds1 Bo n hn acc W i s h hi⟩

theorem results_tmp4 {fn : Func} {t u v x : Tmp} (h : fn.results = #[.tmp t, .tmp u, .tmp v, .tmp x]) (tmps : Array Value) (P : Program) (w : World) :
    (results fn tmps).run P w = .ok (.tuple #[tmps.getD t undef, tmps.getD u undef, tmps.getD v undef, tmps.getD x undef]) w := by
  simp [results, h]
set_option maxHeartbeats 1000000 in
theorem Kinds_no (q : Int) (l : List Int) (A : Option Addr) (c : Nat) (w : World) (hl : IntsAt w A l) (hbody : bodyB q l = false) :
    Calls Try.prog 38 #[.agg #[.int .i64 q, .slice A l.length c]] w fun e w' => e = .returned (.tuple #[.int .i64 0, .int .i64 0, .int .i64 0, .int .i64 2]) ∧ Below w.heap.size w w' := by
  have HB : Off (∀ o, Below w.heap.size w (w.alloc o)) := ⟨fun o => (Below.refl _ _).alloc (Nat.le_refl _) _⟩
  go_enter Try.func38, Try.ntmps38
  go_wp2_with (go_at_call 43; refine (read_any q l A c _ (hl.below (HB.out _))).mono ?_; rintro e w1 ⟨rfl, hb1⟩)
  (try simp only [Exit.inBlock, Exit.then])
  refine bodyPost_ret (results_tmp4 rfl _ _ _) rfl ?_
  exact ⟨rfl, (HB.out _).trans (hb1.mono (HB.out _).size)⟩

set_option maxHeartbeats 2000000 in
theorem Kinds_yes (q : Int) (l : List Int) (A : Option Addr) (c : Nat) (w : World) (hl : IntsAt w A l) (hbody : bodyB q l = true) :
    Calls Try.prog 38 #[.agg #[.int .i64 q, .slice A l.length c]] w fun e w' =>
      e = .returned (.tuple #[.int .i64 (noneOf l.length (turnsTo (winB q l) l.length l.length)), .int .i64 (everyTo (winB q l) l.length l.length), .int .i64 (singleTo (winB q l) l.length), .int .i64 0]) ∧ Below w.heap.size w w' := by
  have HB : Off (∀ o, Below w.heap.size w (w.alloc o)) := ⟨fun o => (Below.refl _ _).alloc (Nat.le_refl _) _⟩
  obtain ⟨h8, hw⟩ := Body.weights hbody
  have hlen1 : 0 < l.length := (of_decide_eq_true hbody).1
  have eg := enters_of Try.func67 (by kernel_rfl) rfl
  have hlen := hl.len
  have hp := pow_le l.length h8
  have hp0 : (0 : Int) < 2 ^ l.length := Int.pow_pos (by decide)
  have hw1 : IntKind.i64.wrap ((2 : Int) ^ l.length) = 2 ^ l.length := by rw [IntKind.wrap_i64]; omega
  have hw2 : IntKind.i64.wrap ((2 : Int) ^ l.length - 1) = 2 ^ l.length - 1 := by rw [IntKind.wrap_i64]; omega
  go_enter Try.func38, Try.ntmps38
  go_wp2_with fail
  refine (read_any q l A c _ (hl.below (HB.out _))).mono ?_
  rw [hbody]
  rintro e w1 ⟨rfl, hb1⟩
  have B1 := belowC (HB.out _) hb1
  have hB1 := (box_body w q A l.length c).below hb1
  have hq1 := hB1.quota
  have hs1 := hB1.weights
  go_wp2_with fail
  refine (wins_any q l A c _).mono ?_
  rintro e w2 ⟨rfl, hB2, hb2⟩
  have B2 := belowC B1 hb2
  have hB12 := hB1.below hb2
  have hq2 := hB12.quota
  have hs2 := hB12.weights
  have hlt2 : w.heap.size < w2.heap.size := by have := hb1.size; simp at this; have := hb2.size; omega
  have hlt1 : w1.heap.size < w2.heap.size := World.block_lt_of_cell? _ _ hB2.quota
  clear hq1 hs1
  go_wp2_with fail
  have Bx := Boxed.new w2 3 (.int .i64 (2 ^ l.length - 1))
  have B3 := B2.alloc B2.size (Obj.cells #[Value.int .i64 (2 ^ l.length - 1)] 3)
  refine (turned_any 67 _ w2.heap.size _ q l A c _ eg (hl.below B3) (hl.clear hlen1 (by omega)) (by simp) h8 hw (kinds1_finds w2.heap.size l.length h8) Bx).mono ?_
  rintro e w3 ⟨rfl, hbx, hk⟩
  have B4 := hk.below B3 B3.size (by omega)
  have hB3 : BodyAt w3 w1.heap.size q A l.length c := ((hB2.below ((Below.refl _ w2).alloc (Nat.le_refl _) _)).keeps hk (by omega))
  have hB4 : BodyAt w3 w.heap.size q A l.length c := ((hB12.below ((Below.refl _ w2).alloc (Nat.le_refl _) _)).keeps hk (by omega))
  have hl3 := hl.below B4
  obtain ⟨nv, hnv⟩ : ∃ nv, nv = noneOf l.length (turnsTo (winB q l) l.length l.length) := ⟨_, rfl⟩
  replace hbx : Boxed w3 w2.heap.size 3 (.int .i64 nv) := by rw [hnv]; exact hbx
  have hcn := hbx.cell
  have hs3 := hB4.weights
  have HNV := Off.mk hnv
  clear hnv hbx hq2 hs2 hB12 hB2 hk Bx B3 B2 B1 hB1 hb1 hb2
  go_wp2
  go_loop [9, 10, 29] (fun ev sv kv => ∃ k : Nat, k ≤ l.length ∧ kv = .int .i64 (k : Int) ∧ ev = .int .i64 (everyTo (winB q l) l.length k) ∧ sv = .int .i64 (singleTo (winB q l) k)) (fun _ _ kv => l.length - (intOf kv).toNat)
  case atStart => exact ⟨0, Nat.zero_le _, rfl, rfl, rfl⟩
  case round =>
    obtain ⟨k, hkl, rfl, rfl, rfl⟩ := hrel
    by_cases hlt : k < l.length
    · have hpk := pow_le k (by omega)
      have hpk0 : (0 : Int) < 2 ^ k := Int.pow_pos (by decide)
      have hpk1 : (2 : Int) ^ k < 256 := by have : ∀ k : Fin 8, (2 : Int) ^ k.val < 256 := by decide
                                            exact this ⟨k, by omega⟩
      have hr1 := everyTo_range (winB q l) l.length k (by omega)
      have hr2 := singleTo_range (winB q l) k (by omega)
      have hwo := without_range (2 ^ l.length - 1) k 8 (by omega) (by omega)
      have ha1 := andNot_pow (2 ^ l.length - 1) k (by omega) (by omega) (by omega)
      have ho1 := or_pow (everyTo (winB q l) l.length k) k hr1.1 (by omega) (by omega)
      have ho2 := or_pow (singleTo (winB q l) k) k hr2.1 (by omega) (by omega)
      have hs1 : IntKind.i64.wrap ((2 : Int) ^ k) = 2 ^ k := by rw [IntKind.wrap_i64]; omega
      have HE : Off (everyTo (winB q l) l.length (k + 1) = if winB q l (without (2 ^ l.length - 1) k) then everyTo (winB q l) l.length k else with_ (everyTo (winB q l) l.length k) k) := ⟨rfl⟩
      have HS : Off (singleTo (winB q l) (k + 1) = if winB q l (2 ^ k) then with_ (singleTo (winB q l) k) k else singleTo (winB q l) k) := ⟨rfl⟩
      have c1 := wins1 (without (2 ^ l.length - 1) k) q l A c w1.heap.size w3 hB3.quota hB3.weights hl3 h8 hw hwo.1 (by omega)
      have c2 := wins1 (2 ^ k) q l A c w1.heap.size w3 hB3.quota hB3.weights hl3 h8 hw (by omega) hpk1
      generalize everyTo (winB q l) l.length k = ev at *
      generalize singleTo (winB q l) k = sv at *
      generalize without (2 ^ l.length - 1) k = wo at *
      generalize with_ ev k = ev' at *
      generalize with_ sv k = sv' at *
      generalize winB q l wo = b1 at *
      generalize winB q l (2 ^ k) = b2 at *
      have C1 := Off.mk c1
      have C2 := Off.mk c2
      clear c1 c2 hr1 hr2 hwo
      cases b1 <;> cases b2 <;>
      (go_wp2_with fail
       go_at_call 78
       refine (C1.out).mono ?_
       rintro e w5 ⟨rfl, rfl⟩
       go_wp2_with fail
       go_at_call 78
       refine (C2.out).mono ?_
       rintro e w5 ⟨rfl, rfl⟩
       go_wp2
       go_round
       case rel => exact ⟨k + 1, by omega, by go_num, by rw [HE.out]; rfl, by rw [HS.out]; rfl⟩
       case measure => simp only [intOf]; omega)
    · obtain rfl : k = l.length := by omega
      go_wp2
      (try simp only [Exit.inBlock, Exit.then])
      refine bodyPost_ret (results_tmp4 rfl _ _ _) rfl ?_
      exact ⟨by rw [HNV.out]; rfl, B4⟩
end Go.Proofs.Ytdbleghnblohgaa
