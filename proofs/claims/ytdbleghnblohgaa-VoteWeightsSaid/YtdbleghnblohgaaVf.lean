/- Contracts: factorial, ratio, OnesCount, Power. -/
import Derived.Test.YtdbleghnblohgaaVe
import Derived.RegionTactic
import Derived.StillTailTactics
import Derived.ChangeAlike
namespace Go.Proofs.Ytdbleghnblohgaa
open Go.RowKit Go.Shelf

def pop1 (n : Int) : Int := IntKind.u64.wrap (bits .and .u64 (n / 2) 6148914691236517205 + bits .and .u64 n 6148914691236517205)
def pop2 (n : Int) : Int := IntKind.u64.wrap (bits .and .u64 (n / 4) 3689348814741910323 + bits .and .u64 n 3689348814741910323)
def pop3 (n : Int) : Int := bits .and .u64 (IntKind.u64.wrap (n / 16 + n)) 1085102592571150095
def pop4 (n : Int) : Int := IntKind.u64.wrap (n + n / 256)
def pop5 (n : Int) : Int := IntKind.u64.wrap (n + n / 65536)
def pop6 (n : Int) : Int := IntKind.u64.wrap (n + n / 4294967296)
def pop7 (n : Int) : Int := bits .and .i64 (wrap64 n) 127
/-- How many drovers are in a set, of the first k ones. -/
def popTo (s : Int) : Nat → Int
  | 0 => 0
  | k + 1 => popTo s k + s / 2 ^ k % 2
theorem pop_all : ∀ t : Fin 256, pop7 (pop6 (pop5 (pop4 (pop3 (pop2 (pop1 ((t.val : Nat) : Int))))))) = popTo ((t.val : Nat) : Int) 8 := by decide +kernel
theorem pop_eq (n : Int) (h0 : 0 ≤ n) (h1 : n < 256) : pop7 (pop6 (pop5 (pop4 (pop3 (pop2 (pop1 n)))))) = popTo n 8 := by
  obtain ⟨t, rfl⟩ := Int.eq_ofNat_of_zero_le h0
  exact pop_all ⟨t, by omega⟩

set_option maxHeartbeats 1000000 in
theorem ones64 (n : Int) (h0 : 0 ≤ n) (h1 : n < 256) (w : World) :
    Calls Try.prog 71 #[.int .u64 n] w fun e w' => e = .returned (.int .i64 (popTo n 8)) ∧ w' = w := by
  rw [← pop_eq n h0 h1]
  go_enter Try.func71, Try.ntmps71
  go_wp2
  go_ret
  exact ⟨rfl, rfl⟩
set_option maxHeartbeats 1000000 in
theorem ones_any (n : Int) (h0 : 0 ≤ n) (h1 : n < 256) (w : World) :
    Calls Try.prog 48 #[.int .u64 n] w fun e w' => e = .returned (.int .i64 (popTo n 8)) ∧ w' = w := by
  go_enter Try.func48, Try.ntmps48
  go_wp2_with (go_at_call 71; refine (ones64 n h0 h1 _).mono ?_; rintro e w1 ⟨rfl, rfl⟩)
  go_ret
  exact ⟨rfl, rfl⟩
def factI : Nat → Int
  | 0 => 1
  | n + 1 => factI n * ((n : Int) + 1)
theorem factI_range (n : Nat) (h : n ≤ 8) : 1 ≤ factI n ∧ factI n ≤ 40320 := by
  have : ∀ n : Fin 9, 1 ≤ factI n.val ∧ factI n.val ≤ 40320 := by decide
  exact this ⟨n, by omega⟩
theorem factI_step (n : Nat) (h : n < 8) : 0 ≤ factI n * ((n : Int) + 1) ∧ factI n * ((n : Int) + 1) ≤ 40320 := by
  have := factI_range (n + 1) (by omega)
  simp only [factI] at this
  omega
set_option maxHeartbeats 1000000 in
theorem factorial_any (n : Nat) (h : n ≤ 8) (w : World) :
    Calls Try.prog 49 #[.int .i64 n] w fun e w' => e = .returned (.int .i64 (factI n)) ∧ w' = w := by
  go_enter Try.func49, Try.ntmps49
  go_wp2
  go_loop [3, 6] (fun o i => ∃ k : Nat, k ≤ n ∧ i = .int .i64 k ∧ o = .int .i64 (factI k)) (fun _ i => n - (intOf i).toNat)
  case atStart => exact ⟨0, by omega, rfl, rfl⟩
  case round =>
    obtain ⟨k, hk, rfl, rfl⟩ := hrel
    by_cases hlt : k < n
    · have hst := factI_step k (by omega)
      go_wp2
      go_round
      case rel => exact ⟨k + 1, by omega, by go_num, rfl⟩
      case measure => simp only [intOf]; omega
    · obtain rfl : k = n := by omega
      go_wp2
      go_ret
      exact ⟨rfl, rfl⟩
/-- Euclid's numbers: the last one that is not 0. -/
def euclid : Nat → Nat → Nat → Nat
  | 0, x, _ => x
  | k + 1, x, y => if y = 0 then x else euclid k y (x % y)
theorem euclid_gcd (k : Nat) : ∀ x y : Nat, y < k → euclid k x y = Nat.gcd x y := by
  induction k with
  | zero => intro x y h; omega
  | succ k ih =>
    intro x y h
    simp only [euclid]
    by_cases e : y = 0
    · subst e; simp
    · rw [if_neg e, ih y (x % y) (by have := Nat.mod_lt x (by omega : 0 < y); omega), Nat.gcd_comm x y, Nat.gcd_rec y x, Nat.gcd_comm]

set_option maxHeartbeats 1000000 in
theorem ratio_any (a b : Nat) (ha : a ≤ 1000000000000000) (hb : b ≤ 1000000000000000) (hb0 : 0 < b) (w : World) :
    Calls Try.prog 50 #[.int .i64 a, .int .i64 b] w fun e w' => e = .returned (.agg #[.int .i64 (a / Nat.gcd a b : Nat), .int .i64 (b / Nat.gcd a b : Nat)]) ∧ Below w.heap.size w w' := by
  have HB : Off (∀ o, Below w.heap.size w (w.alloc o)) := ⟨fun o => (Below.refl _ _).alloc (Nat.le_refl _) _⟩
  go_enter Try.func50, Try.ntmps50
  go_wp2
  go_loopw [5, 6] (fun vx vy wr => ∃ x y : Nat, vx = .int .i64 x ∧ vy = .int .i64 y ∧ x ≤ 1000000000000000 ∧ y ≤ 1000000000000000 ∧ (0 < x ∨ 0 < y) ∧ Off (Nat.gcd x y = Nat.gcd a b) ∧ ∃ m, wr = (w.alloc (.cells #[.int .i64 0, .int .i64 0] 35)).drewN m)
    (fun _ y _ => (intOf y).toNat)
  case atStart => exact ⟨a, b, rfl, rfl, ha, hb, by omega, ⟨rfl⟩, 0, rfl⟩
  case round =>
    obtain ⟨x, y, rfl, rfl, hx, hy, hp, HG, m, rfl⟩ := hrel
    by_cases h0 : y = 0
    · subst h0
      have hx0 : 0 < x := by omega
      have hxz : ((x : Int) == 0) = false := beq_eq_false_iff_ne.2 (by omega)
      go_wp2
      go_region
      go_wp2
      refine bodyPost_ret (v := .agg #[.int .i64 ((a : Int) / (x : Int)), .int .i64 ((b : Int) / (x : Int))]) ?_ rfl ⟨?_, ?_⟩
      · have h1 : 0 ≤ (a : Int) / (x : Int) ∧ (a : Int) / (x : Int) ≤ a := ⟨Int.ediv_nonneg (by omega) (by omega), Int.ediv_le_self _ (by omega)⟩
        have h2 : 0 ≤ (b : Int) / (x : Int) ∧ (b : Int) / (x : Int) ≤ b := ⟨Int.ediv_nonneg (by omega) (by omega), Int.ediv_le_self _ (by omega)⟩
        simp [results, Try.results50, go_sem]
        constructor <;> (unfold wrap64; omega)
      · have := HG.out
        rw [Nat.gcd_zero_right] at this
        rw [← this, Int.natCast_ediv, Int.natCast_ediv]
      · exact ((below_drewN' (HB.out _) _).setCell (by simp) _).setCell (by simp) _
    · have hyz : ((y : Int) != 0) = true := by rw [bne_iff_ne]; omega
      have hye : ((y : Int) == 0) = false := beq_eq_false_iff_ne.2 (by omega)
      have hm : x % y < y := Nat.mod_lt x (by omega)
      go_wp2
      go_quiet (fail)
      go_wp2
      go_roundw
      case rel => exact ⟨y, x % y, rfl, by rw [Int.natCast_emod], hy, by omega, by omega, ⟨by rw [← HG.out, Nat.gcd_comm x y, Nat.gcd_rec y x, Nat.gcd_comm]⟩, m + nq, World.drewN_drewN _ _ _⟩
      case measure =>
        simp only [intOf]
        rw [← Int.natCast_emod]
        omega

/-- What an order counts that a drover turns: those before them in any order, and those behind. -/
def orderI (n : Nat) (_ s : Nat) : Int := factI (popTo (s : Int) 8).toNat * factI ((n : Int) - 1 - popTo (s : Int) 8).toNat

theorem popTo_range (s : Int) (k : Nat) : 0 ≤ popTo s k ∧ popTo s k ≤ k := by
  induction k with
  | zero => simp [popTo]
  | succ k ih =>
    have := bit_range s k
    simp only [popTo]
    omega
theorem orderI_range (n : Nat) (hn : n ≤ 8) (i s : Nat) : 0 ≤ orderI n i s ∧ orderI n i s ≤ 1625702400 := by
  have hp := popTo_range (s : Int) 8
  have h1 := factI_range (popTo (s : Int) 8).toNat (by omega)
  have h2 := factI_range ((n : Int) - 1 - popTo (s : Int) 8).toNat (by omega)
  unfold orderI
  refine ⟨Int.mul_nonneg (by omega) (by omega), ?_⟩
  exact Int.mul_le_mul h1.2 h2.2 (by omega) (by omega)

set_option maxHeartbeats 1000000 in
theorem power1 (base Bo Bn r n : Nat) (hne : Bo ≠ r) (_hnr : Bn ≠ r) (acc : List (Nat × Nat)) (W : World) (i s : Nat) (h : TallyAt base Bo r n (orderI n) acc W) (hn : W.cell? ⟨Bn, 0, none⟩ = some (.int .i64 n))
    (hacc : acc.length < 2048) (hi : i < n) (hs : s < 256) (hpop : popTo (s : Int) 8 < n) (hn8 : n ≤ 8) :
    Calls Try.prog 47 #[.int .i64 i, .int .i64 s, .pointer (some ⟨Bo, 0, none⟩), .pointer (some ⟨Bn, 0, none⟩)] W fun e w' =>
      e = .returned (.tuple #[]) ∧ TallyAt base Bo r n (orderI n) (acc ++ [(i, s)]) w' ∧ Keeps r W w' := by
  have hv := h.var
  have hlen := tally_length n (orderI n) acc
  have hown := h.row.out
  rw [hlen] at hown
  have hp := popTo_range (s : Int) 8
  obtain ⟨k, hk⟩ : ∃ k : Nat, (k : Int) = popTo (s : Int) 8 := ⟨(popTo (s : Int) 8).toNat, by omega⟩
  have hkn : k < n := by omega
  obtain ⟨f1, hf1⟩ : ∃ f, f = factI k := ⟨_, rfl⟩
  obtain ⟨f2, hf2⟩ : ∃ f, f = factI (n - 1 - k) := ⟨_, rfl⟩
  have hc : W.cell? ⟨r, i, none⟩ = some (.int .i64 ((tally n (orderI n) acc).getD i 0)) := by
    rw [hown.cellAt i (by omega)]
    exact nums_at _ i (by omega)
  have hfz := hown.frozenAt i
  have hr := tally_range n (orderI n) 1625702400 (by omega) (fun _ _ => orderI_range n hn8 _ _) acc i
  have hr1 := factI_range k (by omega)
  have hr2 := factI_range (n - 1 - k) (by omega)
  have hmul : 0 ≤ f1 * f2 ∧ f1 * f2 ≤ 40320 * 40320 := by
    rw [hf1, hf2]
    exact ⟨Int.mul_nonneg (by omega) (by omega), Int.mul_le_mul hr1.2 hr2.2 (by omega) (by omega)⟩
  have HT : Off (tally n (orderI n) (acc ++ [(i, s)]) = (tally n (orderI n) acc).set i ((tally n (orderI n) acc).getD i 0 + f1 * f2)) := ⟨by
    rw [tally_snoc, hf1, hf2, show k = (popTo (s : Int) 8).toNat by omega]
    show (tally n (orderI n) acc).set i ((tally n (orderI n) acc).getD i 0 + orderI n i s) = _
    rw [orderI]
    congr 4
    omega⟩
  have HO := Off.mk hown
  obtain ⟨x, hx⟩ : ∃ x, x = (tally n (orderI n) acc).getD i 0 := ⟨_, rfl⟩
  rw [← hx] at hc hr HT
  have e1 : IntKind.i64.wrap ((n : Int) - 1) = (n : Int) - 1 := by rw [IntKind.wrap_i64]; omega
  have e2 : IntKind.i64.wrap ((n : Int) - 1 - (k : Int)) = (n : Int) - 1 - (k : Int) := by rw [IntKind.wrap_i64]; omega
  have e3 : IntKind.i64.wrap (f1 * f2) = f1 * f2 := by rw [IntKind.wrap_i64]; omega
  have e4 : IntKind.i64.wrap (x + f1 * f2) = x + f1 * f2 := by
    have : (acc.length : Int) < 2048 := by omega
    rw [IntKind.wrap_i64]; omega
  have c2 : ∀ W : World, Calls Try.prog 49 #[.int .i64 ((n : Int) - 1 - (k : Int))] W fun e w' => e = .returned (.int .i64 f2) ∧ w' = W := by
    intro W
    have := factorial_any (n - 1 - k) (by omega) W
    rw [← hf2] at this
    rw [show (n : Int) - 1 - (k : Int) = ((n - 1 - k : Nat) : Int) by omega]
    exact this
  have c1 : ∀ W : World, Calls Try.prog 49 #[.int .i64 (k : Int)] W fun e w' => e = .returned (.int .i64 f1) ∧ w' = W := by
    intro W
    have := factorial_any k (by omega) W
    rw [← hf1] at this
    exact this
  have C1 := Off.mk c1
  have C2 := Off.mk c2
  have i0 : (0 : Int) ≤ (i : Int) := Int.natCast_nonneg _
  have i1 : (i : Int) < (n : Int) := by omega
  clear c1 c2 hx hown hlen hf1 hf2 hmul h hr hr1 hr2
  go_enter Try.func47, Try.ntmps47
  go_wp2_with (go_at_call 48; refine (ones_any _ (by omega) (by omega) _).mono ?_; rintro e w1 ⟨rfl, rfl⟩)
  rw [← hk]
  clear hp hk hpop
  refine wp_region_still_tail 14 (by kernel_rfl) (by kernel_rfl) ?_
  simp only [List.take_succ_cons, List.take_zero, List.drop_succ_cons, List.drop_zero]
  repeat still_step
  still_call (C1.out _)
  repeat still_step
  still_call (C2.out _)
  repeat still_step
  refine wpStill_nil ?_
  change wpList _ _ _ _ _ w1.drew
  go_wp2
  go_end0
  obtain ⟨ho, hg⟩ := (HO.out.drew).stored i (.int .i64 (x + f1 * f2))
  have hg' : w1.grownBy (w1.drew.setCell ⟨r, i, none⟩ (.int .i64 (x + f1 * f2))) (some r) := ⟨hg.os, hg.tape, hg.output, hg.size, hg.block⟩
  refine ⟨rfl, ⟨hg'.cell hv (fun e => hne (Option.some.inj e)), ⟨?_⟩⟩, ⟨hg'⟩⟩
  rw [tally_length, HT.out, nums_set]
  exact ho
end Go.Proofs.Ytdbleghnblohgaa
