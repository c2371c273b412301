/- The first contracts of the layer: Min, Max, sum, and the closure that tells which sets win in a body. -/
import Derived.Test.YtdbleghnblohgaaProg
import Derived.Test.YtdbleghnblohgaaPl
import Derived.WalkKit
import Derived.Below
import Derived.Deep.QuietTactic
import Derived.BigQuiet
import Derived.WalkLawsBesides
import Derived.WalkSpells
import Derived.Laws.BitsLemmas
import Derived.Shelf.Abstract
import Derived.Outline
namespace Go.Proofs.Ytdbleghnblohgaa
open Go.RowKit

/-- A fact that the walk's simp doesn't look into. -/
structure Off (p : Prop) : Prop where mk :: (out : p)
/-- The integers of a slice lie in memory. -/
structure IntsAt (w : World) (A : Option Addr) (l : List Int) : Prop where
  len : l.length ≤ 140737488351232
  cell : ∀ j, j < l.length → ∃ ad, A = some ad ∧ w.cell? (ad.add j) = some (.int .i64 (l.getD j 0))
theorem cellB {w w1 : World} (h : Below w.heap.size w w1) {a : Addr} {v : Value} (hc : w.cell? a = some v) : w1.cell? a = some v := (h.cell (World.block_lt_of_cell? w a hc)).trans hc
theorem IntsAt.below {w w1 : World} {A : Option Addr} {l : List Int} (h : IntsAt w A l) (hb : Below w.heap.size w w1) : IntsAt w1 A l :=
  ⟨h.len, fun j hj => by obtain ⟨ad, e, hc⟩ := h.cell j hj; exact ⟨ad, e, cellB hb hc⟩⟩
theorem below_drewN' {B : Nat} {a w : World} (h : Below B a w) (q : Nat) : Below B a (w.drewN q) := ⟨h.os, h.tape, h.output, h.size, h.block⟩
theorem ret_int {k : IntKind} {a b : Int} (h : a = b) : Ending.returned (.int k a) = .returned (.int k b) := by rw [h]
theorem ret_bool {a b : Bool} (h : a = b) : Ending.returned (.bool a) = .returned (.bool b) := by rw [h]
/-- In every later world the closure tells p of the sets of n drovers. -/
structure Tells (P : Program) (g : Nat) (lb : Array Value) (n : Nat) (p : Int → Bool) (w : World) : Prop where
  out : ∀ (W : World) (s : Int), Below w.heap.size w W → 0 ≤ s → s < 2 ^ n → Calls P g (#[.int .i64 s] ++ lb) W fun e w' => e = .returned (.bool (p s)) ∧ Below W.heap.size W w'
theorem Tells.later {P : Program} {g : Nat} {lb : Array Value} {n : Nat} {p : Int → Bool} {w W : World} (h : Tells P g lb n p w) (hb : Below w.heap.size w W) : Tells P g lb n p W :=
  ⟨fun W' s hb' h0 h1 => h.out W' s (hb.trans (hb'.mono hb.size)) h0 h1⟩

theorem and_one (s : Int) (h0 : 0 ≤ s) (h1 : s < 9223372036854775808) : bits .and .i64 s 1 = s % 2 :=
  bits_mask .i64 63 (by decide) (fun n h0 h1 => by rw [IntKind.wrap_i64]; omega) 1 (by decide) s h0 h1
theorem andNot_all : ∀ s : Fin 256, ∀ i : Fin 8, bits .andNot .i64 ((s.val : Nat) : Int) ((2 ^ i.val : Nat) : Int) = ((s.val : Nat) : Int) - 2 ^ i.val * (((s.val : Nat) : Int) / 2 ^ i.val % 2) := by decide +kernel
theorem or_all : ∀ s : Fin 256, ∀ i : Fin 8, bits .or .i64 ((s.val : Nat) : Int) ((2 ^ i.val : Nat) : Int) = ((s.val : Nat) : Int) + 2 ^ i.val * (1 - ((s.val : Nat) : Int) / 2 ^ i.val % 2) := by decide +kernel
theorem andNot_pow (s : Int) (i : Nat) (h0 : 0 ≤ s) (h1 : s < 256) (hi : i < 8) : bits .andNot .i64 s (2 ^ i) = without s i := by
  obtain ⟨t, rfl⟩ := Int.eq_ofNat_of_zero_le h0
  have := andNot_all ⟨t, by omega⟩ ⟨i, hi⟩
  rw [Int.natCast_pow] at this
  exact this
theorem or_pow (s : Int) (i : Nat) (h0 : 0 ≤ s) (h1 : s < 256) (hi : i < 8) : bits .or .i64 s (2 ^ i) = with_ s i := by
  obtain ⟨t, rfl⟩ := Int.eq_ofNat_of_zero_le h0
  have := or_all ⟨t, by omega⟩ ⟨i, hi⟩
  rw [Int.natCast_pow] at this
  exact this
theorem pow_le (n : Nat) (h : n ≤ 8) : 1 ≤ (2 : Int) ^ n ∧ (2 : Int) ^ n ≤ 256 := by
  have : ∀ n : Fin 9, 1 ≤ (2 : Int) ^ n.val ∧ (2 : Int) ^ n.val ≤ 256 := by decide +kernel
  exact this ⟨n, by omega⟩
theorem div_range (s : Int) (k : Nat) (h0 : 0 ≤ s) : 0 ≤ s / 2 ^ k ∧ s / 2 ^ k ≤ s := by
  have hp : (0 : Int) < 2 ^ k := Int.pow_pos (by decide)
  refine ⟨Int.ediv_nonneg h0 (Int.le_of_lt hp), ?_⟩
  exact Int.ediv_le_self _ h0

set_option maxHeartbeats 400000 in
theorem wins1 (set q : Int) (l : List Int) (A : Option Addr) (c B : Nat) (w : World)
    (hq : w.cell? ⟨B, 0, none⟩ = some (.int .i64 q)) (hs : w.cell? ⟨B, 1, none⟩ = some (.slice A l.length c)) (hl : IntsAt w A l)
    (h8 : l.length ≤ 8) (hw : Off (∀ j, j < l.length → 0 ≤ l.getD j 0 ∧ l.getD j 0 ≤ 1000)) (hset0 : 0 ≤ set) (hset : set < 256) :
    Calls Try.prog 78 #[.int .i64 set, .pointer (some ⟨B, 0, none⟩)] w fun e w' => e = .returned (.bool (winB q l set)) ∧ w' = w := by
  go_enter Try.func78, Try.ntmps78
  go_wp2
  go_loop [4, 10] (fun hv i => ∃ k : Nat, k ≤ l.length ∧ i = .int .i64 k ∧ hv = .int .i64 (sumTo l set k))
    (fun _ i => l.length - (intOf i).toNat)
  case atStart => exact ⟨0, Nat.zero_le _, rfl, rfl⟩
  case round =>
    obtain ⟨k, hk, rfl, rfl⟩ := hrel
    have hr := sumTo_range l set hw.out k hk
    by_cases hlt : k < l.length
    · obtain ⟨ad, rfl, hc⟩ := hl.cell k hlt
      have hd := div_range set k hset0
      have hb := bit_range set k
      have hm := mul_bit (hw.out k hlt) hb
      have ha := and_one (set / 2 ^ k) hd.1 (by omega)
      have hS : Off (sumTo l set (k + 1) = sumTo l set k + l.getD k 0 * (set / 2 ^ k % 2)) := ⟨rfl⟩
      obtain ⟨x, hx⟩ : ∃ x, x = l.getD k 0 := ⟨_, rfl⟩
      obtain ⟨t, ht⟩ : ∃ t, t = sumTo l set k := ⟨_, rfl⟩
      rw [← hx] at hc hm hS
      rw [← ht] at hr hS ⊢
      clear hx ht hl
      go_wp2
      go_round
      case rel => exact ⟨k + 1, by omega, by go_num, by rw [hS.out]⟩
      case measure => simp [intOf]; omega
    · obtain rfl : k = l.length := by omega
      go_wp2
      go_ret
      exact ⟨rfl, rfl⟩

set_option maxHeartbeats 400000 in
theorem sum_any (l : List Int) (A : Option Addr) (c : Nat) (w : World) (hl : IntsAt w A l)
    (h8 : l.length ≤ 8) (hw : Off (∀ j, j < l.length → 0 ≤ l.getD j 0 ∧ l.getD j 0 ≤ 1000)) :
    Calls Try.prog 69 #[.slice A l.length c] w fun e w' => e = .returned (.int .i64 (allTo l l.length)) ∧ w' = w := by
  go_enter Try.func69, Try.ntmps69
  go_wp2
  go_loop [3, 8] (fun hv i => ∃ k : Nat, k ≤ l.length ∧ i = .int .i64 k ∧ hv = .int .i64 (allTo l k))
    (fun _ i => l.length - (intOf i).toNat)
  case atStart => exact ⟨0, Nat.zero_le _, rfl, rfl⟩
  case round =>
    obtain ⟨k, hk, rfl, rfl⟩ := hrel
    have hr := allTo_range l hw.out k hk
    by_cases hlt : k < l.length
    · obtain ⟨ad, rfl, hc⟩ := hl.cell k hlt
      have hm := hw.out k hlt
      have hS : Off (allTo l (k + 1) = allTo l k + l.getD k 0) := ⟨rfl⟩
      obtain ⟨x, hx⟩ : ∃ x, x = l.getD k 0 := ⟨_, rfl⟩
      obtain ⟨t, ht⟩ : ∃ t, t = allTo l k := ⟨_, rfl⟩
      rw [← hx] at hc hm hS
      rw [← ht] at hr hS ⊢
      clear hx ht hl
      go_wp2
      go_round
      case rel => exact ⟨k + 1, by omega, by go_num, by rw [hS.out]⟩
      case measure => simp [intOf]; omega
    · obtain rfl : k = l.length := by omega
      go_wp2
      go_ret
      exact ⟨rfl, rfl⟩

set_option maxHeartbeats 400000 in
theorem min_any (l : List Int) (A : Option Addr) (c m : Nat) (w : World) (hl : IntsAt w A l) (hm : l.length = m + 1) :
    Calls Try.prog 64 #[.slice A l.length c] w fun e w' => e = .returned (.int .i64 (minTo l m)) ∧ w' = w := by
  have hlen := hl.len
  obtain ⟨ad, rfl, hc0⟩ := hl.cell 0 (by omega)
  have hM : Off (l.length = m + 1) := ⟨hm⟩
  have h1 : 1 ≤ l.length := by omega
  clear hm
  obtain ⟨x0, hx0⟩ : ∃ x, x = l.getD 0 0 := ⟨_, rfl⟩
  have hz : w.cell? ad = some (.int .i64 x0) := by rw [hx0, ← Addr.add_zero' ad]; exact hc0
  have Hx0 := Off.mk hx0
  clear hx0 hc0
  go_enter Try.func64, Try.ntmps64
  go_wp2
  go_loop [3, 4] (fun hv i => ∃ k : Nat, k < l.length ∧ i = .int .i64 ((k : Int) + 1) ∧ hv = .int .i64 (minTo l k))
    (fun _ i => l.length - (intOf i).toNat)
  case atStart => exact ⟨0, by omega, rfl, by rw [Hx0.out]; rfl⟩
  case round =>
    obtain ⟨k, hk, rfl, rfl⟩ := hrel
    by_cases hlt : k + 1 < l.length
    · obtain ⟨ad', e, hc⟩ := hl.cell (k + 1) hlt
      cases e
      have hS : Off (minTo l (k + 1) = min (minTo l k) (l.getD (k + 1) 0)) := ⟨rfl⟩
      obtain ⟨x, hx⟩ : ∃ x, x = l.getD (k + 1) 0 := ⟨_, rfl⟩
      obtain ⟨t, ht⟩ : ∃ t, t = minTo l k := ⟨_, rfl⟩
      rw [← hx, Addr.add_succ'] at hc
      rw [← hx] at hS
      rw [← ht] at hS ⊢
      clear hx ht hl
      go_wp2
      go_round
      case rel => exact ⟨k + 1, by omega, by go_num, by rw [hS.out]; exact congrArg _ (by split <;> omega)⟩
      case measure => simp [intOf]; omega
    · have hk1 := hM.out
      obtain rfl : k = m := by omega
      go_wp2
      go_ret
      exact ⟨rfl, rfl⟩
set_option maxHeartbeats 400000 in
theorem max_any (l : List Int) (A : Option Addr) (c m : Nat) (w : World) (hl : IntsAt w A l) (hm : l.length = m + 1) :
    Calls Try.prog 65 #[.slice A l.length c] w fun e w' => e = .returned (.int .i64 (maxTo l m)) ∧ w' = w := by
  have hlen := hl.len
  obtain ⟨ad, rfl, hc0⟩ := hl.cell 0 (by omega)
  have hM : Off (l.length = m + 1) := ⟨hm⟩
  have h1 : 1 ≤ l.length := by omega
  clear hm
  obtain ⟨x0, hx0⟩ : ∃ x, x = l.getD 0 0 := ⟨_, rfl⟩
  have hz : w.cell? ad = some (.int .i64 x0) := by rw [hx0, ← Addr.add_zero' ad]; exact hc0
  have Hx0 := Off.mk hx0
  clear hx0 hc0
  go_enter Try.func65, Try.ntmps65
  go_wp2
  go_loop [3, 4] (fun hv i => ∃ k : Nat, k < l.length ∧ i = .int .i64 ((k : Int) + 1) ∧ hv = .int .i64 (maxTo l k))
    (fun _ i => l.length - (intOf i).toNat)
  case atStart => exact ⟨0, by omega, rfl, by rw [Hx0.out]; rfl⟩
  case round =>
    obtain ⟨k, hk, rfl, rfl⟩ := hrel
    by_cases hlt : k + 1 < l.length
    · obtain ⟨ad', e, hc⟩ := hl.cell (k + 1) hlt
      cases e
      have hS : Off (maxTo l (k + 1) = max (maxTo l k) (l.getD (k + 1) 0)) := ⟨rfl⟩
      obtain ⟨x, hx⟩ : ∃ x, x = l.getD (k + 1) 0 := ⟨_, rfl⟩
      obtain ⟨t, ht⟩ : ∃ t, t = maxTo l k := ⟨_, rfl⟩
      rw [← hx, Addr.add_succ'] at hc
      rw [← hx] at hS
      rw [← ht] at hS ⊢
      clear hx ht hl
      go_wp2
      go_round
      case rel => exact ⟨k + 1, by omega, by go_num, by rw [hS.out]; exact congrArg _ (by split <;> omega)⟩
      case measure => simp [intOf]; omega
    · have hk1 := hM.out
      obtain rfl : k = m := by omega
      go_wp2
      go_ret
      exact ⟨rfl, rfl⟩

/-- A body in memory: the quota at b, the weights' slice beside it. -/
structure BodyAt (w : World) (b : Nat) (q : Int) (A : Option Addr) (n c : Nat) : Prop where
  quota : w.cell? ⟨b, 0, none⟩ = some (.int .i64 q)
  weights : w.cell? ⟨b, 1, none⟩ = some (.slice A n c)
theorem BodyAt.below {w w1 : World} {b : Nat} {q : Int} {A : Option Addr} {n c : Nat} (h : BodyAt w b q A n c) (hb : Below w.heap.size w w1) : BodyAt w1 b q A n c :=
  ⟨cellB hb h.quota, cellB hb h.weights⟩

set_option maxHeartbeats 400000 in
theorem wins_any (q : Int) (l : List Int) (A : Option Addr) (c : Nat) (w : World) :
    Calls Try.prog 59 #[.agg #[.int .i64 q, .slice A l.length c]] w fun e w' => e = .returned (.func (.func 78) #[] #[.pointer (some ⟨w.heap.size, 0, none⟩)]) ∧ BodyAt w' w.heap.size q A l.length c ∧ Below w.heap.size w w' := by
  go_enter Try.func59, Try.ntmps59
  go_wp2
  go_ret
  exact ⟨rfl, ⟨by go_simp, by go_simp⟩, (Below.refl _ _).alloc (Nat.le_refl _) _⟩

set_option maxHeartbeats 400000 in
theorem read_any (q : Int) (l : List Int) (A : Option Addr) (c : Nat) (w : World) (hl : IntsAt w A l) :
    Calls Try.prog 43 #[.agg #[.int .i64 q, .slice A l.length c]] w fun e w' => e = .returned (.bool (bodyB q l)) ∧ Below w.heap.size w w' := by
  have HB : Off (∀ o, Below w.heap.size w (w.alloc o)) := ⟨fun o => (Below.refl _ _).alloc (Nat.le_refl _) _⟩
  by_cases h1 : l.length < 1
  · have hF : Off (bodyB q l = false) := ⟨by simp [bodyB, Body]; omega⟩
    go_enter Try.func43, Try.ntmps43
    go_wp2
    go_ret
    exact ⟨by rw [hF.out]; rfl, HB.out _⟩
  by_cases h8 : 8 < l.length
  · have hF : Off (bodyB q l = false) := ⟨by simp [bodyB, Body]; omega⟩
    go_enter Try.func43, Try.ntmps43
    go_wp2
    go_ret
    exact ⟨by rw [hF.out]; rfl, HB.out _⟩
  obtain ⟨m, hm⟩ : ∃ m, l.length = m + 1 := ⟨l.length - 1, by omega⟩
  have HM := Off.mk hm
  clear hm
  by_cases hmin : minTo l m < 0
  · have hF : Off (bodyB q l = false) := ⟨by
      obtain ⟨j, hj, e⟩ := minTo_mem l m
      have := HM.out
      simp only [bodyB, decide_eq_false_iff_not]
      intro h
      have := (h.2.2.1 j (by omega)).1
      omega⟩
    go_enter Try.func43, Try.ntmps43
    go_wp2_with (go_at_call 64; refine (min_any l A c m _ (hl.below (HB.out _)) HM.out).mono ?_; rintro e w' ⟨rfl, rfl⟩)
    go_ret
    exact ⟨by rw [hF.out]; rfl, HB.out _⟩
  by_cases hmax : 1000 < maxTo l m
  · have hF : Off (bodyB q l = false) := ⟨by
      obtain ⟨j, hj, e⟩ := maxTo_mem l m
      have := HM.out
      simp only [bodyB, decide_eq_false_iff_not]
      intro h
      have := (h.2.2.1 j (by omega)).2
      omega⟩
    go_enter Try.func43, Try.ntmps43
    go_wp2_with (first | (go_at_call 64; refine (min_any l A c m _ (hl.below (HB.out _)) HM.out).mono ?_; rintro e w' ⟨rfl, rfl⟩) | (go_at_call 65; refine (max_any l A c m _ (hl.below (HB.out _)) HM.out).mono ?_; rintro e w' ⟨rfl, rfl⟩))
    go_ret
    exact ⟨by rw [hF.out]; rfl, HB.out _⟩
  have hw : Off (∀ j, j < l.length → 0 ≤ l.getD j 0 ∧ l.getD j 0 ≤ 1000) := ⟨fun j hj => by
    have := HM.out
    have a := minTo_le l m j (by omega)
    have b := le_maxTo l m j (by omega)
    omega⟩
  by_cases hq : q < 1
  · have hF : Off (bodyB q l = false) := ⟨by simp [bodyB, Body]; omega⟩
    have hqd : decide (1 ≤ q) = false := by simp; omega
    go_enter Try.func43, Try.ntmps43
    go_wp2_with (first | (go_at_call 64; refine (min_any l A c m _ (hl.below (HB.out _)) HM.out).mono ?_; rintro e w' ⟨rfl, rfl⟩) | (go_at_call 65; refine (max_any l A c m _ (hl.below (HB.out _)) HM.out).mono ?_; rintro e w' ⟨rfl, rfl⟩))
    go_quiet (fail)
    go_wp2
    go_ret
    exact ⟨by rw [hF.out]; rfl, below_drewN' (HB.out _) _⟩
  · have hF : Off (bodyB q l = decide (q ≤ allTo l l.length)) := ⟨by
      have := HM.out
      simp only [bodyB, decide_eq_decide]
      exact ⟨fun h => h.2.2.2.2, fun h => ⟨by omega, by omega, hw.out, by omega, h⟩⟩⟩
    have hq' : 1 ≤ q := by omega
    go_enter Try.func43, Try.ntmps43
    go_wp2_with (first | (go_at_call 64; refine (min_any l A c m _ (hl.below (HB.out _)) HM.out).mono ?_; rintro e w' ⟨rfl, rfl⟩) | (go_at_call 65; refine (max_any l A c m _ (hl.below (HB.out _)) HM.out).mono ?_; rintro e w' ⟨rfl, rfl⟩))
    go_quiet ((go_at_call 69; exact Calls.quiet_of_same (sum_any l A c _ (hl.below (below_drewN' (HB.out _) _)) (by omega) hw)))
    go_wp2
    go_ret
    exact ⟨by rw [hF.out]; rfl, below_drewN' (HB.out _) _⟩
end Go.Proofs.Ytdbleghnblohgaa
