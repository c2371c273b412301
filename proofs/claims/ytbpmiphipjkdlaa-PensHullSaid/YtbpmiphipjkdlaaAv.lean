/- Contracts: a triangle's area, Index and Contains of points. -/
import Derived.Test.YtbpmiphipjkdlaaAt
import Derived.ChangeKeysEq
namespace Go.Proofs.Ytbpmiphipjkdlaa
open Go.RowKit Go.Shelf

/-- A triangle's value: three points. -/
structure Tri where
  a : Int × Int
  b : Int × Int
  c : Int × Int
deriving DecidableEq
abbrev triV (t : Tri) : Value := .agg #[.int .i64 t.a.1, .int .i64 t.a.2, .int .i64 t.b.1, .int .i64 t.b.2, .int .i64 t.c.1, .int .i64 t.c.2]
def triL (t : Tri) : PtL := [t.a, t.b, t.c]
/-- A box of a triangle. -/
def Box6 (w : World) (B : Nat) (t : Tri) : Prop := w.heap[B]? = some (.cells #[.int .i64 t.a.1, .int .i64 t.a.2, .int .i64 t.b.1, .int .i64 t.b.2, .int .i64 t.c.1, .int .i64 t.c.2] 85 (0, 0))
theorem Box6.below {w w1 : World} {B : Nat} {t : Tri} (h : Box6 w B t) (hb : Below w.heap.size w w1) : Box6 w1 B t := blockB hb h
theorem Box6.lt {w : World} {B : Nat} {t : Tri} (h : Box6 w B t) : B < w.heap.size := (Array.getElem?_eq_some_iff.1 h).1
theorem Box6.facts {w : World} {B : Nat} {t : Tri} (h : Box6 w B t) :
    ((w.cell? ⟨B, 0, none⟩ = some (.int .i64 t.a.1) ∧ w.cell? ⟨B, 1, none⟩ = some (.int .i64 t.a.2)) ∧ (w.cell? ⟨B, 2, none⟩ = some (.int .i64 t.b.1) ∧ w.cell? ⟨B, 3, none⟩ = some (.int .i64 t.b.2)) ∧ w.cell? ⟨B, 4, none⟩ = some (.int .i64 t.c.1) ∧ w.cell? ⟨B, 5, none⟩ = some (.int .i64 t.c.2)) ∧
    (∀ i, w.frozen? ⟨B, i, none⟩ = false) := by
  unfold Box6 at h
  simp [World.cell?, World.frozen?, h]
theorem Box6.pairs {w : World} {B : Nat} {t : Tri} (h : Box6 w B t) : PairsI w (some ⟨B, 0, none⟩) (triL t) := by
  obtain ⟨⟨⟨h0, h1⟩, ⟨h2, h3⟩, h4, h5⟩, _⟩ := h.facts
  refine ⟨by simp [triL], fun j hj => ⟨_, rfl, ?_⟩⟩
  have hj3 : j < 3 := hj
  match j, hj3 with
  | 0, _ => simpa [triL, Addr.add_lit] using ⟨h0, h1⟩
  | 1, _ => simpa [triL, Addr.add_lit] using ⟨h2, h3⟩
  | 2, _ => simpa [triL, Addr.add_lit] using ⟨h4, h5⟩
theorem Box6.rows {w : World} {B : Nat} {t : Tri} (h : Box6 w B t) : ∀ j, j < (triL t).length → w.cell? ⟨B, j * 2, none⟩ = some (.int .i64 ((triL t).getD j (0, 0)).1) ∧ w.cell? ⟨B, j * 2 + 1, none⟩ = some (.int .i64 ((triL t).getD j (0, 0)).2) := by
  intro j hj
  obtain ⟨ad, e, h1, h2⟩ := h.pairs.cell j hj
  cases e
  simp only [Addr.add_lit, Nat.zero_add] at h1 h2
  exact ⟨h1, h2⟩
def inT (b : Int) (t : Tri) : Prop := inB b t.a ∧ inB b t.b ∧ inB b t.c
def turnT (t : Tri) : Int := turnP t.a t.b t.c
theorem turn_in {b : Int} {p q r : Int × Int} (h0 : 0 ≤ b) (hp : inB b p) (hq : inB b q) (hr : inB b r) : -(8 * (b * b)) ≤ turnP p q r ∧ turnP p q r ≤ 8 * (b * b) := by
  have h1 := subP_in hq hp
  have h2 := subP_in hr hq
  unfold turnP crossP
  unfold inB at h1 h2
  have m1 := mul_in h1.1 h2.2 (by omega) (by omega)
  have m2 := mul_in h1.2 h2.1 (by omega) (by omega)
  have e : 2 * b * (2 * b) = 4 * (b * b) := by grind
  rw [e] at m1 m2
  omega
theorem areaT_any (t : Tri) (ht : inT 1048576 t) (w : World) : Calls Try.prog 66 #[triV t] w fun e w' => e = .returned (.int .i64 ((turnT t).natAbs : Nat)) ∧ Below w.heap.size w w' := by
  have C1 : Off (∀ W, Calls Try.prog 92 #[ptV t.a, ptV t.b, ptV t.c] W fun e w' => e = .returned (.int .i64 (turnT t)) ∧ Below W.heap.size W w') := ⟨fun W => turn_any t.a t.b t.c (inB_mono ht.1 (by decide)) (inB_mono ht.2.1 (by decide)) (inB_mono ht.2.2 (by decide)) W⟩
  have hb := turn_in (by decide) ht.1 ht.2.1 ht.2.2
  have hb0 := belowA (Below.refl _ w) (.cells #[.int .i64 t.a.1, .int .i64 t.a.2, .int .i64 t.b.1, .int .i64 t.b.2, .int .i64 t.c.1, .int .i64 t.c.2] 85)
  have bx : Box6 (w.alloc (.cells #[.int .i64 t.a.1, .int .i64 t.a.2, .int .i64 t.b.1, .int .i64 t.b.2, .int .i64 t.c.1, .int .i64 t.c.2] 85)) w.heap.size t := block_new w _
  obtain ⟨⟨⟨h0, h1⟩, ⟨h2, h3⟩, h4, h5⟩, _⟩ := bx.facts
  have HB := Off.mk hb0
  obtain ⟨a, ha⟩ : ∃ a, a = turnT t := ⟨_, rfl⟩
  have ha' : turnP t.a t.b t.c = a := ha.symm
  rw [ha'] at hb
  rw [← ha] at C1 ⊢
  clear ha ha' ht bx hb0
  have W1 : IntKind.i64.wrap (-a) = -a := by rw [IntKind.wrap_i64]; omega
  by_cases h0 : -a ≤ a
  · have hm : max a (-a) = a := by omega
    have hlt : ¬ a < -a := by omega
    have hn : (a.natAbs : Int) = a := by omega
    rw [hn]
    clear hn
    go_enter Try.func66, Try.ntmps66
    go_wp2_with fail
    refine (C1.out _).mono ?_
    rintro e w1 ⟨rfl, hb1⟩
    go_wp2
    go_ret
    exact ⟨rfl, belowC HB.out hb1⟩
  · have hm : max a (-a) = -a := by omega
    have hlt : a < -a := by omega
    have hn : (a.natAbs : Int) = -a := by omega
    rw [hn]
    clear hn
    go_enter Try.func66, Try.ntmps66
    go_wp2_with fail
    refine (C1.out _).mono ?_
    rintro e w1 ⟨rfl, hb1⟩
    go_wp2
    go_ret
    exact ⟨rfl, belowC HB.out hb1⟩
theorem eq_at' (x y z u : Int) (v : Bool) (hv : (x == z && y == u) = v) (w : World) : Sem.run Try.prog (Op.equalIn 10000 70 (.agg #[.int .i64 x, .int .i64 y]) (.agg #[.int .i64 z, .int .i64 u])) w = .ok v w := by
  obtain ⟨i0, hi, _⟩ := info_parts info3
  have hc : Try.prog.cellsOf 3 = 1 := by kernel_rfl
  refine (run_equalIn_array (P := Try.prog) w 9999 (t := 70) (e := 3) (n := 2) (i := i0) _ _ Try.underlying70 hi).trans ?_
  rw [hc, show List.range 2 = [0, 1] from rfl]
  have he : Try.prog.plainKey 3 = true := by kernel_rfl
  have h0 : (part 3 #[.int .i64 x, .int .i64 y] 0).run Try.prog w = .ok (.int .i64 x) w := run_part_plain w he rfl
  have h1 : (part 3 #[.int .i64 x, .int .i64 y] 1).run Try.prog w = .ok (.int .i64 y) w := run_part_plain w he rfl
  have h2 : (part 3 #[.int .i64 z, .int .i64 u] 0).run Try.prog w = .ok (.int .i64 z) w := run_part_plain w he rfl
  have h3 : (part 3 #[.int .i64 z, .int .i64 u] 1).run Try.prog w = .ok (.int .i64 u) w := run_part_plain w he rfl
  have hq : ∀ a b : Int, (Op.equalIn 9999 3 (.int .i64 a) (.int .i64 b)).run Try.prog w = .ok (a == b) w := fun a b => (run_equalIn_int w 9998 3 .i64 .i64 a b Try.underlying3).trans (by simp)
  subst hv
  cases e1 : (x == z) <;> cases e2 : (y == u) <;> simp [Op.eqItems, Sem.run_bind, h0, h1, h2, h3, hq, e1, e2]
set_option maxHeartbeats 1000000 in
theorem index114_any (xs : List (Int × Int)) (A : Option Addr) (c : Nat) (q : Int × Int) (w : World) (h60 : xs.length ≤ 60) (hx : PairsI w A xs) :
    Calls Try.prog 114 #[.slice A xs.length c, ptV q] w fun e w' => (∃ r : Int, e = .returned (.int .i64 r) ∧ (0 ≤ r ↔ q ∈ xs)) ∧ Below w.heap.size w w' := by
  have HX := Off.mk hx
  have hb0 := belowA (Below.refl _ w) (.cells #[.int .i64 q.1, .int .i64 q.2] 70)
  obtain ⟨⟨q0, q1⟩, _⟩ := two_facts (block_new w (.cells #[.int .i64 q.1, .int .i64 q.2] 70))
  have HQ := Off.mk (And.intro q0 q1)
  have HB0 := Off.mk hb0
  clear hx hb0 q0 q1
  go_enter Try.func114, Try.ntmps114
  go_wp2
  go_loopw [8] (fun kv wr => ∃ k : Nat, k ≤ xs.length ∧ kv = .int .i64 k ∧ Off (∀ j, j < k → xs.getD j (0, 0) ≠ q) ∧ Off (Below (w.alloc (.cells #[.int .i64 q.1, .int .i64 q.2] 70)).heap.size (w.alloc (.cells #[.int .i64 q.1, .int .i64 q.2] 70)) wr)) (fun kv _ => xs.length - (intOf kv).toNat)
  case atStart => exact ⟨0, by omega, rfl, ⟨fun j hj => by omega⟩, ⟨Below.refl _ _⟩⟩
  case round =>
    obtain ⟨k, hk, rfl, hno, HB⟩ := hrel
    have hbw := HB0.out.trans (HB.out.mono (Nat.le_of_lt (by rw [World.size_alloc]; omega)))
    have HBW := Off.mk hbw
    by_cases hlt : k < xs.length
    · have hki : (k : Int) < (xs.length : Int) := by omega
      obtain ⟨ad, rfl, cA, cB⟩ := (HX.out.below hbw).cell k hlt
      have c0 := cellB HB.out HQ.out.1
      have c1 := cellB HB.out HQ.out.2
      clear hbw
      have HM : Off (xs.getD k (0, 0) ∈ xs) := ⟨by rw [List.getD_eq_getElem?_getD, List.getElem?_eq_getElem hlt]; exact List.getElem_mem hlt⟩
      have HE : Off (∀ j, j = k → xs.getD j (0, 0) = xs.getD k (0, 0)) := ⟨fun j e => by rw [e]⟩
      obtain ⟨x, hx⟩ : ∃ x, x = xs.getD k (0, 0) := ⟨_, rfl⟩
      rw [← hx] at cA cB HM HE
      clear hx
      cases hp : (q.1 == x.1 && q.2 == x.2)
      · have E1 := eq_at' q.1 q.2 x.1 x.2 false hp
        have HN : Off (∀ j, j < k + 1 → xs.getD j (0, 0) ≠ q) := ⟨fun j hj => by
          by_cases e : j = k
          · rw [HE.out j e]
            rintro rfl
            simp at hp
          · exact hno.out j (by omega)⟩
        clear hp HE HM
        go_wp2_with fail
        go_quiet (fail)
        go_wp2
        go_roundw
        case rel => exact ⟨k + 1, by omega, by go_num, HN, ⟨below_drewN' HB.out _⟩⟩
        case measure => simp only [intOf]; omega
      · have E1 := eq_at' q.1 q.2 x.1 x.2 true hp
        have HIn : Off (q ∈ xs) := ⟨by
          have e : x = q := by
            simp only [Bool.and_eq_true, beq_iff_eq] at hp
            exact (Prod.ext hp.1 hp.2).symm
          rw [← e]; exact HM.out⟩
        clear hp HE HM
        go_wp2_with fail
        go_quiet (fail)
        go_wp2
        go_ret
        exact ⟨⟨k, rfl, by have := HIn.out; simp [this]⟩, below_drewN' HBW.out _⟩
    · obtain rfl : k = xs.length := by omega
      have HNo : Off (¬ q ∈ xs) := ⟨fun h => by
        obtain ⟨j, hj, e⟩ := List.getElem_of_mem h
        have := hno.out j hj
        rw [List.getD_eq_getElem?_getD, List.getElem?_eq_getElem hj] at this
        exact this e⟩
      clear hbw
      go_wp2
      go_ret
      exact ⟨⟨-1, rfl, by have := HNo.out; simp [this]⟩, HBW.out⟩
theorem contains105_any (xs : List (Int × Int)) (A : Option Addr) (c : Nat) (q : Int × Int) (v : Bool) (hv : decide (q ∈ xs) = v) (w : World) (h60 : xs.length ≤ 60) (hx : PairsI w A xs) :
    Calls Try.prog 105 #[.slice A xs.length c, ptV q] w fun e w' => e = .returned (.bool v) ∧ Below w.heap.size w w' := by
  have hb0 := belowA (Below.refl _ w) (.cells #[.int .i64 q.1, .int .i64 q.2] 70)
  obtain ⟨⟨q0, q1⟩, _⟩ := two_facts (block_new w (.cells #[.int .i64 q.1, .int .i64 q.2] 70))
  have CI := Off.mk (index114_any xs A c q _ h60 (hx.below hb0))
  have HV := Off.mk hv
  have HB0 := Off.mk hb0
  clear hx hv hb0
  go_enter Try.func105, Try.ntmps105
  go_wp2_with fail
  refine CI.out.mono ?_
  rintro e w1 ⟨⟨r, rfl, hr⟩, hb1⟩
  go_wp2
  go_ret
  exact ⟨ret_bool HV.out, belowC HB0.out hb1⟩
end Go.Proofs.Ytbpmiphipjkdlaa
