/- Contracts: slices.Equal, the laws' same, the specification's isNext, isEnd, Pasture. -/
import Derived.Test.YtnhbkopgbibcgaaGd
namespace Go.Proofs.Ytnhbkopgbibcgaa
open Go.RowKit Go.Shelf

theorem getD_ext {a b : List Int} (hl : a.length = b.length) (h : ∀ j, j < a.length → a.getD j 0 = b.getD j 0) : a = b := by
  apply List.ext_getElem hl
  intro i h1 h2
  have := h i h1
  rw [getD_get h1, getD_get h2] at this
  exact this

set_option maxHeartbeats 1000000 in
theorem equal_any (a b : List Int) (A B : Option Addr) (ca cb : Nat) (w : World) (ha : IntsAt w A a) (hb : IntsAt w B b) :
    Calls Try.prog 67 #[.slice A a.length ca, .slice B b.length cb] w fun e w' => e = .returned (.bool (decide (a = b))) ∧ Below w.heap.size w w' := by
  have hla := ha.len
  have hlb := hb.len
  by_cases hl : a.length = b.length
  · have hl' : ((a.length : Int) != (b.length : Int)) = false := by rw [bne_eq_false_iff_eq]; omega
    have h1 : a.length ≤ b.length := by omega
    have h2 : b.length ≤ a.length := by omega
    have HL := Off.mk hl
    clear hl
    go_enter Try.func67, Try.ntmps67
    go_wp2
    go_loopw [13] (fun i wr => ∃ k : Nat, k ≤ a.length ∧ i = .int .i64 k ∧ (∃ m, wr = w.drewN m) ∧ Off (∀ j, j < k → a.getD j 0 = b.getD j 0)) (fun i _ => a.length - (intOf i).toNat)
    case atStart => exact ⟨0, by omega, rfl, ⟨0, rfl⟩, ⟨fun j hj => by omega⟩⟩
    case round =>
      obtain ⟨k, hk, rfl, ⟨m, rfl⟩, hs⟩ := hrel
      by_cases hlt : k < a.length
      · obtain ⟨ad, rfl, hc⟩ := ha.cell k hlt
        obtain ⟨bd, rfl, hd⟩ := hb.cell k (by omega)
        obtain ⟨x, hx⟩ : ∃ x, x = a.getD k 0 := ⟨_, rfl⟩
        obtain ⟨y, hy⟩ : ∃ y, y = b.getD k 0 := ⟨_, rfl⟩
        rw [← hx] at hc
        rw [← hy] at hd
        have HX := Off.mk hx
        have HY := Off.mk hy
        have hk0 : (0 : Int) ≤ (k : Int) := by omega
        have hk1 : (k : Int) < (a.length : Int) := by omega
        have hk2 : (k : Int) < (b.length : Int) := by omega
        clear hx hy
        by_cases hxy : x = y
        · have hxy' : (x != y) = false := by rw [bne_eq_false_iff_eq]; exact hxy
          have HE := Off.mk hxy
          clear hxy
          go_wp2
          go_quiet (fail)
          go_wp2
          go_roundw
          case rel => exact ⟨k + 1, by omega, by go_num, ⟨_, rfl⟩, ⟨fun j hj => by
            by_cases e : j = k
            · subst e; rw [← HX.out, ← HY.out]; exact HE.out
            · exact hs.out j (by omega)⟩⟩
          case measure => simp only [intOf]; omega
        · have hxy' : (x != y) = true := by rw [bne_iff_ne]; exact hxy
          have HF : Off (decide (a = b) = false) := ⟨decide_eq_false (fun e => hxy (by rw [HX.out, HY.out, e]))⟩
          clear hxy
          go_wp2
          go_quiet (fail)
          go_wp2
          go_ret
          exact ⟨by rw [HF.out]; rfl, below_drewN' (below_drewN' (Below.refl _ _) _) _⟩
      · have HT : Off (decide (a = b) = true) := ⟨decide_eq_true (getD_ext HL.out (fun j hj => hs.out j (by omega)))⟩
        go_wp2
        go_ret
        exact ⟨by rw [HT.out]; rfl, below_drewN' (Below.refl _ _) _⟩
  · have hl' : ((a.length : Int) != (b.length : Int)) = true := by rw [bne_iff_ne]; omega
    have HF : Off (decide (a = b) = false) := ⟨decide_eq_false (fun e => hl (by rw [e]))⟩
    clear hl
    go_enter Try.func67, Try.ntmps67
    go_wp2
    go_ret
    exact ⟨by rw [HF.out]; rfl, Below.refl _ _⟩

set_option maxHeartbeats 1000000 in
theorem same_any (a b : List Int) (A B : Option Addr) (ca cb : Nat) (w : World) (ha : IntsAt w A a) (hb : IntsAt w B b) :
    Calls Try.prog 24 #[.slice A a.length ca, .slice B b.length cb] w fun e w' => e = .returned (.bool (decide (a = b))) ∧ Below w.heap.size w w' := by
  have hla := ha.len
  have hlb := hb.len
  by_cases hl : a.length = b.length
  · have hl' : ((a.length : Int) != (b.length : Int)) = false := by rw [bne_eq_false_iff_eq]; omega
    have h1 : a.length ≤ b.length := by omega
    have h2 : b.length ≤ a.length := by omega
    have HL := Off.mk hl
    clear hl
    go_enter Try.func24, Try.ntmps24
    go_wp2
    go_loopw [5] (fun i wr => ∃ k : Nat, k ≤ a.length ∧ i = .int .i64 k ∧ (∃ m, wr = w.drewN m) ∧ Off (∀ j, j < k → a.getD j 0 = b.getD j 0)) (fun i _ => a.length - (intOf i).toNat)
    case atStart => exact ⟨0, by omega, rfl, ⟨0, rfl⟩, ⟨fun j hj => by omega⟩⟩
    case round =>
      obtain ⟨k, hk, rfl, ⟨m, rfl⟩, hs⟩ := hrel
      by_cases hlt : k < a.length
      · obtain ⟨ad, rfl, hc⟩ := ha.cell k hlt
        obtain ⟨bd, rfl, hd⟩ := hb.cell k (by omega)
        obtain ⟨x, hx⟩ : ∃ x, x = a.getD k 0 := ⟨_, rfl⟩
        obtain ⟨y, hy⟩ : ∃ y, y = b.getD k 0 := ⟨_, rfl⟩
        rw [← hx] at hc
        rw [← hy] at hd
        have HX := Off.mk hx
        have HY := Off.mk hy
        have hk0 : (0 : Int) ≤ (k : Int) := by omega
        have hk1 : (k : Int) < (a.length : Int) := by omega
        have hk2 : (k : Int) < (b.length : Int) := by omega
        clear hx hy
        by_cases hxy : x = y
        · have hxy' : (x != y) = false := by rw [bne_eq_false_iff_eq]; exact hxy
          have HE := Off.mk hxy
          clear hxy
          go_wp2
          go_quiet (fail)
          go_wp2
          go_roundw
          case rel => exact ⟨k + 1, by omega, by go_num, ⟨_, rfl⟩, ⟨fun j hj => by
            by_cases e : j = k
            · subst e; rw [← HX.out, ← HY.out]; exact HE.out
            · exact hs.out j (by omega)⟩⟩
          case measure => simp only [intOf]; omega
        · have hxy' : (x != y) = true := by rw [bne_iff_ne]; exact hxy
          have HF : Off (decide (a = b) = false) := ⟨decide_eq_false (fun e => hxy (by rw [HX.out, HY.out, e]))⟩
          clear hxy
          go_wp2
          go_quiet (fail)
          go_wp2
          go_ret
          exact ⟨by rw [HF.out]; rfl, below_drewN' (below_drewN' (Below.refl _ _) _) _⟩
      · have HT : Off (decide (a = b) = true) := ⟨decide_eq_true (getD_ext HL.out (fun j hj => hs.out j (by omega)))⟩
        go_wp2
        go_ret
        exact ⟨by rw [HT.out]; rfl, below_drewN' (Below.refl _ _) _⟩
  · have hl' : ((a.length : Int) != (b.length : Int)) = true := by rw [bne_iff_ne]; omega
    have HF : Off (decide (a = b) = false) := ⟨decide_eq_false (fun e => hl (by rw [e]))⟩
    clear hl
    go_enter Try.func24, Try.ntmps24
    go_wp2
    go_ret
    exact ⟨by rw [HF.out]; rfl, Below.refl _ _⟩

set_option maxHeartbeats 1000000 in
theorem rnext_any (l : List Int) (A : Option Addr) (c i : Nat) (j : Int) (w : World) (hl : IntsAt w A l) (hi : i < l.length) :
    Calls Try.prog 71 #[.slice A l.length c, .int .i64 (i : Int), .int .i64 j] w fun e w' => e = .returned (.bool (nextB l i j)) ∧ w' = w := by
  have hlen := hl.len
  obtain ⟨ad, rfl, hc⟩ := hl.cell i hi
  have HN : Off (nextB l i j = (decide (l.getD i 0 = j) && (decide (i = 0) || decide (j < l.getD (i - 1) 0)))) := ⟨rfl⟩
  obtain ⟨x, hx⟩ : ∃ x, x = l.getD i 0 := ⟨_, rfl⟩
  rw [← hx] at hc HN
  clear hx
  have hi0 : (0 : Int) ≤ (i : Int) := by omega
  have hil : (i : Int) < (l.length : Int) := by omega
  by_cases hj : x = j
  · have hj' : (x == j) = true := beq_iff_eq.2 hj
    by_cases h0 : i = 0
    · subst h0
      rw [Addr.add_zero'] at hc
      have HT : Off (nextB l 0 j = true) := ⟨by rw [HN.out, decide_eq_true hj]; rfl⟩
      clear hj
      go_enter Try.func71, Try.ntmps71
      go_wp2
      go_ret
      exact ⟨by rw [HT.out]; rfl, rfl⟩
    · obtain ⟨ad', e, hp⟩ := hl.cell (i - 1) (by omega)
      cases e
      have h0' : ((i : Int) == 0) = false := by rw [beq_eq_false_iff_ne]; omega
      have hw1 : IntKind.i64.wrap ((i : Int) - 1) = (i : Int) - 1 := by rw [IntKind.wrap_i64]; omega
      have hw2 : ((i : Int) - 1).toNat = i - 1 := by omega
      have hw3 : (0 : Int) ≤ (i : Int) - 1 := by omega
      have hw4 : (i : Int) - 1 < (l.length : Int) := by omega
      obtain ⟨y, hy⟩ : ∃ y, y = l.getD (i - 1) 0 := ⟨_, rfl⟩
      rw [← hy] at hp HN
      have HT : Off (nextB l i j = decide (j < y)) := ⟨by rw [HN.out, decide_eq_true hj, decide_eq_false h0]; rfl⟩
      clear hj h0 hy
      go_enter Try.func71, Try.ntmps71
      go_wp2
      go_ret
      exact ⟨by rw [HT.out]; rfl, rfl⟩
  · have hj' : (x == j) = false := beq_eq_false_iff_ne.2 hj
    have HT : Off (nextB l i j = false) := ⟨by rw [HN.out, decide_eq_false hj]; rfl⟩
    clear hj
    go_enter Try.func71, Try.ntmps71
    go_wp2
    go_ret
    exact ⟨by rw [HT.out]; rfl, rfl⟩

set_option maxHeartbeats 1000000 in
theorem rend_any (l : List Int) (A : Option Addr) (c i : Nat) (j : Int) (w : World) (hl : IntsAt w A l) (hi : i < l.length) (hj0 : 0 ≤ j) (hj1 : j ≤ 100) :
    Calls Try.prog 61 #[.slice A l.length c, .int .i64 (i : Int), .int .i64 j] w fun e w' => e = .returned (.bool (endB l i j)) ∧ w' = w := by
  have hlen := hl.len
  obtain ⟨ad, rfl, hc⟩ := hl.cell i hi
  have HN : Off (endB l i j = (decide (l.getD i 0 = j + 1) && (decide (i + 1 = l.length) || decide (l.getD (i + 1) 0 ≤ j)))) := ⟨rfl⟩
  obtain ⟨x, hx⟩ : ∃ x, x = l.getD i 0 := ⟨_, rfl⟩
  rw [← hx] at hc HN
  clear hx
  have hi0 : (0 : Int) ≤ (i : Int) := by omega
  have hil : (i : Int) < (l.length : Int) := by omega
  by_cases hj : x = j + 1
  · have hj' : (x == j + 1) = true := beq_iff_eq.2 hj
    by_cases h0 : i + 1 = l.length
    · have HT : Off (endB l i j = true) := ⟨by rw [HN.out, decide_eq_true hj, decide_eq_true h0]; rfl⟩
      have h0' : ((i : Int) == (l.length : Int) - 1) = true := by rw [beq_iff_eq]; omega
      clear hj h0
      go_enter Try.func61, Try.ntmps61
      go_wp2
      go_ret
      exact ⟨by rw [HT.out]; rfl, rfl⟩
    · obtain ⟨ad', e, hp⟩ := hl.cell (i + 1) (by omega)
      cases e
      have h0' : ((i : Int) == (l.length : Int) - 1) = false := by rw [beq_eq_false_iff_ne]; omega
      obtain ⟨y, hy⟩ : ∃ y, y = l.getD (i + 1) 0 := ⟨_, rfl⟩
      rw [← hy] at hp HN
      have HT : Off (endB l i j = decide (y ≤ j)) := ⟨by rw [HN.out, decide_eq_true hj, decide_eq_false h0]; rfl⟩
      have hi1 : (i : Int) + 1 < (l.length : Int) := by omega
      rw [Addr.add_succ'] at hp
      clear hj h0 hy
      go_enter Try.func61, Try.ntmps61
      go_wp2
      go_ret
      exact ⟨by rw [HT.out]; rfl, rfl⟩
  · have hj' : (x == j + 1) = false := beq_eq_false_iff_ne.2 hj
    have HT : Off (endB l i j = false) := ⟨by rw [HN.out, decide_eq_false hj]; rfl⟩
    clear hj
    go_enter Try.func61, Try.ntmps61
    go_wp2
    go_ret
    exact ⟨by rw [HT.out]; rfl, rfl⟩

set_option maxHeartbeats 1000000 in
theorem pasture_any (a b : Int) (v : Bool) (hv : fieldB a b = v) (w : World) : Calls Try.prog 45 #[.int .i64 a, .int .i64 b] w fun e w' => e = .returned (.int .i64 (if v then 0 else 2)) ∧ w' = w := by
  cases v
  · have hd : a < 1 ∨ (1 ≤ a ∧ 6 < a) ∨ ((1 ≤ a ∧ a ≤ 6) ∧ b < 1) ∨ ((1 ≤ a ∧ a ≤ 6) ∧ 1 ≤ b ∧ 6 < b) := by
      have := of_decide_eq_false hv
      omega
    clear hv
    rcases hd with h | ⟨h, h1⟩ | ⟨⟨h, h1⟩, h2⟩ | ⟨⟨h, h1⟩, h2, h3⟩
    all_goals
      go_enter Try.func45, Try.ntmps45
      go_wp2
      go_ret
      exact ⟨rfl, rfl⟩
  · obtain ⟨⟨h1, h2⟩, h3, h4⟩ := of_decide_eq_true hv
    clear hv
    go_enter Try.func45, Try.ntmps45
    go_wp2
    go_ret
    exact ⟨rfl, rfl⟩
end Go.Proofs.Ytnhbkopgbibcgaa
