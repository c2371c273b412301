/- Contract: the laws' pairs; Round, for all inputs. -/
import Derived.Test.YtnhbkopgbibcgaaHr
import Derived.Test.YtnhbkopgbibcgaaRd
import Derived.Test.YtnhbkopgbibcgaaHh
import Derived.Laws.StructEq
namespace Go.Proofs.Ytnhbkopgbibcgaa
open Go.RowKit Go.Shelf

theorem eq_pair (x y : Int) (w : World) : Sem.run Try.prog (Op.equalIn 10000 43 (.agg #[.int .i64 x, .int .i64 y]) (.agg #[.int .i64 x, .int .i64 y])) w = .ok true w := by
  have h1 := Try.underlying43
  have h2 := Try.underlying3
  go_simp
set_option maxHeartbeats 2000000 in
theorem pairs_self (xs : List (Nat × Nat)) (A B : Option Addr) (c d : Nat) (w : World) (h100 : xs.length ≤ 1000) (ha : PairsAt w A xs) (hb : PairsAt w B xs) : Calls Try.prog 39 #[.slice A xs.length c, .slice B xs.length d] w fun e w' => e = .returned (.bool true) ∧ Below w.heap.size w w' := by
  have g1 : ((xs.length : Int) != (xs.length : Int)) = false := by rw [bne_eq_false_iff_eq]
  have HA := Off.mk ha
  have HB := Off.mk hb
  clear ha hb
  go_enter Try.func39, Try.ntmps39
  go_wp2
  go_loopw [5] (fun iv wr => ∃ k : Nat, k ≤ xs.length ∧ iv = .int .i64 k ∧ ∃ q, wr = w.drewN q) (fun iv _ => xs.length - (intOf iv).toNat)
  case atStart => exact ⟨0, by omega, rfl, 0, rfl⟩
  case round =>
    obtain ⟨k, hk, rfl, q, rfl⟩ := hrel
    by_cases hlt : k < xs.length
    · have hki : (k : Int) < (xs.length : Int) := by omega
      have hk0 : (0 : Int) ≤ (k : Int) := by omega
      obtain ⟨ad, rfl, c0, c1⟩ := HA.out.cell k hlt
      obtain ⟨bd, rfl, d0, d1⟩ := HB.out.cell k hlt
      obtain ⟨x, hx⟩ : ∃ x : Int, x = ((xs.getD k (0, 0)).1 : Int) := ⟨_, rfl⟩
      obtain ⟨y, hy⟩ : ∃ y : Int, y = ((xs.getD k (0, 0)).2 : Int) := ⟨_, rfl⟩
      rw [← hx] at c0 d0
      rw [← hy] at c1 d1
      have heq := fun w => eq_pair x y w
      clear hx hy
      go_wp2
      first
        | go_quiet (fail)
        | fail
      go_wp2
      go_roundw
      case rel => exact ⟨k + 1, by omega, by go_num, _, rfl⟩
      case measure => simp only [intOf]; omega
    · obtain rfl : k = xs.length := by omega
      go_wp2
      go_ret
      exact ⟨rfl, below_drewN' (Below.refl _ _) _⟩

/-- How many states Round tells of. -/
def PerOr (a b : Int) (l : List Int) (k : Nat) : Prop := if askedB a b l then IsPer b.toNat l k else k = 0
theorem per_unique {b : Nat} {l : List Int} {j k : Nat} (h : IsPer b l j) (i : IsPer b l k) : j = k := by
  rcases Nat.lt_trichotomy j k with hl | e | hl
  · exact absurd h.back (i.first j h.pos hl)
  · exact e
  · exact absurd i.back (h.first k i.pos hl)
theorem perOr_unique {a b : Int} {l : List Int} {j k : Nat} (h : PerOr a b l j) (i : PerOr a b l k) : j = k := by
  unfold PerOr at h i
  by_cases hk : askedB a b l = true
  · rw [if_pos hk] at h i; exact per_unique h i
  · rw [if_neg hk] at h i; omega
def RoundAll (a b : Int) (l : List Int) (w : World) (e : Ending) (w' : World) : Prop :=
  ∃ A cap k rs cs, e = .returned (.tuple #[.slice A k cap, .int .i64 (errOf a b l)]) ∧ PerOr a b l k ∧ k ≤ 12 ∧ (0 < k → 0 < l.length ∧ l.length ≤ 6) ∧ Tab w' w.heap.size (.slice A k cap) l.length k rs cs ∧ Rows w' w.heap.size l.length k rs cs (iterDay b.toNat l) ∧ Below w.heap.size w w'
theorem tab_form {w : World} {base n k : Nat} {v : Value} {rs cs : Nat → Nat} (h : Tab w base v n k rs cs) : ∃ A cap, v = .slice A k cap := by
  rcases h.out.2 with ⟨rfl, h1⟩ | ⟨g, cap, cur, rfl, _⟩
  · exact ⟨none, 0, by rw [h1]⟩
  · exact ⟨_, cap, rfl⟩
theorem all_of_no {a b : Int} {l : List Int} {w : World} {e : Ending} {w' : World} (hk : askedB a b l = false) (h : e = .returned (.tuple #[.slice none 0 0, .int .i64 2]) ∧ Below w.heap.size w w') : RoundAll a b l w e w' := by
  obtain ⟨rfl, hb⟩ := h
  refine ⟨none, 0, 0, fun _ => 0, fun _ => 0, by unfold errOf; rw [hk]; rfl, by unfold PerOr; rw [hk]; rfl, by omega, fun h => by omega, ⟨?_⟩, ⟨fun j hj => by omega, fun i j hij hj => by omega⟩, hb⟩
  exact World.ownsRow_nil _ _ _ _
theorem all_of_yes {n m : Nat} {l : List Int} {w : World} {e : Ending} {w' : World} (hk : askedB n m l = true) (hn : l.length = n) (h : RoundPost m l n w e w') : RoundAll n m l w e w' := by
  obtain ⟨n', m', e1, e2, hn', hn1, hn6, hm1, hm6, hs⟩ := asked_nat hk
  obtain ⟨v, k, rs, cs, rfl, hP, hkn, hT, hR, hb⟩ := h
  obtain ⟨A, cap, rfl⟩ := tab_form hT
  refine ⟨A, cap, k, rs, cs, by unfold errOf; rw [hk]; rfl, by unfold PerOr; rw [hk, if_pos rfl, Int.toNat_natCast]; exact hP, by omega, fun _ => by omega, by rw [hn]; exact hT, by rw [hn, Int.toNat_natCast]; exact hR, hb⟩
theorem Round_all (a b : Int) (l : List Int) (A : Option Addr) (c : Nat) (w : World) (hl : IntsAt w A l) (hlc : l.length ≤ c) (hA : A = none → c = 0) :
    Calls Try.prog 36 #[.int .i64 a, .int .i64 b, .slice A l.length c] w fun e w' => RoundAll a b l w e w' := by
  cases hk : askedB a b l
  · exact (Round_no a b l A c w hl hlc hA hk).mono fun _ _ h => all_of_no hk h
  · obtain ⟨n, m, rfl, rfl, hn, hn1, hn6, hm1, hm6, hs⟩ := asked_nat hk
    exact (Round_yes n m l A c w hl hlc hA hk (days_of hn1 hn6 hm1 hm6 hs).1).mono fun _ _ h => all_of_yes hk hn h
theorem rRound_all (a b : Int) (l : List Int) (A : Option Addr) (c : Nat) (w : World) (hl : IntsAt w A l) (hlc : l.length ≤ c) :
    Calls Try.prog 35 #[.int .i64 a, .int .i64 b, .slice A l.length c] w fun e w' => RoundAll a b l w e w' := by
  cases hk : askedB a b l
  · exact (rRound_no a b l A c w hl hk).mono fun _ _ h => all_of_no hk h
  · obtain ⟨n, m, rfl, rfl, hn, hn1, hn6, hm1, hm6, hs⟩ := asked_nat hk
    exact (rRound_yes n m l A c w hl hlc hk (days_of hn1 hn6 hm1 hm6 hs).1).mono fun _ _ h => all_of_yes hk hn h
theorem RowC.keeps {w w1 : World} {base r r' n c : Nat} {xs : List Int} (h : RowC w base r n c xs) (k : Keeps r' w w1) (hne : r ≠ r') : RowC w1 base r n c xs :=
  ⟨h.len, h.own.kept k.out (.inr (fun e => hne (by simpa [Value.ownBlock] using e)))⟩
theorem Tab.keeps {w w1 : World} {base base' n n' c k r : Nat} {v : Value} {rs cs : Nat → Nat} {xs : List Int} (h : Tab w base v n k rs cs) (hr : RowC w base' r n' c xs) (hk : Keeps r w w1) : Tab w1 base v n k rs cs :=
  ⟨h.out.kept hk.out (.inr (row_type hr h.out))⟩
theorem tab_cell' {w : World} {base n k cap : Nat} {A : Option Addr} {rs cs : Nat → Nat} (h : Tab w base (.slice A k cap) n k rs cs) {j : Nat} (hj : j < k) : ∃ ad, A = some ad ∧ w.cell? (ad.add j) = some (.slice (some ⟨rs j, 0, none⟩) n (cs j)) := by
  rcases h.out.2 with ⟨e, h1⟩ | ⟨g, cap', cur, e, hb, _⟩
  · omega
  · cases e
    refine ⟨_, rfl, ?_⟩
    rw [Addr.add_lit, Nat.zero_add, h.out.cellAt j (by omega)]
    simp [rowVals, hj]
end Go.Proofs.Ytnhbkopgbibcgaa
