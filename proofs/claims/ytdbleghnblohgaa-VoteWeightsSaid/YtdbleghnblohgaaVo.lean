/- Contracts: same, few, three. -/
import Derived.Test.YtdbleghnblohgaaVn
namespace Go.Proofs.Ytdbleghnblohgaa
open Go.RowKit Go.Shelf

theorem own_ints {w : World} {base : Nat} {v : Value} {xs : List Int} (h : Own w base v xs) (hx : xs.length ≤ 140737488351232) : ∃ A c, v = .slice A xs.length c ∧ IntsAt w A xs ∧ xs.length ≤ c := by
  rcases h.out.2 with ⟨rfl, h1⟩ | ⟨g, cap, cur, rfl, hb, hh, hc, _⟩
  · have : xs = [] := by simpa [nums] using h1
    subst this
    exact ⟨none, 0, rfl, ⟨by simp, fun j hj => by simp at hj⟩, Nat.le_refl _⟩
  · refine ⟨_, cap, rfl, ⟨hx, fun j hj => ⟨⟨g, 0, none⟩, rfl, ?_⟩⟩, hc⟩
    have := h.out.cellAt j (by omega)
    rw [Addr.add_lit, Nat.zero_add, this]
    exact nums_at xs j hj
theorem ints_lit {w : World} {b : Nat} {xs : List Int} {t : TypeId} (h : w.heap[b]? = some (.cells (nums xs).toArray t (0, 0))) (hx : xs.length ≤ 140737488351232) : IntsAt w (some ⟨b, 0, none⟩) xs :=
  ⟨hx, fun j hj => ⟨⟨b, 0, none⟩, rfl, by
    rw [Addr.add_lit, Nat.zero_add]
    have := nums_at xs j hj
    simp only [World.cell?, h]
    simpa using this⟩⟩

theorem getD_ext {a b : List Int} (h : a.length = b.length) (k : ∀ j, j < a.length → a.getD j 0 = b.getD j 0) : a = b := by
  apply List.ext_getElem h
  intro i h1 h2
  have := k i h1
  rw [List.getD_eq_getElem?_getD, List.getD_eq_getElem?_getD, List.getElem?_eq_getElem h1, List.getElem?_eq_getElem h2] at this
  simpa using this

set_option maxHeartbeats 1000000 in
theorem same_any (a b : List Int) (A B : Option Addr) (ca cb : Nat) (w : World) (ha : IntsAt w A a) (hb : IntsAt w B b) :
    Calls Try.prog 19 #[.slice A a.length ca, .slice B b.length cb] w fun e w' => e = .returned (.bool (decide (a = b))) ∧ Below w.heap.size w w' := by
  have hla := ha.len
  have hlb := hb.len
  by_cases hl : a.length = b.length
  · have hl' : ((a.length : Int) != (b.length : Int)) = false := by rw [bne_eq_false_iff_eq]; omega
    have h1 : a.length ≤ b.length := by omega
    have h2 : b.length ≤ a.length := by omega
    have HL := Off.mk hl
    clear hl
    go_enter Try.func19, Try.ntmps19
    go_wp2
    go_loopw [5] (fun i wr => ∃ k : Nat, k ≤ a.length ∧ i = .int .i64 k ∧ (∃ m, wr = w.drewN m) ∧ Off (∀ j, j < k → a.getD j 0 = b.getD j 0)) (fun i _ => a.length - (intOf i).toNat)
    case atStart => exact ⟨0, by omega, rfl, ⟨0, rfl⟩, ⟨fun j hj => by omega⟩⟩
    case round =>
      obtain ⟨k, hk, rfl, ⟨m, rfl⟩, hs⟩ := hrel
      by_cases hlt : k < a.length
      · obtain ⟨ad, rfl, hc⟩ := ha.cell k hlt
        obtain ⟨bd, rfl, hd⟩ := hb.cell k (by omega)
        obtain ⟨x, hx⟩ : ∃ x, x = a.getD k 0 := ⟨_, rfl⟩
        obtain ⟨y, hy⟩ : ∃ y, y = b.getD k 0 := ⟨_, rfl⟩
        rw [← hx] at hc
        rw [← hy] at hd
        have HX := Off.mk hx
        have HY := Off.mk hy
        have hk0 : (0 : Int) ≤ (k : Int) := by omega
        have hk1 : (k : Int) < (a.length : Int) := by omega
        have hk2 : (k : Int) < (b.length : Int) := by omega
        clear hx hy
        by_cases hxy : x = y
        · have hxy' : (x != y) = false := by rw [bne_eq_false_iff_eq]; exact hxy
          have HE := Off.mk hxy
          clear hxy
          go_wp2
          go_quiet (fail)
          go_wp2
          go_roundw
          case rel => exact ⟨k + 1, by omega, by go_num, ⟨_, rfl⟩, ⟨fun j hj => by
            by_cases e : j = k
            · subst e; rw [← HX.out, ← HY.out]; exact HE.out
            · exact hs.out j (by omega)⟩⟩
          case measure => simp only [intOf]; omega
        · have hxy' : (x != y) = true := by rw [bne_iff_ne]; exact hxy
          have HF : Off (decide (a = b) = false) := ⟨decide_eq_false (fun e => hxy (by rw [HX.out, HY.out, e]))⟩
          clear hxy
          go_wp2
          go_quiet (fail)
          go_wp2
          go_ret
          exact ⟨by rw [HF.out]; rfl, below_drewN' (below_drewN' (Below.refl _ _) _) _⟩
      · have HT : Off (decide (a = b) = true) := ⟨decide_eq_true (getD_ext HL.out (fun j hj => hs.out j (by omega)))⟩
        go_wp2
        go_ret
        exact ⟨by rw [HT.out]; rfl, below_drewN' (Below.refl _ _) _⟩
  · have hl' : ((a.length : Int) != (b.length : Int)) = true := by rw [bne_iff_ne]; omega
    have HF : Off (decide (a = b) = false) := ⟨decide_eq_false (fun e => hl (by rw [e]))⟩
    clear hl
    go_enter Try.func19, Try.ntmps19
    go_wp2
    go_ret
    exact ⟨by rw [HF.out]; rfl, Below.refl _ _⟩

set_option maxHeartbeats 1000000 in
theorem few_any (q : Int) (A : Option Addr) (n c : Nat) (w : World) :
    Calls Try.prog 15 #[.agg #[.int .i64 q, .slice A n c]] w fun e w' => e = .returned (.bool (decide (n ≤ 30))) ∧ Below w.heap.size w w' := by
  go_enter Try.func15, Try.ntmps15
  go_wp2
  go_ret
  exact ⟨ret_bool (by simp; omega), (Below.refl _ _).alloc (Nat.le_refl _) _⟩

set_option maxHeartbeats 1000000 in
theorem three_any (w : World) :
    Calls Try.prog 42 #[] w fun e w' => e = .returned (.agg #[.int .i64 3, .slice (some ⟨w.heap.size + 1, 0, none⟩) 3 3]) ∧ IntsAt w' (some ⟨w.heap.size + 1, 0, none⟩) [2, 1, 1] ∧ Below w.heap.size w w' := by
  go_enter Try.func42, Try.ntmps42
  go_wp2
  refine bodyPost_ret (v := .agg #[.int .i64 3, .slice (some ⟨w.heap.size + 1, 0, none⟩) 3 3]) ?_ rfl ⟨rfl, ?_⟩
  · simp [results, Try.results42, go_sem]
  · refine ⟨ints_lit (xs := [2, 1, 1]) (t := 3) ?_ (by simp), (((Below.refl _ _).alloc (Nat.le_refl _) _).alloc (by simp) _)⟩
    simpa [nums] using block_new (w.alloc _) _

theorem ownR_cells {w : World} {base : Nat} {v : Value} {xs : List (Nat × Nat)} (h : OwnR w base v xs) (hx : 0 < xs.length) : ∃ g c, v = .slice (some ⟨g, 0, none⟩) xs.length c ∧ base ≤ g ∧ xs.length ≤ c ∧
    ∀ j, j < xs.length → w.cell? ⟨g, j * 2, none⟩ = some (.int .i64 ((xs.getD j (0, 0)).1 : Int)) ∧ w.cell? ⟨g, j * 2 + 1, none⟩ = some (.int .i64 ((xs.getD j (0, 0)).2 : Int)) := by
  have H : ∀ (ys : List (Nat × Nat)) (j : Nat), j < ys.length → (ratCells ys)[j * 2]? = some (.int .i64 ((ys.getD j (0, 0)).1 : Int)) ∧ (ratCells ys)[j * 2 + 1]? = some (.int .i64 ((ys.getD j (0, 0)).2 : Int)) := by
    intro ys
    induction ys with
    | nil => intro j hj; simp at hj
    | cons y ys ih =>
      intro j hj
      have e : ratCells (y :: ys) = .int .i64 (y.1 : Int) :: .int .i64 (y.2 : Int) :: ratCells ys := rfl
      cases j with
      | zero => rw [e]; exact ⟨rfl, rfl⟩
      | succ j =>
        have := ih j (by simpa using hj)
        rw [e, show (j + 1) * 2 = j * 2 + 1 + 1 by omega]
        simpa using this
  rcases h.out.2 with ⟨rfl, h1⟩ | ⟨g, cap, cur, rfl, hb, hh, hc, _⟩
  · cases xs with
    | nil => simp at hx
    | cons x xs => simp at h1
  · refine ⟨g, cap, rfl, hb, hc, fun j hj => ?_⟩
    rw [h.out.cellAt (j * 2) (by omega), h.out.cellAt (j * 2 + 1) (by omega)]
    exact H xs j hj
end Go.Proofs.Ytdbleghnblohgaa
