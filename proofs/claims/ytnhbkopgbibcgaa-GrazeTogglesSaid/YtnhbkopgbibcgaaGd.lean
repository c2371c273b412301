/- Contracts: plots (a list of plots, row by row). -/
import Derived.Test.YtnhbkopgbibcgaaGc
namespace Go.Proofs.Ytnhbkopgbibcgaa
open Go.RowKit Go.Shelf

/-- The plots of row i, up to column j, for which p holds. -/
def rowIn (p : Nat → Nat → Bool) (i : Nat) : Nat → List (Nat × Nat)
  | 0 => []
  | j + 1 => rowIn p i j ++ if p i j then [(i, j)] else []
/-- The plots of the first rows for which p holds. -/
def rowsTo (p : Nat → Nat → Bool) (b : Nat) : Nat → List (Nat × Nat)
  | 0 => []
  | i + 1 => rowsTo p b i ++ rowIn p i b
theorem rowIn_mem (p : Nat → Nat → Bool) (i j : Nat) : ∀ x ∈ rowIn p i j, x.1 = i ∧ x.2 < j := by
  induction j with
  | zero => intro x hx; simp [rowIn] at hx
  | succ j ih =>
    intro x hx
    rw [rowIn, List.mem_append] at hx
    rcases hx with hx | hx
    · have := ih x hx; omega
    · split at hx
      · simp at hx; subst hx; simp
      · simp at hx
theorem rowsTo_mem (p : Nat → Nat → Bool) (b n : Nat) : ∀ x ∈ rowsTo p b n, x.1 < n ∧ x.2 < b := by
  induction n with
  | zero => intro x hx; simp [rowsTo] at hx
  | succ n ih =>
    intro x hx
    rw [rowsTo, List.mem_append] at hx
    rcases hx with hx | hx
    · have := ih x hx; omega
    · have := rowIn_mem p n b x hx; omega
theorem rowIn_len (p : Nat → Nat → Bool) (i j : Nat) : (rowIn p i j).length ≤ j := by
  induction j with
  | zero => simp [rowIn]
  | succ j ih => rw [rowIn, List.length_append]; split <;> simp <;> omega
theorem rowsTo_len (p : Nat → Nat → Bool) (b n : Nat) : (rowsTo p b n).length ≤ n * b := by
  induction n with
  | zero => simp [rowsTo]
  | succ n ih => rw [rowsTo, List.length_append, Nat.succ_mul]; have := rowIn_len p n b; omega

theorem info43 : (Try.prog.info? 43).map (fun i => (i.zero, i.size, i.bytes)) = some (some (.agg #[.int .i64 0, .int .i64 0]), 2, 16) := by kernel_rfl
def pairCells (xs : List (Nat × Nat)) : List Value := xs.flatMap fun x => [.int .i64 (x.1 : Int), .int .i64 (x.2 : Int)]
/-- A row of plots of the call's own. -/
structure OwnP (w : World) (base : Nat) (v : Value) (xs : List (Nat × Nat)) : Prop where
  out : w.ownsRow base 43 2 v xs.length (pairCells xs)
theorem ownP_below {w w1 : World} {base : Nat} {v : Value} {xs : List (Nat × Nat)} (h : OwnP w base v xs) (hb : Below w.heap.size w w1) : OwnP w1 base v xs :=
  ⟨h.out.kept (row := none) ⟨hb.os, hb.tape, hb.output, hb.size, fun i hi _ => hb.block i hi⟩ (by cases v.ownBlock <;> simp)⟩
theorem ownP_base {w : World} {base : Nat} {v : Value} {xs : List (Nat × Nat)} (h : OwnP w base v xs) {k : Nat} (hk : v.ownBlock = some k) : base ≤ k := by
  rcases h.out.2 with ⟨rfl, _⟩ | ⟨g, cap, cur, rfl, hb, _⟩
  · simp [Value.ownBlock] at hk
  · have : g = k := by simpa [Value.ownBlock] using hk
    omega
theorem ownP_mono {w : World} {base base' : Nat} {v : Value} {xs : List (Nat × Nat)} (h : OwnP w base v xs) (hb : base' ≤ base) : OwnP w base' v xs := by
  refine ⟨h.out.1, ?_⟩
  rcases h.out.2 with h | ⟨g, cap, cur, e, hg, r⟩
  · exact .inl h
  · exact .inr ⟨g, cap, cur, e, Nat.le_trans hb hg, r⟩
/-- Plots lie in memory. -/
structure PairsAt (w : World) (A : Option Addr) (xs : List (Nat × Nat)) : Prop where
  cell : ∀ j, j < xs.length → ∃ ad, A = some ad ∧ w.cell? (ad.add (j * 2)) = some (.int .i64 ((xs.getD j (0, 0)).1 : Int)) ∧ w.cell? ⟨(ad.add (j * 2)).block, (ad.add (j * 2)).off + 1, none⟩ = some (.int .i64 ((xs.getD j (0, 0)).2 : Int))
theorem PairsAt.below {w w1 : World} {A : Option Addr} {xs : List (Nat × Nat)} (h : PairsAt w A xs) (hb : Below w.heap.size w w1) : PairsAt w1 A xs :=
  ⟨fun j hj => by obtain ⟨ad, e, h1, h2⟩ := h.cell j hj; exact ⟨ad, e, cellB hb h1, cellB hb h2⟩⟩
theorem pairCells_len (xs : List (Nat × Nat)) : (pairCells xs).length = xs.length * 2 := by
  induction xs with
  | nil => rfl
  | cons x xs ih => simp only [pairCells, List.flatMap_cons, List.length_append, List.length_cons, List.length_nil] at *; omega
theorem pairCells_at (xs : List (Nat × Nat)) : ∀ j, j < xs.length → (pairCells xs)[j * 2]? = some (.int .i64 ((xs.getD j (0, 0)).1 : Int)) ∧ (pairCells xs)[j * 2 + 1]? = some (.int .i64 ((xs.getD j (0, 0)).2 : Int)) := by
  induction xs with
  | nil => intro j hj; simp at hj
  | cons x xs ih =>
    intro j hj
    cases j with
    | zero => simp [pairCells]
    | succ j =>
      have h := ih j (by simpa using hj)
      have e : (j + 1) * 2 = j * 2 + 2 := by omega
      rw [e]
      simpa [pairCells] using h
theorem ownP_pairs {w : World} {base : Nat} {v : Value} {xs : List (Nat × Nat)} (h : OwnP w base v xs) : ∃ A c, v = .slice A xs.length c ∧ PairsAt w A xs ∧ xs.length ≤ c := by
  rcases h.out.2 with ⟨rfl, h1⟩ | ⟨g, cap, cur, rfl, hb, hh, hc, _⟩
  · obtain rfl : xs = [] := List.length_eq_zero_iff.1 h1
    exact ⟨none, 0, rfl, ⟨fun j hj => by simp at hj⟩, Nat.le_refl _⟩
  · refine ⟨_, cap, rfl, ⟨fun j hj => ⟨⟨g, 0, none⟩, rfl, ?_, ?_⟩⟩, hc⟩
    · have := h.out.cellAt (j * 2) (by omega)
      rw [Addr.add_lit, Nat.zero_add, this]
      exact (pairCells_at xs j hj).1
    · have := h.out.cellAt (j * 2 + 1) (by omega)
      simp only [Addr.add_lit, Nat.zero_add]
      rw [this]
      exact (pairCells_at xs j hj).2

/-- A function that tells about plots of a state. -/
structure Plots (g : Nat) (A : Option Addr) (l : List Int) (c b : Nat) (p : Nat → Nat → Bool) : Prop where
  enters : Enters Try.prog g
  tells : ∀ W, IntsAt W A l → ∀ i j : Nat, i < l.length → j < b → Calls Try.prog g #[.slice A l.length c, .int .i64 (i : Int), .int .i64 (j : Int)] W fun e w' => e = .returned (.bool (p i j)) ∧ w' = W

set_option maxHeartbeats 2000000 in
set_option maxRecDepth 100000 in
theorem plots_any (g : Nat) (p : Nat → Nat → Bool) (l : List Int) (A : Option Addr) (c b : Nat) (w : World) (hl : IntsAt w A l) (h6 : l.length ≤ 6) (hb6 : b ≤ 6) (hp : Off (Plots g A l c b p)) :
    Calls Try.prog 68 #[.slice A l.length c, .int .i64 (b : Int), .func (.func g) #[] #[]] w fun e w' => ∃ v, e = .returned v ∧ OwnP w' w.heap.size v (rowsTo p b l.length) ∧ Below w.heap.size w w' := by
  have hlen := hl.len
  obtain ⟨j0, hj, hy0, hy1, hy2⟩ := info_parts info43
  have hcf : ∀ (args : Array Value) (w : World), (callFunc g args).run Try.prog w = .ok (.enter g args) w := hp.out.enters
  go_enter Try.func68, Try.ntmps68
  go_wp2
  go_loopw [7, 12] (fun v iv wr => ∃ i : Nat, i ≤ l.length ∧ iv = .int .i64 i ∧ OwnP wr w.heap.size v (rowsTo p b i) ∧ Below w.heap.size w wr) (fun _ iv _ => l.length - (intOf iv).toNat)
  case atStart => exact ⟨0, by omega, rfl, ⟨World.ownsRow_nil _ _ _ _⟩, Below.refl _ _⟩
  case round =>
    obtain ⟨i, hi, rfl, hown, hb⟩ := hrel
    obtain ⟨wo, rfl⟩ : ∃ wo : World, wo = wr := ⟨_, rfl⟩
    have hrl := rowsTo_len p b i
    have hrm : i * b ≤ 36 := Nat.mul_le_mul (show i ≤ 6 by omega) hb6
    by_cases hil : i < l.length
    · have hi' : (i : Int) < (l.length : Int) := by omega
      go_wp2
      go_loopw [7, 16] (fun v jv wr => ∃ j : Nat, j ≤ b ∧ jv = .int .i64 j ∧ OwnP wr w.heap.size v (rowsTo p b i ++ rowIn p i j) ∧ Below w.heap.size w wr) (fun _ jv _ => b - (intOf jv).toNat)
      case atStart => exact ⟨0, by omega, rfl, by simpa [rowIn] using hown, hb⟩
      case round =>
        clear hown hb
        obtain ⟨j, hjb, rfl, hown, hb⟩ := hrel
        obtain ⟨wq, rfl⟩ : ∃ wo : World, wo = wr := ⟨_, rfl⟩
        have hil2 := rowIn_len p i j
        have hlq := Off.mk (hl.below hb)
        by_cases hjl : j < b
        · have hj' : (j : Int) < (b : Int) := by omega
          cases hpij : p i j
          · have HS : Off (rowIn p i (j + 1) = rowIn p i j) := ⟨by rw [rowIn, hpij]; simp⟩
            clear hil2 hrl
            go_wp2_with (go_at_fn g; refine (hp.out.tells _ hlq.out i j hil hjl).mono ?_; rw [hpij]; rintro e w1 ⟨rfl, hw⟩; subst w1)
            go_roundw
            case rel => exact ⟨j + 1, by omega, by go_num, by rw [HS.out]; exact hown, hb⟩
            case measure => simp only [intOf]; omega
          · have HS : Off (rowIn p i (j + 1) = rowIn p i j ++ [(i, j)]) := ⟨by rw [rowIn, hpij]; simp⟩
            have hlen2 : (rowsTo p b i ++ rowIn p i j).length ≤ 100 := by rw [List.length_append]; omega
            clear hil2 hrl
            obtain ⟨ys, hys⟩ : ∃ ys, ys = rowsTo p b i ++ rowIn p i j := ⟨_, rfl⟩
            have HY : Off (rowsTo p b i ++ rowIn p i (j + 1) = ys ++ [(i, j)]) := ⟨by rw [HS.out, hys, List.append_assoc]⟩
            rw [← hys] at hlen2 hown
            clear hys
            go_wp2_with (first
              | (go_at_fn g; refine (hp.out.tells _ hlq.out i j hil hjl).mono ?_; rw [hpij]; rintro e w1 ⟨rfl, hw⟩; subst w1)
              | (at_builtin; refine wpList_append_own _ rfl _ _ 41 rfl w.heap.size 43 j0 _ 2 16 Try.underlying41 hj hy0 hy1 hy2 rfl (by decide) _ _ _ rfl (hown.out.alloc _) ⟨wq.heap.size, 0, none⟩ 1 1 [.int .i64 (i : Int), .int .i64 (j : Int)] rfl rfl ?c1 ?c2 ?c3 ?c4 ?c5 ?_))
            case c1 =>
              intro k u hk
              match k, hk with
              | 0, hk => simp at hk; subst hk; simp [Addr.add]
              | 1, hk => simp at hk; subst hk; simp [Addr.add]
            case c2 => intro u hu; simp at hu; rcases hu with rfl | rfl <;> rfl
            case c3 => unfold maxLen; omega
            case c4 => omega
            case c5 => have := hb.size; simp; omega
            intro v' w7 hown' hgrow _
            have hb' : Below w.heap.size w w7 := (hb.alloc hb.size _).grown hgrow (by have := hb.size; simp; omega) (fun k e => ownP_base hown e)
            have hO : OwnP w7 w.heap.size v' (rowsTo p b i ++ rowIn p i (j + 1)) := ⟨by rw [HY.out, List.length_append]; simpa [pairCells] using hown'⟩
            clear hown' hgrow hown hb
            go_wp2
            go_roundw
            case rel => exact ⟨j + 1, by omega, by go_num, hO, hb'⟩
            case measure => simp only [intOf]; omega
        · obtain rfl : j = b := by omega
          go_wp2
          go_roundw
          case rel => exact ⟨i + 1, by omega, by go_num, hown, hb⟩
          case measure => simp only [intOf]; omega
    · obtain rfl : i = l.length := by omega
      go_wp2
      go_ret
      exact ⟨_, rfl, hown, hb⟩

theorem next_plots (A : Option Addr) (l : List Int) (c b : Nat) : Plots 70 A l c b (fun i j => nextB l i j) :=
  ⟨enters_of Try.func70 (by kernel_rfl) rfl, fun W hW i j hi _ => next_any l A c i j W hW hi⟩
theorem end_plots (A : Option Addr) (l : List Int) (c b : Nat) (hb : b ≤ 6) : Plots 69 A l c b (fun i j => endB l i j) :=
  ⟨enters_of Try.func69 (by kernel_rfl) rfl, fun W hW i j hi hj => end_any l A c i j W hW hi (by omega) (by omega)⟩
end Go.Proofs.Ytnhbkopgbibcgaa
