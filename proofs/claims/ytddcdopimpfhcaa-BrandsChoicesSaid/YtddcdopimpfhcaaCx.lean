/- The law BrandsChoices: its walk, given the bound on the number of triangles. -/
import Derived.Test.YtddcdopimpfhcaaCw
namespace Go.Proofs.Ytddcdopimpfhcaa
open Go.RowKit Go.Shelf

/-- A brand with at most ten corners has at most ten triangles. -/
def FewTris : Prop := ∀ (n : Nat) (l : List (Int × Int)), n ≤ 10 → brandB n l = true → (trisOf (jn n l) n).length ≤ 10
theorem choices_many (n : Int) (l : List (Int × Int)) (A : Option Addr) (c : Nat) (i k : Int) (w : World) (h : 60 < l.length) :
    Calls Try.prog 3 #[.int .i64 n, .slice A l.length c, .int .i64 i, .int .i64 k] w fun e w' => e = .returned (.bool true) ∧ Below w.heap.size w w' := by
  go_enter Try.func3, Try.ntmps3
  go_wp2_with (go_at_call 17; refine (alive_any _).mono ?_; rintro e w2 ⟨rfl, hb2⟩)
  go_ret
  exact ⟨rfl, hb2⟩
theorem choices_great (n : Int) (l : List (Int × Int)) (A : Option Addr) (c : Nat) (i k : Int) (w : World) (h60 : l.length ≤ 60) (h10 : 10 < n) (h12 : n ≤ 12) :
    Calls Try.prog 3 #[.int .i64 n, .slice A l.length c, .int .i64 i, .int .i64 k] w fun e w' => e = .returned (.bool true) ∧ Below w.heap.size w w' := by
  go_enter Try.func3, Try.ntmps3
  go_wp2_with (go_at_call 17; refine (alive_any _).mono ?_; rintro e w2 ⟨rfl, hb2⟩)
  go_ret
  exact ⟨rfl, hb2⟩
theorem both_choices (hF : FewTris) (n : Int) (l : List (Int × Int)) (i k : Int) (hn : ¬ (10 < n ∧ n ≤ 12)) : ∃ x e : Int, (∀ A c w, PairsI w A l → l.length ≤ c → Calls Try.prog 18 #[.int .i64 n, .slice A l.length c, .int .i64 i, .int .i64 k] w fun r w' => r = .returned (.tuple #[.int .i64 x, .int .i64 e]) ∧ Below w.heap.size w w') ∧
    ∀ A c w, PairsI w A l → Calls Try.prog 19 #[.int .i64 n, .slice A l.length c, .int .i64 i, .int .i64 k] w fun r w' => r = .returned (.tuple #[.int .i64 x, .int .i64 e]) ∧ Below w.heap.size w w' := by
  by_cases h : brandB n l = true ∧ (0 ≤ i ∧ i < n) ∧ (0 ≤ k ∧ k < n) ∧ i ≠ k
  · obtain ⟨hb, h1, h2, h3⟩ := h
    have hr := brand_range hb
    obtain ⟨m, rfl⟩ : ∃ m : Nat, n = (m : Int) := ⟨n.toNat, by omega⟩
    obtain ⟨a, rfl⟩ : ∃ a : Nat, i = (a : Int) := ⟨i.toNat, by omega⟩
    obtain ⟨b, rfl⟩ : ∃ b : Nat, k = (b : Int) := ⟨k.toNat, by omega⟩
    have ht := hF m l (by omega) hb
    exact ⟨_, _, fun A c w hx hlc => choices_yes m l A c a b hb (by omega) (by omega) (by omega) ht w hx hlc, fun A c w hx => rchoices_yes m l A c a b hb (by omega) (by omega) (by omega) ht w hx⟩
  · exact ⟨_, _, fun A c w hx hlc => choices_arg n l A c i k h w hx hlc, fun A c w hx => rchoices_arg n l A c i k (by rw [← brand_eq]; exact h) w hx⟩
set_option maxHeartbeats 1000000 in
theorem choices_few (hF : FewTris) (n : Int) (l : List (Int × Int)) (A : Option Addr) (c : Nat) (i k : Int) (w : World) (hx : PairsI w A l) (hlc : l.length ≤ c) (h60 : l.length ≤ 60) (hn : ¬ (10 < n ∧ n ≤ 12)) :
    Calls Try.prog 3 #[.int .i64 n, .slice A l.length c, .int .i64 i, .int .i64 k] w fun e w' => e = .returned (.bool true) ∧ Below w.heap.size w w' := by
  obtain ⟨x, e, CA, CB⟩ := both_choices hF n l i k hn
  have C1 := Off.mk (CA A c w hx hlc)
  have C2 := Off.mk (fun W (hW : Below w.heap.size w W) => CB A c W (hx.below hW))
  clear CA CB hx
  by_cases h10 : 10 < n
  · have h12 : ¬ n ≤ 12 := fun e => hn ⟨h10, e⟩
    clear hn
    go_enter Try.func3, Try.ntmps3
    go_wp2_with (first
      | (go_at_call 18; refine C1.out.mono ?_; rintro e w1 ⟨rfl, hb1⟩; have HB1 := Off.mk hb1; clear hb1)
      | (go_at_call 19; refine (C2.out _ HB1.out).mono ?_; rintro e w2 ⟨rfl, hb2⟩; have HB2 := Off.mk (belowC HB1.out hb2); clear hb2)
      | (go_at_call 17; refine (alive_any _).mono ?_; rintro e w3 ⟨rfl, hb3⟩))
    go_ret
    exact ⟨rfl, belowC HB2.out hb3⟩
  · clear hn
    go_enter Try.func3, Try.ntmps3
    go_wp2_with (first
      | (go_at_call 18; refine C1.out.mono ?_; rintro e w1 ⟨rfl, hb1⟩; have HB1 := Off.mk hb1; clear hb1)
      | (go_at_call 19; refine (C2.out _ HB1.out).mono ?_; rintro e w2 ⟨rfl, hb2⟩; have HB2 := Off.mk (belowC HB1.out hb2); clear hb2)
      | (go_at_call 17; refine (alive_any _).mono ?_; rintro e w3 ⟨rfl, hb3⟩))
    go_ret
    exact ⟨rfl, belowC HB2.out hb3⟩
theorem choices_walk_of (hF : FewTris) (n : Int) (l : List (Int × Int)) (A : Option Addr) (c : Nat) (i k : Int) (w : World) (hx : l.length ≤ 140737488351232 → PairsI w A l) (hlc : l.length ≤ c) (_ : A = none → c = 0) :
    Calls Try.prog 3 #[.int .i64 n, .slice A l.length c, .int .i64 i, .int .i64 k] w fun e w' => e = .returned (.bool true) ∧ Below w.heap.size w w' := by
  by_cases h60 : l.length ≤ 60
  · by_cases hn : 10 < n ∧ n ≤ 12
    · exact choices_great n l A c i k w h60 hn.1 hn.2
    · exact choices_few hF n l A c i k w (hx (by omega)) hlc h60 hn
  · exact choices_many n l A c i k w (by omega)
end Go.Proofs.Ytddcdopimpfhcaa
