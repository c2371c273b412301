/- Contracts: Other. -/
import Derived.Test.YtdbleghnblohgaaVj
import Derived.Laws.EntriesVeiled
namespace Go.Proofs.Ytdbleghnblohgaa
open Go.RowKit Go.Shelf

theorem not_all : ∀ m : Fin 9, ∀ s : Fin 256, s.val < 2 ^ m.val → bits .andNot .i64 ((2 : Int) ^ m.val - 1) ((s.val : Nat) : Int) = 2 ^ m.val - 1 - ((s.val : Nat) : Int) := by decide +kernel
theorem not_set (m : Nat) (hm : m ≤ 8) (s : Int) (h0 : 0 ≤ s) (h1 : s < 2 ^ m) : bits .andNot .i64 ((2 : Int) ^ m - 1) s = 2 ^ m - 1 - s := by
  obtain ⟨t, rfl⟩ := Int.eq_ofNat_of_zero_le h0
  have h2 := (pow_le m hm).2
  exact not_all ⟨m, by omega⟩ ⟨t, by omega⟩ (nat_lt_pow h1)
/-- What wins by the other rule: a set whose absence loses. -/
def otherB (l : List Int) (m : Nat) (s : Int) : Bool := !ruleB l (2 ^ m - 1 - s)

set_option maxHeartbeats 1000000 in
theorem other1 (m : Nat) (hm1 : 1 ≤ m) (hm : m ≤ 8) (s : Int) (l : List Int) (A : Option Addr) (c Br B1 B2 : Nat) (w : World) (hl : IntsAt w A l) (hsm : Off (Small l)) (h0 : 0 ≤ s) (h1 : s < 2 ^ m)
    (hc : w.cell? ⟨Br, 0, none⟩ = some (.slice A l.length c)) (hf : w.cell? ⟨B1, 0, none⟩ = some (.func (.func 75) #[] #[.pointer (some ⟨Br, 0, none⟩)])) (hn : w.cell? ⟨B2, 0, none⟩ = some (.int .i64 m)) :
    Calls Try.prog 66 #[.int .i64 s, .pointer (some ⟨B1, 0, none⟩), .pointer (some ⟨B2, 0, none⟩)] w fun e w' => e = .returned (.bool (otherB l m s)) ∧ Below w.heap.size w w' := by
  have hp := pow_le m hm
  have hns := not_set m hm s h0 h1
  have hw1 : IntKind.i64.wrap ((2 : Int) ^ m - 1) = 2 ^ m - 1 := by rw [IntKind.wrap_i64]; omega
  have hw2 : IntKind.i64.wrap ((2 : Int) ^ m) = 2 ^ m := by rw [IntKind.wrap_i64]; omega
  have hcall : Off (∀ W, Below w.heap.size w W → Calls Try.prog 75 #[.int .i64 (2 ^ m - 1 - s), .pointer (some ⟨Br, 0, none⟩)] W fun e w' => e = .returned (.bool (ruleB l (2 ^ m - 1 - s))) ∧ Below W.heap.size W w') :=
    ⟨fun W hW => rules1_any (2 ^ m - 1 - s) l A c Br W (hl.below hW) hsm (by omega) (by omega) (cellB hW hc)⟩
  have HO : Off (otherB l m s = !ruleB l (2 ^ m - 1 - s)) := ⟨rfl⟩
  go_enter Try.func66, Try.ntmps66
  go_wp2
  go_region_held3 (fun w' => w'.cell? ⟨B1, 0, none⟩ = some (.func (.func 75) #[] #[.pointer (some ⟨Br, 0, none⟩)]) ∧ w'.cell? ⟨B2, 0, none⟩ = some (.int .i64 m))
    (first | go_keep | exact ⟨cellB hb1 hf, cellB hb1 hn⟩)
    (first | (go_at_call 75; refine (hcall.out _ (Below.refl _ _).drew).mono ?_; rintro e w1 ⟨rfl, hb1⟩))
  go_wp2
  go_ret
  exact ⟨by rw [HO.out]; rfl, (Below.refl _ _).drew.trans hb1⟩

structure OtherAt (w : World) (m : Nat) (A : Option Addr) (l : List Int) (c Br B1 B2 : Nat) : Prop where
  ints : IntsAt w A l
  row : w.cell? ⟨Br, 0, none⟩ = some (.slice A l.length c)
  fn : w.cell? ⟨B1, 0, none⟩ = some (.func (.func 75) #[] #[.pointer (some ⟨Br, 0, none⟩)])
  num : w.cell? ⟨B2, 0, none⟩ = some (.int .i64 m)
theorem other1_tells (m : Nat) (hm1 : 1 ≤ m) (hm : m ≤ 8) (l : List Int) (A : Option Addr) (c Br B1 B2 : Nat) (w : World) (hsm : Off (Small l)) (h : OtherAt w m A l c Br B1 B2) :
    Tells Try.prog 66 #[.pointer (some ⟨B1, 0, none⟩), .pointer (some ⟨B2, 0, none⟩)] m (otherB l m) w :=
  ⟨fun W s hW h0 h1 => other1 m hm1 hm s l A c Br B1 B2 W (h.ints.below hW) hsm h0 h1 (cellB hW h.row) (cellB hW h.fn) (cellB hW h.num)⟩

set_option maxHeartbeats 1000000 in
theorem Other_no (n : Int) (l : List Int) (A : Option Addr) (c : Nat) (w : World) (hl : IntsAt w A l) (hlc : l.length ≤ c) (hr : isRule n l = false) :
    Calls Try.prog 36 #[.int .i64 n, .slice A l.length c] w fun e w' => e = .returned (.tuple #[.slice none 0 0, .int .i64 2]) ∧ Below w.heap.size w w' := by
  have HB : Off (∀ o, Below w.heap.size w (w.alloc o)) := ⟨fun o => (Below.refl _ _).alloc (Nat.le_refl _) _⟩
  go_enter Try.func36, Try.ntmps36
  go_wp2_with (go_at_call 54; refine (hr ▸ ruled_any n l A c _ (hl.below (HB.out _)) hlc).mono ?_; rintro e w1 ⟨rfl, hb1⟩)
  go_ret2
  exact ⟨rfl, (HB.out _).trans (hb1.mono (HB.out _).size)⟩

set_option maxHeartbeats 1000000 in
theorem Other_yes (m : Nat) (l : List Int) (A : Option Addr) (c : Nat) (w : World) (hl : IntsAt w A l) (hlc : l.length ≤ c) (hr : isRule m l = true) :
    Calls Try.prog 36 #[.int .i64 m, .slice A l.length c] w fun e w' => ∃ v, e = .returned (.tuple #[v, .int .i64 0]) ∧ Own w' w.heap.size v (leastTo (otherB l m) m (2 ^ m)) ∧ Below w.heap.size w w' := by
  obtain ⟨⟨m', e, hm1, hm⟩, _⟩ := isRule_range hr
  obtain rfl : m = m' := by omega
  have hsm := Off.mk (small_of hr)
  have HB : Off (∀ o, Below w.heap.size w (w.alloc o)) := ⟨fun o => (Below.refl _ _).alloc (Nat.le_refl _) _⟩
  have eg := enters_of Try.func66 (by kernel_rfl) rfl
  clear e
  go_enter Try.func36, Try.ntmps36
  go_wp2_with (first
    | (go_at_call 54; refine (hr ▸ ruled_any m l A c _ (hl.below (HB.out _)) hlc).mono ?_; rintro e w1 ⟨rfl, hb1⟩; have hn1 := cellB hb1 (show (w.alloc (.cells #[.int .i64 (m : Int)] 3)).cell? ⟨w.heap.size, 0, none⟩ = some (.int .i64 (m : Int)) by go_simp))
    | (go_at_call 55; refine (rules_any A l.length c _).mono ?_; rintro e w2 ⟨rfl, hc2, hb2⟩; have hn2 := cellB hb2 hn1; have hlt2 : w.heap.size < w2.heap.size := (by have := hb1.size; have := hb2.size; simp at *; omega)))
  have hw1 : Below w.heap.size w w1 := (HB.out _).trans (hb1.mono (HB.out _).size)
  have hw2 : Below w.heap.size w w2 := hw1.trans (hb2.mono hw1.size)
  have hw3 := hw2.alloc hw2.size (Obj.cells #[Value.func (.func 75) #[] #[.pointer (some ⟨w1.heap.size, 0, none⟩)]] 65)
  have hO : OtherAt (w2.alloc (Obj.cells #[Value.func (.func 75) #[] #[.pointer (some ⟨w1.heap.size, 0, none⟩)]] 65)) m A l c w1.heap.size w2.heap.size w.heap.size :=
    ⟨hl.below hw3, cellB ((Below.refl _ _).alloc (Nat.le_refl _) _) hc2, by go_simp, cellB ((Below.refl _ _).alloc (Nat.le_refl _) _) hn2⟩
  refine (least_any 66 _ (otherB l m) m eg _ (other1_tells m hm1 (by omega) l A c _ _ _ _ hsm hO) (by omega)).mono ?_
  rintro e w4 ⟨v, rfl, hown, hb4⟩
  go_wp2
  go_ret2
  exact ⟨_, rfl, own_mono hown hw3.size, hw3.trans (hb4.mono hw3.size)⟩
end Go.Proofs.Ytdbleghnblohgaa
