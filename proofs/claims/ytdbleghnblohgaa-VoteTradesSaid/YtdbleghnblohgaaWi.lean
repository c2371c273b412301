/- The law VoteTrades: its walk. -/
import Derived.Test.YtdbleghnblohgaaVv
import Derived.Test.YtdbleghnblohgaaWg
import Derived.Test.YtdbleghnblohgaaWh
import Derived.Test.YtdbleghnblohgaaWj
namespace Go.Proofs.Ytdbleghnblohgaa
open Go.RowKit Go.Shelf

set_option maxHeartbeats 2000000 in
theorem vtrades_many (n : Int) (l : List Int) (A : Option Addr) (cp : Nat) (a b c d : Int) (w : World) (h60 : 60 < l.length) :
    Calls Try.prog 8 #[.int .i64 n, .slice A l.length cp, .agg #[.int .i64 a, .int .i64 b, .int .i64 c, .int .i64 d]] w fun e w' => e = .returned (.bool true) ∧ Below w.heap.size w w' := by
  go_enter Try.func8, Try.ntmps8
  go_wp2_with (go_at_call 16; refine (alive_any _).mono ?_; rintro e w2 ⟨rfl, hb2⟩)
  go_ret
  exact ⟨rfl, belowC ((Below.refl _ _).alloc (Nat.le_refl _) _) hb2⟩

/-- What the walk asks of the four calls: both sides answer alike. -/
structure Alike (n : Int) (l : List Int) (A : Option Addr) (cp : Nat) (a b c d : Int) (w : World) (x y z u k : Int) (jb : Bool) (je : Int) : Prop where
  t1 : ∀ W, Below w.heap.size w W → Calls Try.prog 29 #[.int .i64 n, .slice A l.length cp] W fun e w' => e = .returned (.tuple #[.agg #[.int .i64 x, .int .i64 y, .int .i64 z, .int .i64 u], .int .i64 k]) ∧ Below W.heap.size W w'
  t2 : ∀ W, Below w.heap.size w W → Calls Try.prog 30 #[.int .i64 n, .slice A l.length cp] W fun e w' => e = .returned (.tuple #[.agg #[.int .i64 x, .int .i64 y, .int .i64 z, .int .i64 u], .int .i64 k]) ∧ Below W.heap.size W w'
  j1 : ∀ W, Below w.heap.size w W → Calls Try.prog 31 #[.int .i64 n, .slice A l.length cp, .agg #[.int .i64 a, .int .i64 b, .int .i64 c, .int .i64 d]] W fun e w' => e = .returned (.tuple #[.bool jb, .int .i64 je]) ∧ Below W.heap.size W w'
  j2 : ∀ W, Below w.heap.size w W → Calls Try.prog 32 #[.int .i64 n, .slice A l.length cp, .agg #[.int .i64 a, .int .i64 b, .int .i64 c, .int .i64 d]] W fun e w' => e = .returned (.tuple #[.bool jb, .int .i64 je]) ∧ Below W.heap.size W w'

set_option maxHeartbeats 4000000 in
theorem vtrades_few (n : Int) (l : List Int) (A : Option Addr) (cp : Nat) (a b c d : Int) (w : World) (h60 : l.length ≤ 60) (x y z u k : Int) (jb : Bool) (je : Int) (h : Alike n l A cp a b c d w x y z u k jb je) :
    Calls Try.prog 8 #[.int .i64 n, .slice A l.length cp, .agg #[.int .i64 a, .int .i64 b, .int .i64 c, .int .i64 d]] w fun e w' => e = .returned (.bool true) ∧ Below w.heap.size w w' := by
  have HB : Off (∀ o, Below w.heap.size w (w.alloc o)) := ⟨fun o => (Below.refl _ _).alloc (Nat.le_refl _) _⟩
  have f0 := four_cell w a b c d 0 (by omega)
  have f1 := four_cell w a b c d 1 (by omega)
  have f2 := four_cell w a b c d 2 (by omega)
  have f3 := four_cell w a b c d 3 (by omega)
  change _ = some (Value.int .i64 a) at f0
  change _ = some (Value.int .i64 b) at f1
  change _ = some (Value.int .i64 c) at f2
  change _ = some (Value.int .i64 d) at f3
  have heq := fun w => eq_four x y z u w
  go_enter Try.func8, Try.ntmps8
  go_wp2_with fail
  refine (h.t1 _ (HB.out _)).mono ?_
  rintro e w1 ⟨rfl, hb1⟩
  have B1 := belowC (HB.out _) hb1
  have B1' := belowA B1 (.cells #[.int .i64 x, .int .i64 y, .int .i64 z, .int .i64 u] 43)
  have g0 := four_cell w1 x y z u 0 (by omega)
  have g1 := four_cell w1 x y z u 1 (by omega)
  have g2 := four_cell w1 x y z u 2 (by omega)
  have g3 := four_cell w1 x y z u 3 (by omega)
  change _ = some (Value.int .i64 x) at g0
  change _ = some (Value.int .i64 y) at g1
  change _ = some (Value.int .i64 z) at g2
  change _ = some (Value.int .i64 u) at g3
  have hA1 : Below w1.heap.size w1 (w1.alloc (.cells #[.int .i64 x, .int .i64 y, .int .i64 z, .int .i64 u] 43)) := (Below.refl _ _).alloc (Nat.le_refl _) _
  have f0 := cellB hA1 (cellB hb1 f0)
  have f1 := cellB hA1 (cellB hb1 f1)
  have f2 := cellB hA1 (cellB hb1 f2)
  have f3 := cellB hA1 (cellB hb1 f3)
  go_wp2_with fail
  refine (h.t2 _ B1').mono ?_
  rintro e w2 ⟨rfl, hb2⟩
  have B2 := belowC B1' hb2
  have hA2 : Below w2.heap.size w2 (w2.alloc (.cells #[.int .i64 x, .int .i64 y, .int .i64 z, .int .i64 u] 43)) := (Below.refl _ _).alloc (Nat.le_refl _) _
  have B2' := belowA B2 (.cells #[.int .i64 x, .int .i64 y, .int .i64 z, .int .i64 u] 43)
  have k0 := four_cell w2 x y z u 0 (by omega)
  have k1 := four_cell w2 x y z u 1 (by omega)
  have k2 := four_cell w2 x y z u 2 (by omega)
  have k3 := four_cell w2 x y z u 3 (by omega)
  change _ = some (Value.int .i64 x) at k0
  change _ = some (Value.int .i64 y) at k1
  change _ = some (Value.int .i64 z) at k2
  change _ = some (Value.int .i64 u) at k3
  have f0 := cellB hA2 (cellB hb2 f0)
  have f1 := cellB hA2 (cellB hb2 f1)
  have f2 := cellB hA2 (cellB hb2 f2)
  have f3 := cellB hA2 (cellB hb2 f3)
  have g0 := cellB hA2 (cellB hb2 g0)
  have g1 := cellB hA2 (cellB hb2 g1)
  have g2 := cellB hA2 (cellB hb2 g2)
  have g3 := cellB hA2 (cellB hb2 g3)
  clear hb1 hb2 hA1 B1 B1'
  go_wp2_with fail
  clear g0 g1 g2 g3 k0 k1 k2 k3
  refine (h.j1 _ B2').mono ?_
  rintro e w3 ⟨rfl, hb3⟩
  have B3 := belowC B2' hb3
  have f0 := cellB hb3 f0
  have f1 := cellB hb3 f1
  have f2 := cellB hb3 f2
  have f3 := cellB hb3 f3
  clear hb3
  go_wp2_with fail
  refine (h.j2 _ B3).mono ?_
  rintro e w4 ⟨rfl, hb4⟩
  have B4 := belowC B3 hb4
  clear h
  cases jb
  · go_wp2_with (go_at_call 16; refine (alive_any _).mono ?_; rintro e w5 ⟨rfl, hb5⟩)
    go_ret
    exact ⟨rfl, belowC B4 hb5⟩
  · go_wp2_with (go_at_call 16; refine (alive_any _).mono ?_; rintro e w5 ⟨rfl, hb5⟩)
    go_ret
    exact ⟨rfl, belowC B4 hb5⟩

theorem alike_rule (n : Int) (l : List Int) (A : Option Addr) (cp : Nat) (a b c d : Int) (w : World) (hl : IntsAt w A l) (hlc : l.length ≤ cp) (hr : isRule n l = false) : Alike n l A cp a b c d w 0 0 0 0 2 false 2 :=
  ⟨fun W hW => Trade_no n l A cp W (hl.below hW) hlc hr, fun W hW => rTrade_no n l A cp W (hl.below hW) hlc hr, fun W hW => IsTrade_rule n l a b c d A cp W (hl.below hW) hlc hr, fun W hW => rIsTrade_rule n l a b c d A cp W (hl.below hW) hlc hr⟩
theorem tradeVal_shape (p : Int → Bool) (n : Nat) : ∃ x y z u k : Int, tradeVal p n = .tuple #[.agg #[.int .i64 x, .int .i64 y, .int .i64 z, .int .i64 u], .int .i64 k] := by
  unfold tradeVal
  cases tradeOf p n with
  | none => exact ⟨_, _, _, _, _, rfl⟩
  | some t => exact ⟨_, _, _, _, _, rfl⟩
theorem alike_any (m : Nat) (l : List Int) (A : Option Addr) (cp : Nat) (a b c d : Int) (w : World) (hl : IntsAt w A l) (hlc : l.length ≤ cp) (hr : isRule m l = true) : ∃ x y z u k jb je, Alike m l A cp a b c d w x y z u k jb je := by
  obtain ⟨⟨m', e, hm1, hm⟩, _⟩ := isRule_range hr
  have h5 : m ≤ 5 := by omega
  have hp5 := pow_32 (m := m) h5
  obtain ⟨x, y, z, u, k, hv⟩ := tradeVal_shape (ruleB l) m
  by_cases hin : inFour m a b c d
  · refine ⟨x, y, z, u, k, tradeI (ruleB l) a b c d, 0, fun W hW => ?_, fun W hW => ?_, fun W hW => ?_, fun W hW => ?_⟩
    · exact hv ▸ Trade_yes m l A cp W (hl.below hW) hlc hr
    · exact hv ▸ rTrade_yes m l A cp W (hl.below hW) hlc hr
    · have := IsTrade_in m l a b c d A cp W (hl.below hW) hlc hr hin
      obtain ⟨⟨i0, j0⟩, ⟨i1, j1⟩, ⟨i2, j2⟩, i3, j3⟩ := hin
      have e : tradeP (ruleB l) a b c d = tradeI (ruleB l) a b c d := (tradeP_I (ruleB l) ⟨i0, by omega⟩ ⟨i1, by omega⟩ ⟨i2, by omega⟩ ⟨i3, by omega⟩).symm
      rwa [e] at this
    · have := rIsTrade_any m l a b c d A cp W (hl.below hW) hlc hr
      rwa [judged_in hin] at this
  · refine ⟨x, y, z, u, k, false, 2, fun W hW => ?_, fun W hW => ?_, fun W hW => ?_, fun W hW => ?_⟩
    · exact hv ▸ Trade_yes m l A cp W (hl.below hW) hlc hr
    · exact hv ▸ rTrade_yes m l A cp W (hl.below hW) hlc hr
    · exact IsTrade_out m l a b c d A cp W (hl.below hW) hlc hr hin
    · have := rIsTrade_any m l a b c d A cp W (hl.below hW) hlc hr
      rwa [judged_out hin] at this
end Go.Proofs.Ytdbleghnblohgaa
