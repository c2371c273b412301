/- The law VoteEither: its walk. -/
import Derived.Test.YtdbleghnblohgaaVv
import Derived.Test.YtdbleghnblohgaaWj
import Derived.Test.YtdbleghnblohgaaQd
namespace Go.Proofs.Ytdbleghnblohgaa
open Go.RowKit Go.Shelf

set_option maxHeartbeats 2000000 in
theorem either_many (n : Int) (l : List Int) (A : Option Addr) (cp : Nat) (a b c d : Int) (w : World) (h60 : 60 < l.length) :
    Calls Try.prog 9 #[.int .i64 n, .slice A l.length cp, .agg #[.int .i64 a, .int .i64 b, .int .i64 c, .int .i64 d]] w fun e w' => e = .returned (.bool true) ∧ Below w.heap.size w w' := by
  go_enter Try.func9, Try.ntmps9
  go_wp2_with (go_at_call 16; refine (alive_any _).mono ?_; rintro e w2 ⟨rfl, hb2⟩)
  go_ret
  exact ⟨rfl, belowC ((Below.refl _ _).alloc (Nat.le_refl _) _) hb2⟩

set_option maxHeartbeats 4000000 in
theorem either_rule (n : Int) (l : List Int) (A : Option Addr) (cp : Nat) (a b c d : Int) (w : World) (hl : IntsAt w A l) (hlc : l.length ≤ cp) (h60 : l.length ≤ 60) (hr : isRule n l = false) :
    Calls Try.prog 9 #[.int .i64 n, .slice A l.length cp, .agg #[.int .i64 a, .int .i64 b, .int .i64 c, .int .i64 d]] w fun e w' => e = .returned (.bool true) ∧ Below w.heap.size w w' := by
  have HB : Off (∀ o, Below w.heap.size w (w.alloc o)) := ⟨fun o => (Below.refl _ _).alloc (Nat.le_refl _) _⟩
  go_enter Try.func9, Try.ntmps9
  go_wp2_with fail
  refine (Weights_no n l A cp _ (hl.below (HB.out _)) hlc hr).mono ?_
  rintro e w1 ⟨rfl, hb1⟩
  have B1 := belowC (HB.out _) hb1
  have hW1 := box_body w1 0 none 0 0
  have hA1 : Below w1.heap.size w1 (w1.alloc (.cells #[.int .i64 0, .slice none 0 0] 24)) := (Below.refl _ _).alloc (Nat.le_refl _) _
  have B1' := belowC B1 hA1
  go_wp2_with fail
  refine (Trade_no n l A cp _ (hl.below B1') hlc hr).mono ?_
  rintro e w2 ⟨rfl, hb2⟩
  have B2 := belowC B1' hb2
  have hA2 : Below w2.heap.size w2 (w2.alloc (.cells #[.int .i64 0, .int .i64 0, .int .i64 0, .int .i64 0] 43)) := (Below.refl _ _).alloc (Nat.le_refl _) _
  have B2' := belowC B2 hA2
  have hW2 := (hW1.below hb2).below hA2
  have k0 := four_cell w2 0 0 0 0 0 (by omega)
  have k1 := four_cell w2 0 0 0 0 1 (by omega)
  have k2 := four_cell w2 0 0 0 0 2 (by omega)
  have k3 := four_cell w2 0 0 0 0 3 (by omega)
  change _ = some (Value.int .i64 0) at k0
  change _ = some (Value.int .i64 0) at k1
  change _ = some (Value.int .i64 0) at k2
  change _ = some (Value.int .i64 0) at k3
  go_wp2_with fail
  refine (rIsRule n l A cp _ (hl.below B2') hlc).mono ?_
  rw [hr]
  rintro e w3 ⟨rfl, hb3⟩
  have B3 := belowC B2' hb3
  have hW3 := hW2.below hb3
  have hq := hW3.quota
  have hs := hW3.weights
  have k0 := cellB hb3 k0
  have k1 := cellB hb3 k1
  have k2 := cellB hb3 k2
  have k3 := cellB hb3 k3
  have heq := fun w => eq_four 0 0 0 0 w
  clear hW1 hW2 hW3 hb1 hb2 hb3 hA1 hA2
  go_wp2_with (go_at_call 16; refine (alive_any _).mono ?_; rintro e w5 ⟨rfl, hb5⟩)
  go_ret
  exact ⟨rfl, belowC B3 hb5⟩

set_option maxHeartbeats 4000000 in
theorem either_trade (n : Int) (l : List Int) (A : Option Addr) (cp : Nat) (a b c d : Int) (w : World) (hl : IntsAt w A l) (hlc : l.length ≤ cp) (h60 : l.length ≤ 60) (hr : isRule n l = true) (x y z u : Int) (jb : Bool) (je : Int) (hj : jb = true → je = 0)
    (h22 : ∀ W, Below w.heap.size w W → Calls Try.prog 22 #[.int .i64 n, .slice A l.length cp] W fun e w' => e = .returned (.tuple #[.agg #[.int .i64 0, .slice none 0 0], .int .i64 10]) ∧ Below W.heap.size W w')
    (h29 : ∀ W, Below w.heap.size w W → Calls Try.prog 29 #[.int .i64 n, .slice A l.length cp] W fun e w' => e = .returned (.tuple #[.agg #[.int .i64 x, .int .i64 y, .int .i64 z, .int .i64 u], .int .i64 0]) ∧ Below W.heap.size W w')
    (h31 : ∀ W, Below w.heap.size w W → Calls Try.prog 31 #[.int .i64 n, .slice A l.length cp, .agg #[.int .i64 a, .int .i64 b, .int .i64 c, .int .i64 d]] W fun e w' => e = .returned (.tuple #[.bool jb, .int .i64 je]) ∧ Below W.heap.size W w')
    (h32 : ∀ W, Below w.heap.size w W → Calls Try.prog 31 #[.int .i64 n, .slice A l.length cp, .agg #[.int .i64 x, .int .i64 y, .int .i64 z, .int .i64 u]] W fun e w' => e = .returned (.tuple #[.bool true, .int .i64 0]) ∧ Below W.heap.size W w') :
    Calls Try.prog 9 #[.int .i64 n, .slice A l.length cp, .agg #[.int .i64 a, .int .i64 b, .int .i64 c, .int .i64 d]] w fun e w' => e = .returned (.bool true) ∧ Below w.heap.size w w' := by
  have HB : Off (∀ o, Below w.heap.size w (w.alloc o)) := ⟨fun o => (Below.refl _ _).alloc (Nat.le_refl _) _⟩
  have f0 := four_cell w a b c d 0 (by omega)
  have f1 := four_cell w a b c d 1 (by omega)
  have f2 := four_cell w a b c d 2 (by omega)
  have f3 := four_cell w a b c d 3 (by omega)
  change _ = some (Value.int .i64 a) at f0
  change _ = some (Value.int .i64 b) at f1
  change _ = some (Value.int .i64 c) at f2
  change _ = some (Value.int .i64 d) at f3
  go_enter Try.func9, Try.ntmps9
  go_wp2_with fail
  refine (h22 _ (HB.out _)).mono ?_
  rintro e w1 ⟨rfl, hb1⟩
  have B1 := belowC (HB.out _) hb1
  have hA1 : Below w1.heap.size w1 (w1.alloc (.cells #[.int .i64 0, .slice none 0 0] 24)) := (Below.refl _ _).alloc (Nat.le_refl _) _
  have B1' := belowC B1 hA1
  have f0 := cellB hA1 (cellB hb1 f0)
  have f1 := cellB hA1 (cellB hb1 f1)
  have f2 := cellB hA1 (cellB hb1 f2)
  have f3 := cellB hA1 (cellB hb1 f3)
  go_wp2_with fail
  refine (h29 _ B1').mono ?_
  rintro e w2 ⟨rfl, hb2⟩
  have B2 := belowC B1' hb2
  have hA2 : Below w2.heap.size w2 (w2.alloc (.cells #[.int .i64 x, .int .i64 y, .int .i64 z, .int .i64 u] 43)) := (Below.refl _ _).alloc (Nat.le_refl _) _
  have B2' := belowC B2 hA2
  have k0 := four_cell w2 x y z u 0 (by omega)
  have k1 := four_cell w2 x y z u 1 (by omega)
  have k2 := four_cell w2 x y z u 2 (by omega)
  have k3 := four_cell w2 x y z u 3 (by omega)
  change _ = some (Value.int .i64 x) at k0
  change _ = some (Value.int .i64 y) at k1
  change _ = some (Value.int .i64 z) at k2
  change _ = some (Value.int .i64 u) at k3
  have f0 := cellB hA2 (cellB hb2 f0)
  have f1 := cellB hA2 (cellB hb2 f1)
  have f2 := cellB hA2 (cellB hb2 f2)
  have f3 := cellB hA2 (cellB hb2 f3)
  go_wp2_with fail
  refine (rIsRule n l A cp _ (hl.below B2') hlc).mono ?_
  rw [hr]
  rintro e w3 ⟨rfl, hb3⟩
  have B3 := belowC B2' hb3
  have k0 := cellB hb3 k0
  have k1 := cellB hb3 k1
  have k2 := cellB hb3 k2
  have k3 := cellB hb3 k3
  have f0 := cellB hb3 f0
  have f1 := cellB hb3 f1
  have f2 := cellB hb3 f2
  have f3 := cellB hb3 f3
  clear hb1 hb2 hb3 hA1 hA2
  go_wp2_with fail
  refine (h31 _ B3).mono ?_
  rintro e w4 ⟨rfl, hb4⟩
  have B4 := belowC B3 hb4
  have k0 := cellB hb4 k0
  have k1 := cellB hb4 k1
  have k2 := cellB hb4 k2
  have k3 := cellB hb4 k3
  clear hb4 f0 f1 f2 f3
  cases jb
  · go_wp2_with fail
    refine (h32 _ B4).mono ?_
    rintro e w5 ⟨rfl, hb5⟩
    have B5 := belowC B4 hb5
    go_wp2_with (go_at_call 16; refine (alive_any _).mono ?_; rintro e w6 ⟨rfl, hb6⟩)
    go_ret
    exact ⟨rfl, belowC B5 hb6⟩
  · obtain rfl := hj rfl
    go_wp2_with fail
    refine (h32 _ B4).mono ?_
    rintro e w5 ⟨rfl, hb5⟩
    have B5 := belowC B4 hb5
    go_wp2_with (go_at_call 16; refine (alive_any _).mono ?_; rintro e w6 ⟨rfl, hb6⟩)
    go_ret
    exact ⟨rfl, belowC B5 hb6⟩

set_option maxHeartbeats 4000000 in
theorem either_weights (m : Nat) (l : List Int) (A : Option Addr) (cp : Nat) (a b c d : Int) (w : World) (hl : IntsAt w A l) (hlc : l.length ≤ cp) (h60 : l.length ≤ 60) (hr : isRule m l = true) (q : Int) (ls : List Int) (hls : ls.length = m) (hbody : bodyB q ls = true) (hleast : leastTo (winB q ls) ls.length (2 ^ ls.length) = l) (je : Int)
    (h22 : ∀ W, Below w.heap.size w W → Calls Try.prog 22 #[.int .i64 m, .slice A l.length cp] W fun e w' => ∃ v, e = .returned (.tuple #[.agg #[.int .i64 q, v], .int .i64 0]) ∧ Own w' W.heap.size v ls ∧ Below W.heap.size W w')
    (h29 : ∀ W, Below w.heap.size w W → Calls Try.prog 29 #[.int .i64 m, .slice A l.length cp] W fun e w' => e = .returned (.tuple #[.agg #[.int .i64 0, .int .i64 0, .int .i64 0, .int .i64 0], .int .i64 10]) ∧ Below W.heap.size W w')
    (h31 : ∀ W, Below w.heap.size w W → Calls Try.prog 31 #[.int .i64 m, .slice A l.length cp, .agg #[.int .i64 a, .int .i64 b, .int .i64 c, .int .i64 d]] W fun e w' => e = .returned (.tuple #[.bool false, .int .i64 je]) ∧ Below W.heap.size W w') :
    Calls Try.prog 9 #[.int .i64 m, .slice A l.length cp, .agg #[.int .i64 a, .int .i64 b, .int .i64 c, .int .i64 d]] w fun e w' => e = .returned (.bool true) ∧ Below w.heap.size w w' := by
  have HB : Off (∀ o, Below w.heap.size w (w.alloc o)) := ⟨fun o => (Below.refl _ _).alloc (Nat.le_refl _) _⟩
  obtain ⟨h8, _⟩ := Body.weights hbody
  have HL := Off.mk hleast
  have HS := Off.mk hls
  clear hleast hls
  have f0 := four_cell w a b c d 0 (by omega)
  have f1 := four_cell w a b c d 1 (by omega)
  have f2 := four_cell w a b c d 2 (by omega)
  have f3 := four_cell w a b c d 3 (by omega)
  change _ = some (Value.int .i64 a) at f0
  change _ = some (Value.int .i64 b) at f1
  change _ = some (Value.int .i64 c) at f2
  change _ = some (Value.int .i64 d) at f3
  go_enter Try.func9, Try.ntmps9
  go_wp2_with fail
  refine (h22 _ (HB.out _)).mono ?_
  rintro e w1 ⟨v1, rfl, hO1, hb1⟩
  have B1 := belowC (HB.out _) hb1
  obtain ⟨A1, c1, rfl, hI1, _⟩ := own_ints hO1 (by omega)
  have hW1 := box_body w1 q A1 ls.length c1
  have hA1 : Below w1.heap.size w1 (w1.alloc (.cells #[.int .i64 q, .slice A1 ls.length c1] 24)) := (Below.refl _ _).alloc (Nat.le_refl _) _
  have B1' := belowC B1 hA1
  have hI1 := hI1.below hA1
  clear hO1
  have f0 := cellB hA1 (cellB hb1 f0)
  have f1 := cellB hA1 (cellB hb1 f1)
  have f2 := cellB hA1 (cellB hb1 f2)
  have f3 := cellB hA1 (cellB hb1 f3)
  go_wp2_with fail
  refine (h29 _ B1').mono ?_
  rintro e w2 ⟨rfl, hb2⟩
  have B2 := belowC B1' hb2
  have hA2 : Below w2.heap.size w2 (w2.alloc (.cells #[.int .i64 0, .int .i64 0, .int .i64 0, .int .i64 0] 43)) := (Below.refl _ _).alloc (Nat.le_refl _) _
  have B2' := belowC B2 hA2
  have hI2 := (hI1.below hb2).below hA2
  have hW2 := (hW1.below hb2).below hA2
  have f0 := cellB hA2 (cellB hb2 f0)
  have f1 := cellB hA2 (cellB hb2 f1)
  have f2 := cellB hA2 (cellB hb2 f2)
  have f3 := cellB hA2 (cellB hb2 f3)
  go_wp2_with fail
  refine (rIsRule m l A cp _ (hl.below B2') hlc).mono ?_
  rw [hr]
  rintro e w3 ⟨rfl, hb3⟩
  have B3 := belowC B2' hb3
  have hI3 := hI2.below hb3
  have hW3 := hW2.below hb3
  have f0 := cellB hb3 f0
  have f1 := cellB hb3 f1
  have f2 := cellB hb3 f2
  have f3 := cellB hb3 f3
  clear hb1 hb2 hb3 hA1 hA2 hI1 hI2 hW1 hW2
  go_wp2_with fail
  refine (h31 _ B3).mono ?_
  rintro e w4 ⟨rfl, hb4⟩
  have B4 := belowC B3 hb4
  have hI4 := hI3.below hb4
  have hW4 := hW3.below hb4
  have hq4 := hW4.quota
  have hs4 := hW4.weights
  clear hb4 f0 f1 f2 f3 hI3 hW3
  go_wp2_with fail
  refine (Least_yes q ls A1 c1 _ hI4 hbody).mono ?_
  rw [HL.out]
  rintro e w5 ⟨v5, rfl, hO5, hb5⟩
  have B5 := belowC B4 hb5
  obtain ⟨A5, c5, rfl, hI5, _⟩ := own_ints hO5 (by omega)
  have hW5 := hW4.below hb5
  have hq5 := hW5.quota
  have hs5 := hW5.weights
  rw [HS.out] at hs5
  clear hO5 hq4 hs4 hb5
  go_wp2_with fail
  refine (same_any l l A5 A c5 cp _ hI5 (hl.below B5)).mono ?_
  rw [decide_eq_true rfl]
  rintro e w6 ⟨rfl, hb6⟩
  have B6 := belowC B5 hb6
  go_wp2_with (go_at_call 16; refine (alive_any _).mono ?_; rintro e w7 ⟨rfl, hb7⟩)
  go_ret
  exact ⟨rfl, belowC B6 hb7⟩

theorem IsTrade_pair (m : Nat) (l : List Int) (A : Option Addr) (cp : Nat) (a b c d : Int) (w : World) (hl : IntsAt w A l) (hlc : l.length ≤ cp) (hr : isRule m l = true) :
    ∃ jb je, (jb = true → je = 0 ∧ ∃ a' b' c' d' : Nat, Trades (ruleB l) m a' b' c' d') ∧ ∀ W, Below w.heap.size w W → Calls Try.prog 31 #[.int .i64 m, .slice A l.length cp, .agg #[.int .i64 a, .int .i64 b, .int .i64 c, .int .i64 d]] W fun e w' => e = .returned (.tuple #[.bool jb, .int .i64 je]) ∧ Below W.heap.size W w' := by
  by_cases hin : inFour m a b c d
  · exact ⟨tradeP (ruleB l) a b c d, 0, fun h => ⟨rfl, judged_trades hin h⟩, fun W hW => IsTrade_in m l a b c d A cp W (hl.below hW) hlc hr hin⟩
  · exact ⟨false, 2, fun h => (by cases h), fun W hW => IsTrade_out m l a b c d A cp W (hl.below hW) hlc hr hin⟩
theorem either_yes (m : Nat) (l : List Int) (A : Option Addr) (cp : Nat) (a b c d : Int) (w : World) (hl : IntsAt w A l) (hlc : l.length ≤ cp) (h60 : l.length ≤ 60) (hr : isRule m l = true) :
    Calls Try.prog 9 #[.int .i64 m, .slice A l.length cp, .agg #[.int .i64 a, .int .i64 b, .int .i64 c, .int .i64 d]] w fun e w' => e = .returned (.bool true) ∧ Below w.heap.size w w' := by
  obtain ⟨h1, h5, hmono, hz, hf⟩ := rule_bounds hr
  obtain ⟨jb, je, hj, h31⟩ := IsTrade_pair m l A cp a b c d w hl hlc hr
  have he := either h1 h5 hmono hz hf
  by_cases hs : 0 < (searchTo (ruleB l) m (9 * m)).1
  · have hw := search_sound h1 hs
    have ht := he.1 hs
    have hjb : jb = false := by
      cases jb
      · rfl
      · obtain ⟨_, _, _, _, _, t⟩ := hj rfl
        exact (weighs_no_trade hw t).elim
    subst hjb
    refine either_weights m l A cp a b c d w hl hlc h60 hr _ _ hw.len (weighs_body h1 h5 hw hf hz) (weighs_least hr hw) je (fun W hW => ?_) (fun W hW => ?_) h31
    · refine (Weights_yes m l A cp W (hl.below hW) hlc hr).mono ?_
      rintro e w' ⟨h | h, hb⟩
      · obtain ⟨_, v, e1, hO⟩ := h
        exact ⟨v, e1, hO, hb⟩
      · exact absurd hs h.1
    · have := Trade_yes m l A cp W (hl.below hW) hlc hr
      rw [tradeVal, ht] at this
      exact this
  · have ht : tradeOf (ruleB l) m ≠ none := fun e => hs (he.2 e)
    cases e : tradeOf (ruleB l) m with
    | none => exact absurd e ht
    | some t =>
      obtain ⟨x, y, z⟩ := t
      obtain ⟨u, hu, tt⟩ := trade_some e
      obtain ⟨hin, htp⟩ := trades_judged tt
      refine either_trade m l A cp a b c d w hl hlc h60 hr x y z u jb je (fun h => (hj h).1) (fun W hW => ?_) (fun W hW => ?_) h31 (fun W hW => ?_)
      · refine (Weights_yes m l A cp W (hl.below hW) hlc hr).mono ?_
        rintro e w' ⟨h | h, hb⟩
        · exact absurd h.1 hs
        · exact ⟨h.2, hb⟩
      · have := Trade_yes m l A cp W (hl.below hW) hlc hr
        rw [tradeVal, e] at this
        simp only at this
        rw [hu] at this
        exact this
      · have := IsTrade_in m l x y z u A cp W (hl.below hW) hlc hr hin
        rwa [htp] at this
end Go.Proofs.Ytdbleghnblohgaa
