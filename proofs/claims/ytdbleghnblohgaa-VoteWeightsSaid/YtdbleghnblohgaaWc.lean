/- Contracts: the specification's ruled, Rules, Other. -/
import Derived.Test.YtdbleghnblohgaaWa
import Derived.Test.YtdbleghnblohgaaPw
namespace Go.Proofs.Ytdbleghnblohgaa
open Go.RowKit Go.Shelf

/-- The sets of a rule of at most five drovers. -/
def Small5 (l : List Int) : Prop := ∀ j, j < l.length → 0 ≤ l.getD j 0 ∧ l.getD j 0 < 32
theorem pow_32 {m : Nat} (hm : m ≤ 5) : (2 : Int) ^ m ≤ 32 := by
  have := Nat.pow_le_pow_right (n := 2) (by decide) hm
  have h : (((2 ^ m : Nat)) : Int) = 2 ^ m := by simp
  omega
theorem small5_of {m : Nat} {l : List Int} (h : isRule m l = true) : Small5 l := fun j hj => by
  obtain ⟨⟨m', e, _, hm⟩, _, hr⟩ := isRule_range h
  have := hr j hj
  rw [Int.toNat_natCast] at this
  have := pow_32 (m := m) (by omega)
  omega

set_option maxHeartbeats 1000000 in
theorem rruled (l : List Int) (s : Int) (A : Option Addr) (c : Nat) (w : World) (hl : IntsAt w A l) (_hlc : l.length ≤ c) (hsm : Off (Small5 l)) (hs0 : 0 ≤ s) (hs1 : s < 32) :
    Calls Try.prog 62 #[.slice A l.length c, .int .i64 s] w fun e w' => e = .returned (.bool (ruleB l s)) ∧ w' = w := by
  have hlen := hl.len
  go_enter Try.func62, Try.ntmps62
  go_wp2
  go_loop [5] (fun i => ∃ k : Nat, k ≤ l.length ∧ i = .int .i64 k ∧ Off (∀ j, j < k → subB (l.getD j 0) s = false)) (fun i => l.length - (intOf i).toNat)
  case atStart => exact ⟨0, by omega, rfl, ⟨fun j hj => by omega⟩⟩
  case round =>
    obtain ⟨k, hk, rfl, hno⟩ := hrel
    by_cases hlt : k < l.length
    · obtain ⟨ad, rfl, hc⟩ := hl.cell k hlt
      have hx := hsm.out k hlt
      have hn := not_sub (l.getD k 0) s hx.1 hx.2 hs0 hs1
      obtain ⟨x, ex⟩ : ∃ x, x = l.getD k 0 := ⟨_, rfl⟩
      have HX := Off.mk ex
      rw [← ex] at hc hn
      clear ex
      cases hp : subB x s
      · rw [hp] at hn
        have HP := Off.mk hp
        clear hp
        go_wp2
        go_round
        case rel => exact ⟨k + 1, by omega, by go_num, ⟨fun j hj => by
          by_cases e : j = k
          · subst e; rw [← HX.out]; exact HP.out
          · exact hno.out j (by omega)⟩⟩
        case measure => simp only [intOf]; omega
      · rw [hp] at hn
        have HA : Off (ruleB l s = true) := ⟨any_true hlt (by rw [← HX.out]; exact hp)⟩
        clear hp
        go_wp2
        go_ret
        exact ⟨by rw [HA.out]; rfl, rfl⟩
    · have HA : Off (ruleB l s = false) := ⟨any_false fun j hj => hno.out j (by omega)⟩
      go_wp2
      go_ret
      exact ⟨by rw [HA.out]; rfl, rfl⟩

set_option maxHeartbeats 1000000 in
theorem rRules_no (n set : Int) (l : List Int) (A : Option Addr) (c : Nat) (w : World) (hl : IntsAt w A l) (hlc : l.length ≤ c) (h : ¬ (isRule n l = true ∧ 0 ≤ set ∧ set < 2 ^ n.toNat)) :
    Calls Try.prog 35 #[.int .i64 n, .slice A l.length c, .int .i64 set] w fun e w' => e = .returned (.tuple #[.bool false, .int .i64 2]) ∧ Below w.heap.size w w' := by
  cases hr : isRule n l
  · go_enter Try.func35, Try.ntmps35
    go_wp2_with (go_at_call 33; refine (hr ▸ rIsRule n l A c _ hl hlc).mono ?_; rintro e w1 ⟨rfl, hb1⟩)
    go_ret2
    exact ⟨rfl, hb1⟩
  · obtain ⟨⟨m, rfl, hm1, hm⟩, _⟩ := isRule_range hr
    rw [Int.toNat_natCast] at h
    have hp := pow_le m (by omega)
    by_cases h0 : set < 0
    · clear h
      go_enter Try.func35, Try.ntmps35
      go_wp2_with (go_at_call 33; refine (hr ▸ rIsRule m l A c _ hl hlc).mono ?_; rintro e w1 ⟨rfl, hb1⟩)
      go_ret2
      exact ⟨rfl, hb1⟩
    · have h1 : 2 ^ m ≤ set := by
        have : ¬ (set < 2 ^ m) := fun h2 => h ⟨hr, by omega, h2⟩
        omega
      clear h
      go_enter Try.func35, Try.ntmps35
      go_wp2_with (go_at_call 33; refine (hr ▸ rIsRule m l A c _ hl hlc).mono ?_; rintro e w1 ⟨rfl, hb1⟩)
      go_ret2
      exact ⟨rfl, hb1⟩

set_option maxHeartbeats 1000000 in
theorem rRules_yes (m : Nat) (set : Int) (l : List Int) (A : Option Addr) (c : Nat) (w : World) (hl : IntsAt w A l) (hlc : l.length ≤ c) (hr : isRule m l = true) (h0 : 0 ≤ set) (h1 : set < 2 ^ m) :
    Calls Try.prog 35 #[.int .i64 m, .slice A l.length c, .int .i64 set] w fun e w' => e = .returned (.tuple #[.bool (ruleB l set), .int .i64 0]) ∧ Below w.heap.size w w' := by
  obtain ⟨⟨m', e, hm1, hm⟩, _⟩ := isRule_range hr
  obtain rfl : m = m' := by omega
  have hsm := Off.mk (small5_of hr)
  have hp := pow_le m (by omega)
  have hp5 := pow_32 (m := m) (by omega)
  clear e
  go_enter Try.func35, Try.ntmps35
  go_wp2_with (first
    | (go_at_call 33; refine (hr ▸ rIsRule m l A c _ hl hlc).mono ?_; rintro e w1 ⟨rfl, hb1⟩)
    | (go_at_call 62; refine (rruled l set A c _ (hl.below hb1) hlc hsm h0 (by omega)).mono ?_; rintro e w3 ⟨rfl, rfl⟩))
  go_ret2
  exact ⟨rfl, hb1⟩

set_option maxHeartbeats 1000000 in
theorem rOther_no (n : Int) (l : List Int) (A : Option Addr) (c : Nat) (w : World) (hl : IntsAt w A l) (hlc : l.length ≤ c) (hr : isRule n l = false) :
    Calls Try.prog 37 #[.int .i64 n, .slice A l.length c] w fun e w' => e = .returned (.tuple #[.slice none 0 0, .int .i64 2]) ∧ Below w.heap.size w w' := by
  go_enter Try.func37, Try.ntmps37
  go_wp2_with (go_at_call 33; refine (hr ▸ rIsRule n l A c _ hl hlc).mono ?_; rintro e w1 ⟨rfl, hb1⟩)
  go_ret2
  exact ⟨rfl, hb1⟩
theorem alone_stop (p : Int → Bool) (s : Int) (k n : Nat) (hk : k ≤ n) (h : aloneTo p s k = false) : aloneTo p s n = false := by
  induction n with
  | zero => obtain rfl : k = 0 := by omega
            exact h
  | succ n ih =>
    by_cases e : k = n + 1
    · subst e; exact h
    · simp only [aloneTo, ih (by omega), Bool.false_and]

set_option maxHeartbeats 2000000 in
theorem rOther_yes (m : Nat) (l : List Int) (A : Option Addr) (c : Nat) (w : World) (hl : IntsAt w A l) (hlc : l.length ≤ c) (hr : isRule m l = true) :
    Calls Try.prog 37 #[.int .i64 m, .slice A l.length c] w fun e w' => ∃ v, e = .returned (.tuple #[v, .int .i64 0]) ∧ Own w' w.heap.size v (otherOf m l) ∧ Below w.heap.size w w' := by
  obtain ⟨⟨m', e, hm1, hm⟩, _⟩ := isRule_range hr
  obtain rfl : m = m' := by omega
  have hrule := (rule_iff m l).1 hr
  have hsm := Off.mk (small5_of hr)
  have hpow := pow_le m (by omega)
  have hp5 := pow_32 (m := m) (by omega)
  obtain ⟨i0, hi, hz0, hz1, hz2⟩ := info_parts info3
  have hN : Off ((2 : Int) ^ m = ((2 ^ m : Nat) : Int)) := ⟨by rw [Int.natCast_pow]; rfl⟩
  have hL1 : Off (leastTo (otherB l m) m 1 = []) := ⟨by
    have hpos := Nat.two_pow_pos m
    have : otherB l m ((0 : Nat) : Int) = false := by
      rw [other_nat l m 0 hpos, rule_full hrule]
      rfl
    simp only [leastTo, this]
    rfl⟩
  have hw1 : IntKind.i64.wrap ((2 : Int) ^ m - 1) = 2 ^ m - 1 := by rw [IntKind.wrap_i64]; omega
  clear e
  go_enter Try.func37, Try.ntmps37
  go_wp2_with fail
  refine (rIsRule m l A c _ hl hlc).mono ?_
  rw [hr]
  rintro e w1 ⟨rfl, hb1⟩
  have hI1 := hl.below hb1
  obtain ⟨p, hp⟩ : ∃ p, p = otherB l m := ⟨_, rfl⟩
  have HP : Off (∀ s : Int, p s = !ruleB l (2 ^ m - 1 - s)) := ⟨fun s => by rw [hp]; rfl⟩
  have HG : Off (leastTo p m (2 ^ m) = otherOf m l) := ⟨by rw [hp]; rfl⟩
  rw [← hp] at hL1
  clear hp hrule
  go_wp2
  go_loopw [7, 8] (fun v i wr => ∃ s : Nat, 1 ≤ s ∧ (s : Int) ≤ 2 ^ m ∧ i = .int .i64 s ∧ Own wr w1.heap.size v (leastTo p m s) ∧ Below w1.heap.size w1 wr)
    (fun _ i _ => (2 ^ m - intOf i).toNat)
  case atStart => exact ⟨1, by omega, by omega, rfl, ⟨by rw [hL1.out]; exact World.ownsRow_nil _ _ _ _⟩, Below.refl _ _⟩
  case round =>
    obtain ⟨s, hs1, hs, rfl, hown, hb⟩ := hrel
    obtain ⟨wo, rfl⟩ : ∃ wo : World, wo = wr := ⟨_, rfl⟩
    by_cases hlt : (s : Int) < 2 ^ m
    · have hps : Off (p s = !ruleB l (2 ^ m - 1 - (s : Int))) := ⟨HP.out s⟩
      go_wp2_with fail
      refine (rruled l (2 ^ m - 1 - (s : Int)) A c _ (hI1.below hb) hlc hsm (by omega) (by omega)).mono ?_
      rintro e w2 ⟨rfl, rfl⟩
      cases hps' : p s
      · have hrs : ruleB l (2 ^ m - 1 - (s : Int)) = true := by
          have := hps.out
          rw [hps'] at this
          cases h : ruleB l (2 ^ m - 1 - (s : Int))
          · rw [h] at this; cases this
          · rfl
        have hL : Off (leastTo p m (s + 1) = leastTo p m s) := ⟨by simp [leastTo, hps']⟩
        rw [hrs]
        clear hps' hrs hps
        go_wp2
        go_loopw [9, 10] (fun al i wr => i = .int .i64 0 ∧ al = .bool false ∧ Own wr w1.heap.size u7 (leastTo p m s) ∧ Below w1.heap.size w1 wr) (fun _ _ _ => 0)
        case atStart => exact ⟨rfl, rfl, hown, hb⟩
        case round =>
          clear hown hb
          obtain ⟨rfl, rfl, hown, hb⟩ := hrel
          go_wp2
          go_roundw
          case rel => exact ⟨s + 1, by omega, by omega, by go_num, by rw [hL.out]; exact hown, hb⟩
          case measure => simp only [intOf]; omega
      · have hrs : ruleB l (2 ^ m - 1 - (s : Int)) = false := by
          have := hps.out
          rw [hps'] at this
          cases h : ruleB l (2 ^ m - 1 - (s : Int))
          · rfl
          · rw [h] at this; cases this
        have HPS := Off.mk hps'
        rw [hrs]
        clear hps' hrs hps
        go_wp2
        go_loopw [9, 10] (fun al i wr => ∃ k : Nat, k ≤ m ∧ i = .int .i64 k ∧ al = .bool (aloneTo p s k) ∧ Own wr w1.heap.size u7 (leastTo p m s) ∧ Below w1.heap.size w1 wr)
          (fun _ i _ => m - (intOf i).toNat)
        case atStart => exact ⟨0, by omega, rfl, rfl, hown, hb⟩
        case round =>
          clear hown hb
          obtain ⟨k, hk, rfl, rfl, hown, hb⟩ := hrel
          cases hal : aloneTo p s k
          · have hL : Off (leastTo p m (s + 1) = leastTo p m s) := ⟨by simp [leastTo, alone_stop p s k m hk hal]⟩
            clear hal
            by_cases hkn : k < m
            · go_wp2
              go_roundw
              case rel => exact ⟨s + 1, by omega, by omega, by go_num, by rw [hL.out]; exact hown, hb⟩
              case measure => simp only [intOf]; omega
            · go_wp2
              go_roundw
              case rel => exact ⟨s + 1, by omega, by omega, by go_num, by rw [hL.out]; exact hown, hb⟩
              case measure => simp only [intOf]; omega
          · by_cases hkn : k < m
            · have hd := div_range s k (by omega)
              have hbr := bit_range s k
              have hwr := without_range s k m (by omega) hlt
              have hpk := pow_le k (by omega)
              have hS : Off (aloneTo p s (k + 1) = (aloneTo p s k && (decide ((s : Int) / 2 ^ k % 2 = 0) || !p (without s k)))) := ⟨rfl⟩
              have e3 : ((s : Int) / 2 ^ k).tmod 2 = s / 2 ^ k % 2 := Int.tmod_eq_emod_of_nonneg hd.1
              rw [hal] at hS
              clear hal
              by_cases hbit : (s : Int) / 2 ^ k % 2 = 0
              · have hS' : Off (aloneTo p s (k + 1) = true) := ⟨by rw [hS.out]; simp [hbit]⟩
                have hbit' : ((s : Int) / 2 ^ k % 2 == 0) = true := beq_iff_eq.2 hbit
                go_wp2
                go_roundw
                case rel => exact ⟨k + 1, by omega, by go_num, by rw [hS'.out], hown, hb⟩
                case measure => simp only [intOf]; omega
              · have hS' : Off (aloneTo p s (k + 1) = ruleB l (2 ^ m - 1 - without s k)) := ⟨by rw [hS.out]; simp [hbit, HP.out (without s k)]⟩
                have hwo : Off (2 ^ m - 1 - without s k = 2 ^ m - 1 - (s : Int) + 2 ^ k) := ⟨by
                  have : (s : Int) / 2 ^ k % 2 = 1 := by omega
                  unfold without
                  rw [this]
                  omega⟩
                have hwr' : Off (0 ≤ 2 ^ m - 1 - without s k ∧ 2 ^ m - 1 - without s k < 32) := ⟨by omega⟩
                rw [hwo.out] at hS' hwr'
                have hbit' : ((s : Int) / 2 ^ k % 2 == 0) = false := beq_eq_false_iff_ne.2 hbit
                go_wp2_with fail
                refine (rruled l (2 ^ m - 1 - (s : Int) + 2 ^ k) A c _ (hI1.below hb) hlc hsm hwr'.out.1 hwr'.out.2).mono ?_
                rintro e w2 ⟨rfl, rfl⟩
                go_wp2
                go_roundw
                case rel => exact ⟨k + 1, by omega, by go_num, by rw [hS'.out], hown, hb⟩
                case measure => simp only [intOf]; omega
            · obtain rfl : k = m := by omega
              have hL : Off (leastTo p k (s + 1) = leastTo p k s ++ [(s : Int)]) := ⟨by simp [leastTo, HPS.out, hal]⟩
              have hlen := leastTo_length p k s
              have hs2 : s < 256 := by omega
              clear hal
              go_wp2_with (at_builtin; refine wpList_append_own _ rfl _ _ 22 rfl w1.heap.size 3 i0 (.int .i64 0) 1 8 Try.underlying22 hi hz0 hz1 hz2 rfl (by decide) _ _ _ rfl (hown.out.alloc _) ⟨wr.heap.size, 0, none⟩ 1 1 [.int .i64 (s : Int)] rfl rfl ?c1 ?c2 ?c3 ?c4 ?c5 ?_)
              case c1 =>
                intro j u hj
                match j, hj with
                | 0, hj => simp at hj; subst hj; simp [Addr.add]
              case c2 => intro u hu; simp at hu; subst hu; rfl
              case c3 => unfold maxLen; omega
              case c4 => omega
              case c5 => have := hb.size; simp; omega
              intro v' w3 hown' hgrow _
              have hb' : Below w1.heap.size w1 w3 := (hb.alloc hb.size _).grown hgrow (by have := hb.size; simp; omega) (fun k e => own_base hown e)
              have hO : Own w3 w1.heap.size v' (leastTo p k (s + 1)) := ⟨by rw [hL.out]; simpa [nums] using hown'⟩
              clear hown' hgrow hown hb
              go_wp2
              go_roundw
              case rel => exact ⟨s + 1, by omega, by omega, by go_num, hO, hb'⟩
              case measure => simp only [intOf]; omega
    · have hse : s = 2 ^ m := by have := hN.out; omega
      have HO : Off (leastTo p m s = otherOf m l) := ⟨by rw [hse]; exact HG.out⟩
      rw [HO.out] at hown
      have hO := own_mono hown hb1.size
      go_wp2
      go_ret2
      exact ⟨_, rfl, hO, belowC hb1 hb⟩
end Go.Proofs.Ytdbleghnblohgaa
