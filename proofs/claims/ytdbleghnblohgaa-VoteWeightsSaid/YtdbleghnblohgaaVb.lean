/- Contracts: least, Wins, Least. -/
import Derived.Test.YtdbleghnblohgaaVa
import Derived.OwnWalk
import Derived.Laws.OwnMore
namespace Go.Proofs.Ytdbleghnblohgaa
open Go.RowKit Go.Shelf

def nums (xs : List Int) : List Value := xs.map (Value.int .i64)
theorem info3 : (Try.prog.info? 3).map (fun i => (i.zero, i.size, i.bytes)) = some (some (.int .i64 0), 1, 8) := by kernel_rfl
/-- A row of whole numbers of the call's own. -/
structure Own (w : World) (base : Nat) (v : Value) (xs : List Int) : Prop where
  out : w.ownsRow base 3 1 v xs.length (nums xs)
theorem own_below {w w1 : World} {base : Nat} {v : Value} {xs : List Int} (h : Own w base v xs) (hb : Below w.heap.size w w1) : Own w1 base v xs :=
  ⟨h.out.kept (row := none) ⟨hb.os, hb.tape, hb.output, hb.size, fun i hi _ => hb.block i hi⟩ (by cases v.ownBlock <;> simp)⟩

theorem own_base {w : World} {base : Nat} {v : Value} {xs : List Int} (h : Own w base v xs) {k : Nat} (hk : v.ownBlock = some k) : base ≤ k := by
  rcases h.out.2 with ⟨rfl, _⟩ | ⟨g, cap, cur, rfl, hb, _⟩
  · simp [Value.ownBlock] at hk
  · have : g = k := by simpa [Value.ownBlock] using hk
    omega

theorem own_mono {w : World} {base base' : Nat} {v : Value} {xs : List Int} (h : Own w base v xs) (hb : base' ≤ base) : Own w base' v xs := by
  refine ⟨h.out.1, ?_⟩
  rcases h.out.2 with h | ⟨g, cap, cur, e, hg, r⟩
  · exact .inl h
  · exact .inr ⟨g, cap, cur, e, Nat.le_trans hb hg, r⟩

set_option maxHeartbeats 1600000 in
theorem least_any (g : Nat) (lb : Array Value) (p : Int → Bool) (n : Nat) (hg : Enters Try.prog g) (w : World) (hp : Tells Try.prog g lb n p w) (hn : n ≤ 8) :
    Calls Try.prog 60 #[.int .i64 n, .func (.func g) #[] lb] w fun e w' => ∃ v, e = .returned v ∧ Own w' w.heap.size v (leastTo p n (2 ^ n)) ∧ Below w.heap.size w w' := by
  obtain ⟨i0, hi, hz0, hz1, hz2⟩ := info_parts info3
  have hpow := pow_le n hn
  have hcf : ∀ (args : Array Value) (w : World), (callFunc g args).run Try.prog w = .ok (.enter g args) w := hg
  go_enter Try.func60, Try.ntmps60
  go_wp2
  have hN : Off ((2 : Int) ^ n = ((2 ^ n : Nat) : Int)) := ⟨by rw [Int.natCast_pow]; rfl⟩
  go_loopw [5, 11] (fun v i wr => ∃ s : Nat, (s : Int) ≤ 2 ^ n ∧ i = .int .i64 s ∧ Own wr w.heap.size v (leastTo p n s) ∧ Below w.heap.size w wr)
    (fun _ i _ => (2 ^ n - intOf i).toNat)
  case atStart => exact ⟨0, by simp only [Int.natCast_zero]; omega, rfl, ⟨World.ownsRow_nil _ _ _ _⟩, Below.refl _ _⟩
  case round =>
    obtain ⟨s, hs, rfl, hown, hb⟩ := hrel
    obtain ⟨wo, rfl⟩ : ∃ wo : World, wo = wr := ⟨_, rfl⟩
    by_cases hlt : (s : Int) < 2 ^ n
    · cases hps : p s
      · have hL : Off (leastTo p n (s + 1) = leastTo p n s) := ⟨by simp [leastTo, hps]⟩
        go_wp2_with (go_at_fn g; refine (hp.out _ _ hb (by omega) hlt).mono ?_; rintro e w1 ⟨rfl, hb1⟩)
        go_roundw
        case rel => exact ⟨s + 1, by omega, by go_num, by rw [hL.out]; exact own_below hown hb1, hb.trans (hb1.mono hb.size)⟩
        case measure => simp only [intOf]; omega
      · go_wp2_with (go_at_fn g; refine (hp.out _ _ hb (by omega) hlt).mono ?_; rintro e w1 ⟨rfl, hb1⟩)
        have hb2 := hb.trans (hb1.mono hb.size)
        have hown1 := own_below hown hb1
        clear hb hown hb1
        go_loopw [7, 19] (fun al i wr => ∃ k : Nat, k ≤ n ∧ i = .int .i64 k ∧ al = .bool (aloneTo p s k) ∧ Own wr w.heap.size u5 (leastTo p n s) ∧ Below w.heap.size w wr)
          (fun _ i _ => n - (intOf i).toNat)
        case atStart => exact ⟨0, by omega, rfl, rfl, hown1, hb2⟩
        case round =>
          clear hown1 hb2
          obtain ⟨k, hk, rfl, rfl, hown, hb⟩ := hrel
          by_cases hkn : k < n
          · have hd := div_range s k (by omega)
            have ha := and_one (s / 2 ^ k) hd.1 (by omega)
            have hw := without_range s k n (by omega) hlt
            have hpk := pow_le k (by omega)
            have hno := andNot_pow s k (by omega) (by omega) (by omega)
            have hS : Off (aloneTo p s (k + 1) = (aloneTo p s k && (decide ((s : Int) / 2 ^ k % 2 = 0) || !p (without s k)))) := ⟨rfl⟩
            cases hal : aloneTo p s k
            · rw [hal] at hS
              go_wp2
              go_roundw
              case rel => exact ⟨k + 1, by omega, by go_num, by rw [hS.out]; rfl, hown, hb⟩
              case measure => simp only [intOf]; omega
            · rw [hal] at hS
              by_cases hbit : (s : Int) / 2 ^ k % 2 = 0
              · have hS' : Off (aloneTo p s (k + 1) = true) := ⟨by rw [hS.out]; simp [hbit]⟩
                go_wp2
                go_roundw
                case rel => exact ⟨k + 1, by omega, by go_num, by rw [hS'.out], hown, hb⟩
                case measure => simp only [intOf]; omega
              · have hS' : Off (aloneTo p s (k + 1) = !p (without s k)) := ⟨by rw [hS.out]; simp [hbit]⟩
                have hbit' : ((s : Int) / 2 ^ k % 2 == 0) = false := beq_eq_false_iff_ne.2 hbit
                go_wp2_with (go_at_fn g; refine (hp.out _ (without s k) hb (by omega) (by omega)).mono ?_; rintro e w1 ⟨rfl, hb1⟩)
                go_roundw
                case rel => exact ⟨k + 1, by omega, by go_num, by rw [hS'.out], own_below hown hb1, hb.trans (hb1.mono hb.size)⟩
                case measure => simp only [intOf]; omega
          · obtain rfl : k = n := by omega
            cases hal : aloneTo p s k
            · have hL : Off (leastTo p k (s + 1) = leastTo p k s) := ⟨by simp [leastTo, hps, hal]⟩
              go_wp2
              go_roundw
              case rel => exact ⟨s + 1, by omega, by go_num, by rw [hL.out]; exact hown, hb⟩
              case measure => simp only [intOf]; omega
            · have hL : Off (leastTo p k (s + 1) = leastTo p k s ++ [(s : Int)]) := ⟨by simp [leastTo, hps, hal]⟩
              have hlen := leastTo_length p k s
              have hs2 : s < 256 := by omega
              go_wp2_with (at_builtin; refine wpList_append_own _ rfl _ _ 22 rfl w.heap.size 3 i0 (.int .i64 0) 1 8 Try.underlying22 hi hz0 hz1 hz2 rfl (by decide) _ _ _ rfl (hown.out.alloc _) ⟨wr.heap.size, 0, none⟩ 1 1 [.int .i64 (s : Int)] rfl rfl ?c1 ?c2 ?c3 ?c4 ?c5 ?_)
              case c1 =>
                intro j u hj
                match j, hj with
                | 0, hj => simp at hj; subst hj; simp [Addr.add]
              case c2 => intro u hu; simp at hu; subst hu; rfl
              case c3 => unfold maxLen; omega
              case c4 => omega
              case c5 => have := hb.size; simp; omega
              intro v' w1 hown' hgrow _
              have hb' : Below w.heap.size w w1 := (hb.alloc hb.size _).grown hgrow (by have := hb.size; simp; omega) (fun k e => own_base hown e)
              have hO : Own w1 w.heap.size v' (leastTo p k (s + 1)) := ⟨by rw [hL.out]; simpa [nums] using hown'⟩
              clear hown' hgrow hown hb
              go_wp2
              go_roundw
              case rel => exact ⟨s + 1, by omega, by go_num, hO, hb'⟩
              case measure => simp only [intOf]; omega
    · have hse : s = 2 ^ n := by have := hN.out; omega
      go_wp2
      go_ret
      exact ⟨_, rfl, hse ▸ hown, hb⟩
end Go.Proofs.Ytdbleghnblohgaa
