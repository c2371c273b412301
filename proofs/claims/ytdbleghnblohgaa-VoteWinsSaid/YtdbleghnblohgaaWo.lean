/- Contracts: the specification's Wins, Least. -/
import Derived.Test.YtdbleghnblohgaaVv
import Derived.Test.YtdbleghnblohgaaPr
import Derived.Test.YtdbleghnblohgaaVc
namespace Go.Proofs.Ytdbleghnblohgaa
open Go.RowKit Go.Shelf

theorem rwin_zero {q : Int} {l : List Int} (hbody : bodyB q l = true) : winB q l ((0 : Nat) : Int) = false := by
  have h := of_decide_eq_true hbody
  rw [winB, show ((0 : Nat) : Int) = 0 from rfl, sum_zero]
  exact decide_eq_false (by have := h.2.2.2.1; omega)

set_option maxHeartbeats 1000000 in
theorem rWins_no (q set : Int) (l : List Int) (A : Option Addr) (c : Nat) (w : World) (hl : IntsAt w A l) (h30 : l.length ≤ 30) (h : ¬ (bodyB q l = true ∧ 0 ≤ set ∧ set < 2 ^ l.length)) :
    Calls Try.prog 26 #[.agg #[.int .i64 q, .slice A l.length c], .int .i64 set] w fun e w' => e = .returned (.tuple #[.bool false, .int .i64 2]) ∧ Below w.heap.size w w' := by
  have HB : Off (∀ o, Below w.heap.size w (w.alloc o)) := ⟨fun o => (Below.refl _ _).alloc (Nat.le_refl _) _⟩
  cases hq : bodyB q l
  · clear h
    go_enter Try.func26, Try.ntmps26
    go_wp2_with fail
    refine (rIsBody q l A c _ (hl.below (HB.out _)) h30).mono ?_
    rw [hq]
    rintro e w1 ⟨rfl, hb1⟩
    go_wp2
    go_ret2
    exact ⟨rfl, belowC (HB.out _) hb1⟩
  · have h8 := (Body.weights hq).1
    have hp := pow_le l.length h8
    by_cases h0 : set < 0
    · clear h
      go_enter Try.func26, Try.ntmps26
      go_wp2_with fail
      refine (rIsBody q l A c _ (hl.below (HB.out _)) h30).mono ?_
      rw [hq]
      rintro e w1 ⟨rfl, hb1⟩
      go_wp2
      go_ret2
      exact ⟨rfl, belowC (HB.out _) hb1⟩
    · have h1 : 2 ^ l.length ≤ set := by
        have : ¬ (set < 2 ^ l.length) := fun h2 => h ⟨hq, by omega, h2⟩
        omega
      clear h
      go_enter Try.func26, Try.ntmps26
      go_wp2_with fail
      refine (rIsBody q l A c _ (hl.below (HB.out _)) h30).mono ?_
      rw [hq]
      rintro e w1 ⟨rfl, hb1⟩
      have hB := (box_body w q A l.length c).below hb1
      have hs := hB.weights
      go_wp2
      go_ret2
      exact ⟨rfl, belowC (HB.out _) hb1⟩

set_option maxHeartbeats 1000000 in
theorem rWins_yes (q set : Int) (l : List Int) (A : Option Addr) (c : Nat) (w : World) (hl : IntsAt w A l) (hbody : bodyB q l = true) (h0 : 0 ≤ set) (h1 : set < 2 ^ l.length) :
    Calls Try.prog 26 #[.agg #[.int .i64 q, .slice A l.length c], .int .i64 set] w fun e w' => e = .returned (.tuple #[.bool (winB q l set), .int .i64 0]) ∧ Below w.heap.size w w' := by
  have HB : Off (∀ o, Below w.heap.size w (w.alloc o)) := ⟨fun o => (Below.refl _ _).alloc (Nat.le_refl _) _⟩
  obtain ⟨h8, hw⟩ := Body.weights hbody
  have hp := pow_le l.length h8
  go_enter Try.func26, Try.ntmps26
  go_wp2_with fail
  refine (rIsBody q l A c _ (hl.below (HB.out _)) (by omega)).mono ?_
  rw [hbody]
  rintro e w1 ⟨rfl, hb1⟩
  have B1 := belowC (HB.out _) hb1
  have hB := (box_body w q A l.length c).below hb1
  have hq := hB.quota
  have hs := hB.weights
  go_wp2_with fail
  refine (rwins q set l A c _ (hl.below B1) h8 hw h0 (by omega)).mono ?_
  rintro e w2 ⟨rfl, hb2⟩
  go_wp2
  go_ret2
  exact ⟨rfl, belowC B1 hb2⟩

set_option maxHeartbeats 1000000 in
theorem rLeast_no (q : Int) (l : List Int) (A : Option Addr) (c : Nat) (w : World) (hl : IntsAt w A l) (h30 : l.length ≤ 30) (hbody : bodyB q l = false) :
    Calls Try.prog 28 #[.agg #[.int .i64 q, .slice A l.length c]] w fun e w' => e = .returned (.tuple #[.slice none 0 0, .int .i64 2]) ∧ Below w.heap.size w w' := by
  have HB : Off (∀ o, Below w.heap.size w (w.alloc o)) := ⟨fun o => (Below.refl _ _).alloc (Nat.le_refl _) _⟩
  go_enter Try.func28, Try.ntmps28
  go_wp2_with fail
  refine (rIsBody q l A c _ (hl.below (HB.out _)) h30).mono ?_
  rw [hbody]
  rintro e w1 ⟨rfl, hb1⟩
  go_wp2
  go_ret2
  exact ⟨rfl, belowC (HB.out _) hb1⟩
theorem alone_stop' (p : Int → Bool) (s : Int) (k n : Nat) (hk : k ≤ n) (h : aloneTo p s k = false) : aloneTo p s n = false := by
  induction n with
  | zero => obtain rfl : k = 0 := by omega
            exact h
  | succ n ih =>
    by_cases e : k = n + 1
    · subst e; exact h
    · simp only [aloneTo, ih (by omega), Bool.false_and]

set_option maxHeartbeats 4000000 in
theorem rLeast_yes (q : Int) (l : List Int) (A : Option Addr) (c : Nat) (w : World) (hl : IntsAt w A l) (hbody : bodyB q l = true) :
    Calls Try.prog 28 #[.agg #[.int .i64 q, .slice A l.length c]] w fun e w' => ∃ v, e = .returned (.tuple #[v, .int .i64 0]) ∧ Own w' w.heap.size v (leastTo (winB q l) l.length (2 ^ l.length)) ∧ Below w.heap.size w w' := by
  have HB : Off (∀ o, Below w.heap.size w (w.alloc o)) := ⟨fun o => (Below.refl _ _).alloc (Nat.le_refl _) _⟩
  obtain ⟨h8, hw⟩ := Body.weights hbody
  have hpow := pow_le l.length h8
  have hlen1 : 0 < l.length := (of_decide_eq_true hbody).1
  obtain ⟨i0, hi, hz0, hz1, hz2⟩ := info_parts info3
  have hN : Off ((2 : Int) ^ l.length = ((2 ^ l.length : Nat) : Int)) := ⟨by rw [Int.natCast_pow]; rfl⟩
  have hL1 : Off (leastTo (winB q l) l.length 1 = []) := ⟨by
    simp only [leastTo, rwin_zero hbody]
    rfl⟩
  obtain ⟨p, hp⟩ : ∃ p, p = winB q l := ⟨_, rfl⟩
  have HPW := Off.mk hp
  rw [← hp] at hL1 ⊢
  clear hp
  go_enter Try.func28, Try.ntmps28
  go_wp2_with fail
  refine (rIsBody q l A c _ (hl.below (HB.out _)) (by omega)).mono ?_
  rw [hbody]
  rintro e w1 ⟨rfl, hb1⟩
  have B1 := belowC (HB.out _) hb1
  have hBx := (box_body w q A l.length c).below hb1
  have HR : Off (∀ (s : Int) v, p s = v → ∀ W, Below w1.heap.size w1 W → 0 ≤ s → s < 256 → Calls Try.prog 46 #[.agg #[.int .i64 q, .slice A l.length c], .int .i64 s] W fun e w' => e = .returned (.bool v) ∧ Below W.heap.size W w') :=
    ⟨fun s v e W h h0 h1 => by rw [← e, HPW.out]; exact rwins q s l A c W (hl.below (belowC B1 h)) h8 hw h0 h1⟩
  have hlt1 : w.heap.size < w1.heap.size := World.block_lt_of_cell? w1 ⟨w.heap.size, 0, none⟩ hBx.quota
  have HX := Off.mk hBx
  clear hBx HPW hbody hl
  go_wp2
  go_loopw [4, 5] (fun v i wr => ∃ s : Nat, 1 ≤ s ∧ (s : Int) ≤ 2 ^ l.length ∧ i = .int .i64 s ∧ Own wr w1.heap.size v (leastTo p l.length s) ∧ Below w1.heap.size w1 wr)
    (fun _ i _ => (2 ^ l.length - intOf i).toNat)
  case atStart => exact ⟨1, by omega, by omega, rfl, ⟨by rw [hL1.out]; exact World.ownsRow_nil _ _ _ _⟩, Below.refl _ _⟩
  case round =>
    obtain ⟨s, hs1, hs, rfl, hown, hb⟩ := hrel
    obtain ⟨wo, rfl⟩ : ∃ wo : World, wo = wr := ⟨_, rfl⟩
    have x0 := cellB hb HX.out.quota
    have x1 := cellB hb HX.out.weights
    by_cases hlt : (s : Int) < 2 ^ l.length
    · cases hps : p s
      · have hL : Off (leastTo p l.length (s + 1) = leastTo p l.length s) := ⟨by simp [leastTo, hps]⟩
        go_wp2_with fail
        refine (HR.out _ _ hps _ hb (by omega) (by omega)).mono ?_
        rintro e w2 ⟨rfl, hb2⟩
        have hb := belowC hb hb2
        have hown := own_below hown hb2
        have x0 := cellB hb2 x0
        have x1 := cellB hb2 x1
        clear hb2
        go_wp2
        go_loopw [6, 7] (fun al i wr => i = .int .i64 0 ∧ al = .bool false ∧ wr = w2) (fun _ _ _ => 0)
        case atStart => exact ⟨rfl, rfl, rfl⟩
        case round =>
          obtain ⟨rfl, rfl, rfl⟩ := hrel
          go_wp2
          go_roundw
          case rel => exact ⟨s + 1, by omega, by omega, by go_num, by rw [hL.out]; exact hown, hb⟩
          case measure => simp only [intOf]; omega
      · have HPS := Off.mk hps
        go_wp2_with fail
        refine (HR.out _ _ hps _ hb (by omega) (by omega)).mono ?_
        rintro e w2 ⟨rfl, hb2⟩
        have hb := belowC hb hb2
        have hown := own_below hown hb2
        have x0 := cellB hb2 x0
        have x1 := cellB hb2 x1
        clear hb2 hps
        go_wp2
        go_loopw [6, 7] (fun al i wr => ∃ k : Nat, k ≤ l.length ∧ i = .int .i64 k ∧ al = .bool (aloneTo p s k) ∧ Own wr w1.heap.size u4 (leastTo p l.length s) ∧ Below w1.heap.size w1 wr)
          (fun _ i _ => l.length - (intOf i).toNat)
        case atStart => exact ⟨0, by omega, rfl, rfl, hown, hb⟩
        case round =>
          clear hown hb x0 x1
          obtain ⟨k, hk, rfl, rfl, hown, hb⟩ := hrel
          obtain ⟨wq, rfl⟩ : ∃ wo : World, wo = wr := ⟨_, rfl⟩
          have x0 := cellB hb HX.out.quota
          have x1 := cellB hb HX.out.weights
          cases hal : aloneTo p s k
          · have hL : Off (leastTo p l.length (s + 1) = leastTo p l.length s) := ⟨by simp [leastTo, alone_stop' p s k l.length hk hal]⟩
            clear hal
            by_cases hkn : k < l.length
            · go_wp2
              go_roundw
              case rel => exact ⟨s + 1, by omega, by omega, by go_num, by rw [hL.out]; exact hown, hb⟩
              case measure => simp only [intOf]; omega
            · go_wp2
              go_roundw
              case rel => exact ⟨s + 1, by omega, by omega, by go_num, by rw [hL.out]; exact hown, hb⟩
              case measure => simp only [intOf]; omega
          · by_cases hkn : k < l.length
            · have hd := div_range s k (by omega)
              have hbr := bit_range s k
              have hwr := without_range s k l.length (by omega) hlt
              have hpk := pow_le k (by omega)
              have hS : Off (aloneTo p s (k + 1) = (aloneTo p s k && (decide ((s : Int) / 2 ^ k % 2 = 0) || !p (without s k)))) := ⟨rfl⟩
              have e3 : ((s : Int) / 2 ^ k).tmod 2 = s / 2 ^ k % 2 := Int.tmod_eq_emod_of_nonneg hd.1
              rw [hal] at hS
              clear hal
              by_cases hbit : (s : Int) / 2 ^ k % 2 = 0
              · have hS' : Off (aloneTo p s (k + 1) = true) := ⟨by rw [hS.out]; simp [hbit]⟩
                have hbit' : ((s : Int) / 2 ^ k % 2 == 0) = true := beq_iff_eq.2 hbit
                go_wp2
                go_quiet (fail)
                go_wp2
                go_roundw
                case rel => exact ⟨k + 1, by omega, by go_num, by rw [hS'.out], own_below hown (below_drewN' (Below.refl _ _) _), below_drewN' hb _⟩
                case measure => simp only [intOf]; omega
              · have hwi : Off (without s k = (s : Int) - 2 ^ k) := ⟨by
                  have : (s : Int) / 2 ^ k % 2 = 1 := by omega
                  unfold without
                  rw [this]
                  omega⟩
                have hwr' : Off (0 ≤ (s : Int) - 2 ^ k ∧ (s : Int) - 2 ^ k < 256) := ⟨by rw [← hwi.out]; omega⟩
                rw [hwi.out] at hS
                have hbit' : ((s : Int) / 2 ^ k % 2 == 0) = false := beq_eq_false_iff_ne.2 hbit
                have hwp : IntKind.i64.wrap ((2 : Int) ^ k) = 2 ^ k := by rw [IntKind.wrap_i64]; omega
                have hws : IntKind.i64.wrap ((s : Int) - 2 ^ k) = (s : Int) - 2 ^ k := by rw [IntKind.wrap_i64]; have := hwr'.out; omega
                cases hpv : p ((s : Int) - 2 ^ k)
                · have hS' : Off (aloneTo p s (k + 1) = true) := ⟨by rw [hS.out, hpv]; simp⟩
                  go_wp2
                  first
                    | go_region_held3 (fun w' => w'.cell? ⟨w.heap.size, 0, none⟩ = some (.int .i64 q) ∧ w'.cell? ⟨w.heap.size, 1, none⟩ = some (.slice A l.length c))
                        (first | go_keep | exact ⟨x0, x1⟩)
                        (first | (go_at_call 46; refine (HR.out _ _ hpv _ hb.drew hwr'.out.1 hwr'.out.2).mono ?_; rintro e w3 ⟨rfl, hb3⟩; have x0 := cellB hb3 x0; have x1 := cellB hb3 x1))
                    | fail
                  have hd3 : Below wq.heap.size wq w3 := belowC (Below.refl _ _).drew hb3
                  go_wp2
                  go_roundw
                  case rel => exact ⟨k + 1, by omega, by go_num, by rw [hS'.out], own_below hown hd3, belowC hb hd3⟩
                  case measure => simp only [intOf]; omega
                · have hS' : Off (aloneTo p s (k + 1) = false) := ⟨by rw [hS.out, hpv]; simp [hbit]⟩
                  go_wp2
                  first
                    | go_region_held3 (fun w' => w'.cell? ⟨w.heap.size, 0, none⟩ = some (.int .i64 q) ∧ w'.cell? ⟨w.heap.size, 1, none⟩ = some (.slice A l.length c))
                        (first | go_keep | exact ⟨x0, x1⟩)
                        (first | (go_at_call 46; refine (HR.out _ _ hpv _ hb.drew hwr'.out.1 hwr'.out.2).mono ?_; rintro e w3 ⟨rfl, hb3⟩; have x0 := cellB hb3 x0; have x1 := cellB hb3 x1))
                    | fail
                  have hd3 : Below wq.heap.size wq w3 := belowC (Below.refl _ _).drew hb3
                  go_wp2
                  go_roundw
                  case rel => exact ⟨k + 1, by omega, by go_num, by rw [hS'.out], own_below hown hd3, belowC hb hd3⟩
                  case measure => simp only [intOf]; omega
            · obtain rfl : k = l.length := by omega
              have hL : Off (leastTo p l.length (s + 1) = leastTo p l.length s ++ [(s : Int)]) := ⟨by simp [leastTo, HPS.out, hal]⟩
              have hlen := leastTo_length p l.length s
              have hs2 : s < 256 := by omega
              clear hal
              go_wp2_with (at_builtin; refine wpList_append_own _ rfl _ _ 22 rfl w1.heap.size 3 i0 (.int .i64 0) 1 8 Try.underlying22 hi hz0 hz1 hz2 rfl (by decide) _ _ _ rfl (hown.out.alloc _) ⟨wq.heap.size, 0, none⟩ 1 1 [.int .i64 (s : Int)] rfl rfl ?c1 ?c2 ?c3 ?c4 ?c5 ?_)
              case c1 =>
                intro j u hj
                match j, hj with
                | 0, hj => simp at hj; subst hj; simp [Addr.add]
              case c2 => intro u hu; simp at hu; subst hu; rfl
              case c3 => unfold maxLen; omega
              case c4 => omega
              case c5 => have := hb.size; simp; omega
              intro v' w3 hown' hgrow _
              have hb' : Below w1.heap.size w1 w3 := (hb.alloc hb.size _).grown hgrow (by have := hb.size; simp; omega) (fun k e => own_base hown e)
              have hO : Own w3 w1.heap.size v' (leastTo p l.length (s + 1)) := ⟨by rw [hL.out]; simpa [nums] using hown'⟩
              clear hown' hgrow hown hb
              go_wp2
              go_roundw
              case rel => exact ⟨s + 1, by omega, by omega, by go_num, hO, hb'⟩
              case measure => simp only [intOf]; omega
    · have hse : s = 2 ^ l.length := by have := hN.out; omega
      rw [hse] at hown
      have hO := own_mono hown (Nat.le_of_lt hlt1)
      go_wp2
      go_ret2
      exact ⟨_, rfl, hO, belowC B1 hb⟩
end Go.Proofs.Ytdbleghnblohgaa
