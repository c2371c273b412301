/- Contracts: turned, for whatever it calls; Turns. -/
import Derived.Test.YtdbleghnblohgaaVc
namespace Go.Proofs.Ytdbleghnblohgaa
open Go.RowKit Go.Shelf

/-- All that lay lies as it lay, but for block r. -/
structure Keeps (r : Nat) (w w' : World) : Prop where
  out : w.grownBy w' (some r)
theorem Keeps.refl (r : Nat) (w : World) : Keeps r w w := ⟨World.grownBy.refl _ _⟩
theorem Keeps.trans {r : Nat} {a b c : World} (h : Keeps r a b) (k : Keeps r b c) : Keeps r a c :=
  ⟨⟨k.out.os.trans h.out.os, k.out.tape.trans h.out.tape, k.out.output.trans h.out.output, Nat.le_trans h.out.size k.out.size, fun i hi hne => (k.out.block i (Nat.lt_of_lt_of_le hi h.out.size) hne).trans (h.out.block i hi hne)⟩⟩
theorem Keeps.of_below {r : Nat} {w w' : World} (h : Below w.heap.size w w') : Keeps r w w' := ⟨⟨h.os, h.tape, h.output, h.size, fun i hi _ => h.block i hi⟩⟩
theorem Keeps.below {r B : Nat} {w0 w w' : World} (h : Below B w0 w) (k : Keeps r w w') (hB : B ≤ w.heap.size) (hr : B ≤ r) : Below B w0 w' :=
  h.grown k.out hB (fun j e => by cases e; exact hr)
theorem Keeps.cell {r : Nat} {w w1 : World} (h : Keeps r w w1) {a : Addr} {v : Value} (hc : w.cell? a = some v) (hne : a.block ≠ r) : w1.cell? a = some v :=
  h.out.cell hc (fun e => hne (Option.some.inj e))
/-- A slice's memory is not block r. -/
def Clear (A : Option Addr) (r : Nat) : Prop := ∀ ad, A = some ad → ad.block ≠ r
theorem add_block (ad : Addr) (j : Nat) : (ad.add j).block = ad.block := by unfold Addr.add; split <;> rfl
theorem IntsAt.keeps {r : Nat} {w w1 : World} {A : Option Addr} {l : List Int} (h : IntsAt w A l) (k : Keeps r w w1) (hA : Clear A r) : IntsAt w1 A l :=
  ⟨h.len, fun j hj => by
    obtain ⟨ad, e, hc⟩ := h.cell j hj
    exact ⟨ad, e, k.cell hc (by rw [add_block]; exact hA ad e)⟩⟩
theorem BodyAt.keeps {r : Nat} {w w1 : World} {b : Nat} {q : Int} {A : Option Addr} {n c : Nat} (h : BodyAt w b q A n c) (k : Keeps r w w1) (hne : b ≠ r) : BodyAt w1 b q A n c :=
  ⟨k.cell h.quota hne, k.cell h.weights hne⟩

theorem nat_pow (n : Nat) : ((2 ^ n : Nat) : Int) = 2 ^ n := by rw [Int.natCast_pow]; rfl
theorem nat_lt_pow {s n : Nat} (h : (s : Int) < 2 ^ n) : s < 2 ^ n := by rw [← nat_pow] at h; omega
theorem turnsIn_length (p : Int → Bool) (i k : Nat) : (turnsIn p i k).length ≤ k := by
  induction k with
  | zero => simp [turnsIn]
  | succ k ih =>
    simp only [turnsIn, List.length_append]
    split <;> simp <;> omega
theorem turnsTo_length (p : Int → Bool) (n k : Nat) : (turnsTo p n k).length ≤ k * 2 ^ n := by
  induction k with
  | zero => simp [turnsTo]
  | succ k ih =>
    simp only [turnsTo, List.length_append]
    have := turnsIn_length p k (2 ^ n)
    rw [Nat.succ_mul]
    omega
theorem turns_length (p : Int → Bool) (n k s : Nat) (h8 : n ≤ 8) (hk : k < n) (hs : s < 2 ^ n) : (turnsTo p n k ++ turnsIn p k s).length < 2048 := by
  rw [List.length_append]
  have h1 := turnsTo_length p n k
  have h2 := turnsIn_length p k s
  have h3 : (2 : Nat) ^ n ≤ 2 ^ 8 := Nat.pow_le_pow_right (by decide) h8
  have h4 : k * 2 ^ n ≤ 7 * 2 ^ 8 := Nat.mul_le_mul (by omega) h3
  omega
/-- What a call of the function that is handed to 'turned' does. -/
structure Finds (P : Program) (g : Nat) (lb : Array Value) (n r : Nat) (J : List (Nat × Nat) → World → Prop) : Prop where
  later : ∀ acc W W', J acc W → Below W.heap.size W W' → J acc W'
  call : ∀ acc W (i s : Nat), J acc W → acc.length < 2048 → i < n → s < 2 ^ n → (s : Int) / 2 ^ i % 2 = 0 → Calls P g (#[.int .i64 i, .int .i64 s] ++ lb) W fun e w' => e = .returned (.tuple #[]) ∧ J (acc ++ [(i, s)]) w' ∧ Keeps r W w'

set_option maxHeartbeats 1600000 in
theorem turned_any (g : Nat) (lb : Array Value) (r : Nat) (J : List (Nat × Nat) → World → Prop) (q : Int) (l : List Int) (A : Option Addr) (c : Nat) (w : World) (hg : Enters Try.prog g)
    (hl : IntsAt w A l) (hA : Clear A r) (hr : r < w.heap.size) (h8 : l.length ≤ 8) (hw : Off (∀ j, j < l.length → 0 ≤ l.getD j 0 ∧ l.getD j 0 ≤ 1000))
    (hJ : Finds Try.prog g lb l.length r J) (h0 : J [] w) :
    Calls Try.prog 44 #[.agg #[.int .i64 q, .slice A l.length c], .func (.func g) #[] lb] w fun e w' => e = .returned (.tuple #[]) ∧ J (turnsTo (winB q l) l.length l.length) w' ∧ Keeps r w w' := by
  have HB : Off (∀ o, Below w.heap.size w (w.alloc o)) := ⟨fun o => (Below.refl _ _).alloc (Nat.le_refl _) _⟩
  have hpow := pow_le l.length h8
  have hcf : ∀ (args : Array Value) (w : World), (callFunc g args).run Try.prog w = .ok (.enter g args) w := hg
  go_enter Try.func44, Try.ntmps44
  go_wp2_with (go_at_call 59; refine (wins_any q l A c _).mono ?_; rintro e w1 ⟨rfl, hB1, hb1⟩; have hB0 := (box_body w q A l.length c).below hb1; have hs0 := hB0.weights)
  have hk1 : Keeps r w w1 := Keeps.of_below ((HB.out _).trans (hb1.mono (HB.out _).size))
  have hl1 := hl.keeps hk1 hA
  have hB1' : BodyAt w1 (w.heap.size + 1) q A l.length c := by simpa using hB1
  have hJ1 : J [] w1 := hJ.later _ _ _ h0 ((HB.out _).trans (hb1.mono (HB.out _).size))
  obtain ⟨b0, eb0⟩ : ∃ b, b = w.heap.size := ⟨_, rfl⟩
  rw [← eb0] at hB0 hB1' hr ⊢
  have hr0 : b0 ≠ r := by omega
  have hr1 : b0 + 1 ≠ r := by omega
  clear hs0 hB1 hb1 h0 eb0
  go_loopw [12] (fun i wr => ∃ k : Nat, k ≤ l.length ∧ i = .int .i64 k ∧ J (turnsTo (winB q l) l.length k) wr ∧ Keeps r w wr ∧ BodyAt wr b0 q A l.length c ∧ BodyAt wr (b0 + 1) q A l.length c ∧ IntsAt wr A l)
    (fun i _ => l.length - (intOf i).toNat)
  case atStart => exact ⟨0, by omega, rfl, hJ1, hk1, hB0, hB1', hl1⟩
  case round =>
    clear hJ1 hk1 hB0 hB1' hl1 hl
    obtain ⟨k, hk, rfl, hj, hkw, hb0, hb1, hl⟩ := hrel
    obtain ⟨wo, rfl⟩ : ∃ wo : World, wo = wr := ⟨_, rfl⟩
    by_cases hlt : k < l.length
    · have hpk := pow_le k (by omega)
      have hs0 := hb0.weights
      go_wp2
      have HJ := Off.mk (show J (turnsTo (winB q l) l.length k ++ turnsIn (winB q l) k 0) wo by simpa [turnsIn] using hj)
      clear hj hs0
      go_loopw [19] (fun i wi => ∃ s : Nat, (s : Int) ≤ 2 ^ l.length ∧ i = .int .i64 s ∧ Off (J (turnsTo (winB q l) l.length k ++ turnsIn (winB q l) k s) wi) ∧ Keeps r w wi ∧ BodyAt wi b0 q A l.length c ∧ BodyAt wi (b0 + 1) q A l.length c ∧ IntsAt wi A l)
        (fun i _ => (2 ^ l.length - intOf i).toNat)
      case atStart => exact ⟨0, by omega, rfl, HJ, hkw, hb0, hb1, hl⟩
      case round =>
        clear HJ hkw hb0 hb1 hl
        obtain ⟨s, hs, rfl, HJ, hkw, hb0, hb1, hl⟩ := hrel
        by_cases hls : (s : Int) < 2 ^ l.length
        · have hd := div_range s k (by omega)
          have ha := and_one (s / 2 ^ k) hd.1 (by omega)
          have hor := or_pow s k (by omega) (by omega) (by omega)
          have hS : Off (turnsIn (winB q l) k (s + 1) = turnsIn (winB q l) k s ++ if decide ((s : Int) / 2 ^ k % 2 = 0) && (!winB q l s && winB q l (with_ s k)) then [(k, s)] else []) := ⟨rfl⟩
          have HT : Off ((turnsTo (winB q l) l.length k ++ turnsIn (winB q l) k s).length < 2048) := ⟨turns_length _ l.length k s h8 hlt (nat_lt_pow hls)⟩
          by_cases hbit : (s : Int) / 2 ^ k % 2 = 0
          · have hbit' : ((s : Int) / 2 ^ k % 2 == 0) = true := beq_iff_eq.2 hbit
            have hwr := with_range s k l.length hlt (by omega) hls hbit
            have hS' : Off (turnsIn (winB q l) k (s + 1) = turnsIn (winB q l) k s ++ if (!winB q l s && winB q l (with_ s k)) then [(k, s)] else []) := ⟨by rw [hS.out]; simp [hbit]⟩
            have HBit := Off.mk hbit
            clear hbit hS
            cases hp : winB q l s
            · cases hp2 : winB q l (with_ s k)
              · rw [hp, hp2] at hS'
                go_wp2_with (first
                  | (go_at_call_of 78 (Value.int .i64 (s : Int)); refine (wins1 s q l A c _ _ hb1.quota hb1.weights hl h8 hw (by omega) (by omega)).mono ?_; rintro e w2 ⟨rfl, rfl⟩)
                  | (refine (wins1 (with_ s k) q l A c _ _ hb1.quota hb1.weights hl h8 hw (by omega) (by omega)).mono ?_; rintro e w2 ⟨rfl, rfl⟩))
                go_roundw
                case rel => exact ⟨s + 1, by omega, by go_num, ⟨by rw [hS'.out]; simpa using HJ.out⟩, hkw, hb0, hb1, hl⟩
                case measure => simp only [intOf]; omega
              · rw [hp, hp2] at hS'
                go_wp2_with (first
                  | (go_at_call_of 78 (Value.int .i64 (s : Int)); refine (wins1 s q l A c _ _ hb1.quota hb1.weights hl h8 hw (by omega) (by omega)).mono ?_; rintro e w2 ⟨rfl, rfl⟩)
                  | (go_at_call 78; refine (wins1 (with_ s k) q l A c _ _ hb1.quota hb1.weights hl h8 hw (by omega) (by omega)).mono ?_; rintro e w2 ⟨rfl, rfl⟩)
                  | (go_at_fn g; refine (hJ.call _ _ k s HJ.out HT.out hlt (nat_lt_pow hls) HBit.out).mono ?_; rintro e w3 ⟨rfl, HJ3, hk3⟩))
                have HJ4 : Off (J (turnsTo (winB q l) l.length k ++ turnsIn (winB q l) k (s + 1)) w3) := ⟨by rw [hS'.out]; simpa using HJ3⟩
                go_roundw
                case rel => exact ⟨s + 1, by omega, by go_num, HJ4, hkw.trans hk3, hb0.keeps hk3 hr0, hb1.keeps hk3 hr1, hl.keeps hk3 hA⟩
                case measure => simp only [intOf]; omega
            · rw [hp] at hS'
              go_wp2_with (go_at_call 78; refine (wins1 s q l A c _ _ hb1.quota hb1.weights hl h8 hw (by omega) (by omega)).mono ?_; rintro e w2 ⟨rfl, rfl⟩)
              go_roundw
              case rel => exact ⟨s + 1, by omega, by go_num, ⟨by rw [hS'.out]; simpa using HJ.out⟩, hkw, hb0, hb1, hl⟩
              case measure => simp only [intOf]; omega
          · have hbit' : ((s : Int) / 2 ^ k % 2 == 0) = false := beq_eq_false_iff_ne.2 hbit
            have hS' : Off (turnsIn (winB q l) k (s + 1) = turnsIn (winB q l) k s) := ⟨by rw [hS.out]; simp [hbit]⟩
            clear hS
            go_wp2
            go_roundw
            case rel => exact ⟨s + 1, by omega, by go_num, ⟨by rw [hS'.out]; exact HJ.out⟩, hkw, hb0, hb1, hl⟩
            case measure => simp only [intOf]; omega
        · have hse : s = 2 ^ l.length := by
            have : ((2 ^ l.length : Nat) : Int) = 2 ^ l.length := by rw [Int.natCast_pow]; rfl
            omega
          have HJ' : Off (J (turnsTo (winB q l) l.length (k + 1)) wr) := ⟨by have := HJ.out; rw [hse] at this; exact this⟩
          clear hse HJ
          go_wp2
          go_roundw
          case rel => exact ⟨k + 1, by omega, by go_num, HJ'.out, hkw, hb0, hb1, hl⟩
          case measure => simp only [intOf]; omega
    · obtain rfl : k = l.length := by omega
      go_wp2
      go_end0
      exact ⟨rfl, hj, hkw⟩
end Go.Proofs.Ytdbleghnblohgaa
