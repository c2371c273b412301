/- The specification's Turns, by its printed walk: what it comes to. -/
import Derived.Test.YtdbleghnblohgaaVp
import Derived.Test.YtdbleghnblohgaaPVotePowersx3
namespace Go.Proofs.Ytdbleghnblohgaa
open Go.RowKit Go.Shelf Go.Proofs.Ytdbleghnblohgaa.PVotePowers Go.Proofs.YtdbleghnblohgaaW.PrintWords Go.Proofs.YtdbleghnblohgaaW.PrintMore

/-- The sum of f over pairs of a drover and a set. -/
def sumOf (f : Nat → Nat → Int) (l : List (Nat × Nat)) : Int := l.foldl (fun a x => a + f x.1 x.2) 0
theorem sumOf_snoc (f : Nat → Nat → Int) (l : List (Nat × Nat)) (x : Nat × Nat) : sumOf f (l ++ [x]) = sumOf f l + f x.1 x.2 := by simp [sumOf]
/-- Of each of the first k drovers the sum of f over the sets that they turn. -/
def perTo (f : Nat → Nat → Int) (p : Int → Bool) (n : Nat) : Nat → List Int
  | 0 => []
  | k + 1 => perTo f p n k ++ [sumOf f (turnsIn p k (2 ^ n))]
theorem perTo_length (f : Nat → Nat → Int) (p : Int → Bool) (n k : Nat) : (perTo f p n k).length = k := by
  induction k with
  | zero => rfl
  | succ k ih => simp [perTo, ih]
theorem sumOf_range (f : Nat → Nat → Int) (M : Int) (hf : ∀ i s, 0 ≤ f i s ∧ f i s ≤ M) (l : List (Nat × Nat)) : 0 ≤ sumOf f l ∧ sumOf f l ≤ M * l.length := by
  have H : ∀ (l : List (Nat × Nat)) (a : Int), a ≤ l.foldl (fun a x => a + f x.1 x.2) a ∧ l.foldl (fun a x => a + f x.1 x.2) a ≤ a + M * l.length := by
    intro l
    induction l with
    | nil => intro a; simp
    | cons x l ih =>
      intro a
      have h1 := ih (a + f x.1 x.2)
      have h2 := hf x.1 x.2
      rw [List.foldl_cons, List.length_cons, Int.natCast_add, Int.mul_add]
      simp only [Int.cast_ofNat_Int]
      omega
  have := H l 0
  exact ⟨this.1, by have := this.2; unfold sumOf; omega⟩
theorem with_clear (s : Int) (i : Nat) (h : s / 2 ^ i % 2 = 0) : with_ s i = s + 2 ^ i := by unfold with_; rw [h]; omega
theorem wrap64_id {x : Int} (h0 : -9223372036854775808 ≤ x) (h1 : x ≤ 9223372036854775807) : wrap64 x = x := by unfold wrap64; omega
theorem ev_shr (x : Int) (k : Nat) (hk : k ≤ 64) : shr .i64 x (k : Int) = x / 2 ^ k := by
  unfold shr
  rw [Int.toNat_natCast, Nat.min_eq_left (by simpa [IntKind.bits] using hk)]
theorem ev_shl (k : Nat) (hk : k ≤ 8) : shl .i64 1 (k : Int) = 2 ^ k := by
  have := pow_le k hk
  unfold shl
  rw [Int.toNat_natCast, Nat.min_eq_left (by simp [IntKind.bits]; omega), Int.one_mul, IntKind.wrap_i64]
  omega
theorem ev_rd (l : List Int) (k : Nat) : rd l (k : Int) = l.getD k 0 := by unfold rd; rw [Int.toNat_natCast]

theorem ev_if {β : Type} {g : Nat → Option Bool} {A B : Nat → Option β} {b : Bool} {r : β} (h : Ev g b) (k : Ev (fun n => if b = true then A n else B n) r) : Ev (fun n => (g n).bind fun t => if t = true then A n else B n) r :=
  Ev.bind (f := fun n t => if t = true then A n else B n) h k
theorem ev_t {β : Type} {A B : Nat → Option β} {r : β} (k : Ev A r) : Ev (fun n => if true = true then A n else B n) r := Ev.congr (fun n => if_pos rfl) k
theorem ev_f {β : Type} {A B : Nat → Option β} {r : β} (k : Ev B r) : Ev (fun n => if false = true then A n else B n) r := Ev.congr (fun n => if_neg Bool.false_ne_true) k
theorem ev_wins (q s : Int) (l : List Int) (h8 : l.length ≤ 8) (hw : ∀ j, j < l.length → 0 ≤ l.getD j 0 ∧ l.getD j 0 ≤ 1000) (h0 : 0 ≤ s) (h1 : s < 256) :
    Ev (fun k => drovewayref03_wins.f k q l s) (winB q l s) := by
  have H : ∀ d i : Nat, i + d = l.length → Ev (fun k => drovewayref03_wins.l0 k s (sumTo l s i) (i : Int) q l) (winB q l s) := by
    intro d
    induction d with
    | zero =>
      intro i hi
      refine Ev.step (f := fun _ => some (winB q l s)) (fun k => ?_) (Ev.now _)
      simp only [drovewayref03_wins.l0]
      rw [if_neg (by omega)]
      rw [show i = l.length by omega]
      rfl
    | succ d ih =>
      intro i hi
      refine Ev.step (fun k => ?_) (ih (i + 1) (by omega))
      have hr := sumTo_range l s hw i (by omega)
      have hb := bit_range s i
      have hm := mul_bit (hw i (by omega)) hb
      have hd := div_range s i h0
      simp only [drovewayref03_wins.l0]
      rw [if_pos (by omega), if_pos (by omega), ev_rd, ev_shr s i (by omega), Int.tmod_eq_emod_of_nonneg hd.1]
      rw [wrap64_id (x := l.getD i 0 * (s / 2 ^ i % 2)) (by omega) (by omega), wrap64_id (by omega) (by omega), wrap64_id (by omega) (by omega)]
      rfl
  exact H l.length 0 (by omega)
theorem ev_body (q : Int) (l : List Int) (h30 : l.length ≤ 30) : Ev (fun k => drovewayref03_IsBody.f k q l) (bodyB q l) := by
  have H : ∀ d i : Nat, i + d = l.length → (∀ j, j < i → 0 ≤ l.getD j 0 ∧ l.getD j 0 ≤ 1000) → 0 ≤ allTo l i ∧ allTo l i ≤ 1000 * i → Ev (fun k => drovewayref03_IsBody.l0 k (allTo l i) (i : Int) q l) (bodyB q l) := by
    intro d
    induction d with
    | zero =>
      intro i hi hw hs
      refine Ev.step (f := fun _ => some (bodyB q l)) (fun k => ?_) (Ev.now _)
      obtain rfl : i = l.length := by omega
      simp only [drovewayref03_IsBody.l0]
      rw [if_neg (by omega)]
      by_cases h1 : (l.length : Int) ≥ 1
      · rw [if_pos h1]
        by_cases h8 : (l.length : Int) ≤ 8
        · rw [if_pos h8]
          by_cases hq : q ≥ 1
          · rw [if_pos hq, bodyB]
            exact congrArg some (decide_eq_decide.2 ⟨fun h => ⟨by omega, by omega, hw, hq, h⟩, fun h => h.2.2.2.2⟩)
          · rw [if_neg hq, bodyB, decide_eq_false (fun h => hq h.2.2.2.1)]
        · rw [if_neg h8, bodyB, decide_eq_false (fun h => h8 (by have := h.2.1; omega))]
      · rw [if_neg h1, bodyB, decide_eq_false (fun h => h1 (by have := h.1; omega))]
    | succ d ih =>
      intro i hi hw hs
      by_cases h0 : l.getD i 0 < 0
      · refine Ev.step (f := fun _ => some (bodyB q l)) (fun k => ?_) (Ev.now _)
        simp only [drovewayref03_IsBody.l0]
        rw [if_pos (by omega), if_pos (by omega), ev_rd, if_pos h0, bodyB, decide_eq_false (fun h => by have := (h.2.2.1 i (by omega)).1; omega)]
      by_cases h1 : l.getD i 0 > 1000
      · refine Ev.step (f := fun _ => some (bodyB q l)) (fun k => ?_) (Ev.now _)
        simp only [drovewayref03_IsBody.l0]
        rw [if_pos (by omega), if_pos (by omega), ev_rd, if_neg h0, if_pos h1, bodyB, decide_eq_false (fun h => by have := (h.2.2.1 i (by omega)).2; omega)]
      refine Ev.step (fun k => ?_) (ih (i + 1) (by omega) (fun j hj => ?_) ?_)
      · simp only [drovewayref03_IsBody.l0]
        rw [if_pos (by omega), if_pos (by omega), ev_rd, if_neg h0, if_neg h1, wrap64_id (by omega) (by omega), wrap64_id (by omega) (by omega)]
        rfl
      · by_cases e : j = i
        · subst e; omega
        · exact hw j (by omega)
      · simp only [allTo]; omega
  exact H l.length 0 (by omega) (fun j hj => by omega) (by simp [allTo])
theorem ev_turns (q : Int) (l : List Int) (hbody : bodyB q l = true) : Ev (fun k => drovewayref03_Turns.f k q l) (perTo (fun _ _ => 1) (winB q l) l.length l.length, 0) := by
  obtain ⟨h8, hw⟩ := Body.weights hbody
  have hp := pow_le l.length h8
  have H : ∀ d i : Nat, i + d = l.length → Ev (fun k => drovewayref03_Turns.l0 k (perTo (fun _ _ => 1) (winB q l) l.length i) (i : Int) q l) (perTo (fun _ _ => 1) (winB q l) l.length l.length, 0) := by
    intro d
    induction d with
    | zero =>
      intro i hi
      refine Ev.step (f := fun _ => some _) (fun k => ?_) (Ev.now _)
      simp only [drovewayref03_Turns.l0]
      rw [if_neg (by omega), show i = l.length by omega]
    | succ d ih =>
      intro i hi
      have G : ∀ e s : Nat, s + e = 2 ^ l.length → Ev (fun k => drovewayref03_Turns.l1 k (perTo (fun _ _ => 1) (winB q l) l.length i) (i : Int) (sumOf (fun _ _ => 1) (turnsIn (winB q l) i s)) (s : Int) q l) (perTo (fun _ _ => 1) (winB q l) l.length l.length, 0) := by
        intro e
        induction e with
        | zero =>
          intro s hs
          refine Ev.step (fun k => ?_) (ih (i + 1) (by omega))
          have hse : (s : Int) = 2 ^ l.length := by have := nat_pow l.length; omega
          have hl := perTo_length (fun _ _ => 1) (winB q l) l.length i
          simp only [drovewayref03_Turns.l1]
          rw [ev_shl _ h8, if_neg (by omega), if_pos (by omega), wrap64_id (by omega) (by omega), show s = 2 ^ l.length by omega]
          rfl
        | succ e ihe =>
          intro s hs
          have hnp := nat_pow l.length
          have hslt : (s : Int) < 2 ^ l.length := by omega
          have hd := div_range s i (by omega)
          have hpi := pow_le i (by omega)
          have hrg := sumOf_range (fun _ _ => 1) 1 (fun _ _ => ⟨by omega, by omega⟩) (turnsIn (winB q l) i s)
          have hlen := turnsIn_length (winB q l) i s
          have next := ihe (s + 1) (by omega)
          by_cases hbit : (s : Int) / 2 ^ i % 2 = 0
          · have hwr := with_range s i l.length (by omega) (by omega) hslt hbit
            have hwc := with_clear s i hbit
            obtain ⟨X, hX⟩ : ∃ X, X = perTo (fun _ _ => 1) (winB q l) l.length i := ⟨_, rfl⟩
            obtain ⟨m, hm⟩ : ∃ m, m = sumOf (fun _ _ => 1) (turnsIn (winB q l) i s) := ⟨_, rfl⟩
            rw [← hX] at next ⊢
            rw [← hm] at hrg ⊢
            have hstep : ∀ k, drovewayref03_Turns.l1 (k + 1) X (i : Int) m (s : Int) q l = (drovewayref03_wins.f k q l s).bind fun t => if t = true then drovewayref03_Turns.l1 k X (i : Int) m ((s + 1 : Nat) : Int) q l else
                (drovewayref03_wins.f k q l (with_ s i)).bind fun t => if t = true then drovewayref03_Turns.l1 k X (i : Int) (m + 1) ((s + 1 : Nat) : Int) q l else drovewayref03_Turns.l1 k X (i : Int) m ((s + 1 : Nat) : Int) q l := by
              intro k
              simp only [drovewayref03_Turns.l1]
              rw [ev_shl _ h8, if_pos hslt, if_pos (by omega), ev_shr _ _ (by omega), Int.tmod_eq_emod_of_nonneg hd.1, if_pos hbit, ev_shl _ (by omega), wrap64_id (x := (s : Int) + 2 ^ i) (by omega) (by omega), ← hwc, wrap64_id (x := (s : Int) + 1) (by omega) (by omega), wrap64_id (x := m + 1) (by omega) (by omega)]
              rfl
            refine Ev.step hstep (ev_if (ev_wins q s l h8 hw.out (by omega) (by omega)) ?_)
            cases hp1 : winB q l s
            · refine ev_f (ev_if (ev_wins q (with_ s i) l h8 hw.out (by omega) (by omega)) ?_)
              cases hp2 : winB q l (with_ s i)
              · have hS : turnsIn (winB q l) i (s + 1) = turnsIn (winB q l) i s := by simp [turnsIn, hp1, hp2]
                rw [hS, ← hm] at next
                exact ev_f next
              · have hS : turnsIn (winB q l) i (s + 1) = turnsIn (winB q l) i s ++ [(i, s)] := by simp [turnsIn, hp1, hp2, hbit]
                rw [hS, sumOf_snoc, ← hm] at next
                exact ev_t next
            · have hS : turnsIn (winB q l) i (s + 1) = turnsIn (winB q l) i s := by simp [turnsIn, hp1]
              rw [hS, ← hm] at next
              exact ev_t next
          · have hS : turnsIn (winB q l) i (s + 1) = turnsIn (winB q l) i s := by simp [turnsIn, hbit]
            rw [hS] at next
            refine Ev.step (fun k => ?_) next
            simp only [drovewayref03_Turns.l1]
            rw [ev_shl _ h8, if_pos hslt, if_pos (by omega), ev_shr _ _ (by omega), Int.tmod_eq_emod_of_nonneg hd.1, if_neg hbit, wrap64_id (x := (s : Int) + 1) (by omega) (by omega)]
            rfl
      refine Ev.step (fun k => ?_) (G (2 ^ l.length) 0 (by omega))
      simp only [drovewayref03_Turns.l0]
      rw [if_pos (by omega)]
      rfl
  have h0 := H l.length 0 (by omega)
  refine Ev.bind (hbody ▸ ev_body q l (by omega)) ?_
  simp only [if_true]
  exact h0
end Go.Proofs.Ytdbleghnblohgaa
