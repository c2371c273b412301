/- The specification's Power, by its printed walk: what it comes to. -/
import Derived.Test.YtdbleghnblohgaaVr
import Derived.Test.YtdbleghnblohgaaPVotePowersx5
namespace Go.Proofs.Ytdbleghnblohgaa
open Go.RowKit Go.Shelf Go.Proofs.Ytdbleghnblohgaa.PVotePowers Go.Proofs.YtdbleghnblohgaaW.PrintWords Go.Proofs.YtdbleghnblohgaaW.PrintMore

theorem wrap64_nat {x : Nat} (h : x ≤ 1000000000000000) : wrap64 (x : Int) = (x : Int) := by unfold wrap64; omega
theorem ev_fact (n : Nat) (h : n ≤ 8) : Ev (fun k => drovewayref03_factorial.f k (n : Int)) (factI n) := by
  have H : ∀ d i : Nat, 1 ≤ i → i + d = max n 1 → Ev (fun k => drovewayref03_factorial.l0 k (n : Int) (factI i) ((i : Int) + 1)) (factI n) := by
    intro d
    induction d with
    | zero =>
      intro i h1 hi
      refine Ev.step (f := fun _ => some _) (fun k => ?_) (Ev.now _)
      simp only [drovewayref03_factorial.l0]
      rw [if_neg (by omega)]
      by_cases e : n = 0
      · subst e
        obtain rfl : i = 1 := by omega
        rfl
      · rw [show i = n by omega]
    | succ d ih =>
      intro i h1 hi
      refine Ev.step (fun k => ?_) (ih (i + 1) (by omega) (by omega))
      have hr := factI_range (i + 1) (by omega)
      simp only [factI] at hr
      simp only [drovewayref03_factorial.l0]
      rw [if_pos (by omega), wrap64_id (x := factI i * ((i : Int) + 1)) (by omega) (by omega), wrap64_id (by omega) (by omega)]
      rfl
  exact H (max n 1 - 1) 1 (by omega) (by omega)
theorem pop_half : ∀ s : Fin 256, popTo ((s.val : Nat) : Int) 8 = (s.val % 2 : Nat) + popTo ((s.val / 2 : Nat) : Int) 8 := by decide +kernel
theorem ev_size (s : Nat) (h : s < 256) : Ev (fun k => drovewayref03_size.f k (s : Int)) (popTo (s : Int) 8) := by
  have H : ∀ d s : Nat, s < 2 ^ d → s < 256 → ∀ a : Int, 0 ≤ a → a ≤ 1000 - 8 + (8 - d) → d ≤ 8 → Ev (fun k => drovewayref03_size.l0 k (s : Int) a) (a + popTo (s : Int) 8) := by
    intro d
    induction d with
    | zero =>
      intro s hs _ a h0 h1 _
      obtain rfl : s = 0 := by omega
      refine Ev.step (f := fun _ => some _) (fun k => ?_) (Ev.now _)
      simp only [drovewayref03_size.l0]
      rw [if_neg (by omega)]
      simp [popTo]
    | succ d ih =>
      intro s hs h256 a h0 h1 hd
      by_cases e : s = 0
      · subst e
        refine Ev.step (f := fun _ => some _) (fun k => ?_) (Ev.now _)
        simp only [drovewayref03_size.l0]
        rw [if_neg (by omega)]
        simp [popTo]
      · have hp := pop_half ⟨s, h256⟩
        simp only at hp
        have := ih (s / 2) (by rw [Nat.pow_succ] at hs; omega) (by omega) (a + ((s % 2 : Nat) : Int)) (by omega) (by omega) (by omega)
        rw [Int.add_assoc, ← hp] at this
        refine Ev.step (fun k => ?_) this
        simp only [drovewayref03_size.l0]
        rw [if_pos (by omega), Int.tdiv_eq_ediv_of_nonneg (by omega), Int.tmod_eq_emod_of_nonneg (by omega), wrap64_id (by omega) (by omega), wrap64_id (by omega) (by omega)]
        rw [Int.natCast_ediv, Int.natCast_emod]
        rfl
  have := H 8 s (by omega) h 0 (by omega) (by omega) (by omega)
  rw [Int.zero_add] at this
  exact this
theorem ev_gcd (a b : Nat) (ha : a ≤ 1000000000000000) (hb : b ≤ 1000000000000000) : Ev (fun k => drovewayref01_Gcd.f k (a : Int) (b : Int)) (Nat.gcd a b : Int) := by
  have H : ∀ d b a : Nat, b ≤ d → Ev (fun k => drovewayref01_Gcd.l0 k (a : Int) (b : Int)) (Nat.gcd a b : Int) := by
    intro d
    induction d with
    | zero =>
      intro b a hbd
      obtain rfl : b = 0 := by omega
      refine Ev.step (f := fun _ => some _) (fun k => ?_) (Ev.now _)
      simp only [drovewayref01_Gcd.l0]
      rw [if_neg (by omega), Nat.gcd_zero_right]
    | succ d ih =>
      intro b a hbd
      by_cases e : b = 0
      · subst e
        refine Ev.step (f := fun _ => some _) (fun k => ?_) (Ev.now _)
        simp only [drovewayref01_Gcd.l0]
        rw [if_neg (by omega), Nat.gcd_zero_right]
      · have hm := Nat.mod_lt a (show 0 < b by omega)
        have := ih (a % b) b (by omega)
        rw [show Nat.gcd b (a % b) = Nat.gcd a b by rw [Nat.gcd_comm a b, Nat.gcd_rec b a, Nat.gcd_comm]] at this
        refine Ev.step (fun k => ?_) this
        simp only [drovewayref01_Gcd.l0]
        rw [if_pos (by omega), if_neg (by omega), Int.tmod_eq_emod_of_nonneg (by omega), Int.natCast_emod]
  refine Ev.congr (fun k => ?_) (H b b a (Nat.le_refl _))
  simp only [drovewayref01_Gcd.f, mx]
  rw [wrap64_id (by omega) (by omega), wrap64_id (by omega) (by omega)]
  by_cases ea : (a : Int) < -(a : Int)
  · omega
  · by_cases eb : (b : Int) < -(b : Int)
    · omega
    · rw [if_neg ea, if_neg eb]
def ratI (a b : Nat) : Int × Int := (((ratioOf a b).1 : Int), ((ratioOf a b).2 : Int))
theorem ev_ratio (a b : Nat) (ha : a ≤ 1000000000000000) (hb : b ≤ 1000000000000000) (hb0 : 0 < b) : Ev (fun k => drovewayref03_Ratio.f k (a : Int) (b : Int)) (ratI a b) := by
  have hg : 0 < Nat.gcd a b := Nat.gcd_pos_of_pos_right a hb0
  have h1 : a / Nat.gcd a b ≤ a := Nat.div_le_self _ _
  have h2 : b / Nat.gcd a b ≤ b := Nat.div_le_self _ _
  refine Ev.bind (f := fun k t => if t = 0 then none else some (wrap64 (Int.tdiv (a : Int) t), wrap64 (Int.tdiv (b : Int) t))) (ev_gcd a b ha hb) ?_
  refine Ev.congr (fun k => ?_) (Ev.now _)
  rw [if_neg (by omega), Int.tdiv_eq_ediv_of_nonneg (by omega), Int.tdiv_eq_ediv_of_nonneg (by omega), ← Int.natCast_ediv, ← Int.natCast_ediv, wrap64_nat (Nat.le_trans h1 ha), wrap64_nat (Nat.le_trans h2 hb)]
  rfl
def s35 (n : Nat) (x : Int) : S35 := ⟨((ratioOf x.toNat (factI n).toNat).1 : Int), ((ratioOf x.toNat (factI n).toNat).2 : Int)⟩
theorem ev_power (q : Int) (l : List Int) (hbody : bodyB q l = true) : Ev (fun k => drovewayref03_Power.f k q l) ((perTo (orderI l.length) (winB q l) l.length l.length).map (s35 l.length), 0) := by
  obtain ⟨h8, hw⟩ := Body.weights hbody
  have hp := pow_le l.length h8
  obtain ⟨n, hn⟩ : ∃ n, n = l.length := ⟨_, rfl⟩
  obtain ⟨p, hpd⟩ : ∃ p, p = winB q l := ⟨_, rfl⟩
  have hwin : ∀ s : Int, 0 ≤ s → s < 256 → Ev (fun k => drovewayref03_wins.f k q l s) (p s) := fun s h0 h1 => by rw [hpd]; exact ev_wins q s l h8 hw.out h0 h1
  refine Ev.bind (hbody ▸ ev_body q l (by omega)) ?_
  refine ev_t ?_
  rw [← hn] at h8 hp
  rw [← hpd, ← hn]
  have hfn := factI_range n h8
  have H : ∀ d i : Nat, i + d = n → Ev (fun k => drovewayref03_Power.l0 k (n : Int) ((perTo (orderI n) p n i).map (s35 n)) (i : Int) q l) ((perTo (orderI n) p n n).map (s35 n), 0) := by
    intro d
    induction d with
    | zero =>
      intro i hi
      refine Ev.step (f := fun _ => some _) (fun k => ?_) (Ev.now _)
      simp only [drovewayref03_Power.l0]
      rw [if_neg (by omega), show i = n by omega]
    | succ d ih =>
      intro i hi
      have nexti := ih (i + 1) (by omega)
      have hl := perTo_length (orderI n) p n i
      have HX : (perTo (orderI n) p n (i + 1)).map (s35 n) = (perTo (orderI n) p n i).map (s35 n) ++ [s35 n (sumOf (orderI n) (turnsIn p i (2 ^ n)))] := by simp [perTo]
      rw [HX] at nexti
      have hXl : ((perTo (orderI n) p n i).map (s35 n)).length = i := by rw [List.length_map, hl]
      obtain ⟨X, hX⟩ : ∃ X, X = (perTo (orderI n) p n i).map (s35 n) := ⟨_, rfl⟩
      rw [← hX] at nexti hXl ⊢
      clear HX
      have G : ∀ e s : Nat, s + e = 2 ^ n → Ev (fun k => drovewayref03_Power.l1 k (n : Int) X (i : Int) (sumOf (orderI n) (turnsIn p i s)) (s : Int) q l) ((perTo (orderI n) p n n).map (s35 n), 0) := by
        intro e
        induction e with
        | zero =>
          intro s hs
          obtain rfl : s = 2 ^ n := by omega
          have hnp := nat_pow n
          have hrg := sumOf_range (orderI n) 1625702400 (fun _ _ => orderI_range n h8 _ _) (turnsIn p i (2 ^ n))
          have hlen := turnsIn_length p i (2 ^ n)
          obtain ⟨x, hx⟩ : ∃ x : Nat, (x : Int) = sumOf (orderI n) (turnsIn p i (2 ^ n)) := ⟨(sumOf (orderI n) (turnsIn p i (2 ^ n))).toNat, by omega⟩
          rw [← hx] at nexti hrg ⊢
          obtain ⟨fN, hfN⟩ : ∃ f : Nat, (f : Int) = factI n := ⟨(factI n).toNat, by omega⟩
          have hr := ev_ratio x fN (by omega) (by omega) (by omega)
          have hf := ev_fact n h8
          rw [← hfN] at hf
          have e1 : s35 n (x : Int) = ⟨(ratI x fN).1, (ratI x fN).2⟩ := by
            unfold s35 ratI
            rw [← hfN, Int.toNat_natCast, Int.toNat_natCast]
          rw [e1] at nexti
          have hstep : ∀ k, drovewayref03_Power.l1 (k + 1) (n : Int) X (i : Int) (x : Int) ((2 ^ n : Nat) : Int) q l = (drovewayref03_factorial.f k (n : Int)).bind fun t => (drovewayref03_Ratio.f k (x : Int) t).bind fun b =>
              drovewayref03_Power.l0 k (n : Int) (X ++ [(⟨b.1, b.2⟩ : S35)]) ((i + 1 : Nat) : Int) q l := by
            intro k
            simp only [drovewayref03_Power.l1]
            rw [if_pos (by omega), ev_shl _ h8, if_neg (by omega)]
            simp only [if_pos (show X.length < 8796093022208 by omega)]
            rw [wrap64_id (x := (i : Int) + 1) (by omega) (by omega)]
            rfl
          refine Ev.step hstep (Ev.bind (f := fun k t => (drovewayref03_Ratio.f k (x : Int) t).bind fun b => drovewayref03_Power.l0 k (n : Int) (X ++ [(⟨b.1, b.2⟩ : S35)]) ((i + 1 : Nat) : Int) q l) hf ?_)
          exact Ev.bind (f := fun k (b : Int × Int) => drovewayref03_Power.l0 k (n : Int) (X ++ [(⟨b.1, b.2⟩ : S35)]) ((i + 1 : Nat) : Int) q l) hr nexti
        | succ e ihe =>
          intro s hs
          have hnp := nat_pow n
          have hslt : (s : Int) < 2 ^ n := by omega
          have hd := div_range s i (by omega)
          have hpi := pow_le i (by omega)
          have hrg := sumOf_range (orderI n) 1625702400 (fun _ _ => orderI_range n h8 _ _) (turnsIn p i s)
          have hlen := turnsIn_length p i s
          have next := ihe (s + 1) (by omega)
          obtain ⟨m, hm⟩ : ∃ m, m = sumOf (orderI n) (turnsIn p i s) := ⟨_, rfl⟩
          rw [← hm] at hrg ⊢
          have J : ∀ t : Bool, Ev (fun k => drovewayref03_Power.l1 k (n : Int) X (i : Int) (if t = true then m + orderI n i s else m) ((s + 1 : Nat) : Int) q l) ((perTo (orderI n) p n n).map (s35 n), 0) →
              (t = true → (s : Int) / 2 ^ i % 2 = 0) → Ev (fun k => drovewayref03_Power.j2 k (n : Int) X (i : Int) m (s : Int) t q l) ((perTo (orderI n) p n n).map (s35 n), 0) := by
            intro t hnext hbit
            cases t with
            | false =>
              refine Ev.step (fun k => ?_) hnext
              simp only [drovewayref03_Power.j2]
              rw [wrap64_id (x := (s : Int) + 1) (by omega) (by omega)]
              rfl
            | true =>
              obtain ⟨hs256, hpop⟩ := pop_lt n i s h8 (by omega) (by omega) (hbit rfl)
              have hpr := popTo_range (s : Int) 8
              have hor := orderI_range n h8 i s
              obtain ⟨c, hc⟩ : ∃ c : Nat, (c : Int) = popTo (s : Int) 8 := ⟨(popTo (s : Int) 8).toNat, by omega⟩
              have hsz := ev_size s hs256
              rw [← hc] at hsz
              have hf1 := ev_fact c (by omega)
              have hf2 := ev_fact (n - 1 - c) (by omega)
              have e1 : wrap64 (factI c * factI (n - 1 - c)) = orderI n i s := by
                have : factI c * factI (n - 1 - c) = orderI n i s := by
                  unfold orderI
                  rw [← hc, Int.toNat_natCast, show ((n : Int) - 1 - (c : Int)).toNat = n - 1 - c by omega]
                rw [this, wrap64_id (by omega) (by omega)]
              have hstep : ∀ k, drovewayref03_Power.j2 (k + 1) (n : Int) X (i : Int) m (s : Int) true q l = (drovewayref03_size.f k (s : Int)).bind fun t144 => ((drovewayref03_factorial.f k t144).bind fun t145 => ((drovewayref03_size.f k (s : Int)).bind fun t146 => ((drovewayref03_factorial.f k (wrap64 ((wrap64 ((n : Int) - 1)) - t146))).bind fun t147 => (drovewayref03_Power.l1 k (n : Int) X (i : Int) (wrap64 (m + (wrap64 (t145 * t147)))) (wrap64 ((s : Int) + 1)) q l)))) := fun k => by
                simp only [drovewayref03_Power.j2, if_true]
              refine Ev.step hstep (Ev.bind (f := fun k t144 => ((drovewayref03_factorial.f k t144).bind fun t145 => ((drovewayref03_size.f k (s : Int)).bind fun t146 => ((drovewayref03_factorial.f k (wrap64 ((wrap64 ((n : Int) - 1)) - t146))).bind fun t147 => (drovewayref03_Power.l1 k (n : Int) X (i : Int) (wrap64 (m + (wrap64 (t145 * t147)))) (wrap64 ((s : Int) + 1)) q l))))) hsz ?_)
              refine Ev.bind (f := fun k t145 => ((drovewayref03_size.f k (s : Int)).bind fun t146 => ((drovewayref03_factorial.f k (wrap64 ((wrap64 ((n : Int) - 1)) - t146))).bind fun t147 => (drovewayref03_Power.l1 k (n : Int) X (i : Int) (wrap64 (m + (wrap64 (t145 * t147)))) (wrap64 ((s : Int) + 1)) q l)))) hf1 ?_
              refine Ev.bind (f := fun k t146 => ((drovewayref03_factorial.f k (wrap64 ((wrap64 ((n : Int) - 1)) - t146))).bind fun t147 => (drovewayref03_Power.l1 k (n : Int) X (i : Int) (wrap64 (m + (wrap64 (factI c * t147)))) (wrap64 ((s : Int) + 1)) q l))) hsz ?_
              rw [wrap64_id (x := (n : Int) - 1) (by omega) (by omega), wrap64_id (x := (n : Int) - 1 - (c : Int)) (by omega) (by omega), show (n : Int) - 1 - (c : Int) = ((n - 1 - c : Nat) : Int) by omega]
              refine Ev.bind (f := fun k t147 => (drovewayref03_Power.l1 k (n : Int) X (i : Int) (wrap64 (m + (wrap64 (factI c * t147)))) (wrap64 ((s : Int) + 1)) q l)) hf2 ?_
              rw [e1, wrap64_id (x := m + orderI n i s) (by omega) (by omega), wrap64_id (x := (s : Int) + 1) (by omega) (by omega)]
              exact hnext
          by_cases hbit : (s : Int) / 2 ^ i % 2 = 0
          · have hwr := with_range s i n (by omega) (by omega) hslt hbit
            have hwc := with_clear s i hbit
            have hstep : ∀ k, drovewayref03_Power.l1 (k + 1) (n : Int) X (i : Int) m (s : Int) q l = (drovewayref03_wins.f k q l s).bind fun t => if t = true then drovewayref03_Power.j2 k (n : Int) X (i : Int) m (s : Int) false q l else
                (drovewayref03_wins.f k q l (with_ s i)).bind fun t => drovewayref03_Power.j2 k (n : Int) X (i : Int) m (s : Int) t q l := by
              intro k
              simp only [drovewayref03_Power.l1]
              rw [if_pos (by omega), ev_shl _ h8, if_pos hslt, if_pos (by omega), ev_shr _ _ (by omega), Int.tmod_eq_emod_of_nonneg hd.1, if_pos hbit, ev_shl _ (by omega), wrap64_id (x := (s : Int) + 2 ^ i) (by omega) (by omega), ← hwc]
            refine Ev.step hstep (ev_if (hwin s (by omega) (by omega)) ?_)
            cases hp1 : p s
            · refine ev_f (Ev.bind (f := fun k t => drovewayref03_Power.j2 k (n : Int) X (i : Int) m (s : Int) t q l) (hwin (with_ s i) (by omega) (by omega)) ?_)
              refine J _ ?_ (fun _ => hbit)
              cases hp2 : p (with_ s i)
              · have hS : turnsIn p i (s + 1) = turnsIn p i s := by simp [turnsIn, hp1, hp2]
                rw [hS, ← hm] at next
                exact next
              · have hS : turnsIn p i (s + 1) = turnsIn p i s ++ [(i, s)] := by simp [turnsIn, hp1, hp2, hbit]
                rw [hS, sumOf_snoc, ← hm] at next
                exact next
            · have hS : turnsIn p i (s + 1) = turnsIn p i s := by simp [turnsIn, hp1]
              rw [hS, ← hm] at next
              exact ev_t (J false next (fun h => absurd h (by decide)))
          · have hS : turnsIn p i (s + 1) = turnsIn p i s := by simp [turnsIn, hbit]
            rw [hS, ← hm] at next
            refine Ev.step (fun k => ?_) (J false next (fun h => absurd h (by decide)))
            simp only [drovewayref03_Power.l1]
            rw [if_pos (by omega), ev_shl _ h8, if_pos hslt, if_pos (by omega), ev_shr _ _ (by omega), Int.tmod_eq_emod_of_nonneg hd.1, if_neg hbit]
      refine Ev.step (fun k => ?_) (G (2 ^ n) 0 (by omega))
      simp only [drovewayref03_Power.l0]
      rw [if_pos (by omega)]
      rfl
  exact H n 0 (by omega)
end Go.Proofs.Ytdbleghnblohgaa
