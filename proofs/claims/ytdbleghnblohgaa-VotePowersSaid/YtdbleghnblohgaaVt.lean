/- Contracts of the specification's Turns and Power. -/
import Derived.Test.YtdbleghnblohgaaVs
namespace Go.Proofs.Ytdbleghnblohgaa
open Go.RowKit Go.Shelf Go.Proofs.Ytdbleghnblohgaa.PVotePowers Go.Proofs.YtdbleghnblohgaaW.PrintWords Go.Proofs.YtdbleghnblohgaaW.PrintMore

theorem kd_of_ints {w : World} {A : Option Addr} {l : List Int} (h : IntsAt w A l) : Kd.C (Kd.int .i64) w A l.length l :=
  Kd.C_of_reads (d := (0 : Int)) (h1 := fun _ => rfl) ⟨rfl, by have := h.len; omega, fun hn => by
    obtain ⟨ad, e, _⟩ := h.cell 0 hn
    refine ⟨ad, e, fun j hj => ?_⟩
    obtain ⟨ad', e', hc⟩ := h.cell j hj
    rw [e] at e'
    cases e'
    exact hc⟩
theorem ints_of_kd {w : World} {A : Option Addr} {l : List Int} (h : Kd.C (Kd.int .i64) w A l.length l) (hl : l.length ≤ 140737488351232) : IntsAt w A l := by
  have := Kd.reads_of_C (enc := Value.int .i64) (d := (0 : Int)) (h1 := fun _ => rfl) h
  refine ⟨hl, fun j hj => ?_⟩
  obtain ⟨ad, e, hc⟩ := this.2.2 (by omega)
  exact ⟨ad, e, hc j hj⟩

theorem rTurns_yes (q : Int) (l : List Int) (A : Option Addr) (c : Nat) (w : World) (hl : IntsAt w A l) (hlc : l.length ≤ c) (hbody : bodyB q l = true) :
    Calls Try.prog 18 #[.agg #[.int .i64 q, .slice A l.length c]] w fun e w' => ∃ A' c', e = .returned (.tuple #[.slice A' l.length c', .int .i64 0]) ∧ IntsAt w' A' (perTo (fun _ _ => 1) (winB q l) l.length l.length) ∧ Below w.heap.size w w' := by
  obtain ⟨k, hk⟩ := (ev_turns q l hbody).rounds
  refine (drovewayref03_Turns.calls k q A c l _ 0 w (kd_of_ints hl) hlc hk).mono ?_
  rintro e w' ⟨v, rfl, hR, hb⟩
  obtain ⟨A', c', rfl, _, hC⟩ := Kd.R_reads hR
  rw [perTo_length]
  have h8 := (Body.weights hbody).1
  exact ⟨A', c', rfl, ints_of_kd hC (by rw [perTo_length]; omega), hb⟩
theorem rTurns_no (q : Int) (l : List Int) (A : Option Addr) (c : Nat) (w : World) (hl : IntsAt w A l) (hlc : l.length ≤ c) (h30 : l.length ≤ 30) (hbody : bodyB q l = false) :
    Calls Try.prog 18 #[.agg #[.int .i64 q, .slice A l.length c]] w fun e w' => ∃ A' c', e = .returned (.tuple #[.slice A' 0 c', .int .i64 2]) ∧ IntsAt w' A' [] ∧ Below w.heap.size w w' := by
  have E : Ev (fun k => drovewayref03_Turns.f k q l) (([] : List Int), 2) := Ev.bind (hbody ▸ ev_body q l h30) (ev_f (Ev.now _))
  obtain ⟨k, hk⟩ := E.rounds
  refine (drovewayref03_Turns.calls k q A c l _ 2 w (kd_of_ints hl) hlc hk).mono ?_
  rintro e w' ⟨v, rfl, hR, hb⟩
  obtain ⟨A', c', rfl, _, hC⟩ := Kd.R_reads hR
  exact ⟨A', c', rfl, ints_of_kd hC (by simp), hb⟩
/-- A row of ratios in memory. -/
structure RatsAt (w : World) (A : Option Addr) (xs : List (Int × Int)) : Prop where
  cell : ∀ j, j < xs.length → ∃ ad, A = some ad ∧ w.cell? (ad.add (j * 2)) = some (.int .i64 (xs.getD j (0, 0)).1) ∧ w.cell? ⟨(ad.add (j * 2)).block, (ad.add (j * 2)).off + 1, none⟩ = some (.int .i64 (xs.getD j (0, 0)).2)
theorem RatsAt.below {w w1 : World} {A : Option Addr} {xs : List (Int × Int)} (h : RatsAt w A xs) (hb : Below w.heap.size w w1) : RatsAt w1 A xs :=
  ⟨fun j hj => by obtain ⟨ad, e, h1, h2⟩ := h.cell j hj; exact ⟨ad, e, cellB hb h1, cellB hb h2⟩⟩
theorem rPower_any (q : Int) (l : List Int) (A : Option Addr) (c : Nat) (w : World) (hl : IntsAt w A l) (hlc : l.length ≤ c) (xs : List S35) (r : Int) (E : Ev (fun k => drovewayref03_Power.f k q l) (xs, r)) :
    Calls Try.prog 21 #[.agg #[.int .i64 q, .slice A l.length c]] w fun e w' => ∃ A' c', e = .returned (.tuple #[.slice A' xs.length c', .int .i64 r]) ∧ RatsAt w' A' (xs.map fun x => (x.f0, x.f1)) ∧ Below w.heap.size w w' := by
  obtain ⟨k, hk⟩ := E.rounds
  refine (drovewayref03_Power.calls k q A c l _ r w (kd_of_ints hl) hlc hk).mono ?_
  rintro e w' ⟨v, rfl, hR, hb⟩
  obtain ⟨A', c', rfl, _, hC⟩ := Kd.R_reads hR
  refine ⟨A', c', rfl, ⟨fun j hj => ?_⟩, hb⟩
  have hj' : j < xs.length := by simpa using hj
  obtain ⟨ad, e1, h1, h2⟩ := at_T35 hC (j : Int) (by omega) (by omega)
  rw [Int.toNat_natCast] at h1 h2
  have e2 : (xs.map fun x => (x.f0, x.f1)).getD j (0, 0) = ((rd_T35 xs (j : Int)).f0, (rd_T35 xs (j : Int)).f1) := by
    simp [rd_T35, List.getD_eq_getElem?_getD, List.getElem?_eq_getElem hj']
  rw [e2]
  exact ⟨ad, e1, h1, h2⟩
theorem Ev_no (q : Int) (l : List Int) (h30 : l.length ≤ 30) (hbody : bodyB q l = false) : Ev (fun k => drovewayref03_Power.f k q l) (([] : List S35), 2) := Ev.bind (hbody ▸ ev_body q l h30) (ev_f (Ev.now _))
theorem foldl_turnsIn (f : Nat → Nat → Int) (p : Int → Bool) (i k : Nat) : ∀ xs : List Int, i < xs.length → (turnsIn p i k).foldl (bump f) xs = xs.set i (xs.getD i 0 + sumOf f (turnsIn p i k)) := by
  induction k with
  | zero => intro xs hi; simp [turnsIn, sumOf, List.getD_eq_getElem?_getD, List.getElem?_eq_getElem hi]
  | succ k ih =>
    intro xs hi
    simp only [turnsIn, List.foldl_append]
    rw [ih xs hi]
    split
    · simp only [List.foldl_cons, List.foldl_nil, bump, sumOf_snoc]
      rw [List.set_set]
      congr 1
      simp [List.getD_eq_getElem?_getD, List.getElem?_set, hi]
      omega
    · simp
theorem tally_perTo (f : Nat → Nat → Int) (p : Int → Bool) (n k : Nat) (hk : k ≤ n) : tally n f (turnsTo p n k) = perTo f p n k ++ List.replicate (n - k) 0 := by
  induction k with
  | zero => simp [tally, turnsTo, perTo]
  | succ k ih =>
    have h1 : tally n f (turnsTo p n (k + 1)) = (turnsIn p k (2 ^ n)).foldl (bump f) (tally n f (turnsTo p n k)) := by simp [tally, turnsTo]
    rw [h1, ih (by omega), foldl_turnsIn _ _ _ _ _ (by simp [perTo_length]; omega)]
    have hl := perTo_length f p n k
    rw [show n - k = (n - (k + 1)) + 1 by omega, List.replicate_succ]
    rw [List.set_append_right k _ (by omega)]
    simp only [hl, Nat.sub_self, List.set_cons_zero, perTo, List.append_assoc, List.cons_append, List.nil_append]
    congr 2
    simp [List.getD_eq_getElem?_getD, List.getElem?_append_right, hl]
theorem tally_all (f : Nat → Nat → Int) (p : Int → Bool) (n : Nat) : tally n f (turnsTo p n n) = perTo f p n n := by
  rw [tally_perTo f p n n (Nat.le_refl _)]; simp
end Go.Proofs.Ytdbleghnblohgaa
