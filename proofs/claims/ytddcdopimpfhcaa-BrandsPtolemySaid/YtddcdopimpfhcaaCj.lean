/- Contracts: Between. -/
import Derived.Test.YtddcdopimpfhcaaCi
namespace Go.Proofs.Ytddcdopimpfhcaa
open Go.RowKit Go.Shelf

theorem between_no (l : List Int) (A : Option Addr) (c : Nat) (i k : Int) (h : ¬ (roundB l = true ∧ 0 ≤ i ∧ i < l.length ∧ i ≤ k ∧ k ≤ i + l.length)) (w : World) (hl : IntsAt w A l) :
    Calls Try.prog 33 #[.slice A l.length c, .int .i64 i, .int .i64 k] w fun e w' => e = .returned (.tuple #[.int .i64 0, .int .i64 2]) ∧ Below w.heap.size w w' := by
  have CR := Off.mk (fun v hv => isRound_any l A c v hv w hl)
  have hlen := hl.len
  have hb0 := Off.mk (Below.refl w.heap.size w)
  by_cases hb : roundB l = true
  · have h12 := (roundB_iff.1 hb).1.2
    have CR' := Off.mk (CR.out _ hb)
    clear CR hl
    by_cases h0 : i < 0
    · clear h hb
      go_enter Try.func33, Try.ntmps33
      go_wp2_with (go_at_call 63; refine CR'.out.mono ?_; rintro e w1 ⟨rfl, hw⟩; subst w1)
      go_ret2
      exact ⟨rfl, hb0.out⟩
    · by_cases h1 : (l.length : Int) ≤ i
      · clear h hb
        go_enter Try.func33, Try.ntmps33
        go_wp2_with (go_at_call 63; refine CR'.out.mono ?_; rintro e w1 ⟨rfl, hw⟩; subst w1)
        go_ret2
        exact ⟨rfl, hb0.out⟩
      · by_cases h2 : k < i
        · clear h hb
          go_enter Try.func33, Try.ntmps33
          go_wp2_with (go_at_call 63; refine CR'.out.mono ?_; rintro e w1 ⟨rfl, hw⟩; subst w1)
          go_ret2
          exact ⟨rfl, hb0.out⟩
        · have h3 : i + l.length < k := by
            by_cases e : k ≤ i + l.length
            · exact (h ⟨hb, by omega, by omega, by omega, e⟩).elim
            · omega
          have hw : IntKind.i64.wrap (i + (l.length : Int)) = i + (l.length : Int) := by rw [IntKind.wrap_i64]; omega
          clear h hb
          go_enter Try.func33, Try.ntmps33
          go_wp2_with (go_at_call 63; refine CR'.out.mono ?_; rintro e w1 ⟨rfl, hw⟩; subst w1)
          go_ret2
          exact ⟨rfl, hb0.out⟩
  · have CR' := Off.mk (CR.out _ (by simpa using hb))
    clear CR hl h hb
    go_enter Try.func33, Try.ntmps33
    go_wp2_with (go_at_call 63; refine CR'.out.mono ?_; rintro e w1 ⟨rfl, hw⟩; subst w1)
    go_ret2
    exact ⟨rfl, hb0.out⟩
theorem wpList_lookupE {w : World} {ops : Array Oper} {rest : List Oper} {o : Oper} {a : Act} {Q : Exit → Act → World → Prop} (hg : o.guard = none) (m x : Operand) (hop : o.op = Op.lookup 78 m x false) (b : Nat) (k y : Int)
    (hm : a.eval m = .map (some b)) (hx : a.eval x = .int .i64 k) (hrun : (Instr.lookup 78 (.map (some b)) (.int .i64 k) false).run Try.prog w = .ok (.int .i64 y) w)
    (hK : wpList Try.prog ops Q rest (a.put o.dst (.int .i64 y)) w) : wpList Try.prog ops Q (o :: rest) a w := by
  refine wpList_plain hg fun K' hK' => ?_
  unfold Oper.wp
  simp [execOp, hop, hm, hx, hrun, Result.andThen]
  exact hK' _ _ hK
theorem between_yes (l : List Int) (A : Option Addr) (c i d : Nat) (hb : roundB l = true) (hi : i < l.length) (hd : d ≤ l.length) (w : World) (hl : IntsAt w A l) :
    Calls Try.prog 33 #[.slice A l.length c, .int .i64 (i : Int), .int .i64 ((i : Int) + (d : Int))] w fun e w' => e = .returned (.tuple #[.int .i64 (eN l i d), .int .i64 0]) ∧ Below w.heap.size w w' := by
  obtain ⟨⟨h3, h12⟩, hg⟩ := roundB_iff.1 hb
  have CR := Off.mk (isRound_any l A c true hb w hl)
  have CE := Off.mk (numbers_any l A c i d w hl hg h3 h12 (by omega) (by omega))
  have hiI : (i : Int) < (l.length : Int) := by omega
  have h1 : ¬ ((i : Int) + (d : Int) < (i : Int)) := by omega
  have h2 : ¬ ((i : Int) + (l.length : Int) < (i : Int) + (d : Int)) := by omega
  have h4 : IntKind.i64.wrap ((i : Int) + (d : Int) - (i : Int)) = (d : Int) := by rw [IntKind.wrap_i64]; omega
  obtain ⟨g, hx⟩ : ∃ g, g = eN l i := ⟨_, rfl⟩
  rw [← hx] at CE ⊢
  clear hb hl hg hx
  go_enter Try.func33, Try.ntmps33
  go_wp2_with (first
    | (go_at_call 63; refine CR.out.mono ?_; rintro e w1 ⟨rfl, hw⟩; subst w1)
    | (go_at_call 64; refine CE.out.mono ?_; rintro e w1 ⟨b, n, m, rfl, hM, hdm, hm, hwb, hbel⟩; have HM := Off.mk (hM.lookup d hdm hm); have HB := Off.mk hbel; clear hM hbel)
    | (refine wpList_lookupE rfl _ _ rfl b (d : Int) (g d) rfl rfl HM.out ?_))
  go_ret2
  exact ⟨rfl, HB.out⟩
end Go.Proofs.Ytddcdopimpfhcaa
