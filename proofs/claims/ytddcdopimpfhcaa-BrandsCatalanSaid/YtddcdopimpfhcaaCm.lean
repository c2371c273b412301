/- Contracts: the specification's Frieze. -/
import Derived.Test.YtddcdopimpfhcaaCl
namespace Go.Proofs.Ytddcdopimpfhcaa
open Go.RowKit Go.Shelf

/-- A list of rows of numbers, none in the list's own block. -/
structure TabL (w : World) (base : Nat) (tv : Value) (n : Nat) (vs : Nat → Value) (rows : Nat → List Int) : Prop where
  own : w.ownsRow base 45 1 tv n ((List.range n).map vs)
  row : ∀ r, r < n → Own w base (vs r) (rows r)
  apart : ∀ r, r < n → ∀ k, (vs r).ownBlock = some k → tv.ownBlock ≠ some k
theorem TabL.nil (w : World) (base : Nat) (vs : Nat → Value) (rows : Nat → List Int) : TabL w base (.slice none 0 0) 0 vs rows :=
  ⟨World.ownsRow_nil _ _ _ _, fun r hr => by omega, fun r hr => by omega⟩
theorem TabL.below {w w1 : World} {base n : Nat} {tv : Value} {vs : Nat → Value} {rows : Nat → List Int} (h : TabL w base tv n vs rows) (hb : Below w.heap.size w w1) : TabL w1 base tv n vs rows :=
  ⟨owns_below h.own hb, fun r hr => own_below (h.row r hr) hb, h.apart⟩
theorem TabL.push {w w' : World} {base n : Nat} {tv tv' v : Value} {vs : Nat → Value} {rows : Nat → List Int} (h : TabL w base tv n vs rows) (hO : Own w base v (rows n)) (hv : ∀ k, v.ownBlock = some k → tv.ownBlock ≠ some k)
    (ho : w'.ownsRow base 45 1 tv' (n + 1) ((List.range n).map vs ++ [v])) (hg : w.grownBy w' tv.ownBlock) (hat : tv'.ownBlock = tv.ownBlock ∨ tv'.ownBlock = some w.heap.size) :
    TabL w' base tv' (n + 1) (fun s => if s = n then v else vs s) rows := by
  have key : ∀ r, r < n + 1 → Own w base (if r = n then v else vs r) (rows r) ∧ ∀ k, (if r = n then v else vs r).ownBlock = some k → tv.ownBlock ≠ some k := fun r hr => by
    by_cases e : r = n
    · rw [if_pos e, e]; exact ⟨hO, hv⟩
    · rw [if_neg e]; exact ⟨h.row r (by omega), h.apart r (by omega)⟩
  refine ⟨?_, fun r hr => ?_, fun r hr k hk => ?_⟩
  · have e : (List.range (n + 1)).map (fun s => if s = n then v else vs s) = (List.range n).map vs ++ [v] := by
      rw [List.range_succ, List.map_append, List.map_singleton, if_pos rfl]
      congr 1
      refine List.map_congr_left fun s hs => ?_
      rw [if_neg (by have := List.mem_range.1 hs; omega)]
    rw [e]
    exact ho
  · obtain ⟨k1, k2⟩ := key r hr
    refine own_kept k1 hg ?_
    cases e : (if r = n then v else vs r).ownBlock with
    | none => exact .inl rfl
    | some k => exact .inr (fun e2 => k2 k e e2.symm)
  · obtain ⟨k1, k2⟩ := key r hr
    rcases hat with e | e
    · rw [e]; exact k2 k hk
    · rw [e]
      intro e2
      cases e2
      have := (k1.out.lt _ hk).2
      omega
/-- A row more in a list of rows. -/
theorem wpList_row {w : World} {ops : Array Oper} {rest : List Oper} {o : Oper} {a : Act} {Q : Exit → Act → World → Prop} (hgd : o.guard = none) (s x : Operand)
    (ho : o.op = .call { callee := .builtin .append, args := #[s, x], argTypes := #[56, 56] }) (base : Nat) (tv : Value) (n : Nat) (vs : Nat → Value) (rows : Nat → List Int) (A : Option Addr) (z c : Nat) (h : TabL w base tv n vs rows)
    (hO : Own w base (.slice A z c) (rows n)) (hv : ∀ k, (Value.slice A z c).ownBlock = some k → tv.ownBlock ≠ some k) (hb : base ≤ w.heap.size) (h100 : n ≤ 3000)
    (hs : a.eval s = tv) (hx : a.eval x = .slice (some ⟨w.heap.size, 0, none⟩) 1 1)
    (hK : ∀ tv' w', TabL w' base tv' (n + 1) (fun s => if s = n then .slice A z c else vs s) rows → Below base w w' → wpList Try.prog ops Q rest (a.put o.dst tv') w') :
    wpList Try.prog ops Q (o :: rest) a (w.alloc (.cells #[.slice A z c] 45)) := by
  obtain ⟨j0, hj, hy0, hy1, hy2⟩ := info_parts info45
  refine wpList_plain hgd fun K hK' => ?_
  have c1 : ∀ q u, ([.slice A z c] : List Value)[q]? = some u → (w.alloc (.cells #[.slice A z c] 45)).cell? ((⟨w.heap.size, 0, none⟩ : Addr).add q) = some u := by
    intro q u hk
    match q, hk with
    | 0, hk => simp at hk; subst hk; simp [Addr.add_lit]
  have c2 : ∀ u ∈ ([.slice A z c] : List Value), u.oneCell' = true := by intro u hu; simp at hu; rcases hu with rfl; rfl
  obtain ⟨v', w', hr, h2, h3, _, h5⟩ := Go.run_append_own_at (P := Try.prog) _ base 56 o.type 45 j0 _ 1 24 Try.underlying56 hj hy0 hy1 hy2 rfl (by decide) tv n _ (h.own.alloc _) ⟨w.heap.size, 0, none⟩ 1 1 _ rfl c1 c2 (by unfold maxLen; omega) (by omega) (by simp; omega)
  have hbA : Below w.heap.size w (w.alloc (.cells #[.slice A z c] 45)) := (Below.refl _ _).alloc (Nat.le_refl _) _
  have hT := (h.below hbA).push (own_below hO hbA) hv h2 h3 h5
  have hB : Below base w w' := ((Below.refl _ _).alloc hb _).grown h3 (by simp; omega) (fun k e => (h.own.lt k e).1)
  unfold Oper.wp execOp
  simp only [ho, resolve, invoke, builtin, Sem.run_bind, Sem.run_pure, Result.andThen_ok, List.map_toArray, List.map_cons, List.map_nil, hs, hx, hr]
  exact hK' _ _ (hK v' w' hT hB)
theorem TabL.cell {w : World} {base n : Nat} {tv : Value} {vs : Nat → Value} {rows : Nat → List Int} (h : TabL w base tv n vs rows) (hn : 0 < n) : ∃ b c, tv = .slice (some ⟨b, 0, none⟩) n c ∧ ∀ r, r < n → w.cell? ⟨b, r, none⟩ = some (vs r) := by
  obtain ⟨g, cap, rfl⟩ : ∃ g cap, tv = .slice (some ⟨g, 0, none⟩) n cap := by
    rcases h.own.2 with ⟨_, e⟩ | ⟨g, cap, cur, e, _⟩
    · omega
    · exact ⟨g, cap, e⟩
  refine ⟨g, cap, rfl, fun r hr => ?_⟩
  rw [h.own.cellAt r (by omega)]
  simp [hr]
theorem rfrieze_no (l : List Int) (A : Option Addr) (c : Nat) (h : roundB l = false) (w : World) (hl : IntsAt w A l) :
    Calls Try.prog 39 #[.slice A l.length c] w fun e w' => e = .returned (.tuple #[.slice none 0 0, .int .i64 2]) ∧ w' = w := by
  have CF := Off.mk (risRound_any l A c false h w hl)
  clear h hl
  go_enter Try.func39, Try.ntmps39
  go_wp2_with (go_at_call 35; refine CF.out.mono ?_; rintro e w1 ⟨rfl, hw⟩; subst w1)
  go_ret2
  exact ⟨rfl, rfl⟩
set_option maxHeartbeats 2000000 in
set_option maxRecDepth 100000 in
theorem rfrieze_yes (l : List Int) (A : Option Addr) (c : Nat) (h : roundB l = true) (w : World) (hl : IntsAt w A l) :
    Calls Try.prog 39 #[.slice A l.length c] w fun e w' => ∃ tv vs, e = .returned (.tuple #[tv, .int .i64 0]) ∧ TabL w' w.heap.size tv (l.length + 1) vs (frRow l l.length) ∧ Below w.heap.size w w' := by
  obtain ⟨⟨h3, h12⟩, hg⟩ := roundB_iff.1 h
  have CR := Off.mk (risRound_any l A c true h w hl)
  have CE := Off.mk (fun (W : World) (hW : Below w.heap.size w W) (i d : Nat) (hi : i ≤ 12) (hd : d ≤ 12) => e_any l A c i d W (hl.below hW) hg h3 h12 hi hd)
  have hB0 := Off.mk (Below.refl w.heap.size w)
  obtain ⟨R, hR⟩ : ∃ R, R = frRow l l.length := ⟨_, rfl⟩
  have HR := Off.mk hR
  rw [← hR]
  clear h hl hg hR
  go_enter Try.func39, Try.ntmps39
  go_wp2_with (go_at_call 35; refine CR.out.mono ?_; rintro e w1 ⟨rfl, hw⟩; subst w1)
  go_loopw [4, 5] (fun tv rv wr => ∃ r : Nat, r ≤ l.length + 1 ∧ rv = .int .i64 r ∧ (∃ vs, Off (TabL wr w.heap.size tv r vs R)) ∧ Off (Below w.heap.size w wr)) (fun _ rv _ => l.length + 1 - (intOf rv).toNat)
  case atStart => exact ⟨0, by omega, rfl, ⟨fun _ => .bool false, ⟨TabL.nil _ _ _ _⟩⟩, hB0⟩
  case round =>
    clear hB0
    obtain ⟨r, hr, rfl, ⟨vs, HT⟩, HB⟩ := hrel
    obtain ⟨wa, rfl⟩ : ∃ wo : World, wo = wr := ⟨_, rfl⟩
    by_cases hrl : r ≤ l.length
    · have hB1 := Off.mk (Below.refl wa.heap.size wa)
      go_wp2
      go_loopw [6, 7] (fun v iv wr => ∃ i : Nat, i ≤ l.length ∧ iv = .int .i64 i ∧ Off (Own wr wa.heap.size v (frRow l i r)) ∧ Off (Below wa.heap.size wa wr)) (fun _ iv _ => l.length - (intOf iv).toNat)
      case atStart => exact ⟨0, by omega, rfl, ⟨own_nil _ _⟩, hB1⟩
      case round =>
        clear hB1
        obtain ⟨i, hi, rfl, HO, HB1⟩ := hrel
        obtain ⟨wb, rfl⟩ : ∃ wo : World, wo = wr := ⟨_, rfl⟩
        by_cases hil : i < l.length
        · have C1 := Off.mk (CE.out wb (belowC HB.out HB1.out) i r (by omega) (by omega))
          have hw2 : IntKind.i64.wrap ((i : Int) + (r : Int)) = (i : Int) + (r : Int) := by rw [IntKind.wrap_i64]; omega
          have HS : Off (frRow l (i + 1) r = frRow l i r ++ [eN l i r]) := ⟨frRow_succ l i r⟩
          have HLn : Off ((frRow l i r).length ≤ 3000) := ⟨by rw [frRow_len]; omega⟩
          obtain ⟨y, hy⟩ : ∃ y, y = eN l i r := ⟨_, rfl⟩
          rw [← hy] at C1 HS
          clear hy
          go_wp2_with fail
          refine C1.out.mono ?_
          rintro e w2 ⟨rfl, hw2⟩
          subst w2
          go_wp2_with (refine wpList_int rfl _ _ rfl wa.heap.size _ (frRow l i r) y HO.out HB1.out.size HLn.out rfl rfl ?_; intro v3 w3 hO3 _ hb3; rw [← HS.out] at hO3; have HO3 := Off.mk hO3; have HB3 := Off.mk (HB1.out.trans hb3); clear hO3 hb3)
          go_roundw
          case rel => exact ⟨i + 1, by omega, by go_num, HO3, HB3⟩
          case measure => simp only [intOf]; omega
        · obtain rfl : i = l.length := by omega
          have HOw : Off (Own wb w.heap.size u6 (R r)) := ⟨by rw [HR.out]; exact own_mono HO.out HB.out.size⟩
          have HTb := Off.mk (HT.out.below HB1.out)
          have HBb := Off.mk (belowC HB.out HB1.out)
          obtain ⟨z, A6, c6, rfl⟩ := own_slice HO.out
          have HV : Off (∀ k, (Value.slice A6 z c6).ownBlock = some k → u4.ownBlock ≠ some k) := ⟨fun k hk e => by
            have h1 := (HO.out.out.lt k hk).1
            have h2 := (HT.out.own.lt k e).2
            omega⟩
          clear HO HT
          go_wp2_with (refine wpList_row rfl _ _ rfl w.heap.size _ r vs R A6 z c6 HTb.out HOw.out HV.out HBb.out.size (by omega) rfl rfl ?_; intro tv' w' hT' hb'; have HT' := Off.mk hT'; have HB' := Off.mk (HBb.out.trans hb'); clear hT' hb')
          go_roundw
          case rel => exact ⟨r + 1, by omega, by go_num, ⟨_, HT'⟩, HB'⟩
          case measure => simp only [intOf]; omega
    · obtain rfl : r = l.length + 1 := by omega
      go_wp2
      go_ret2
      exact ⟨_, vs, rfl, HT.out, HB.out⟩
end Go.Proofs.Ytddcdopimpfhcaa
