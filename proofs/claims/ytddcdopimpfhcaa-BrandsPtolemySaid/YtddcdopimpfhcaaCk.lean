/- Contracts: tables of numbers; Frieze. -/
import Derived.Test.YtddcdopimpfhcaaCj
import Derived.StillTailTactics
import Derived.Maps.AppendAt
namespace Go.Proofs.Ytddcdopimpfhcaa
open Go.RowKit Go.Shelf Go.Maps

theorem info45 : (Try.prog.info? 45).map (fun i => (i.zero, i.size, i.bytes)) = some (some (.slice none 0 0), 1, 24) := by kernel_rfl
theorem MapE.grown {w w1 : World} {b n m : Nat} {g : Nat → Int} {row : Option Nat} (h : MapE w b n m g) (hg : w.grownBy w1 row) (hne : row ≠ some b) : MapE w1 b n m g := by
  obtain ⟨D, hD, ho, hat⟩ := h.out
  exact ⟨D, hD, ho.kept hg (by simpa using fun e => hne e.symm), hat⟩
theorem grown_trans {w a b : World} {r : Option Nat} (h : w.grownBy a r) (k : a.grownBy b r) : w.grownBy b r :=
  ⟨k.os.trans h.os, k.tape.trans h.tape, k.output.trans h.output, Nat.le_trans h.size k.size, fun j hj hne => (k.block j (Nat.lt_of_lt_of_le hj h.size) hne).trans (h.block j hj hne)⟩
theorem grown_alloc (w : World) (o : Obj) (r : Option Nat) : w.grownBy (w.alloc o) r := ⟨rfl, rfl, rfl, by simp, fun k hk _ => Below.heap_alloc w _ k hk⟩
/-- A number more in a list of numbers, and where the list lies then. -/
theorem step_intAt {w : World} {ops : Array Oper} {o : Oper} {a : Act} {K : Act → World → Prop} {Q : Exit → Act → World → Prop} {E : Prop} (hgd : o.guard = none) (s x : Operand)
    (ho : o.op = .call { callee := .builtin .append, args := #[s, x], argTypes := #[45, 45] }) (base : Nat) (v : Value) (xs : List Int) (i : Int) (hO : Own w base v xs) (hb : base ≤ w.heap.size) (h100 : xs.length ≤ 3000)
    (hs : a.eval s = v) (hx : a.eval x = .slice (some ⟨w.heap.size, 0, none⟩) 1 1)
    (h : ∀ v' w', Own w' base v' (xs ++ [i]) → w.grownBy w' v.ownBlock → (v'.ownBlock = v.ownBlock ∨ ∃ k, v'.ownBlock = some k ∧ w.heap.size ≤ k) → K (a.put o.dst v') w') :
    if Region.wanted o (yielded ops a.tmps) = true then Oper.wp Try.prog o a (w.alloc (.cells #[.int .i64 i] 3)) K Q else E := by
  have hw : Region.wanted o (yielded ops a.tmps) = true := by simp [Region.wanted, hgd]
  rw [if_pos hw]
  obtain ⟨j0, hj, hy0, hy1, hy2⟩ := info_parts info3
  have c1 : ∀ q u, ([.int .i64 i] : List Value)[q]? = some u → (w.alloc (.cells #[.int .i64 i] 3)).cell? ((⟨w.heap.size, 0, none⟩ : Addr).add q) = some u := by
    intro q u hk
    match q, hk with
    | 0, hk => simp at hk; subst hk; simp [Addr.add_lit]
  have c2 : ∀ u ∈ ([.int .i64 i] : List Value), u.oneCell' = true := by intro u hu; simp at hu; rcases hu with rfl; rfl
  obtain ⟨v', w', hr, h2, h3, _, h5⟩ := run_append_own_at (P := Try.prog) _ base 45 o.type 3 j0 _ 1 8 Try.underlying45 hj hy0 hy1 hy2 rfl (by decide) v xs.length _ (hO.out.alloc _) ⟨w.heap.size, 0, none⟩ 1 1 _ rfl c1 c2 (by unfold maxLen; omega) (by omega) (by simp; omega)
  unfold Oper.wp execOp
  simp only [ho, resolve, invoke, builtin, Sem.run_bind, Sem.run_pure, Result.andThen_ok, List.map_toArray, List.map_cons, List.map_nil, hs, hx, hr]
  refine h v' w' ⟨by rw [List.length_append]; simpa [nums] using h2⟩ (grown_trans (grown_alloc w _ _) h3) ?_
  rcases h5 with h5 | h5
  · exact .inl h5
  · exact .inr ⟨_, h5, by simp⟩
/-- A table: rows of numbers, each in a block of its own. -/
structure Tab (w : World) (base tb c n1 : Nat) (vs : Nat → Value) (rows : Nat → List Int) : Prop where
  own : w.ownsRow base 45 1 (.slice (some ⟨tb, 0, none⟩) n1 c) n1 ((List.range n1).map vs)
  row : ∀ r, r < n1 → Own w base (vs r) (rows r)
  apart : ∀ r, r < n1 → ∀ k, (vs r).ownBlock = some k → k ≠ tb ∧ ∀ s, s < n1 → s ≠ r → (vs s).ownBlock ≠ some k
theorem own_kept {w w1 : World} {base : Nat} {v : Value} {xs : List Int} {row : Option Nat} (h : Own w base v xs) (hg : w.grownBy w1 row) (hne : v.ownBlock = none ∨ v.ownBlock ≠ row) : Own w1 base v xs := ⟨h.out.kept hg hne⟩
theorem Tab.below {w w1 : World} {base tb c n1 : Nat} {vs : Nat → Value} {rows : Nat → List Int} (h : Tab w base tb c n1 vs rows) (hb : Below w.heap.size w w1) : Tab w1 base tb c n1 vs rows :=
  ⟨owns_below h.own hb, fun r hr => own_below (h.row r hr) hb, h.apart⟩
theorem Tab.lt {w : World} {base tb c n1 : Nat} {vs : Nat → Value} {rows : Nat → List Int} (h : Tab w base tb c n1 vs rows) : base ≤ tb ∧ tb < w.heap.size := h.own.lt tb (by simp [Value.ownBlock])
theorem Tab.cell {w : World} {base tb c n1 : Nat} {vs : Nat → Value} {rows : Nat → List Int} (h : Tab w base tb c n1 vs rows) {r : Nat} (hr : r < n1) : w.cell? ⟨tb, r, none⟩ = some (vs r) ∧ w.frozen? ⟨tb, r, none⟩ = false := by
  refine ⟨?_, h.own.frozenAt r⟩
  rw [h.own.cellAt r (by omega)]
  simp [hr]
theorem map_set (vs : Nat → Value) (n1 r : Nat) (v : Value) : ((List.range n1).map vs).set r v = (List.range n1).map (fun s => if s = r then v else vs s) := by
  refine List.ext_getElem (by simp) fun i h1 h2 => ?_
  simp only [List.getElem_set, List.getElem_map, List.getElem_range]
  by_cases e : r = i
  · rw [if_pos e, if_pos e.symm]
  · rw [if_neg e, if_neg (fun x => e x.symm)]
theorem row_of (w : World) (base : Nat) (v : Value) (xs : List Int) (h : Own w base v xs) : v.ownBlock = none ∨ ∃ k, v.ownBlock = some k ∧ base ≤ k ∧ k < w.heap.size := by
  cases e : v.ownBlock with
  | none => exact .inl rfl
  | some k => exact .inr ⟨k, rfl, h.out.lt k e⟩
theorem own_slice {w : World} {base : Nat} {v : Value} {xs : List Int} (h : Own w base v xs) : ∃ z A c, v = .slice A z c := by
  rcases h.out.2 with ⟨rfl, _⟩ | ⟨g, cap, cur, rfl, _⟩
  · exact ⟨_, _, _, rfl⟩
  · exact ⟨_, _, _, rfl⟩
/-- A row grows, and its header is stored. -/
theorem Tab.put {w w' : World} {base tb c n1 : Nat} {vs : Nat → Value} {rows : Nat → List Int} (h : Tab w base tb c n1 vs rows) {r : Nat} (hr : r < n1) {v' : Value} {xs : List Int} (hO : Own w' base v' xs) (hg : w.grownBy w' (vs r).ownBlock)
    (hat : v'.ownBlock = (vs r).ownBlock ∨ ∃ k, v'.ownBlock = some k ∧ w.heap.size ≤ k) :
    Tab (w'.setCell ⟨tb, r, none⟩ v') base tb c n1 (fun s => if s = r then v' else vs s) (fun s => if s = r then xs else rows s) ∧ w'.grownBy (w'.setCell ⟨tb, r, none⟩ v') (some tb) := by
  have hl := h.lt
  have ht : (vs r).ownBlock ≠ some tb := fun e => (h.apart r hr tb e).1 rfl
  have hown : w'.ownsRow base 45 1 (.slice (some ⟨tb, 0, none⟩) n1 c) n1 ((List.range n1).map vs) := h.own.kept hg (.inr (fun e => ht e.symm))
  obtain ⟨ho2, hg2⟩ := hown.stored r v'
  rw [map_set] at ho2
  have hv' : v'.ownBlock ≠ some tb := by
    rcases hat with e | ⟨k, e, hk⟩
    · rw [e]; exact ht
    · rw [e]; intro e2; cases e2; omega
  refine ⟨⟨ho2, fun s hs => ?_, fun s hs k hk => ?_⟩, hg2⟩
  · by_cases e : s = r
    · simp only [if_pos e]
      exact own_kept hO hg2 (.inr hv')
    · simp only [if_neg e]
      refine own_kept (own_kept (h.row s hs) hg ?_) hg2 ?_
      · cases e3 : (vs s).ownBlock with
        | none => exact .inl rfl
        | some k => exact .inr (fun e2 => (h.apart s hs k e3).2 r hr (fun x => e x.symm) e2.symm)
      · cases e3 : (vs s).ownBlock with
        | none => exact .inl rfl
        | some k => exact .inr (fun e2 => by cases e2; exact (h.apart s hs _ e3).1 rfl)
  · by_cases e : s = r
    · simp only [if_pos e] at hk
      refine ⟨fun e2 => hv' (by rw [hk, e2]), fun q hq hne => ?_⟩
      have hqr : q ≠ r := fun x => hne (x.trans e.symm)
      simp only [if_neg hqr]
      rcases hat with e2 | ⟨k', e2, hk'⟩
      · rw [hk] at e2
        exact (h.apart r hr k e2.symm).2 q hq hqr
      · rw [hk] at e2
        cases e2
        intro e3
        have := ((h.row q hq).out.lt _ e3).2
        omega
    · simp only [if_neg e] at hk
      refine ⟨(h.apart s hs k hk).1, fun q hq hne => ?_⟩
      by_cases e4 : q = r
      · simp only [if_pos e4]
        rcases hat with e2 | ⟨k', e2, hk'⟩
        · rw [e2]
          exact (h.apart s hs k hk).2 r hr (fun x => e x.symm)
        · rw [e2]
          intro e3
          cases e3
          have := ((h.row s hs).out.lt _ hk).2
          omega
      · simp only [if_neg e4]
        exact (h.apart s hs k hk).2 q hq hne
theorem Tab.made {w : World} {base tb n1 : Nat} (h : w.ownsRow base 45 1 (.slice (some ⟨tb, 0, none⟩) n1 n1) n1 ((List.range n1).map fun _ => Value.slice none 0 0)) : Tab w base tb n1 n1 (fun _ => .slice none 0 0) (fun _ => []) :=
  ⟨h, fun _ _ => own_nil w base, fun r hr k hk => by simp [Value.ownBlock] at hk⟩
theorem made_nils (n : Nat) : (madeCells (Value.slice none 0 0).cells (n * 1)).toList = (List.range n).map fun _ => Value.slice none 0 0 := by
  refine List.ext_getElem ?_ fun i h1 h2 => ?_
  · simp [madeCells]
  · simp [madeCells, Value.cells, Nat.mod_one]
/-- The first i numbers of the row r. -/
def frRow (l : List Int) (i r : Nat) : List Int := (List.range i).map fun j => eN l j r
theorem frRow_succ (l : List Int) (i r : Nat) : frRow l (i + 1) r = frRow l i r ++ [eN l i r] := by
  unfold frRow
  rw [List.range_succ, List.map_append]
  rfl
theorem frRow_len (l : List Int) (i r : Nat) : (frRow l i r).length = i := by simp [frRow]
theorem frieze_no (l : List Int) (A : Option Addr) (c : Nat) (h : roundB l = false) (w : World) (hl : IntsAt w A l) :
    Calls Try.prog 37 #[.slice A l.length c] w fun e w' => e = .returned (.tuple #[.slice none 0 0, .int .i64 2]) ∧ w' = w := by
  have CR := Off.mk (isRound_any l A c false h w hl)
  clear h hl
  go_enter Try.func37, Try.ntmps37
  go_wp2_with (go_at_call 63; refine CR.out.mono ?_; rintro e w1 ⟨rfl, hw⟩; subst w1)
  go_ret2
  exact ⟨rfl, rfl⟩
set_option linter.unusedSimpArgs false in
set_option maxHeartbeats 4000000 in
set_option maxRecDepth 100000 in
theorem frieze_yes (l : List Int) (A : Option Addr) (c : Nat) (h : roundB l = true) (w : World) (hl : IntsAt w A l) :
    Calls Try.prog 37 #[.slice A l.length c] w fun e w' => ∃ tb ct vs, e = .returned (.tuple #[.slice (some ⟨tb, 0, none⟩) (l.length + 1) ct, .int .i64 0]) ∧ Tab w' w.heap.size tb ct (l.length + 1) vs (frRow l l.length) ∧ Below w.heap.size w w' := by
  obtain ⟨⟨h3, h12⟩, hg⟩ := roundB_iff.1 h
  obtain ⟨i0, hi, hz0, hz1, hz2⟩ := info_parts info45
  have CR := Off.mk (isRound_any l A c true h w hl)
  have CN := Off.mk (fun W (hW : Below w.heap.size w W) (i : Nat) (hi : i ≤ 12) => numbers_any l A c i l.length W (hl.below hW) hg h3 h12 hi h12)
  have hB0 := Off.mk (Below.refl w.heap.size w)
  clear h hl hg
  go_enter Try.func37, Try.ntmps37
  go_wp2_with (first
    | (go_at_call 63; refine CR.out.mono ?_; rintro e w1 ⟨rfl, hw⟩; subst w1)
    | (at_make; refine wpList_make_full _ rfl _ _ 56 rfl w.heap.size 45 i0 (.slice none 0 0) 1 Try.underlying56 hi hz0 hz1 .i64 .i64 (l.length + 1) (l.length + 1) (l.length + 1) rfl rfl (by go_num) (by go_num) (by rw [hz2]; omega) (by unfold maxLen; omega) (Nat.le_refl _) ?_; intro w2 hown2 hg2; rw [made_nils] at hown2))
  have hT2 := Tab.made hown2
  have HB2 := Off.mk (hB0.out.grown hg2 (Nat.le_refl _) (fun _ e => by cases e))
  obtain ⟨tb, htb⟩ : ∃ tb, tb = w.heap.size := ⟨_, rfl⟩
  have hT2' : Tab w2 w.heap.size tb (l.length + 1) (l.length + 1) (fun _ => .slice none 0 0) (fun r => frRow l 0 r) := by rw [htb]; exact hT2
  have HT2 := Off.mk hT2'
  clear hown2 hg2 hT2 hT2'
  rw [← htb]
  have HTB := Off.mk htb
  clear htb
  go_wp2
  go_loopw [18] (fun iv wr => ∃ i : Nat, i ≤ l.length ∧ iv = .int .i64 i ∧ (∃ vs, Off (Tab wr w.heap.size tb (l.length + 1) (l.length + 1) vs (fun r => frRow l i r))) ∧ Off (Below w.heap.size w wr)) (fun iv _ => l.length - (intOf iv).toNat)
  case atStart => exact ⟨0, by omega, rfl, ⟨_, HT2⟩, HB2⟩
  case round =>
    clear HT2 HB2
    obtain ⟨i, hi, rfl, ⟨vs, HT⟩, HB⟩ := hrel
    obtain ⟨wa, rfl⟩ : ∃ wo : World, wo = wr := ⟨_, rfl⟩
    by_cases hil : i < l.length
    · go_wp2_with fail
      refine (CN.out _ HB.out i (by omega)).mono ?_
      rintro e w3 ⟨b, n, m, rfl, hM, hdm, hm, hbw, hb3⟩
      have HT3 := Off.mk (HT.out.below hb3)
      have HB3 := Off.mk (belowC HB.out hb3)
      have HbT : Off (b ≠ tb) := ⟨by have := HT.out.lt; omega⟩
      have HbV : Off (∀ r, r < l.length + 1 → (vs r).ownBlock ≠ some b) := ⟨fun r hr e => by have := ((HT.out.row r hr).out.lt b e).2; omega⟩
      have HM3 := Off.mk hM
      have HT3' : Off (Tab w3 w.heap.size tb (l.length + 1) (l.length + 1) vs (fun s => frRow l (if s < 0 then i + 1 else i) s)) := ⟨by simpa using HT3.out⟩
      clear hM hb3 HT HB HT3 hbw
      go_wp2
      go_loopw [27] (fun rv wr => ∃ r : Nat, r ≤ l.length + 1 ∧ rv = .int .i64 r ∧ (∃ vs, Off (Tab wr w.heap.size tb (l.length + 1) (l.length + 1) vs (fun s => frRow l (if s < r then i + 1 else i) s)) ∧ Off (∀ r, r < l.length + 1 → (vs r).ownBlock ≠ some b)) ∧ Off (MapE wr b n m (eN l i)) ∧ Off (Below w.heap.size w wr)) (fun rv _ => l.length + 1 - (intOf rv).toNat)
      case atStart => exact ⟨0, by omega, rfl, ⟨vs, HT3', HbV⟩, HM3, HB3⟩
      case round =>
        clear HT3' HbV HM3 HB3
        obtain ⟨r, hr, rfl, ⟨vs, HT, HbV⟩, HM, HB⟩ := hrel
        obtain ⟨wb, rfl⟩ : ∃ wo : World, wo = wr := ⟨_, rfl⟩
        by_cases hrl : r < l.length + 1
        · obtain ⟨hc, hf⟩ := HT.out.cell hrl
          have HRow := Off.mk (HT.out.row r hrl)
          obtain ⟨v, hv⟩ : ∃ v, v = vs r := ⟨_, rfl⟩
          obtain ⟨y, hy⟩ : ∃ y, y = eN l i r := ⟨_, rfl⟩
          have HV := Off.mk hv
          have HY := Off.mk hy
          have hrow : Own wb.drew w.heap.size v (frRow l i r) := by
            have := own_below HRow.out (below_drew (Below.refl _ _))
            rw [if_neg (Nat.lt_irrefl r), ← hv] at this
            exact this
          have HRow' := Off.mk hrow
          obtain ⟨Av, cv, hvs, _, _⟩ := own_ints hrow (by rw [frRow_len]; omega)
          rw [frRow_len] at hvs
          rw [← hv] at hc
          have HVS := Off.mk hvs
          have hrI : (r : Int) < ((l.length + 1 : Nat) : Int) := by omega
          have hr0 : (0 : Int) ≤ (r : Int) := by omega
          have HM9 : Off (MapE wb.drew b n m (eN l i)) := ⟨HM.out.below (below_drew (Below.refl _ _))⟩
          have HT9 : Off (Tab wb.drew w.heap.size tb (l.length + 1) (l.length + 1) vs (fun s => frRow l (if s < r then i + 1 else i) s)) := ⟨HT.out.below (below_drew (Below.refl _ _))⟩
          have HB9 : Off (Below w.heap.size w wb.drew) := ⟨below_drew HB.out⟩
          have HS9 : Off (w.heap.size ≤ wb.drew.heap.size) := ⟨HB.out.size⟩
          have hc9 : wb.drew.cell? ⟨tb, r, none⟩ = some v := hc
          have HVB : Off (v.ownBlock ≠ some b) := ⟨by rw [hv]; exact HbV.out r hrl⟩
          have HF : Off (∀ s, (if s = r then frRow l i r ++ [y] else frRow l (if s < r then i + 1 else i) s) = frRow l (if s < r + 1 then i + 1 else i) s) := ⟨fun s => by
            by_cases e : s = r
            · rw [if_pos e, if_pos (by omega), hy, e, frRow_succ]
            · rw [if_neg e]
              by_cases e2 : s < r
              · rw [if_pos e2, if_pos (by omega)]
              · rw [if_neg e2, if_neg (by omega)]⟩
          have HMm : Off (r ≤ m ∧ m ≤ 100) := ⟨⟨by omega, hm⟩⟩
          have hf9 : ∀ w', wb.drew.grownBy w' (vs r).ownBlock → w'.frozen? ⟨tb, r, none⟩ = false := fun w' hg => (HT9.out.own.kept hg (.inr (fun e => (HT9.out.apart r hrl tb e.symm).1 rfl))).frozenAt r
          have hc9' : ∀ w', wb.drew.grownBy w' (vs r).ownBlock → w'.cell? ⟨tb, r, none⟩ = some v := fun w' hg => by
            rw [(HT9.out.own.kept hg (.inr (fun e => (HT9.out.apart r hrl tb e.symm).1 rfl))).cellAt r (by omega), hv]
            simp [hrl]
          clear hv hy HRow hrow hvs hc hf HM HT HB
          go_wp2

          refine wp_region_held_drew (S := (fun w' => MapE w' b n m (eN l i))) (by kernel_rfl) HM9.out (fun hHeld => ?_)
          obtain ⟨w9, hw9⟩ : ∃ w9, w9 = wb.drew := ⟨_, rfl⟩
          rw [← hw9] at hHeld hc9 HRow' HM9 HT9 HB9 HS9 hf9 hc9' ⊢
          clear hw9
          have hbA : Below w9.heap.size w9 (w9.alloc (.cells #[.int .i64 y] 3)) := (Below.refl _ _).alloc (Nat.le_refl _) _
          have hMA := hHeld.below hbA
          have hcA := cellB hbA hc9
          refine wpAnyH_take (i := 0) (oi := ⟨some 30, _, _, _, _, _⟩) (v := ?_) rfl (by kernel_rfl) (by kernel_rfl) (by kernel_rfl) (fun _ _ _ h => h) (Or.inl ⟨by rfl, by intro w hSw; (try dsimp only at hSw); go_simp; try with_reducible rfl⟩) hHeld ?_
          try simp only [Act.put, List.setIfInBounds_toArray, List.set_cons_zero, List.set_cons_succ]
          refine wpAnyH_take (i := 1) (oi := ⟨some 31, _, _, _, _, _⟩) (v := ?_) rfl (by kernel_rfl) (by kernel_rfl) (by kernel_rfl) (fun _ _ _ h => h) (Or.inl ⟨by rfl, by intro w hSw; (try dsimp only at hSw); go_simp; try with_reducible rfl⟩) hHeld ?_
          try simp only [Act.put, List.setIfInBounds_toArray, List.set_cons_zero, List.set_cons_succ]
          refine wpAnyH_take (i := 2) (oi := ⟨some 32, _, _, _, _, _⟩) (v := ?_) rfl (by kernel_rfl) (by kernel_rfl) (by kernel_rfl) (fun _ _ _ h => h) (Or.inl ⟨by rfl, by intro w hSw; (try dsimp only at hSw); go_simp; try with_reducible rfl⟩) hHeld ?_
          try simp only [Act.put, List.setIfInBounds_toArray, List.set_cons_zero, List.set_cons_succ]
          refine wpAnyH_take (i := 3) (oi := ⟨some 33, _, _, _, _, _⟩) (v := ?_) rfl (by kernel_rfl) (by kernel_rfl) (by kernel_rfl) (fun _ _ _ h => h) (Or.inl ⟨by rfl, by intro w hSw; (try dsimp only at hSw); go_simp; try with_reducible rfl⟩) hHeld ?_
          try simp only [Act.put, List.setIfInBounds_toArray, List.set_cons_zero, List.set_cons_succ]
          refine wpAnyH_take (i := 4) (oi := ⟨some 34, _, _, _, _, _⟩) (v := ?_) rfl (by kernel_rfl) (by kernel_rfl) (by kernel_rfl) (fun _ _ _ h => h) (Or.inl ⟨by rfl, by intro w hSw; (try dsimp only at hSw); go_simp; try with_reducible rfl⟩) hHeld ?_
          try simp only [Act.put, List.setIfInBounds_toArray, List.set_cons_zero, List.set_cons_succ]
          refine wpAnyH_take (i := 6) (oi := ⟨some 36, _, _, _, _, _⟩) (v := ?_) rfl (by kernel_rfl) (by kernel_rfl) (by kernel_rfl) (fun _ _ _ h => h) (Or.inl ⟨by rfl, by intro w hSw; (try dsimp only at hSw); go_simp; try with_reducible rfl⟩) hHeld ?_
          try simp only [Act.put, List.setIfInBounds_toArray, List.set_cons_zero, List.set_cons_succ]
          refine wpAnyH_take (i := 7) (oi := ⟨some 37, _, _, _, _, _⟩) (v := ?_) rfl (by kernel_rfl) (by kernel_rfl) (by kernel_rfl) (fun _ _ _ h => h) (Or.inl ⟨by rfl, by intro w hSw; (try dsimp only at hSw); go_simp; try with_reducible rfl⟩) hHeld ?_
          try simp only [Act.put, List.setIfInBounds_toArray, List.set_cons_zero, List.set_cons_succ]
          refine wpAnyH_take (i := 8) (oi := ⟨some 38, _, _, _, _, _⟩) (v := .int .i64 y) rfl (by kernel_rfl) (by kernel_rfl) (by kernel_rfl) (fun _ _ _ h => h) (Or.inl ⟨by rfl, by intro w hSw; have hlk := hSw.lookup r HMm.out.1 HMm.out.2; rw [← HY.out] at hlk; go_simp; try with_reducible rfl⟩) hHeld ?_
          try simp only [Act.put, List.setIfInBounds_toArray, List.set_cons_zero, List.set_cons_succ]
          refine wpAnyH_ready (rs := [5, 9]) (by kernel_rfl) (by simp) ?_
          refine AllReadyH.cons (o := ⟨some 35, _, _, _, _, _⟩) rfl (fun K hK => ?_) (AllReadyH.cons (o := ⟨some 39, _, _, _, _, _⟩) rfl (fun K hK => ?_) AllReadyH.nil)
          · go_simp
            refine hK.out _ _ hHeld (fun hHeld => ?_)
            clear hK K
            try simp only [Act.put, List.setIfInBounds_toArray, List.set_cons_zero, List.set_cons_succ]
            refine wpAnyH_ready (rs := [9]) (by kernel_rfl) (by simp) ?_
            refine AllReadyH.cons (o := ⟨some 39, _, _, _, _, _⟩) rfl (fun K hK => ?_) AllReadyH.nil
            go_simp
            refine hK.out _ _ hMA (fun hHeld => ?_)
            clear hK K
            try simp only [Act.put, List.setIfInBounds_toArray, List.set_cons_zero, List.set_cons_succ]
            refine wpAnyH_ready (rs := [10]) (by kernel_rfl) (by simp) ?_
            refine AllReadyH.cons (o := ⟨some 40, _, _, _, _, _⟩) rfl (fun K hK => ?_) AllReadyH.nil
            refine step_intAt rfl _ _ rfl w.heap.size v (frRow l i r) y HRow'.out HS9.out (by rw [frRow_len]; omega) rfl rfl ?_
            intro v9 w' hO' hg' hat'
            obtain ⟨z9, A9, c9, rfl⟩ := own_slice hO'
            have hM' := HM9.out.grown hg' HVB.out
            have HG' := Off.mk hg'
            have hgv := hg'
            have hatv := hat'
            rw [HV.out] at hgv hatv
            obtain ⟨hT', hgT⟩ := HT9.out.put hrl hO' hgv hatv
            have hM7 := hM'.grown hgT (by intro e; cases e; exact HbT.out rfl)
            have hB7 := (HB9.out.grown hg' HS9.out (fun k e => own_base HRow'.out e)).grown hgT (Nat.le_trans HS9.out hg'.size) (fun k e => by cases e; exact HT9.out.lt.1)
            have hf' : w'.frozen? ⟨tb, r, none⟩ = false := hf9 w' hgv
            have hc' : w'.cell? ⟨tb, r, none⟩ = some v := hc9' w' hgv
            have HbV' : Off (∀ s, s < l.length + 1 → (if s = r then Value.slice A9 z9 c9 else vs s).ownBlock ≠ some b) := ⟨fun s hs => by
              by_cases e : s = r
              · rw [if_pos e]
                rcases hat' with e2 | ⟨k, e2, hk⟩
                · rw [e2]; exact HVB.out
                · rw [e2]; intro e3; cases e3; have := HM9.out.lt; omega
              · rw [if_neg e]; exact HbV.out s hs⟩
            simp only [HF.out] at hT'
            have HT7 := Off.mk hT'
            have HM7 := Off.mk hM7
            have HB7 := Off.mk hB7
            clear hT' hgT hgv hatv hg' hat' hB7 hO'
            refine hK.out _ _ hM' (fun hHeld => ?_)
            clear hK K
            try simp only [Act.put, List.setIfInBounds_toArray, List.set_cons_zero, List.set_cons_succ]
            refine wpAnyH_take (i := 11) (oi := ⟨some 41, _, _, _, _, _⟩) (v := ?_) rfl (by kernel_rfl) (by kernel_rfl) (by kernel_rfl) (fun _ _ _ h => h) (Or.inl ⟨by rfl, by intro w hSw; (try dsimp only at hSw); go_simp; try with_reducible rfl⟩) hHeld ?_
            try simp only [Act.put, List.setIfInBounds_toArray, List.set_cons_zero, List.set_cons_succ]
            refine wpAnyH_ready (rs := [12]) (by kernel_rfl) (by simp) ?_
            refine AllReadyH.cons (o := ⟨none, _, _, _, _, _⟩) rfl (fun K hK => ?_) AllReadyH.nil
            go_simp
            refine hK.out _ _ HM7.out (fun hHeld => ?_)
            clear hK K
            try simp only [Act.put, List.setIfInBounds_toArray, List.set_cons_zero, List.set_cons_succ]
            refine wpAnyH_done (by kernel_rfl) ?_ _
            obtain ⟨w7, hw7⟩ : ∃ w7, w7 = w'.setCell ⟨tb, r, none⟩ (Value.slice A9 z9 c9) := ⟨_, rfl⟩
            rw [← hw7] at HT7 HM7 HB7 ⊢
            clear hw7 hM7 hM' hf' hc' hHeld hMA hcA hbA
            go_wp2
            go_roundw
            case rel => exact ⟨r + 1, by omega, by go_num, ⟨_, HT7, HbV'⟩, HM7, HB7⟩
            case measure => simp only [intOf]; omega
          · go_simp
            refine hK.out _ _ hMA (fun hHeld => ?_)
            clear hK K
            try simp only [Act.put, List.setIfInBounds_toArray, List.set_cons_zero, List.set_cons_succ]
            refine wpAnyH_ready (rs := [5]) (by kernel_rfl) (by simp) ?_
            refine AllReadyH.cons (o := ⟨some 35, _, _, _, _, _⟩) rfl (fun K hK => ?_) AllReadyH.nil
            go_simp
            refine hK.out _ _ hMA (fun hHeld => ?_)
            clear hK K
            try simp only [Act.put, List.setIfInBounds_toArray, List.set_cons_zero, List.set_cons_succ]
            refine wpAnyH_ready (rs := [10]) (by kernel_rfl) (by simp) ?_
            refine AllReadyH.cons (o := ⟨some 40, _, _, _, _, _⟩) rfl (fun K hK => ?_) AllReadyH.nil
            refine step_intAt rfl _ _ rfl w.heap.size v (frRow l i r) y HRow'.out HS9.out (by rw [frRow_len]; omega) rfl rfl ?_
            intro v9 w' hO' hg' hat'
            obtain ⟨z9, A9, c9, rfl⟩ := own_slice hO'
            have hM' := HM9.out.grown hg' HVB.out
            have HG' := Off.mk hg'
            have hgv := hg'
            have hatv := hat'
            rw [HV.out] at hgv hatv
            obtain ⟨hT', hgT⟩ := HT9.out.put hrl hO' hgv hatv
            have hM7 := hM'.grown hgT (by intro e; cases e; exact HbT.out rfl)
            have hB7 := (HB9.out.grown hg' HS9.out (fun k e => own_base HRow'.out e)).grown hgT (Nat.le_trans HS9.out hg'.size) (fun k e => by cases e; exact HT9.out.lt.1)
            have hf' : w'.frozen? ⟨tb, r, none⟩ = false := hf9 w' hgv
            have hc' : w'.cell? ⟨tb, r, none⟩ = some v := hc9' w' hgv
            have HbV' : Off (∀ s, s < l.length + 1 → (if s = r then Value.slice A9 z9 c9 else vs s).ownBlock ≠ some b) := ⟨fun s hs => by
              by_cases e : s = r
              · rw [if_pos e]
                rcases hat' with e2 | ⟨k, e2, hk⟩
                · rw [e2]; exact HVB.out
                · rw [e2]; intro e3; cases e3; have := HM9.out.lt; omega
              · rw [if_neg e]; exact HbV.out s hs⟩
            simp only [HF.out] at hT'
            have HT7 := Off.mk hT'
            have HM7 := Off.mk hM7
            have HB7 := Off.mk hB7
            clear hT' hgT hgv hatv hg' hat' hB7 hO'
            refine hK.out _ _ hM' (fun hHeld => ?_)
            clear hK K
            try simp only [Act.put, List.setIfInBounds_toArray, List.set_cons_zero, List.set_cons_succ]
            refine wpAnyH_take (i := 11) (oi := ⟨some 41, _, _, _, _, _⟩) (v := ?_) rfl (by kernel_rfl) (by kernel_rfl) (by kernel_rfl) (fun _ _ _ h => h) (Or.inl ⟨by rfl, by intro w hSw; (try dsimp only at hSw); go_simp; try with_reducible rfl⟩) hHeld ?_
            try simp only [Act.put, List.setIfInBounds_toArray, List.set_cons_zero, List.set_cons_succ]
            refine wpAnyH_ready (rs := [12]) (by kernel_rfl) (by simp) ?_
            refine AllReadyH.cons (o := ⟨none, _, _, _, _, _⟩) rfl (fun K hK => ?_) AllReadyH.nil
            go_simp
            refine hK.out _ _ HM7.out (fun hHeld => ?_)
            clear hK K
            try simp only [Act.put, List.setIfInBounds_toArray, List.set_cons_zero, List.set_cons_succ]
            refine wpAnyH_done (by kernel_rfl) ?_ _
            obtain ⟨w7, hw7⟩ : ∃ w7, w7 = w'.setCell ⟨tb, r, none⟩ (Value.slice A9 z9 c9) := ⟨_, rfl⟩
            rw [← hw7] at HT7 HM7 HB7 ⊢
            clear hw7 hM7 hM' hf' hc' hHeld hMA hcA hbA
            go_wp2
            go_roundw
            case rel => exact ⟨r + 1, by omega, by go_num, ⟨_, HT7, HbV'⟩, HM7, HB7⟩
            case measure => simp only [intOf]; omega
        · obtain rfl : r = l.length + 1 := by omega
          have HT1 : Off (Tab wb w.heap.size tb (l.length + 1) (l.length + 1) vs (fun s => frRow l (i + 1) s)) := ⟨⟨HT.out.own, fun s hs => by have := HT.out.row s hs; rw [if_pos hs] at this; exact this, HT.out.apart⟩⟩
          clear HT
          go_wp2
          go_roundw
          case rel => exact ⟨i + 1, by omega, by go_num, ⟨_, HT1⟩, HB⟩
          case measure => simp only [intOf]; omega
    · obtain rfl : i = l.length := by omega
      go_wp2
      go_ret2
      exact ⟨tb, _, _, rfl, HT.out, HB.out⟩
end Go.Proofs.Ytddcdopimpfhcaa
