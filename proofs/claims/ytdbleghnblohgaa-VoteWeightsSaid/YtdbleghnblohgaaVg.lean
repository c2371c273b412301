/- Contracts: Power. -/
import Derived.Test.YtdbleghnblohgaaVf
namespace Go.Proofs.Ytdbleghnblohgaa
open Go.RowKit Go.Shelf

theorem pop_all_lt : ∀ n : Fin 9, ∀ i : Fin 8, ∀ s : Fin 256, i.val < n.val → s.val < 2 ^ n.val → ((s.val : Nat) : Int) / 2 ^ i.val % 2 = 0 → popTo ((s.val : Nat) : Int) 8 < (n.val : Int) := by decide +kernel
theorem pop_lt (n i s : Nat) (hn : n ≤ 8) (hi : i < n) (hs : s < 2 ^ n) (hb : (s : Int) / 2 ^ i % 2 = 0) : s < 256 ∧ popTo (s : Int) 8 < (n : Int) := by
  have h3 : (2 : Nat) ^ n ≤ 2 ^ 8 := Nat.pow_le_pow_right (by decide) hn
  have hs' : s < 256 := by omega
  exact ⟨hs', pop_all_lt ⟨n, by omega⟩ ⟨i, by omega⟩ ⟨s, hs'⟩ hi hs hb⟩
structure OrdersAt (base Bo Bn r n : Nat) (acc : List (Nat × Nat)) (W : World) : Prop where
  tally : TallyAt base Bo r n (orderI n) acc W
  num : W.cell? ⟨Bn, 0, none⟩ = some (.int .i64 n)
theorem power1_finds (base Bo Bn r n : Nat) (hne : Bo ≠ r) (hnr : Bn ≠ r) (hn : n ≤ 8) : Finds Try.prog 47 #[.pointer (some ⟨Bo, 0, none⟩), .pointer (some ⟨Bn, 0, none⟩)] n r (OrdersAt base Bo Bn r n) :=
  ⟨fun _ _ _ h hb => ⟨h.tally.later hb, cellB hb h.num⟩, fun acc W i s h hacc hi hs hbit => by
    obtain ⟨h1, h2⟩ := pop_lt n i s hn hi hs hbit
    refine (power1 base Bo Bn r n hne hnr acc W i s h.tally h.num hacc hi h1 h2 hn).mono ?_
    rintro e w' ⟨he, ht, hk⟩
    exact ⟨he, ⟨ht, hk.cell h.num hnr⟩, hk⟩⟩
theorem info35 : (Try.prog.info? 35).map (fun i => (i.zero, i.size, i.bytes)) = some (some (.agg #[.int .i64 0, .int .i64 0]), 2, 16) := by kernel_rfl
def ratCells (xs : List (Nat × Nat)) : List Value := xs.flatMap fun x => [.int .i64 (x.1 : Int), .int .i64 (x.2 : Int)]
/-- A row of ratios of the call's own. -/
structure OwnR (w : World) (base : Nat) (v : Value) (xs : List (Nat × Nat)) : Prop where
  out : w.ownsRow base 35 2 v xs.length (ratCells xs)
theorem ownR_below {w w1 : World} {base : Nat} {v : Value} {xs : List (Nat × Nat)} (h : OwnR w base v xs) (hb : Below w.heap.size w w1) : OwnR w1 base v xs :=
  ⟨h.out.kept (row := none) ⟨hb.os, hb.tape, hb.output, hb.size, fun i hi _ => hb.block i hi⟩ (by cases v.ownBlock <;> simp)⟩
theorem ownR_base {w : World} {base : Nat} {v : Value} {xs : List (Nat × Nat)} (h : OwnR w base v xs) {k : Nat} (hk : v.ownBlock = some k) : base ≤ k := by
  rcases h.out.2 with ⟨rfl, _⟩ | ⟨g, cap, cur, rfl, hb, _⟩
  · simp [Value.ownBlock] at hk
  · have : g = k := by simpa [Value.ownBlock] using hk
    omega
theorem ownR_mono {w : World} {base base' : Nat} {v : Value} {xs : List (Nat × Nat)} (h : OwnR w base v xs) (hb : base' ≤ base) : OwnR w base' v xs := by
  refine ⟨h.out.1, ?_⟩
  rcases h.out.2 with h | ⟨g, cap, cur, e, hg, r⟩
  · exact .inl h
  · exact .inr ⟨g, cap, cur, e, Nat.le_trans hb hg, r⟩
def ratioOf (a b : Nat) : Nat × Nat := (a / Nat.gcd a b, b / Nat.gcd a b)
/-- The power of each drover: their orders by all orders, in lowest terms. -/
def powersOf (n : Nat) (xs : List Int) : List (Nat × Nat) := xs.map fun x => ratioOf x.toNat (factI n).toNat
def ordersOf (q : Int) (l : List Int) : List Int := tally l.length (orderI l.length) (turnsTo (winB q l) l.length l.length)

set_option maxHeartbeats 1000000 in
theorem Power_no (q : Int) (l : List Int) (A : Option Addr) (c : Nat) (w : World) (hl : IntsAt w A l) (hbody : bodyB q l = false) :
    Calls Try.prog 20 #[.agg #[.int .i64 q, .slice A l.length c]] w fun e w' => e = .returned (.tuple #[.slice none 0 0, .int .i64 2]) ∧ Below w.heap.size w w' := by
  have HB : Off (∀ o, Below w.heap.size w (w.alloc o)) := ⟨fun o => (Below.refl _ _).alloc (Nat.le_refl _) _⟩
  go_enter Try.func20, Try.ntmps20
  go_wp2_with (go_at_call 43; refine (read_any q l A c _ (hl.below (HB.out _))).mono ?_; rintro e w1 ⟨rfl, hb1⟩)
  go_ret2
  exact ⟨rfl, (HB.out _).trans (hb1.mono (HB.out _).size)⟩

set_option maxHeartbeats 1000000 in
theorem Power_yes (q : Int) (l : List Int) (A : Option Addr) (c : Nat) (w : World) (hl : IntsAt w A l) (hbody : bodyB q l = true) :
    Calls Try.prog 20 #[.agg #[.int .i64 q, .slice A l.length c]] w fun e w' => ∃ v, e = .returned (.tuple #[v, .int .i64 0]) ∧ OwnR w' w.heap.size v (powersOf l.length (ordersOf q l)) ∧ Below w.heap.size w w' := by
  have HB : Off (∀ o, Below w.heap.size w (w.alloc o)) := ⟨fun o => (Below.refl _ _).alloc (Nat.le_refl _) _⟩
  obtain ⟨h8, hw⟩ := Body.weights hbody
  obtain ⟨i0, hi, hz0, hz1, hz2⟩ := info_parts info3
  obtain ⟨j0, hj, hy0, hy1, hy2⟩ := info_parts info35
  have eg := enters_of Try.func47 (by kernel_rfl) rfl
  have hlen := hl.len
  go_enter Try.func20, Try.ntmps20
  go_wp2_with (first
    | (go_at_call 43; refine (read_any q l A c _ (hl.below (HB.out _))).mono ?_; rintro e w1 ⟨rfl, hb1⟩; have hB := (box_body w q A l.length c).below hb1; have hq := hB.quota; have hs := hB.weights; have hlt1 : w.heap.size < w1.heap.size := (by have := hb1.size; simp at *; omega))
    | (at_make; refine wpList_make_full _ rfl _ _ 22 rfl w.heap.size 3 i0 (.int .i64 0) 1 Try.underlying22 hi hz0 hz1 .i64 .i64 l.length l.length l.length rfl rfl rfl rfl (by rw [hz2]; omega) (by unfold maxLen; omega) (by have := hb1.size; simp at this; simp; omega) ?_; intro w2 hown2 hg2; rw [made_ints] at hown2; have hlt2 : w.heap.size < w2.heap.size := (by have := hb1.size; have := hg2.size; simp at *; omega); have hlt3 : w1.heap.size < w2.heap.size := (by have := hg2.size; simp at *; omega); have hq2 := hg2.cell (a := ⟨w.heap.size, 0, none⟩) (v := .int .i64 q) (by go_simp) (by simp); have hs2 := hg2.cell (a := ⟨w.heap.size, 1, none⟩) (v := .slice A l.length c) (by go_simp) (by simp); have hn2 := hg2.cell (a := ⟨w1.heap.size, 0, none⟩) (v := .int .i64 l.length) (by go_simp) (by simp)))
  have hw1 : Below w.heap.size w w1 := (HB.out _).trans (hb1.mono (HB.out _).size)
  have hw1' := hw1.alloc hw1.size (Obj.cells #[Value.int .i64 (l.length : Int)] 3)
  have hw2 : Below w.heap.size w w2 := hw1'.grown hg2 hw1'.size (fun _ e => by cases e)
  have hw3 := hw2.alloc hw2.size (Obj.cells #[Value.slice (some { block := w1.heap.size + 1, off := 0 }) l.length l.length] 22)
  have hr2 : w1.heap.size + 1 < w2.heap.size := by simpa using owns_lt hown2
  have h1 : 0 < l.length := (of_decide_eq_true hbody).1
  refine (turned_any 47 _ (w1.heap.size + 1) _ q l A c _ eg (hl.below hw3) (hl.clear h1 (by have := hw1.size; omega)) (by simp; omega) h8 hw
    (power1_finds w.heap.size w2.heap.size w1.heap.size (w1.heap.size + 1) l.length (by omega) (by omega) h8) ⟨⟨by go_simp, ⟨?_⟩⟩, by go_simp⟩).mono ?_
  · rw [tally_length, tally_nil]
    have := hown2.alloc (Obj.cells #[Value.slice (some { block := w1.heap.size + 1, off := 0 }) l.length l.length] 22)
    simpa using this
  · rintro e w4 ⟨rfl, hJ, hk⟩
    have hv := hJ.tally.var
    have hnum := hJ.num
    have hbe : Below w.heap.size w w4 := hk.below hw3 (by have := hw3.size; simpa using this) (by have := hw1.size; omega)
    have hrow := hJ.tally.row
    obtain ⟨os, hos⟩ : ∃ os, os = ordersOf q l := ⟨_, rfl⟩
    have hrow' : Own w4 w.heap.size (.slice (some ⟨w1.heap.size + 1, 0, none⟩) l.length l.length) os := by rw [hos]; exact hrow
    have hosl : os.length = l.length := by rw [hos]; exact tally_length _ _ _
    have hosr : Off (∀ j, 0 ≤ os.getD j 0 ∧ os.getD j 0 ≤ 1000000000000000) := ⟨fun j => by
      have h2 := tally_range l.length (orderI l.length) 1625702400 (by omega) (fun _ _ => orderI_range l.length h8 _ _) (turnsTo (winB q l) l.length l.length) j
      have h3 : ((turnsTo (winB q l) l.length l.length).length : Int) ≤ 2048 := by
        have h4 := turnsTo_length (winB q l) l.length l.length
        have h5 : (2 : Nat) ^ l.length ≤ 2 ^ 8 := Nat.pow_le_pow_right (by decide) h8
        have h6 : l.length * 2 ^ l.length ≤ 8 * 2 ^ 8 := Nat.mul_le_mul h8 h5
        omega
      rw [hos]
      exact ⟨h2.1, by have := h2.2; unfold ordersOf; omega⟩⟩
    have HOS := Off.mk hos
    have HL := Off.mk hosl
    have hf := factI_range l.length h8
    obtain ⟨fN, hfN⟩ : ∃ f : Nat, (f : Int) = factI l.length := ⟨(factI l.length).toNat, by omega⟩
    have CF : Off (∀ W : World, Calls Try.prog 49 #[.int .i64 (l.length : Int)] W fun e w' => e = .returned (.int .i64 (fN : Int)) ∧ w' = W) := ⟨by
      intro W
      have := factorial_any l.length h8 W
      rw [← hfN] at this
      exact this⟩
    have hfB : 1 ≤ fN ∧ fN ≤ 40320 := by omega
    have HFN : Off ((factI l.length).toNat = fN) := ⟨by omega⟩
    clear hf hfN
    clear hos hosl hrow hJ hk hw3 hw2 hw1' hw1 hown2 hg2 hlt2 hlt3 hq2 hs2 hn2 hq hs hB hb1 hlt1 hr2
    go_wp2
    go_loopw [6, 22] (fun v i wr => ∃ k : Nat, k ≤ l.length ∧ i = .int .i64 k ∧ OwnR wr w4.heap.size v (powersOf l.length (os.take k)) ∧ Below w4.heap.size w4 wr)
      (fun _ i _ => l.length - (intOf i).toNat)
    case atStart => exact ⟨0, by omega, rfl, ⟨World.ownsRow_nil _ _ _ _⟩, Below.refl _ _⟩
    case round =>
      obtain ⟨k, hk, rfl, hown, hb⟩ := hrel
      by_cases hlt : k < l.length
      · have hxr := hosr.out k
        have hcx : wr.cell? ⟨w1.heap.size + 1, k, none⟩ = some (.int .i64 (os.getD k 0)) := cellB hb (by
          have ho := hrow'.out
          rw [HL.out] at ho
          rw [ho.cellAt k (by omega)]
          exact nums_at _ _ (by rw [HL.out]; omega))
        have hcn := cellB hb hnum
        obtain ⟨x, hx⟩ : ∃ x : Nat, (x : Int) = os.getD k 0 := ⟨(os.getD k 0).toNat, by omega⟩
        rw [← hx] at hcx
        have HP : Off (powersOf l.length (os.take (k + 1)) = powersOf l.length (os.take k) ++ [ratioOf x (factI l.length).toNat]) := ⟨by
          have hkl : k < os.length := by rw [HL.out]; exact hlt
          rw [List.take_succ_eq_append_getElem hkl]
          simp only [powersOf, List.map_append, List.map_cons, List.map_nil]
          rw [show (os[k]).toNat = x by rw [List.getD_eq_getElem?_getD, List.getElem?_eq_getElem hkl] at hx; simp at hx; omega]⟩
        have hxb : x ≤ 1000000000000000 := by omega
        clear hx hxr
        obtain ⟨r1, hr1⟩ : ∃ r, r = x / Nat.gcd x fN := ⟨_, rfl⟩
        obtain ⟨r2, hr2⟩ : ∃ r, r = fN / Nat.gcd x fN := ⟨_, rfl⟩
        have CR : Off (∀ W : World, Calls Try.prog 50 #[.int .i64 (x : Int), .int .i64 (fN : Int)] W fun e w' => e = .returned (.agg #[.int .i64 (r1 : Int), .int .i64 (r2 : Int)]) ∧ Below W.heap.size W w') := ⟨by
          intro W
          rw [hr1, hr2]
          exact ratio_any x fN (by omega) (by omega) (by omega) W⟩
        have HP' : Off (powersOf l.length (os.take (k + 1)) = powersOf l.length (os.take k) ++ [(r1, r2)]) := ⟨by rw [HP.out, hr1, hr2, HFN.out]; rfl⟩
        have hpl : (powersOf l.length (os.take k)).length ≤ k := by simp only [powersOf, List.length_map]; exact List.length_take_le _ _
        clear HP hr1 hr2
        go_wp2_with (first
          | (go_at_call 49; refine (CF.out _).mono ?_; rintro e w5 ⟨rfl, rfl⟩)
          | (go_at_call 50; refine (CR.out _).mono ?_; rintro e w6 ⟨rfl, hb6⟩)
          | (at_builtin; refine wpList_append_own _ rfl _ _ 31 rfl w4.heap.size 35 j0 _ 2 16 Try.underlying31 hj hy0 hy1 hy2 rfl (by decide) _ _ _ rfl ((ownR_below hown hb6).out.alloc _) ⟨w6.heap.size, 0, none⟩ 1 1 [.int .i64 (r1 : Int), .int .i64 (r2 : Int)] rfl rfl ?c1 ?c2 ?c3 ?c4 ?c5 ?_))
        case c1 =>
          intro j u hj
          match j, hj with
          | 0, hj => simp at hj; subst hj; simp [Addr.add]
          | 1, hj => simp at hj; subst hj; simp [Addr.add]
        case c2 => intro u hu; simp at hu; rcases hu with rfl | rfl <;> rfl
        case c3 => unfold maxLen; omega
        case c4 => omega
        case c5 => have := hbe.size; have := hb.size; have := hb6.size; simp; omega
        intro v' w7 hown' hgrow _
        have hb' : Below w4.heap.size w4 w7 := by
          have h67 := hb.trans (hb6.mono hb.size)
          exact (h67.alloc h67.size _).grown hgrow (by have := h67.size; simp; omega) (fun k e => ownR_base hown e)
        have hO : OwnR w7 w4.heap.size v' (powersOf l.length (os.take (k + 1))) := ⟨by rw [HP'.out, List.length_append]; simpa [ratCells] using hown'⟩
        clear hown' hgrow hown hb
        go_wp2
        go_roundw
        case rel => exact ⟨k + 1, by omega, by go_num, hO, hb'⟩
        case measure => simp only [intOf]; omega
      · obtain rfl : k = l.length := by omega
        have HE : Off (os.take l.length = os) := ⟨by rw [← HL.out]; exact List.take_length⟩
        go_wp2
        go_ret2
        exact ⟨_, rfl, by rw [← HOS.out, ← HE.out]; exact ownR_mono hown hbe.size, hbe.trans (hb.mono hbe.size)⟩
end Go.Proofs.Ytdbleghnblohgaa
