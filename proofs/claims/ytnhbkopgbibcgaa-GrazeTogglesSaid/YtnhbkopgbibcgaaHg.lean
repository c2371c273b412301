/- Contracts: Round of the program and of the specification. -/
import Derived.Test.YtnhbkopgbibcgaaHd
namespace Go.Proofs.Ytnhbkopgbibcgaa
open Go.RowKit Go.Shelf

def rowVals (n : Nat) (rs cs : Nat → Nat) (k : Nat) : List Value := (List.range k).map fun j => .slice (some ⟨rs j, 0, none⟩) n (cs j)
/-- k rows of length n of the call's own, each laid later than those ahead of it. -/
structure Rows (w : World) (base n k : Nat) (rs cs : Nat → Nat) (f : Nat → List Int) : Prop where
  row : ∀ j, j < k → base ≤ rs j ∧ RowC w base (rs j) n (cs j) (f j)
  inc : ∀ i j, i < j → j < k → rs i < rs j
/-- A list of k rows of the call's own. -/
structure Tab (w : World) (base : Nat) (v : Value) (n k : Nat) (rs cs : Nat → Nat) : Prop where
  out : w.ownsRow base 32 1 v k (rowVals n rs cs k)
theorem rowVals_length (n : Nat) (rs cs : Nat → Nat) (k : Nat) : (rowVals n rs cs k).length = k := by simp [rowVals]
theorem rowVals_snoc (n : Nat) (rs cs : Nat → Nat) (k : Nat) : rowVals n rs cs (k + 1) = rowVals n rs cs k ++ [.slice (some ⟨rs k, 0, none⟩) n (cs k)] := by
  simp [rowVals, List.range_succ]
theorem rowVals_congr (n : Nat) (rs cs rs' cs' : Nat → Nat) (k : Nat) (h : ∀ j, j < k → rs j = rs' j ∧ cs j = cs' j) : rowVals n rs cs k = rowVals n rs' cs' k := by
  unfold rowVals
  apply List.map_congr_left
  intro j hj
  obtain ⟨h1, h2⟩ := h j (by simpa using hj)
  rw [h1, h2]
theorem Rows.below {w w1 : World} {base n k : Nat} {rs cs : Nat → Nat} {f : Nat → List Int} (h : Rows w base n k rs cs f) (hb : Below w.heap.size w w1) : Rows w1 base n k rs cs f :=
  ⟨fun j hj => ⟨(h.row j hj).1, (h.row j hj).2.below hb⟩, h.inc⟩
theorem Tab.below {w w1 : World} {base n k : Nat} {v : Value} {rs cs : Nat → Nat} (h : Tab w base v n k rs cs) (hb : Below w.heap.size w w1) : Tab w1 base v n k rs cs := ⟨owns_below h.out hb⟩
theorem row_type {w : World} {base base' r n c k : Nat} {xs : List Int} {v : Value} {ys : List Value} (h : RowC w base r n c xs) (t : w.ownsRow base' 32 1 v k ys) : v.ownBlock ≠ some r := by
  intro e
  rcases t.2 with ⟨rfl, _⟩ | ⟨g, cap, cur, rfl, _, hg, _⟩
  · simp [Value.ownBlock] at e
  · have : g = r := by simpa [Value.ownBlock] using e
    subst this
    rcases h.own.2 with ⟨h', _⟩ | ⟨g', cap', cur', h', _, hg', _⟩
    · cases h'
    · cases h'
      rw [hg] at hg'
      cases hg'
theorem RowC.grown {w w1 w2 : World} {base base' r n c k : Nat} {xs : List Int} {v : Value} {ys : List Value} (h : RowC w base r n c xs) (t : w.ownsRow base' 32 1 v k ys) (hb : Below w.heap.size w w1) (hg : w1.grownBy w2 v.ownBlock) : RowC w2 base r n c xs :=
  ⟨h.len, (owns_below h.own hb).kept hg (.inr (fun e => row_type h t e.symm))⟩
theorem other_block {w w1 w2 : World} {base k p : Nat} {v : Value} {ys : List Value} {cs : Array Value} {t : TypeId} (hp : w.heap[p]? = some (.cells cs t (0, 0))) (ht : t ≠ 32) (o : w.ownsRow base 32 1 v k ys) (hb : Below w.heap.size w w1) (hg : w1.grownBy w2 v.ownBlock) : w2.heap[p]? = some (.cells cs t (0, 0)) := by
  have h1 := blockB hb hp
  refine (hg.block p (Array.getElem?_eq_some_iff.1 h1).1 (fun e => ?_)).trans h1
  rcases o.2 with ⟨rfl, _⟩ | ⟨g, cap, cur, rfl, _, hg', _⟩
  · simp [Value.ownBlock] at e
  · have : p = g := by simpa [Value.ownBlock] using e
    subst this
    rw [hp] at hg'
    cases hg'
    exact ht rfl
theorem Rows.grown {w w1 w2 : World} {base base' n k k' : Nat} {rs cs : Nat → Nat} {f : Nat → List Int} {v : Value} {ys : List Value} (h : Rows w base n k rs cs f) (t : w.ownsRow base' 32 1 v k' ys) (hb : Below w.heap.size w w1) (hg : w1.grownBy w2 v.ownBlock) : Rows w2 base n k rs cs f :=
  ⟨fun j hj => ⟨(h.row j hj).1, (h.row j hj).2.grown t hb hg⟩, h.inc⟩
theorem own_mono_row {w : World} {base base' r n c : Nat} {xs : List Int} (h : RowC w base r n c xs) (hb : base' ≤ base) : RowC w base' r n c xs := by
  refine ⟨h.len, h.own.1, ?_⟩
  rcases h.own.2 with h | ⟨g, cap, cur, e, hg, r⟩
  · exact .inl h
  · exact .inr ⟨g, cap, cur, e, Nat.le_trans hb hg, r⟩
/-- One place of a function is set. -/
def upd (f : Nat → Nat) (k x : Nat) : Nat → Nat := fun j => if j = k then x else f j
theorem upd_same (f : Nat → Nat) (k x : Nat) : upd f k x k = x := by simp [upd]
theorem upd_old (f : Nat → Nat) (k x j : Nat) (h : j < k) : upd f k x j = f j := by
  unfold upd; rw [if_neg (by omega)]
theorem Rows.snoc {w : World} {base n k r c : Nat} {rs cs : Nat → Nat} {f : Nat → List Int} (h : Rows w base n k rs cs f) (hx : RowC w base r n c (f k)) (hb : base ≤ r) (hi : ∀ j, j < k → rs j < r) : Rows w base n (k + 1) (upd rs k r) (upd cs k c) f := by
  refine ⟨fun j hj => ?_, fun i j hij hj => ?_⟩
  · by_cases e : j = k
    · subst e; rw [upd_same, upd_same]; exact ⟨hb, hx⟩
    · rw [upd_old _ _ _ _ (by omega), upd_old _ _ _ _ (by omega)]; exact h.row j (by omega)
  · by_cases e : j = k
    · subst e; rw [upd_same, upd_old _ _ _ _ (by omega)]; exact hi i hij
    · rw [upd_old _ _ _ _ (by omega), upd_old _ _ _ _ (by omega)]; exact h.inc i j hij (by omega)
theorem Tab.upd {w : World} {base n k : Nat} {v : Value} {rs cs : Nat → Nat} (h : Tab w base v n k rs cs) (r c : Nat) : Tab w base v n k (upd rs k r) (upd cs k c) :=
  ⟨by rw [← rowVals_congr n rs cs _ _ k (fun j hj => ⟨(upd_old _ _ _ _ hj).symm, (upd_old _ _ _ _ hj).symm⟩)]; exact h.out⟩
theorem Tab.base {w : World} {base n k : Nat} {v : Value} {rs cs : Nat → Nat} (h : Tab w base v n k rs cs) {g : Nat} (hg : v.ownBlock = some g) : base ≤ g := (h.out.lt g hg).1
def lenOf : Value → Nat
  | .slice _ k _ => k
  | _ => 0
theorem Tab.lenOf {w : World} {base n k : Nat} {v : Value} {rs cs : Nat → Nat} (h : Tab w base v n k rs cs) : lenOf v = k := by
  rcases h.out.2 with ⟨rfl, h1⟩ | ⟨g, cap, cur, rfl, _⟩
  · exact h1.symm
  · rfl
theorem info32 : (Try.prog.info? 32).map (fun i => (i.zero, i.size, i.bytes)) = some (some (.slice none 0 0), 1, 24) := by kernel_rfl

/-- The number of days after which a state is there again. -/
structure IsPer (b : Nat) (l : List Int) (k : Nat) : Prop where
  pos : 1 ≤ k
  back : iterDay b l k = l
  first : ∀ j, 0 < j → j < k → iterDay b l j ≠ l
/-- What Round hands back. -/
def RoundPost (b : Nat) (l : List Int) (n : Nat) (w : World) (e : Ending) (w' : World) : Prop :=
  ∃ v k rs cs, e = .returned (.tuple #[v, .int .i64 0]) ∧ IsPer b l k ∧ k ≤ n + b ∧ Tab w' w.heap.size v n k rs cs ∧ Rows w' w.heap.size n k rs cs (iterDay b l) ∧ Below w.heap.size w w'

set_option maxHeartbeats 1000000 in
theorem Round_no (a b : Int) (l : List Int) (A : Option Addr) (c : Nat) (w : World) (hl : IntsAt w A l) (hlc : l.length ≤ c) (hA : A = none → c = 0) (hk : askedB a b l = false) :
    Calls Try.prog 36 #[.int .i64 a, .int .i64 b, .slice A l.length c] w fun e w' => e = .returned (.tuple #[.slice none 0 0, .int .i64 2]) ∧ Below w.heap.size w w' := by
  have CR := Off.mk (read_any a b l A c w hl hlc hA)
  have HK := Off.mk hk
  clear hk hl
  go_enter Try.func36, Try.ntmps36
  go_wp2_with fail
  refine CR.out.mono ?_
  rintro e w1 ⟨v1, rfl, _, hv, hb1⟩
  obtain rfl := hv HK.out
  rw [HK.out]
  go_wp2
  go_ret2
  exact ⟨rfl, belowA hb1 _⟩

set_option maxHeartbeats 4000000 in
set_option maxRecDepth 100000 in
theorem Round_yes (n m : Nat) (l : List Int) (A : Option Addr) (c : Nat) (w : World) (hl : IntsAt w A l) (hlc : l.length ≤ c) (hA : A = none → c = 0) (hk : askedB n m l = true) (hp : iterDay m l (n + m) = l) :
    Calls Try.prog 36 #[.int .i64 (n : Int), .int .i64 (m : Int), .slice A l.length c] w fun e w' => RoundPost m l n w e w' := by
  have CR := Off.mk (read_any n m l A c w hl hlc hA)
  have HK := Off.mk hk
  have HP := Off.mk hp
  obtain ⟨n', m', e1, e2, hn, hn1, hn6, hm1, hm6, hs⟩ := asked_nat hk
  obtain rfl : n = n' := by omega
  obtain rfl : m = m' := by omega
  obtain ⟨i0, hi, hz0, hz1, hz2⟩ := info_parts info32
  have HN := Off.mk hn
  have CM : Off (∀ k W r c, RowC W w.heap.size r n c (iterDay m l k) → Calls Try.prog 57 #[.agg #[.int .i64 (n : Int), .int .i64 (m : Int)], .slice (some ⟨r, 0, none⟩) n c] W fun e w' => ∃ v', e = .returned v' ∧ Own w' W.heap.size v' (iterDay m l (k + 1)) ∧ Below W.heap.size W w') := ⟨fun k W r c hO => by
    have h := iter_moves m l k (by omega) hm6 W w.heap.size _ hO.own_of
    rw [hn] at h
    exact h⟩
  have CE : Off (∀ k W r c r' c', RowC W w.heap.size r n c (iterDay m l k) → RowC W w.heap.size r' n c' (iterDay m l 0) → ∀ v, decide (iterDay m l k = l) = v → Calls Try.prog 67 #[.slice (some ⟨r, 0, none⟩) n c, .slice (some ⟨r', 0, none⟩) n c'] W fun e w' => e = .returned (.bool v) ∧ Below W.heap.size W w') := ⟨fun k W r c r' c' h1 h2 v hv => by
    have h := equal_any (iterDay m l k) (iterDay m l 0) _ _ c c' W (h1.ints (by omega)) (h2.ints (by omega))
    rw [h1.len, h2.len] at h
    rw [← hv]
    exact h⟩
  have HL : Off (∀ k, (iterDay m l k).length = n) := ⟨fun k => by rw [iterDay_length]; exact hn⟩
  clear hk hp hs hn hl e1 e2
  go_enter Try.func36, Try.ntmps36
  go_wp2_with fail
  refine CR.out.mono ?_
  rintro e w1 ⟨v1, rfl, hO, _, hb1⟩
  have hO1 := own_below (hO HK.out) ((Below.refl _ _).alloc (Nat.le_refl _) (.cells #[.int .i64 (n : Int), .int .i64 (m : Int)] 62))
  rw [HK.out]
  obtain ⟨r0, c0, rfl, hr0, hR0⟩ := own_row hO1 (by rw [HN.out]; omega)
  rw [HN.out] at hR0 ⊢
  have hP := block_new w1 (.cells #[.int .i64 (n : Int), .int .i64 (m : Int)] 62)
  have hb2 := belowA hb1 (.cells #[.int .i64 (n : Int), .int .i64 (m : Int)] 62)
  have hpl : w1.heap.size < (w1.alloc (.cells #[.int .i64 (n : Int), .int .i64 (m : Int)] 62)).heap.size := by simp
  obtain ⟨w2, hw2⟩ : ∃ w2, w2 = w1.alloc (.cells #[.int .i64 (n : Int), .int .i64 (m : Int)] 62) := ⟨_, rfl⟩
  rw [← hw2] at hR0 hb2 hP hpl
  clear hO hO1
  obtain ⟨p, hp⟩ : ∃ p, p = w1.heap.size := ⟨_, rfl⟩
  rw [← hp] at hP hpl
  have hB3 : Below w2.heap.size w2 (w2.alloc (.cells #[.slice (some ⟨r0, 0, none⟩) n c0] 32)) := (Below.refl _ _).alloc (Nat.le_refl _) _
  have hR0' : RowC w2 w.heap.size r0 n c0 (iterDay m l 0) := hR0
  have hT3 : Tab (w2.alloc (.cells #[.slice (some ⟨r0, 0, none⟩) n c0] 32)) w.heap.size (.slice (some ⟨w2.heap.size, 0, none⟩) 1 1) n 1 (fun _ => r0) (fun _ => c0) :=
    ⟨World.ownsRow_lit w2 #[.slice (some ⟨r0, 0, none⟩) n c0] 1 hb2.size (by decide) rfl⟩
  have hRs3 : Rows (w2.alloc (.cells #[.slice (some ⟨r0, 0, none⟩) n c0] 32)) w.heap.size n 1 (fun _ => r0) (fun _ => c0) (iterDay m l) :=
    ⟨fun j hj => by obtain rfl : j = 0 := (by omega); exact ⟨hr0, hR0'.below hB3⟩, fun i j hij hj => by omega⟩
  have hb3 := belowC hb2 hB3
  have hP := blockB hB3 hP
  obtain ⟨⟨q0, q1⟩, _, _⟩ := two_facts hP
  have hg3 : w2.heap.size = p + 1 := by rw [hw2, World.size_alloc, hp]
  rw [hg3] at hT3
  have HG3 := Off.mk hg3
  clear hg3
  go_wp2_with fail
  rw [← hw2, ← hp]
  clear hp hw2 hb1 hpl hR0
  have hR3 := (hRs3.row 0 (by omega)).2
  obtain ⟨w3, hw3⟩ : ∃ w3, w3 = w2.alloc (.cells #[.slice (some ⟨r0, 0, none⟩) n c0] 32) := ⟨_, rfl⟩
  rw [← hw3] at hT3 hRs3 hb3 hP q0 q1 hR3 ⊢
  have hsz3 := hb3.size
  clear hw3 hB3 hR0' hb2
  refine (CM.out 0 _ _ _ hR3).mono ?_
  rintro e w4 ⟨v4, rfl, hO4, hb4⟩
  obtain ⟨r4, c4, rfl, hr4, hR4⟩ := own_row hO4 (by rw [HL.out]; omega)
  rw [HL.out] at hR4 ⊢
  have hT4 := (hT3.below hb4).upd r4 c4
  have hRs4 : Rows w4 w.heap.size n 2 (upd (fun _ => r0) 1 r4) (upd (fun _ => c0) 1 c4) (iterDay m l) := (hRs3.below hb4).snoc (own_mono_row hR4 hsz3) (Nat.le_trans hsz3 hr4) (fun j hj => by have := (hRs3.row j hj).2.lt; omega)
  have hb5 := belowC hb3 hb4
  have hP := Off.mk (blockB hb4 hP)
  clear q0 q1 hT3 hRs3 hb3 hR3 hO4 hb4 hR4 hsz3
  go_wp2
  go_loopw [11, 12] (fun v x wr => ∃ k rs cs, 1 ≤ k ∧ k ≤ n + m ∧ x = .slice (some ⟨rs k, 0, none⟩) n (cs k) ∧ rs 0 = r0 ∧ cs 0 = c0 ∧ Off (Tab wr w.heap.size v n k rs cs) ∧ Off (Rows wr w.heap.size n (k + 1) rs cs (iterDay m l)) ∧ Off (wr.heap[p]? = some (.cells #[.int .i64 (n : Int), .int .i64 (m : Int)] 62 (0, 0))) ∧ Below w.heap.size w wr ∧ Off (∀ j, 0 < j → j < k → iterDay m l j ≠ l)) (fun v _ _ => n + m - lenOf v)
  case atStart => exact ⟨1, _, _, by omega, by omega, by rw [upd_same, upd_same], by rw [upd_old _ _ _ _ (by omega)], by rw [upd_old _ _ _ _ (by omega)], ⟨hT4⟩, ⟨hRs4⟩, hP, hb5, ⟨fun j h1 h2 => by omega⟩⟩
  case round =>
    clear hT4 hRs4 hP hb5
    obtain ⟨k, rs, cs, hk1, hk2, rfl, er, ec, hT, hRs, hP, hb, hno⟩ := hrel
    obtain ⟨wo, rfl⟩ : ∃ wo : World, wo = wr := ⟨_, rfl⟩
    have hsz := hb.size
    have hl1 := Off.mk hT.out.lenOf
    have hRk := (hRs.out.row k (by omega)).2
    have hR0 := (hRs.out.row 0 (by omega)).2
    rw [er, ec] at hR0
    have CQ := Off.mk (CE.out k wo (rs k) (cs k) r0 c0 (own_mono_row hRk (Nat.le_refl _)) (own_mono_row hR0 (Nat.le_refl _)))
    by_cases hend : iterDay m l k = l
    · have CQ := Off.mk (CQ.out true (decide_eq_true hend))
      have HE : Off (IsPer m l k) := ⟨⟨hk1, hend, hno.out⟩⟩
      clear hend hRk hR0
      go_wp2_with (go_at_call 67; refine CQ.out.mono ?_; rintro e w5 ⟨rfl, hb5⟩)
      go_ret2
      exact ⟨_, k, rs, cs, rfl, HE.out, hk2, hT.out.below hb5, ⟨fun j hj => (((hRs.out).below hb5).row j (by omega)), fun i j hij hj => hRs.out.inc i j hij (by omega)⟩, belowC hb hb5⟩
    · have hkl : k < n + m := by
        rcases Nat.lt_or_ge k (n + m) with h | h
        · exact h
        · exact absurd (by rw [show k = n + m by omega]; exact HP.out) hend
      have CQ := Off.mk (CQ.out false (decide_eq_false hend))
      have HE : Off (∀ j, 0 < j → j < k + 1 → iterDay m l j ≠ l) := ⟨fun j h1 h2 => by
        by_cases e : j = k
        · subst e; exact hend
        · exact hno.out j h1 (by omega)⟩
      clear hend hRk hR0
      go_wp2_with fail
      refine CQ.out.mono ?_
      rintro e w5 ⟨rfl, hb5⟩
      have hT5 := Off.mk (hT.out.below hb5)
      have hRs5 := Off.mk (hRs.out.below hb5)
      have hP := Off.mk (blockB hb5 hP.out)
      have hB5 := belowC hb hb5
      have hsz5 := hB5.size
      have hk48 : k ≤ 12 := by omega
      clear hT hRs hb hb5 CQ
      go_wp2_with (at_builtin; refine wpList_append_own _ rfl _ _ 28 rfl w.heap.size 32 i0 _ 1 24 Try.underlying28 hi hz0 hz1 hz2 rfl (by decide) _ _ _ rfl (hT5.out.out.alloc _) ⟨w5.heap.size, 0, none⟩ 1 1 [.slice (some ⟨rs k, 0, none⟩) n (cs k)] rfl rfl ?c1 ?c2 ?c3 ?c4 ?c5 ?_)
      case c1 =>
        intro j u hj
        match j, hj with
        | 0, hj => simp at hj; subst hj; simp [Addr.add]
      case c2 => intro u hu; simp at hu; subst hu; rfl
      case c3 => unfold maxLen; omega
      case c4 => omega
      case c5 => simp; omega
      intro v6 w6 hown6 hgrow6 _
      have hb6 : Below w5.heap.size w5 (w5.alloc (.cells #[.slice (some ⟨rs k, 0, none⟩) n (cs k)] 32)) := (Below.refl _ _).alloc (Nat.le_refl _) _
      have hB6 : Below w.heap.size w w6 := (belowC hB5 hb6).grown hgrow6 (by simp; omega) (fun g e => hT5.out.base e)
      have hT6 := Off.mk (show Tab w6 w.heap.size v6 n (k + 1) rs cs from ⟨by rw [rowVals_snoc]; exact hown6⟩)
      have hRs6 := Off.mk (hRs5.out.grown hT5.out.out hb6 hgrow6)
      have hP6 := other_block hP.out (by decide) hT5.out.out hb6 hgrow6
      have hR6 := (hRs6.out.row k (by omega)).2
      have hsz6 := hB6.size
      obtain ⟨⟨q0, q1⟩, _, _⟩ := two_facts hP6
      have HP6 := Off.mk hP6
      clear hown6 hgrow6 hT5 hRs5 hP hB5 hsz5 hb6 hP6
      go_wp2_with fail
      refine (CM.out k _ _ _ hR6).mono ?_
      rintro e w7 ⟨v7, rfl, hO7, hb7⟩
      obtain ⟨r7, c7, rfl, hr7, hR7⟩ := own_row hO7 (by rw [HL.out]; omega)
      rw [HL.out] at hR7 ⊢
      have hT7 := Off.mk ((hT6.out.below hb7).upd r7 c7)
      have hRs7 := Off.mk ((hRs6.out.below hb7).snoc (own_mono_row hR7 hsz6) (Nat.le_trans hsz6 hr7) (fun j hj => by have := (hRs6.out.row j hj).2.lt; omega))
      have hP7 := Off.mk (blockB hb7 HP6.out)
      have hB7 := belowC hB6 hb7
      clear hT6 hRs6 hR6 hO7 hb7 hR7 hB6 hsz6 q0 q1 HP6
      go_wp2
      go_roundw
      case rel => exact ⟨k + 1, _, _, by omega, by omega, by rw [upd_same, upd_same], by rw [upd_old _ _ _ _ (by omega)]; exact er, by rw [upd_old _ _ _ _ (by omega)]; exact ec, hT7, hRs7, hP7, hB7, HE⟩
      case measure =>
        have h1 := hl1.out
        have h2 := hT7.out.lenOf
        show n + m - lenOf v6 < n + m - lenOf u11
        omega

set_option maxHeartbeats 1000000 in
theorem rRound_no (a b : Int) (l : List Int) (A : Option Addr) (c : Nat) (w : World) (hl : IntsAt w A l) (hk : askedB a b l = false) :
    Calls Try.prog 35 #[.int .i64 a, .int .i64 b, .slice A l.length c] w fun e w' => e = .returned (.tuple #[.slice none 0 0, .int .i64 2]) ∧ Below w.heap.size w w' := by
  have CA := Off.mk (asked_any a b l A c false hk w hl)
  clear hk
  go_enter Try.func35, Try.ntmps35
  go_wp2_with (go_at_call 58; refine CA.out.mono ?_; rintro e w1 ⟨rfl, hb⟩; simp only [askedErr])
  go_ret2
  exact ⟨rfl, hb⟩

set_option maxHeartbeats 1000000 in
theorem rsame_any (a b : List Int) (A B : Option Addr) (ca cb n : Nat) (w : World) (ha : IntsAt w A a) (hb : IntsAt w B b) (hn : a.length = n) (hm : b.length = n) :
    Calls Try.prog 48 #[.slice A n ca, .slice B n cb] w fun e w' => e = .returned (.bool (decide (a = b))) ∧ Below w.heap.size w w' := by
  have hla := ha.len
  have HN := Off.mk hn
  have HM := Off.mk hm
  have hn' : n ≤ 140737488351232 := by omega
  have HA := Off.mk (fun k (hk : k < n) => ha.cell k (by omega))
  have HB := Off.mk (fun k (hk : k < n) => hb.cell k (by omega))
  clear hn hm ha hb hla
  go_enter Try.func48, Try.ntmps48
  go_wp2
  go_loopw [5] (fun i wr => ∃ k : Nat, k ≤ n ∧ i = .int .i64 k ∧ (∃ m, wr = w.drewN m) ∧ Off (∀ j, j < k → a.getD j 0 = b.getD j 0)) (fun i _ => n - (intOf i).toNat)
  case atStart => exact ⟨0, by omega, rfl, ⟨0, rfl⟩, ⟨fun j hj => by omega⟩⟩
  case round =>
    obtain ⟨k, hk, rfl, ⟨m, rfl⟩, hs⟩ := hrel
    by_cases hlt : k < n
    · obtain ⟨ad, rfl, hc⟩ := HA.out k hlt
      obtain ⟨bd, rfl, hd⟩ := HB.out k hlt
      obtain ⟨x, hx⟩ : ∃ x, x = a.getD k 0 := ⟨_, rfl⟩
      obtain ⟨y, hy⟩ : ∃ y, y = b.getD k 0 := ⟨_, rfl⟩
      rw [← hx] at hc
      rw [← hy] at hd
      have HX := Off.mk hx
      have HY := Off.mk hy
      have hk0 : (0 : Int) ≤ (k : Int) := by omega
      have hk1 : (k : Int) < (n : Int) := by omega
      clear hx hy
      by_cases hxy : x = y
      · have hxy' : (x != y) = false := by rw [bne_eq_false_iff_eq]; exact hxy
        have HE := Off.mk hxy
        clear hxy
        go_wp2
        go_quiet (fail)
        go_wp2
        go_roundw
        case rel => exact ⟨k + 1, by omega, by go_num, ⟨_, rfl⟩, ⟨fun j hj => by
          by_cases e : j = k
          · subst e; rw [← HX.out, ← HY.out]; exact HE.out
          · exact hs.out j (by omega)⟩⟩
        case measure => simp only [intOf]; omega
      · have hxy' : (x != y) = true := by rw [bne_iff_ne]; exact hxy
        have HF : Off (decide (a = b) = false) := ⟨decide_eq_false (fun e => hxy (by rw [HX.out, HY.out, e]))⟩
        clear hxy
        go_wp2
        go_quiet (fail)
        go_wp2
        go_ret
        exact ⟨by rw [HF.out]; rfl, below_drewN' (below_drewN' (Below.refl _ _) _) _⟩
    · have HT : Off (decide (a = b) = true) := ⟨decide_eq_true (getD_ext (by rw [HN.out, HM.out]) (fun j hj => hs.out j (by have := HN.out; omega)))⟩
      go_wp2
      go_ret
      exact ⟨by rw [HT.out]; rfl, below_drewN' (Below.refl _ _) _⟩

set_option maxHeartbeats 4000000 in
set_option maxRecDepth 100000 in
theorem rRound_yes (n m : Nat) (l : List Int) (A : Option Addr) (c : Nat) (w : World) (hl : IntsAt w A l) (hlc : l.length ≤ c) (hk : askedB n m l = true) (hp : iterDay m l (n + m) = l) :
    Calls Try.prog 35 #[.int .i64 (n : Int), .int .i64 (m : Int), .slice A l.length c] w fun e w' => RoundPost m l n w e w' := by
  have CA := Off.mk (asked_any n m l A c true hk w hl)
  have HP := Off.mk hp
  obtain ⟨n', m', e1, e2, hn, hn1, hn6, hm1, hm6, hs⟩ := asked_nat hk
  obtain rfl : n = n' := by omega
  obtain rfl : m = m' := by omega
  obtain ⟨ad, rfl, _⟩ := hl.cell 0 (by omega)
  obtain ⟨i0, hi, hz0, hz1, hz2⟩ := info_parts info32
  have HN := Off.mk hn
  have HLC := Off.mk hlc
  have HL0 := Off.mk hl
  have CM : Off (∀ k W B v, Own W B v (iterDay m l k) → Calls Try.prog 59 #[.int .i64 (n : Int), .int .i64 (m : Int), v] W fun e w' => ∃ v', e = .returned v' ∧ Own w' W.heap.size v' (iterDay m l (k + 1)) ∧ Below W.heap.size W w') := ⟨fun k W B v hO => by
    obtain ⟨A, c, rfl, hI, _⟩ := own_ints hO (by rw [iterDay_length]; omega)
    have := rday_any (iterDay m l k) A c m W hI (by rw [iterDay_length]; omega) hm6
    rw [iterDay_length, hn] at this
    rw [iterDay_length, hn]
    exact this⟩
  have CM0 : Off (∀ W, IntsAt W (some ad) l → Calls Try.prog 59 #[.int .i64 (n : Int), .int .i64 (m : Int), .slice (some ad) n c] W fun e w' => ∃ v', e = .returned v' ∧ Own w' W.heap.size v' (iterDay m l 1) ∧ Below W.heap.size W w') := ⟨fun W hI => by
    have := rday_any l (some ad) c m W hI (by omega) hm6
    rw [hn] at this
    exact this⟩
  have CE : Off (∀ k W r c', RowC W w.heap.size r n c' (iterDay m l k) → IntsAt W (some ad) l → ∀ v, decide (iterDay m l k = l) = v → Calls Try.prog 48 #[.slice (some ⟨r, 0, none⟩) n c', .slice (some ad) n c] W fun e w' => e = .returned (.bool v) ∧ Below W.heap.size W w') := ⟨fun k W r c' h1 h2 v hv => by
    have h := rsame_any (iterDay m l k) l _ _ c' c n W (h1.ints (by omega)) h2 h1.len hn
    rw [← hv]
    exact h⟩
  have HL : Off (∀ k, (iterDay m l k).length = n) := ⟨fun k => by rw [iterDay_length]; exact hn⟩
  clear hk hp hs hlc e1 e2
  rw [hn]
  rw [hn] at CA
  clear hl hn
  go_enter Try.func35, Try.ntmps35
  go_wp2_with fail
  refine CA.out.mono ?_
  rintro e w1 ⟨rfl, hb1⟩
  simp only [askedErr]
  have hI1 := Off.mk (HL0.out.below hb1)
  go_wp2_with (at_builtin; refine wpList_copy rfl _ _ rfl (some ad) l c hI1.out HLC.out (by rw [HN.out]; omega) (fun e => by cases e) rfl (by rw [HN.out]; rfl) ?_)
  intro v2 w2 hO2 hb2
  obtain ⟨r0, c0, rfl, hr0, hR0⟩ := own_row hO2 (by rw [HN.out]; omega)
  rw [HN.out] at hR0 ⊢
  have hsz1 := hb1.size
  have hb3 := belowC hb1 hb2
  have hB3 : Below w2.heap.size w2 (w2.alloc (.cells #[.slice (some ⟨r0, 0, none⟩) n c0] 32)) := (Below.refl _ _).alloc (Nat.le_refl _) _
  have hR0' : RowC w2 w.heap.size r0 n c0 (iterDay m l 0) := own_mono_row hR0 hsz1
  have hT3 : Off (Tab (w2.alloc (.cells #[.slice (some ⟨r0, 0, none⟩) n c0] 32)) w.heap.size (.slice (some ⟨w2.heap.size, 0, none⟩) 1 1) n 1 (fun _ => r0) (fun _ => c0)) :=
    ⟨⟨World.ownsRow_lit w2 #[.slice (some ⟨r0, 0, none⟩) n c0] 1 hb3.size (by decide) rfl⟩⟩
  have hRs3 : Off (Rows (w2.alloc (.cells #[.slice (some ⟨r0, 0, none⟩) n c0] 32)) w.heap.size n 1 (fun _ => r0) (fun _ => c0) (iterDay m l)) :=
    ⟨⟨fun j hj => by obtain rfl : j = 0 := (by omega); exact ⟨Nat.le_trans hsz1 hr0, hR0'.below hB3⟩, fun i j hij hj => by omega⟩⟩
  have hb4 := belowC hb3 hB3
  clear hb2 hO2 hI1 hb1 hR0 hB3 hR0' hr0
  go_wp2_with fail
  have hI4 := HL0.out.below hb4
  have hsz4 := hb4.size
  refine (CM0.out _ hI4).mono ?_
  rintro e w4 ⟨v4, rfl, hO4, hb5⟩
  obtain ⟨r4, c4, rfl, hr4, hR4⟩ := own_row hO4 (by rw [HL.out]; omega)
  rw [HL.out] at hR4 ⊢
  have hT4 := Off.mk ((hT3.out.below hb5).upd r4 c4)
  have hRs4 : Off (Rows w4 w.heap.size n 2 (upd (fun _ => r0) 1 r4) (upd (fun _ => c0) 1 c4) (iterDay m l)) := ⟨(hRs3.out.below hb5).snoc (own_mono_row hR4 hsz4) (Nat.le_trans hsz4 hr4) (fun j hj => by have := (hRs3.out.row j hj).2.lt; omega)⟩
  have hb6 := belowC hb4 hb5
  clear hT3 hRs3 hb3 hR4 hO4 hb5 hI4 hsz4 hb4
  go_wp2
  go_loopw [9, 10] (fun v x wr => ∃ k rs cs, 1 ≤ k ∧ k ≤ n + m ∧ x = .slice (some ⟨rs k, 0, none⟩) n (cs k) ∧ Off (Tab wr w.heap.size v n k rs cs) ∧ Off (Rows wr w.heap.size n (k + 1) rs cs (iterDay m l)) ∧ Below w.heap.size w wr ∧ Off (∀ j, 0 < j → j < k → iterDay m l j ≠ l)) (fun v _ _ => n + m - lenOf v)
  case atStart => exact ⟨1, _, _, by omega, by omega, by rw [upd_same, upd_same], hT4, hRs4, hb6, ⟨fun j h1 h2 => by omega⟩⟩
  case round =>
    clear hT4 hRs4 hb6
    obtain ⟨k, rs, cs, hk1, hk2, rfl, hT, hRs, hb, hno⟩ := hrel
    obtain ⟨wo, rfl⟩ : ∃ wo : World, wo = wr := ⟨_, rfl⟩
    have hsz := hb.size
    have hl1 := Off.mk hT.out.lenOf
    have hRk := (hRs.out.row k (by omega)).2
    have CQ := Off.mk (CE.out k wo (rs k) (cs k) (own_mono_row hRk (Nat.le_refl _)) (HL0.out.below hb))
    by_cases hend : iterDay m l k = l
    · have CQ := Off.mk (CQ.out true (decide_eq_true hend))
      have HE : Off (IsPer m l k) := ⟨⟨hk1, hend, hno.out⟩⟩
      clear hend hRk
      go_wp2_with (go_at_call 48; refine CQ.out.mono ?_; rintro e w5 ⟨rfl, hb5⟩)
      go_ret2
      exact ⟨_, k, rs, cs, rfl, HE.out, hk2, hT.out.below hb5, ⟨fun j hj => (((hRs.out).below hb5).row j (by omega)), fun i j hij hj => hRs.out.inc i j hij (by omega)⟩, belowC hb hb5⟩
    · have hkl : k < n + m := by
        rcases Nat.lt_or_ge k (n + m) with h | h
        · exact h
        · exact absurd (by rw [show k = n + m by omega]; exact HP.out) hend
      have CQ := Off.mk (CQ.out false (decide_eq_false hend))
      have HE : Off (∀ j, 0 < j → j < k + 1 → iterDay m l j ≠ l) := ⟨fun j h1 h2 => by
        by_cases e : j = k
        · subst e; exact hend
        · exact hno.out j h1 (by omega)⟩
      clear hend hRk
      go_wp2_with fail
      refine CQ.out.mono ?_
      rintro e w5 ⟨rfl, hb5⟩
      have hT5 := Off.mk (hT.out.below hb5)
      have hRs5 := Off.mk (hRs.out.below hb5)
      have hB5 := belowC hb hb5
      have hsz5 := hB5.size
      have hk48 : k ≤ 12 := by omega
      clear hT hRs hb hb5 CQ
      go_wp2_with (at_builtin; refine wpList_append_own _ rfl _ _ 28 rfl w.heap.size 32 i0 _ 1 24 Try.underlying28 hi hz0 hz1 hz2 rfl (by decide) _ _ _ rfl (hT5.out.out.alloc _) ⟨w5.heap.size, 0, none⟩ 1 1 [.slice (some ⟨rs k, 0, none⟩) n (cs k)] rfl rfl ?c1 ?c2 ?c3 ?c4 ?c5 ?_)
      case c1 =>
        intro j u hj
        match j, hj with
        | 0, hj => simp at hj; subst hj; simp [Addr.add]
      case c2 => intro u hu; simp at hu; subst hu; rfl
      case c3 => unfold maxLen; omega
      case c4 => omega
      case c5 => simp; omega
      intro v6 w6 hown6 hgrow6 _
      have hb6 : Below w5.heap.size w5 (w5.alloc (.cells #[.slice (some ⟨rs k, 0, none⟩) n (cs k)] 32)) := (Below.refl _ _).alloc (Nat.le_refl _) _
      have hB6 : Below w.heap.size w w6 := (belowC hB5 hb6).grown hgrow6 (by simp; omega) (fun g e => hT5.out.base e)
      have hT6 := Off.mk (show Tab w6 w.heap.size v6 n (k + 1) rs cs from ⟨by rw [rowVals_snoc]; exact hown6⟩)
      have hRs6 := Off.mk (hRs5.out.grown hT5.out.out hb6 hgrow6)
      have hR6 := (hRs6.out.row k (by omega)).2.own_of
      have hsz6 := hB6.size
      clear hown6 hgrow6 hT5 hRs5 hB5 hsz5 hb6
      go_wp2_with fail
      refine (CM.out k _ _ _ hR6).mono ?_
      rintro e w7 ⟨v7, rfl, hO7, hb7⟩
      obtain ⟨r7, c7, rfl, hr7, hR7⟩ := own_row hO7 (by rw [HL.out]; omega)
      rw [HL.out] at hR7 ⊢
      have hT7 := Off.mk ((hT6.out.below hb7).upd r7 c7)
      have hRs7 := Off.mk ((hRs6.out.below hb7).snoc (own_mono_row hR7 hsz6) (Nat.le_trans hsz6 hr7) (fun j hj => by have := (hRs6.out.row j hj).2.lt; omega))
      have hB7 := belowC hB6 hb7
      clear hT6 hRs6 hR6 hO7 hb7 hR7 hB6 hsz6
      go_wp2
      go_roundw
      case rel => exact ⟨k + 1, _, _, by omega, by omega, by rw [upd_same, upd_same], hT7, hRs7, hB7, HE⟩
      case measure =>
        have h1 := hl1.out
        have h2 := hT7.out.lenOf
        show n + m - lenOf v6 < n + m - lenOf u9
        omega
end Go.Proofs.Ytnhbkopgbibcgaa
