/- Contracts: States, Same of the specification. -/
import Derived.Test.YtnhbkopgbibcgaaHg
import Derived.Test.YtnhbkopgbibcgaaHl
namespace Go.Proofs.Ytnhbkopgbibcgaa
open Go.RowKit Go.Shelf

/-- All states that begin with some rows: d rows are wanting, and no row has more than `most`. -/
def stF : Nat → Nat → List Int → List (List Int)
  | 0, _, now => [now]
  | d + 1, most, now => (List.range (most + 1)).flatMap fun x => stF d x (now ++ [(x : Int)])
/-- Those that go on with a number below x. -/
def stTo (d : Nat) (now : List Int) (x : Nat) : List (List Int) := (List.range x).flatMap fun y => stF d y (now ++ [(y : Int)])
theorem stTo_succ (d : Nat) (now : List Int) (x : Nat) : stTo d now (x + 1) = stTo d now x ++ stF d x (now ++ [(x : Int)]) := by
  simp [stTo, List.range_succ, List.flatMap_append]
theorem stF_succ (d most : Nat) (now : List Int) : stF (d + 1) most now = stTo d now (most + 1) := rfl
theorem stF_length : ∀ d most now, most ≤ 6 → (stF d most now).length ≤ 7 ^ d
  | 0, _, _, _ => by simp [stF]
  | d + 1, most, now, h => by
    have : ∀ x, x ≤ 7 → (stTo d now x).length ≤ x * 7 ^ d := by
      intro x
      induction x with
      | zero => intro _; simp [stTo]
      | succ x ih =>
        intro hx
        rw [stTo_succ, List.length_append, Nat.succ_mul]
        have h1 := ih (by omega)
        have h2 := stF_length d x (now ++ [(x : Int)]) (by omega)
        omega
    rw [stF_succ, Nat.pow_succ, Nat.mul_comm]
    exact Nat.le_trans (this (most + 1) (by omega)) (Nat.mul_le_mul_right _ (by omega))
theorem stF_pos : ∀ d most now, 0 < (stF d most now).length
  | 0, _, _ => by simp [stF]
  | d + 1, most, now => by
    rw [stF_succ, stTo_succ, List.length_append]
    have := stF_pos d most (now ++ [(most : Int)])
    omega
/-- Numbers lie in a block of their own kind. -/
structure Blk (w : World) (r : Nat) (l : List Int) : Prop where
  out : ∃ cur, w.heap[r]? = some (.cells cur 3 (0, 0)) ∧ ∀ j, j < l.length → cur[j]? = some (.int .i64 (l.getD j 0))
theorem Blk.below {w w1 : World} {r : Nat} {l : List Int} (h : Blk w r l) (hb : Below w.heap.size w w1) : Blk w1 r l := by
  obtain ⟨cur, h1, h2⟩ := h.out
  exact ⟨cur, blockB hb h1, h2⟩
theorem Blk.ints {w : World} {r : Nat} {l : List Int} (h : Blk w r l) (hl : l.length ≤ 140737488351232) : IntsAt w (some ⟨r, 0, none⟩) l := by
  obtain ⟨cur, h1, h2⟩ := h.out
  refine ⟨hl, fun j hj => ⟨_, rfl, ?_⟩⟩
  rw [Addr.add_lit, Nat.zero_add]
  have h3 := h2 j hj
  have h4 := (Array.getElem?_eq_some_iff.1 h3).1
  simp [World.cell?, h1, h3]
/-- The lists xs lie in memory, as the slices vs. -/
structure Lists (w : World) (n : Nat) (vs : List Value) (xs : List (List Int)) : Prop where
  len : vs.length = xs.length
  row : ∀ j, j < xs.length → ∃ r c, n ≤ c ∧ vs[j]? = some (.slice (some ⟨r, 0, none⟩) n c) ∧ (xs.getD j []).length = n ∧ Blk w r (xs.getD j [])
/-- A list of lists of the call's own. -/
structure TabL (w : World) (base : Nat) (v : Value) (n : Nat) (xs : List (List Int)) : Prop where
  out : ∃ vs, w.ownsRow base 32 1 v xs.length vs ∧ Lists w n vs xs
theorem Lists.below {w w1 : World} {n : Nat} {vs : List Value} {xs : List (List Int)} (h : Lists w n vs xs) (hb : Below w.heap.size w w1) : Lists w1 n vs xs :=
  ⟨h.len, fun j hj => by obtain ⟨r, c, h1, h2, h3, h4⟩ := h.row j hj; exact ⟨r, c, h1, h2, h3, h4.below hb⟩⟩
theorem TabL.below {w w1 : World} {base n : Nat} {v : Value} {xs : List (List Int)} (h : TabL w base v n xs) (hb : Below w.heap.size w w1) : TabL w1 base v n xs := by
  obtain ⟨vs, h1, h2⟩ := h.out
  exact ⟨vs, owns_below h1 hb, h2.below hb⟩
theorem Lists.grown {w w1 w2 : World} {base n k : Nat} {vs ys : List Value} {xs : List (List Int)} {v : Value} (h : Lists w n vs xs) (o : w.ownsRow base 32 1 v k ys) (hb : Below w.heap.size w w1) (hg : w1.grownBy w2 v.ownBlock) : Lists w2 n vs xs :=
  ⟨h.len, fun j hj => by
    obtain ⟨r, c, h1, h2, h3, h4⟩ := h.row j hj
    obtain ⟨cur, h5, h6⟩ := h4.out
    exact ⟨r, c, h1, h2, h3, cur, other_block h5 (by decide) o hb hg, h6⟩⟩
theorem Lists.append {w : World} {n : Nat} {vs us : List Value} {xs ys : List (List Int)} (h : Lists w n vs xs) (k : Lists w n us ys) : Lists w n (vs ++ us) (xs ++ ys) := by
  refine ⟨by rw [List.length_append, List.length_append, h.len, k.len], fun j hj => ?_⟩
  rw [List.length_append] at hj
  by_cases hx : j < xs.length
  · obtain ⟨r, c, h1, h2, h3, h4⟩ := h.row j hx
    have e : (xs ++ ys).getD j [] = xs.getD j [] := by rw [List.getD_eq_getElem?_getD, List.getD_eq_getElem?_getD, List.getElem?_append_left hx]
    rw [e]
    exact ⟨r, c, h1, by rw [List.getElem?_append_left (by rw [h.len]; exact hx)]; exact h2, h3, h4⟩
  · obtain ⟨r, c, h1, h2, h3, h4⟩ := k.row (j - xs.length) (by omega)
    have e : (xs ++ ys).getD j [] = ys.getD (j - xs.length) [] := by rw [List.getD_eq_getElem?_getD, List.getD_eq_getElem?_getD, List.getElem?_append_right (by omega)]
    rw [e]
    exact ⟨r, c, h1, by rw [List.getElem?_append_right (by rw [h.len]; omega), h.len]; exact h2, h3, h4⟩

/-- append of one number to a list that has no room: new memory. -/
theorem wpList_one {w : World} {ops : Array Oper} {rest : List Oper} {o : Oper} {a : Act} {Q : Exit → Act → World → Prop} (hgd : o.guard = none) (s x : Operand)
    (ho : o.op = .call { callee := .builtin .append, args := #[s, x], argTypes := #[32, 32] }) (A : Option Addr) (l : List Int) (y : Int) (hl : l = [] ∧ A = none ∨ ∃ r, A = some ⟨r, 0, none⟩ ∧ Blk w r l) (h60 : l.length ≤ 60)
    (hs : a.eval s = .slice A l.length l.length) (hx : a.eval x = .slice (some ⟨w.heap.size, 0, none⟩) 1 1)
    (h : ∀ r c w', l.length + 1 ≤ c → Blk w' r (l ++ [y]) → Below w.heap.size w w' → wpList Try.prog ops Q rest (a.put o.dst (.slice (some ⟨r, 0, none⟩) (l.length + 1) c)) w') :
    wpList Try.prog ops Q (o :: rest) a (w.alloc (.cells #[.int .i64 y] 3)) := by
  obtain ⟨i0, hi, hz0, hz1, hz2⟩ := info_parts info3
  refine wpList_plain hgd fun K hK => ?_
  have hW : Below w.heap.size w (w.alloc (.cells #[.int .i64 y] 3)) := (Below.refl _ _).alloc (Nat.le_refl _) _
  have hc : ∀ j v, ([.int .i64 y] : List Value)[j]? = some v → (w.alloc (.cells #[.int .i64 y] 3)).cell? ((⟨w.heap.size, 0, none⟩ : Addr).add j) = some v := by
    intro k u hk
    match k, hk with
    | 0, hk => simp at hk; subst hk; simp [Addr.add_lit]
  have fin : ∀ (c : Nat) (zs : Array Value), l.length + 1 ≤ c → (Builtin.append_ #[32, 32] o.type #[.slice A l.length l.length, .slice (some ⟨w.heap.size, 0, none⟩) 1 1]).run Try.prog (w.alloc (.cells #[.int .i64 y] 3)) =
      .ok (.slice (some ⟨(w.alloc (.cells #[.int .i64 y] 3)).heap.size, 0, none⟩) (l.length + 1) c) ((w.alloc (.cells #[.int .i64 y] 3)).drew.alloc (.cells ((nums (l ++ [y])).toArray ++ zs) 3)) → o.wp Try.prog a (w.alloc (.cells #[.int .i64 y] 3)) K Q := by
    intro c zs hlc hr
    unfold Oper.wp execOp
    simp only [ho, resolve, invoke, builtin, Sem.run_bind, Sem.run_pure, Result.andThen_ok, List.map_toArray, List.map_cons, List.map_nil, hs, hx, hr]
    refine hK _ _ (h _ _ _ hlc ⟨_, block_new _ _, fun j hj => ?_⟩ ?_)
    · have h1 := nums_at (l ++ [y]) j hj
      rw [Array.getElem?_append_left (by simpa [nums] using hj)]
      simpa using h1
    · exact belowA (w0 := w) (hW.drew) _
  rcases hl with ⟨rfl, rfl⟩ | ⟨r, rfl, hB⟩
  · refine fin _ _ ?_ (run_append_nil (P := Try.prog) _ 32 o.type 3 i0 (.int .i64 0) Try.underlying32 hi hz0 ⟨w.heap.size, 0, none⟩ 1 1 [.int .i64 y] (by rw [hz1]; rfl) hc (by omega) (by omega) (by rw [hz2]; omega))
    exact grownCap_ge _ _ _ _
  · have ho : ∀ j v, (nums l)[j]? = some v → (w.alloc (.cells #[.int .i64 y] 3)).cell? ((⟨r, 0, none⟩ : Addr).add j) = some v := by
      intro j v hj
      have hjl : j < l.length := by
        have := (List.getElem?_eq_some_iff.1 hj).1
        simpa [nums] using this
      obtain ⟨ad, e, h1⟩ := (hB.below hW).ints (by omega) |>.cell j hjl
      cases e
      rw [h1, ← nums_at l j hjl, hj]
    have := run_append_grow (P := Try.prog) (w.alloc (.cells #[.int .i64 y] 3)) 32 o.type 3 i0 (.int .i64 0) Try.underlying32 hi hz0 ⟨r, 0, none⟩ l.length l.length (nums l) (by rw [hz1]; simp [nums]) ho ⟨w.heap.size, 0, none⟩ 1 1 [.int .i64 y] (by rw [hz1]; rfl) hc (by omega) (by omega) (growslice_fits (by omega) (by rw [hz2]; omega))
    rw [show (nums l).toArray ++ [Value.int .i64 y].toArray = (nums (l ++ [y])).toArray by simp [nums]] at this
    exact fin _ _ (grownCap_ge _ _ _ _) this

theorem lists_one {w : World} {n r c : Nat} {l : List Int} (h : Blk w r l) (hl : l.length = n) (hc : n ≤ c) : Lists w n [.slice (some ⟨r, 0, none⟩) n c] [l] :=
  ⟨rfl, fun j hj => by
    obtain rfl : j = 0 := by simpa using hj
    exact ⟨r, c, hc, rfl, hl, h⟩⟩
theorem tabL_nil (w : World) (base n : Nat) : TabL w base (.slice none 0 0) n [] := ⟨⟨[], World.ownsRow_nil _ _ _ _, rfl, fun j hj => by simp at hj⟩⟩

set_option maxHeartbeats 4000000 in
set_option maxRecDepth 100000 in
theorem states_any (n b : Nat) (h1 : 1 ≤ n) (h6 : n ≤ 6) (hb1 : 1 ≤ b) (hb6 : b ≤ 6) : ∀ (d most : Nat) (l : List Int) (A : Option Addr) (c : Nat) (w : World), l.length + d = n → most ≤ 6 →
    ((l = [] ∧ A = none ∧ c = 0 ∧ most = b) ∨ ∃ r, A = some ⟨r, 0, none⟩ ∧ Blk w r l ∧ l.length ≤ c ∧ 0 < l.length ∧ l.getD (l.length - 1) 0 = most) →
    Calls Try.prog 20 #[.int .i64 (n : Int), .int .i64 (b : Int), .slice A l.length c] w fun e w' => ∃ v, e = .returned v ∧ TabL w' w.heap.size v n (stF d most l) ∧ Below w.heap.size w w' := by
  intro d
  induction d with
  | zero =>
    intro most l A c w hd hm hA
    rcases hA with ⟨rfl, _⟩ | ⟨r, rfl, hB, hlc, hl0, hlast⟩
    · simp at hd; omega
    · have hln : l.length = n := by omega
      have HB := Off.mk hB
      have HLN := Off.mk hln
      have hb : Below w.heap.size w (w.alloc (.cells #[.slice (some ⟨r, 0, none⟩) n c] 32)) := (Below.refl _ _).alloc (Nat.le_refl _) _
      have HT : Off (TabL (w.alloc (.cells #[.slice (some ⟨r, 0, none⟩) n c] 32)) w.heap.size (.slice (some ⟨w.heap.size, 0, none⟩) 1 1) n (stF 0 most l)) :=
        ⟨⟨_, World.ownsRow_lit w #[.slice (some ⟨r, 0, none⟩) n c] 1 (Nat.le_refl _) (by decide) rfl, lists_one (hB.below hb) hln (by omega)⟩⟩
      have HBl := Off.mk hb
      rw [hln]
      have g1 : ((n : Int) == (n : Int)) = true := by simp
      clear hd hlast hB hln hb
      go_enter Try.func20, Try.ntmps20
      go_wp2
      go_ret
      exact ⟨_, rfl, HT.out, HBl.out⟩
  | succ d ih =>
    intro most l A c w hd hm hA
    obtain ⟨i0, hi, hz0, hz1, hz2⟩ := info_parts info32
    have g1 : ((l.length : Int) == (n : Int)) = false := by rw [beq_eq_false_iff_ne]; omega
    have IH : Off (∀ (most : Nat) (l : List Int) (A : Option Addr) (c : Nat) (w : World), l.length + d = n → most ≤ 6 →
        ((l = [] ∧ A = none ∧ c = 0 ∧ most = b) ∨ ∃ r, A = some ⟨r, 0, none⟩ ∧ Blk w r l ∧ l.length ≤ c ∧ 0 < l.length ∧ l.getD (l.length - 1) 0 = most) →
        Calls Try.prog 20 #[.int .i64 (n : Int), .int .i64 (b : Int), .slice A l.length c] w fun e w' => ∃ v, e = .returned v ∧ TabL w' w.heap.size v n (stF d most l) ∧ Below w.heap.size w w') := ⟨ih⟩
    have HD := Off.mk hd
    have hll : l.length ≤ 6 := by omega
    have HLen : Off (∀ x, x ≤ 6 → (stTo d l x).length ≤ 823543 ∧ (stF d x (l ++ [(x : Int)])).length ≤ 823543) := ⟨fun x hx => by
      have h7 : 7 ^ (d + 1) ≤ 7 ^ 6 := Nat.pow_le_pow_right (by omega) (by omega)
      have h8 : 7 ^ d ≤ 7 ^ 6 := Nat.pow_le_pow_right (by omega) (by omega)
      have e7 : 7 ^ 6 = 117649 := rfl
      have h9 := stF_length d x (l ++ [(x : Int)]) hx
      refine ⟨?_, by omega⟩
      rcases Nat.eq_zero_or_pos x with h0 | h0
      · subst h0; simp [stTo]
      · have := stF_length (d + 1) (x - 1) l (by omega)
        rw [stF_succ, show x - 1 + 1 = x by omega] at this
        omega⟩
    have HS : Off (stF (d + 1) most l = stTo d l (most + 1)) := ⟨rfl⟩
    have HT0 : Off (∀ W, TabL W w.heap.size (.slice none 0 0) n (stTo d l 0)) := ⟨fun W => by
      show TabL W w.heap.size (.slice none 0 0) n []
      exact tabL_nil _ _ _⟩
    have C0 : Off (∀ W, Below w.heap.size w W → l = [] ∧ A = none ∨ ∃ r, A = some ⟨r, 0, none⟩ ∧ Blk W r l) := ⟨fun W hW => by
      rcases hA with ⟨h, h', _⟩ | ⟨r, h, hB, _⟩
      · exact .inl ⟨h, h'⟩
      · exact .inr ⟨r, h, hB.below hW⟩⟩
    clear ih
    have key : ∀ (hA2 : (l.length = 0 ∧ A = none ∧ c = 0 ∧ most = b) ∨ ∃ ad, A = some ad ∧ 0 < l.length ∧ l.length ≤ c ∧ w.cell? (ad.add (l.length - 1)) = some (.int .i64 (most : Int))),
        Calls Try.prog 20 #[.int .i64 (n : Int), .int .i64 (b : Int), .slice A l.length c] w fun e w' => ∃ v, e = .returned v ∧ TabL w' w.heap.size v n (stF (d + 1) most l) ∧ Below w.heap.size w w' := by
      intro hA2
      clear hA
      rcases hA2 with ⟨hl0, rfl, rfl, rfl⟩ | ⟨ad, rfl, hl0, hlc, hc⟩
      · obtain rfl : l = [] := List.length_eq_zero_iff.1 hl0
        have hdn : 0 + (d + 1) = n := hd
        have hn0 : ((0 : Int) == (n : Int)) = false := by rw [beq_eq_false_iff_ne]; omega
        clear hd g1 hl0 hll hdn
        go_enter Try.func20, Try.ntmps20
        go_wp2
        go_loopw [7, 9] (fun v xv wr => ∃ x : Nat, x ≤ most + 1 ∧ xv = .int .i64 x ∧ TabL wr w.heap.size v n (stTo d [] x) ∧ Below w.heap.size w wr) (fun _ xv _ => most + 1 - (intOf xv).toNat)
        case atStart => exact ⟨0, by omega, rfl, HT0.out _, Below.refl _ _⟩
        case round =>
          obtain ⟨x, hx, rfl, hT, hb⟩ := hrel
          obtain ⟨wo, rfl⟩ : ∃ wo : World, wo = wr := ⟨_, rfl⟩
          by_cases hxm : x ≤ most
          · have hxi : (x : Int) ≤ (most : Int) := by omega
            have HX := Off.mk (HLen.out x (by omega))
            have HS1 : Off (stTo d [] (x + 1) = stTo d [] x ++ stF d x ([] ++ [(x : Int)])) := ⟨stTo_succ d [] x⟩
            have HT := Off.mk hT
            clear hT
            go_wp2_with (at_builtin; refine wpList_one rfl _ _ rfl none [] (x : Int) (.inl ⟨rfl, rfl⟩) (Nat.zero_le _) rfl rfl ?_)
            intro r1 c1 w1 hc1 hB1 hb1
            have CQ := IH.out x ([] ++ [(x : Int)]) (some ⟨r1, 0, none⟩) c1 w1 (by show 1 + d = n; have h : 0 + (d + 1) = n := HD.out; omega) (by omega) (.inr ⟨r1, rfl, hB1, (by simpa using hc1), (by simp), rfl⟩)
            change Calls Try.prog 20 #[_, _, .slice _ 1 _] _ _ at CQ
            have CQ := Off.mk CQ
            have hB1' := belowC hb hb1
            have HT1 := Off.mk (HT.out.below hb1)
            clear HT hB1 hb hb1
            go_wp2_with fail
            refine CQ.out.mono ?_
            rintro e w2 ⟨v2, rfl, hT2, hb2⟩
            obtain ⟨us, hou, hLu⟩ := hT2.out
            obtain ⟨vs, hov, hLv⟩ := (HT1.out.below hb2).out
            have hB2 := belowC hB1' hb2
            have hpos := stF_pos d x ([] ++ [(x : Int)])
            obtain ⟨g, cap, rfl⟩ : ∃ g cap, v2 = .slice (some ⟨g, 0, none⟩) (stF d x ([] ++ [(x : Int)])).length cap := by
              rcases hou.2 with ⟨_, h⟩ | ⟨g, cap, cur, h, _⟩
              · omega
              · exact ⟨g, cap, h⟩
            have hul := hou.1
            rw [Nat.mul_one] at hul
            obtain ⟨ys, hys⟩ : ∃ ys, ys = stF d x ([] ++ [(x : Int)]) := ⟨_, rfl⟩
            obtain ⟨xs, hxs⟩ : ∃ xs, xs = stTo d [] x := ⟨_, rfl⟩
            rw [← hys] at hou hLu hul HX HS1 ⊢
            rw [← hxs] at hov hLv HX HS1
            obtain ⟨hx1, hx2⟩ := HX.out
            have HOU := Off.mk hou
            have HLU := Off.mk hLu
            have HOV := Off.mk hov
            have HLV := Off.mk hLv
            have HUL := Off.mk hul
            clear hys hxs hT2 hou hLu hov hLv HT1 CQ hpos hul
            go_wp2_with (at_builtin; refine wpList_append_own _ rfl _ _ 28 rfl w.heap.size 32 i0 _ 1 24 Try.underlying28 hi hz0 hz1 hz2 rfl (by decide) _ _ _ rfl HOV.out ⟨g, 0, none⟩ ys.length cap us rfl (by rw [HUL.out, Nat.mul_one]) (HOU.out.cells (g := g) rfl) ?_ (by unfold maxLen; omega) (by omega) hB2.size ?_)
            · intro u hu
              obtain ⟨j, hj, rfl⟩ := List.mem_iff_getElem.1 hu
              obtain ⟨r, c, _, h, _⟩ := HLU.out.row j (by rw [← HUL.out]; exact hj)
              rw [List.getElem?_eq_getElem hj] at h
              rw [Option.some.inj h]
              rfl
            intro v3 w3 hown3 hgrow3 _
            have hB3 : Below w.heap.size w w3 := hB2.grown hgrow3 hB2.size (fun g e => (HOV.out.lt g e).1)
            have HT3 : TabL w3 w.heap.size v3 n (stTo d [] (x + 1)) := by
              rw [HS1.out]
              exact ⟨⟨_, by rw [List.length_append]; exact hown3, (HLV.out.grown HOV.out (Below.refl _ _) hgrow3).append (HLU.out.grown HOV.out (Below.refl _ _) hgrow3)⟩⟩
            clear hown3 hgrow3 HOU HLU HOV HLV HUL hB2 hB1' hb2
            go_wp2
            go_roundw
            case rel => exact ⟨x + 1, by omega, by go_num, HT3, hB3⟩
            case measure => simp only [intOf]; omega
          · obtain rfl : x = most + 1 := by omega
            go_wp2
            go_ret
            exact ⟨_, rfl, by rw [HS.out]; exact hT, hb⟩
      · have hx1 : (0 : Int) < (l.length : Int) := by omega
        have hx2 : (0 : Int) ≤ (l.length : Int) - 1 := by omega
        have hx3 : ((l.length : Int) - 1).toNat = l.length - 1 := by omega
        have hx4 : (l.length : Int) - 1 < (l.length : Int) := by omega
        clear hd
        go_enter Try.func20, Try.ntmps20
        go_wp2
        go_loopw [7, 9] (fun v xv wr => ∃ x : Nat, x ≤ most + 1 ∧ xv = .int .i64 x ∧ TabL wr w.heap.size v n (stTo d l x) ∧ Below w.heap.size w wr) (fun _ xv _ => most + 1 - (intOf xv).toNat)
        case atStart => exact ⟨0, by omega, rfl, HT0.out _, Below.refl _ _⟩
        case round =>
          obtain ⟨x, hx, rfl, hT, hb⟩ := hrel
          obtain ⟨wo, rfl⟩ : ∃ wo : World, wo = wr := ⟨_, rfl⟩
          by_cases hxm : x ≤ most
          · have hxi : (x : Int) ≤ (most : Int) := by omega
            have HX := Off.mk (HLen.out x (by omega))
            have HS1 : Off (stTo d l (x + 1) = stTo d l x ++ stF d x (l ++ [(x : Int)])) := ⟨stTo_succ d l x⟩
            have HT := Off.mk hT
            clear hT
            go_wp2_with (at_builtin; refine wpList_one rfl _ _ rfl (some ad) l (x : Int) (C0.out _ hb) (by omega) rfl rfl ?_)
            intro r1 c1 w1 hc1 hB1 hb1
            have CQ := IH.out x (l ++ [(x : Int)]) (some ⟨r1, 0, none⟩) c1 w1 (by rw [List.length_append]; have := HD.out; simp; omega) (by omega) (.inr ⟨r1, rfl, hB1, by rw [List.length_append]; exact hc1, by rw [List.length_append]; simp, by rw [List.length_append]; show (l ++ [(x : Int)]).getD (l.length + 1 - 1) 0 = _; rw [Nat.add_sub_cancel, List.getD_eq_getElem?_getD, List.getElem?_append_right (Nat.le_refl _), Nat.sub_self]; rfl⟩)
            rw [List.length_append] at CQ
            have CQ := Off.mk CQ
            have hB1' := belowC hb hb1
            have HT1 := Off.mk (HT.out.below hb1)
            clear HT hB1 hb hb1
            go_wp2_with fail
            refine CQ.out.mono ?_
            rintro e w2 ⟨v2, rfl, hT2, hb2⟩
            obtain ⟨us, hou, hLu⟩ := hT2.out
            obtain ⟨vs, hov, hLv⟩ := (HT1.out.below hb2).out
            have hB2 := belowC hB1' hb2
            have hpos := stF_pos d x (l ++ [(x : Int)])
            obtain ⟨g, cap, rfl⟩ : ∃ g cap, v2 = .slice (some ⟨g, 0, none⟩) (stF d x (l ++ [(x : Int)])).length cap := by
              rcases hou.2 with ⟨_, h⟩ | ⟨g, cap, cur, h, _⟩
              · omega
              · exact ⟨g, cap, h⟩
            have hul := hou.1
            rw [Nat.mul_one] at hul
            obtain ⟨ys, hys⟩ : ∃ ys, ys = stF d x (l ++ [(x : Int)]) := ⟨_, rfl⟩
            obtain ⟨xs, hxs⟩ : ∃ xs, xs = stTo d l x := ⟨_, rfl⟩
            rw [← hys] at hou hLu hul HX HS1 ⊢
            rw [← hxs] at hov hLv HX HS1
            obtain ⟨hx1, hx2⟩ := HX.out
            have HOU := Off.mk hou
            have HLU := Off.mk hLu
            have HOV := Off.mk hov
            have HLV := Off.mk hLv
            have HUL := Off.mk hul
            clear hys hxs hT2 hou hLu hov hLv HT1 CQ hpos hul
            go_wp2_with (at_builtin; refine wpList_append_own _ rfl _ _ 28 rfl w.heap.size 32 i0 _ 1 24 Try.underlying28 hi hz0 hz1 hz2 rfl (by decide) _ _ _ rfl HOV.out ⟨g, 0, none⟩ ys.length cap us rfl (by rw [HUL.out, Nat.mul_one]) (HOU.out.cells (g := g) rfl) ?_ (by unfold maxLen; omega) (by omega) hB2.size ?_)
            · intro u hu
              obtain ⟨j, hj, rfl⟩ := List.mem_iff_getElem.1 hu
              obtain ⟨r, c, _, h, _⟩ := HLU.out.row j (by rw [← HUL.out]; exact hj)
              rw [List.getElem?_eq_getElem hj] at h
              rw [Option.some.inj h]
              rfl
            intro v3 w3 hown3 hgrow3 _
            have hB3 : Below w.heap.size w w3 := hB2.grown hgrow3 hB2.size (fun g e => (HOV.out.lt g e).1)
            have HT3 : TabL w3 w.heap.size v3 n (stTo d l (x + 1)) := by
              rw [HS1.out]
              exact ⟨⟨_, by rw [List.length_append]; exact hown3, (HLV.out.grown HOV.out (Below.refl _ _) hgrow3).append (HLU.out.grown HOV.out (Below.refl _ _) hgrow3)⟩⟩
            clear hown3 hgrow3 HOU HLU HOV HLV HUL hB2 hB1' hb2
            go_wp2
            go_roundw
            case rel => exact ⟨x + 1, by omega, by go_num, HT3, hB3⟩
            case measure => simp only [intOf]; omega
          · obtain rfl : x = most + 1 := by omega
            go_wp2
            go_ret
            exact ⟨_, rfl, by rw [HS.out]; exact hT, hb⟩
    rcases hA with ⟨h, h2, h3, h4⟩ | ⟨r, rfl, hB, hlc, hl0, hlast⟩
    · exact key (.inl ⟨by rw [h]; rfl, h2, h3, h4⟩)
    · refine key (.inr ⟨_, rfl, hl0, hlc, ?_⟩)
      obtain ⟨ad, e, h1⟩ := (hB.ints (by omega)).cell (l.length - 1) (by omega)
      cases e
      rw [h1, hlast]
end Go.Proofs.Ytnhbkopgbibcgaa
