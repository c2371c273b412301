/- Contracts: Weights. -/
import Derived.Test.YtdbleghnblohgaaVm
import Derived.Deep.AppendLies
import Derived.Deep.RegionLaw
import Derived.Laws.EntriesVeiled
namespace Go.Proofs.Ytdbleghnblohgaa
open Go.RowKit Go.Shelf

theorem info4 : (Try.prog.info? 4).map (fun i => (i.zero, i.size, i.bytes)) = some (some (.bool false), 1, 1) := by kernel_rfl
def boolsTo (p : Int → Bool) (s : Nat) : List Value := (List.range s).map fun i : Nat => .bool (p (i : Int))
theorem boolsTo_succ (p : Int → Bool) (s : Nat) : boolsTo p (s + 1) = boolsTo p s ++ [.bool (p (s : Int))] := by simp [boolsTo, List.range_succ]
theorem boolsTo_length (p : Int → Bool) (s : Nat) : (boolsTo p s).length = s := by simp [boolsTo]
theorem two_facts {w : World} {b : Nat} {v0 v1 : Value} {t : TypeId} (h : w.heap[b]? = some (.cells #[v0, v1] t (0, 0))) :
    (w.cell? ⟨b, 0, none⟩ = some v0 ∧ w.cell? ⟨b, 1, none⟩ = some v1) ∧ w.frozen? ⟨b, 0, none⟩ = false ∧ w.frozen? ⟨b, 1, none⟩ = false := by
  simp [World.cell?, World.frozen?, h]
theorem one_facts {w : World} {b : Nat} {v0 : Value} {t : TypeId} (h : w.heap[b]? = some (.cells #[v0] t (0, 0))) :
    w.cell? ⟨b, 0, none⟩ = some v0 ∧ w.frozen? ⟨b, 0, none⟩ = false := by
  simp [World.cell?, World.frozen?, h]
theorem belowD {B : Nat} {w0 a b : World} (h : Below B w0 a) (hB : B ≤ a.heap.size) (k : Below a.heap.size a b) : Below B w0 b := h.trans (k.mono hB)
theorem owns_below {w w1 : World} {base size n : Nat} {e : TypeId} {v : Value} {xs : List Value} (h : w.ownsRow base e size v n xs) (hb : Below w.heap.size w w1) : w1.ownsRow base e size v n xs :=
  h.kept (row := none) ⟨hb.os, hb.tape, hb.output, hb.size, fun i hi _ => hb.block i hi⟩ (by cases v.ownBlock <;> simp)
theorem alloc_old {w : World} {o o' : Obj} {b : Nat} (h : w.heap[b]? = some o) : (w.alloc o').heap[b]? = some o :=
  (Below.heap_alloc w o' b (Array.getElem?_eq_some_iff.1 h).1).trans h
theorem blockB {w w1 : World} (h : Below w.heap.size w w1) {b : Nat} {o : Obj} (hc : w.heap[b]? = some o) : w1.heap[b]? = some o :=
  (h.block b (Array.getElem?_eq_some_iff.1 hc).1).trans hc

theorem tab_keep {w w2 w3 w4 : World} {v : Value} {Bt n e size : Nat} {t : TypeId} {xs : List Value} {o : Obj} (hblk : w.heap[Bt]? = some (.cells #[v] t (0, 0))) (hown : w.ownsRow (Bt + 1) e size v n xs)
    (hb2 : Below w.heap.size w w2) (hb3 : Below w2.heap.size w2 w3) (hg : (w3.alloc o).grownBy w4 v.ownBlock) : w4.heap[Bt]? = some (.cells #[v] t (0, 0)) := by
  have h3 := alloc_old (o' := o) (blockB hb3 (blockB hb2 hblk))
  refine (hg.block Bt (Array.getElem?_eq_some_iff.1 h3).1 ?_).trans h3
  intro e1
  rcases hown.2 with ⟨rfl, _⟩ | ⟨g, cap, cur, rfl, hb, _⟩
  · simp [Value.ownBlock] at e1
  · have : Bt = g := by simpa [Value.ownBlock] using e1
    omega

theorem tab_step {w1 w w2 w3 w4 : World} {v v' : Value} {Bt n : Nat} {t : TypeId} {xs ys : List Value} {o : Obj} (hb : Below Bt w1 w) (hblk : w.heap[Bt]? = some (.cells #[v] t (0, 0))) (hown : w.ownsRow (Bt + 1) 4 1 v n xs)
    (hb2 : Below w.heap.size w w2) (hb3 : Below w2.heap.size w2 w3) (ho : w4.ownsRow (Bt + 1) 4 1 v' (n + 1) ys) (hg : (w3.alloc o).grownBy w4 v.ownBlock) :
    Below Bt w1 (w4.setCell ⟨Bt, 0, none⟩ v') ∧ (w4.setCell ⟨Bt, 0, none⟩ v').heap[Bt]? = some (.cells #[v'] t (0, 0)) ∧ (w4.setCell ⟨Bt, 0, none⟩ v').ownsRow (Bt + 1) 4 1 v' (n + 1) ys := by
  have h4 := tab_keep hblk hown hb2 hb3 hg
  have hs : Bt < w.heap.size := (Array.getElem?_eq_some_iff.1 hblk).1
  have h2 := belowD hb (Nat.le_of_lt hs) hb2
  have h3 := belowD h2 (Nat.le_trans (Nat.le_of_lt hs) hb2.size) hb3
  have hs3 : Bt ≤ w3.heap.size := Nat.le_trans (Nat.le_trans (Nat.le_of_lt hs) hb2.size) hb3.size
  have h5 : Below Bt w1 w4 := (h3.alloc hs3 o).grown hg (by simp; omega) (fun k e => by
    rcases hown.2 with ⟨rfl, _⟩ | ⟨g, cap, cur, rfl, hb, _⟩
    · simp [Value.ownBlock] at e
    · have : g = k := by simpa [Value.ownBlock] using e
      omega)
  exact ⟨h5.setCell (Nat.le_refl _) _, one_setCell h4, ownsRow_setCell_below ho (by simp) _⟩

set_option maxHeartbeats 1000000 in
theorem Weights_no (n : Int) (l : List Int) (A : Option Addr) (c : Nat) (w : World) (hl : IntsAt w A l) (hlc : l.length ≤ c) (hr : isRule n l = false) :
    Calls Try.prog 22 #[.int .i64 n, .slice A l.length c] w fun e w' => e = .returned (.tuple #[.agg #[.int .i64 0, .slice none 0 0], .int .i64 2]) ∧ Below w.heap.size w w' := by
  have HB : Off (∀ o, Below w.heap.size w (w.alloc o)) := ⟨fun o => (Below.refl _ _).alloc (Nat.le_refl _) _⟩
  go_enter Try.func22, Try.ntmps22
  go_wp2_with (go_at_call 54; refine (hr ▸ ruled_any n l A c _ (hl.below (belowA (HB.out _) _)) hlc).mono ?_; rintro e w1 ⟨rfl, hb1⟩; obtain ⟨⟨c0, c1⟩, f0, f1⟩ := two_facts (b := w.heap.size + 1) (blockB hb1 (by simpa using block_new (w.alloc _) _)))
  refine bodyPost_ret (v := .tuple #[.agg #[.int .i64 0, .slice none 0 0], .int .i64 2]) ?_ rfl ⟨rfl, ?_⟩
  · simp [results, Try.results22, go_sem, c0, c1]
  · have h1 := belowC (belowA (HB.out _) _) hb1
    exact (h1.setCell (by simp) _).setCell (by simp) _

/-- What Weights hands back for a rule. -/
def WPost (p : Int → Bool) (n : Nat) (w : World) (e : Ending) (w' : World) : Prop :=
  ((0 < (searchTo p n (9 * n)).1 ∧ ∃ v, e = .returned (.tuple #[.agg #[.int .i64 (searchTo p n (9 * n)).1, v], .int .i64 0]) ∧ Own w' w.heap.size v (searchTo p n (9 * n)).2) ∨
    (¬ 0 < (searchTo p n (9 * n)).1 ∧ e = .returned (.tuple #[.agg #[.int .i64 0, .slice none 0 0], .int .i64 10]))) ∧ Below w.heap.size w w'
theorem below_none {w w' : World} (h : w.grownBy w' none) : Below w.heap.size w w' := ⟨h.os, h.tape, h.output, h.size, fun k hk => h.block k hk (by simp)⟩
theorem keeps_block {r b : Nat} {w w' : World} {o : Obj} (h : Keeps r w w') (hb : w.heap[b]? = some o) (hne : b ≠ r) : w'.heap[b]? = some o :=
  (h.out.block b (Array.getElem?_eq_some_iff.1 hb).1 (fun e => hne (Option.some.inj e))).trans hb
theorem owns_rebase {w : World} {base base' n g k c size : Nat} {e : TypeId} {xs : List Value} (h : w.ownsRow base e size (.slice (some ⟨g, 0, none⟩) k c) n xs) (hb : base' ≤ g) : w.ownsRow base' e size (.slice (some ⟨g, 0, none⟩) k c) n xs := by
  refine ⟨h.1, ?_⟩
  rcases h.2 with ⟨h', _⟩ | ⟨g', cap, cur, h', hg, r⟩
  · cases h'
  · cases h'
    exact .inr ⟨g, c, cur, rfl, hb, r⟩
/-- Where the search begins. -/
theorem env_start {wr w5 w6 : World} {n Bn Bt g capt : Nat} {p : Int → Bool} (_hn1 : 1 ≤ n)
    (hnum : w6.cell? ⟨Bn, 0, none⟩ = some (.int .i64 (n : Int))) (hBn : Bn < Bt)
    (hblk : wr.heap[Bt]? = some (.cells #[.slice (some ⟨g, 0, none⟩) (2 ^ n) capt] 64 (0, 0))) (htab : wr.ownsRow (Bt + 1) 4 1 (.slice (some ⟨g, 0, none⟩) (2 ^ n) capt) (2 ^ n) (boolsTo p (2 ^ n)))
    (ho5 : w5.ownsRow wr.heap.size 3 1 (.slice (some ⟨wr.heap.size, 0, none⟩) n n) n (List.replicate n (.int .i64 0))) (hg5 : wr.grownBy w5 none)
    (_ho6 : w6.ownsRow wr.heap.size 3 1 (.slice (some ⟨w5.heap.size + 1, 0, none⟩) (2 ^ n) (2 ^ n)) (2 ^ n) (List.replicate (2 ^ n) (.int .i64 0)))
    (hg6 : (w5.alloc (.cells #[.slice (some ⟨wr.heap.size, 0, none⟩) n n] 22)).grownBy w6 none)
    (W : World) (hW : W = ((w6.alloc (.cells #[.slice (some ⟨w5.heap.size + 1, 0, none⟩) (2 ^ n) (2 ^ n)] 22)).alloc (.cells #[.func (.func 56) #[] #[.pointer (some ⟨w6.heap.size, 0, none⟩), .pointer (some ⟨w5.heap.size, 0, none⟩), .pointer (some ⟨Bt, 0, none⟩)]] 67)).alloc
      (.cells #[.func (.func 57) #[] #[.pointer (some ⟨Bn, 0, none⟩), .pointer (some ⟨w5.heap.size, 0, none⟩), .pointer (some ⟨w6.heap.size + 1, 0, none⟩), .pointer (some ⟨w6.heap.size + 1 + 1, 0, none⟩)]] 68)) :
    Env2 W n wr.heap.size Bn w5.heap.size w6.heap.size Bt (w6.heap.size + 1) (w6.heap.size + 1 + 1) (some ⟨w5.heap.size + 1, 0, none⟩) (some ⟨g, 0, none⟩) (2 ^ n) capt p (List.replicate n 0) ∧
      Apart wr.heap.size Bn w5.heap.size w6.heap.size Bt (w6.heap.size + 1) (w6.heap.size + 1 + 1) (some ⟨g, 0, none⟩) ∧ Below wr.heap.size wr W := by
  have b5 := below_none hg5
  have b6 := below_none hg6
  have l5 : wr.heap.size < w5.heap.size := owns_lt ho5
  have l6 : w5.heap.size < w6.heap.size := by have := hg6.size; simp at this; omega
  have bW : Below w6.heap.size w6 W := by rw [hW]; exact belowA (belowA (belowA (Below.refl _ _) _) _) _
  have b5W : Below w5.heap.size w5 W := belowC (belowC (belowA (Below.refl _ _) _) b6) bW
  have brW : Below wr.heap.size wr W := belowC b5 b5W
  have hBt := (Array.getElem?_eq_some_iff.1 hblk).1
  have hgl : g < wr.heap.size := owns_lt htab
  refine ⟨⟨⟨by simp, ?_, ⟨wr.heap.size, by rw [nums_replicate]; exact owns_below ho5 b5W⟩, ?_, cellB brW (one_facts hblk).1, fun s hs => ⟨⟨g, 0, none⟩, rfl, ?_⟩⟩, cellB bW hnum, ?_, ?_⟩, ⟨by omega, by omega, by omega, by omega, by omega, by omega, fun ad e => by cases e; simp only; omega⟩, brW⟩
  · exact cellB (belowC b6 bW) (one_facts (block_new w5 _)).1
  · rw [hW]; go_simp
  · refine cellB brW ?_
    have := htab.cellAt s (by omega)
    rw [show (⟨g, 0, none⟩ : Addr).add s = ⟨g, s, none⟩ by rw [Addr.add_lit, Nat.zero_add], this]
    simp [boolsTo, List.getElem?_map, List.getElem?_range hs]
  · rw [hW]; go_simp
  · rw [hW]; go_simp

set_option maxHeartbeats 8000000 in
theorem Weights_yes (n : Nat) (l : List Int) (A : Option Addr) (cp : Nat) (w : World) (hl : IntsAt w A l) (hlc : l.length ≤ cp) (hr : isRule n l = true) :
    Calls Try.prog 22 #[.int .i64 n, .slice A l.length cp] w fun e w' => WPost (ruleB l) n w e w' := by
  obtain ⟨⟨m', e, hm1, hm⟩, _⟩ := isRule_range hr
  obtain rfl : n = m' := by omega
  have hsm := Off.mk (small_of hr)
  have HB : Off (∀ o, Below w.heap.size w (w.alloc o)) := ⟨fun o => (Below.refl _ _).alloc (Nat.le_refl _) _⟩
  have hp := pow_le n (by omega)
  obtain ⟨i0, hi, hz0, hz1, hz2⟩ := info_parts info3
  obtain ⟨j0, hj, hy0, hy1, hy2⟩ := info_parts info4
  clear e
  obtain ⟨p, hpd⟩ : ∃ p, p = ruleB l := ⟨_, rfl⟩
  have HPD := Off.mk hpd
  clear hpd
  go_enter Try.func22, Try.ntmps22
  go_wp2_with (go_at_call 54; refine (hr ▸ ruled_any n l A cp _ (hl.below (belowA (HB.out _) _)) hlc).mono ?_; rintro e w1 ⟨rfl, hb1⟩; have hn1 := cellB hb1 (show ((w.alloc (.cells #[.int .i64 (n : Int)] 3)).alloc (.cells #[.int .i64 0, .slice none 0 0] 24)).cell? ⟨w.heap.size, 0, none⟩ = some (.int .i64 (n : Int)) by go_simp); have hlt1 : w.heap.size + 1 < w1.heap.size := (by have := hb1.size; simp at this; omega); have hlt0 : w.heap.size < w1.heap.size := (by omega))
  have hw1 : Below w.heap.size w w1 := belowC (belowA (HB.out _) _) hb1
  have hR1 : w1.heap[w.heap.size + 1]? = some (.cells #[.int .i64 0, .slice none 0 0] 24 (0, 0)) := blockB hb1 (by simpa using block_new (w.alloc _) _)
  obtain ⟨Bt, hBt⟩ : ∃ b, b = w1.heap.size := ⟨_, rfl⟩
  have HBt := Off.mk hBt
  have hBlk : Off ((w1.alloc (.cells #[.slice none 0 0] 64)).heap[Bt]? = some (.cells #[.slice none 0 0] 64 (0, 0))) := ⟨by rw [hBt]; exact block_new w1 _⟩
  rw [← hBt] at hlt1 hlt0 ⊢
  have hw1B : Off (Below Bt w1 (w1.alloc (.cells #[.slice none 0 0] 64))) := ⟨by rw [hBt]; exact (Below.refl _ _).alloc (Nat.le_refl _) _⟩
  have hl1 := hl.below hw1
  have hl2 : Off (∀ W, Below Bt w1 W → IntsAt W A l) := ⟨fun W h => hl1.below (by rw [← HBt.out]; exact h)⟩
  clear hBt hb1 hl hl1
  go_loopw [21] (fun i wr => ∃ s : Nat, ∃ v : Value, (s : Int) ≤ 2 ^ n ∧ i = .int .i64 s ∧ Off (Below Bt w1 wr) ∧ Off (wr.heap[Bt]? = some (.cells #[v] 64 (0, 0))) ∧ Off (wr.ownsRow (Bt + 1) 4 1 v s (boolsTo p s)))
    (fun i _ => (2 ^ n - intOf i).toNat)
  case atStart => exact ⟨0, _, by simp only [Int.natCast_zero]; omega, rfl, hw1B, hBlk, ⟨World.ownsRow_nil _ _ _ _⟩⟩
  case round =>
    clear hw1B hBlk
    obtain ⟨s, v, hs, rfl, hb, hblk, hown⟩ := hrel
    by_cases hlt : (s : Int) < 2 ^ n
    · go_wp2
      obtain ⟨hcv, hfv⟩ := one_facts hblk.out
      have hsN := nat_lt_pow hlt
      have hs32 : s < 256 := by omega
      have hask : Off (∀ W B, Below Bt w1 W → W.cell? ⟨B, 0, none⟩ = some (.slice A l.length cp) → Calls Try.prog 75 #[.int .i64 (s : Int), .pointer (some ⟨B, 0, none⟩)] W fun e w' => e = .returned (.bool (p s)) ∧ Below W.heap.size W w') :=
        ⟨fun W B h1 h2 => by
          rw [HPD.out]
          exact rules1_any s l A cp B W (hl2.out W h1) hsm (by omega) (by omega) h2⟩
      have hBS : Off (Bt < wr.heap.size) := ⟨(Array.getElem?_eq_some_iff.1 hblk.out).1⟩
      have hownD : Off (wr.drew.ownsRow (Bt + 1) 4 1 v s (boolsTo p s)) := ⟨hown.out.drew⟩
      have hbD : Off (Below Bt w1 wr.drew) := ⟨hb.out.drew⟩
      have hblkD : Off (wr.drew.heap[Bt]? = some (.cells #[v] 64 (0, 0))) := ⟨hblk.out⟩
      have hcvD : wr.drew.cell? ⟨Bt, 0, none⟩ = some v := hcv
      go_region_law (first
        | (go_simp; go_at_call 55; refine (rules_any A l.length cp _).mono ?_; rintro e w2 ⟨rfl, hc2, hb2⟩; have hcv2 := cellB hb2 hcvD)
        | (go_simp; go_at_call 75; refine (hask.out _ _ (belowD hbD.out (Nat.le_of_lt hBS.out) hb2) hc2).mono ?_; rintro e w3 ⟨rfl, hb3⟩; have hcv3 := cellB hb3 hcv2; have hBt3 := World.block_lt_of_cell? w3 _ hcv3; simp only at hBt3)
        | (refine step_append_lies _ (by rfl) _ _ _ (by rfl) (Bt + 1) 4 j0 _ 1 1 Try.underlying64 hj hy0 hy1 hy2 rfl (by decide) v s (boolsTo p s) (by rfl) ((owns_below (owns_below hownD.out hb2) hb3).alloc _) ⟨w3.heap.size, 0, none⟩ 1 1 [.bool (p s)] (by rfl) (by rfl) (World.news_of_block (cs := #[.bool (p s)]) (t := 4) (fr := (0, 0)) (heap_alloc_new w3 _)) (by simp [Value.oneCell']) (by omega) (by unfold maxLen; omega) (by omega) (by have := hb2.size; have := hb3.size; have := hBS.out; simp at *; omega) w3.heap.size.succ (by simp) ?_; intro gg cap w4 hown4 hgrow hat hlt4; obtain ⟨hcv4, hfv4⟩ := one_facts (tab_keep hblkD.out hownD.out hb2 hb3 hgrow)))
      all_goals
        have T := tab_step (v' := .slice (some ⟨gg, 0, none⟩) (s + 1) cap) hbD.out hblkD.out hownD.out hb2 hb3 hown4 hgrow
        have T1 := Off.mk T.1
        have T2 := Off.mk T.2.1
        have T3 := Off.mk T.2.2
        clear T hown4 hgrow hat hlt4 hb2 hb3
        go_wp2
        go_roundw
        case rel => exact ⟨s + 1, _, by omega, by go_num, T1, T2, ⟨by rw [boolsTo_succ]; exact T3.out⟩⟩
        case measure => simp only [intOf]; omega
    · have hse : s = 2 ^ n := by have := nat_pow n; omega
      have hnr : wr.cell? ⟨w.heap.size, 0, none⟩ = some (.int .i64 (n : Int)) := (hb.out.cell (p := ⟨w.heap.size, 0, none⟩) (by simp; omega)).trans hn1
      have hBr : Bt < wr.heap.size := (Array.getElem?_eq_some_iff.1 hblk.out).1
      have hBr0 : w.heap.size < wr.heap.size := by omega
      have hN : 2 ^ n ≤ 32 := by
        have : ∀ m : Fin 6, 2 ^ m.val ≤ 32 := by decide
        exact this ⟨n, by omega⟩
      have hown2 : Off (wr.ownsRow (Bt + 1) 4 1 v (2 ^ n) (boolsTo p (2 ^ n))) := ⟨by rw [← hse]; exact hown.out⟩
      clear hown hn1 hse
      go_wp2_with (first
        | (at_make; refine wpList_make_full _ rfl (.tmp 32) (.tmp 32) 22 rfl wr.heap.size 3 i0 (.int .i64 0) 1 Try.underlying22 hi hz0 hz1 .i64 .i64 n n n rfl rfl rfl rfl (by rw [hz2]; omega) (by unfold maxLen; omega) (by simp) ?_; intro w5 hown5 hg5; rw [made_ints] at hown5; have hlt5 : w.heap.size < w5.heap.size := (by have := hg5.size; omega); have hltB5 : Bt < w5.heap.size := (by have := hg5.size; omega); have hn5 := hg5.cell (a := ⟨w.heap.size, 0, none⟩) hnr (by simp))
        | (at_make; refine wpList_make_full _ rfl (.tmp 35) (.tmp 35) 22 rfl wr.heap.size 3 i0 (.int .i64 0) 1 Try.underlying22 hi hz0 hz1 .i64 .i64 (2 ^ n) (2 ^ n) (2 ^ n) rfl rfl (nat_pow n).symm (nat_pow n).symm (by rw [hz2]; omega) (by unfold maxLen; omega) (by have := hg5.size; simp; omega) ?_; intro w6 hown6 hg6; rw [made_ints] at hown6; have hlt6 : w.heap.size < w6.heap.size := (by have := hg6.size; simp at *; omega); have hltB6 : Bt < w6.heap.size := (by have := hg6.size; simp at *; omega); have hlt56 : w5.heap.size < w6.heap.size := (by have := hg6.size; simp at *; omega); have hn6 := hg6.cell (a := ⟨w.heap.size, 0, none⟩) (v := .int .i64 (n : Int)) (by go_simp) (by simp)))
      obtain ⟨g, capt, hv, hBg, hgl⟩ := hown2.out.form (Nat.two_pow_pos n)
      subst hv
      obtain ⟨W, hW⟩ : ∃ W, W = ((w6.alloc (.cells #[.slice (some ⟨w5.heap.size + 1, 0, none⟩) (2 ^ n) (2 ^ n)] 22)).alloc (.cells #[.func (.func 56) #[] #[.pointer (some ⟨w6.heap.size, 0, none⟩), .pointer (some ⟨w5.heap.size, 0, none⟩), .pointer (some ⟨Bt, 0, none⟩)]] 67)).alloc
          (.cells #[.func (.func 57) #[] #[.pointer (some ⟨w.heap.size, 0, none⟩), .pointer (some ⟨w5.heap.size, 0, none⟩), .pointer (some ⟨w6.heap.size + 1, 0, none⟩), .pointer (some ⟨w6.heap.size + 1 + 1, 0, none⟩)]] 68) := ⟨_, rfl⟩
      obtain ⟨hE, hA, hWb⟩ := env_start hm1 hn6 (by omega) hblk.out hown2.out hown5 hg5 (by simpa using hown6) hg6 W hW
      rw [← hW]
      have hBtw : w.heap.size ≤ Bt := by omega
      have hwW : Below w.heap.size w W := by
        have h1 : Below w.heap.size w wr := hw1.trans (by have := hb.out.mono hBtw; exact this)
        exact h1.trans (hWb.mono h1.size)
      have hRW : W.heap[w.heap.size + 1]? = some (.cells #[.int .i64 0, .slice none 0 0] 24 (0, 0)) := blockB hWb ((hb.out.block _ hlt1).trans hR1)
      have hrl : w.heap.size ≤ wr.heap.size := by omega
      have hrl1 : w.heap.size + 1 ≠ wr.heap.size := by omega
      have hrl2 : w.heap.size + 1 < wr.heap.size := by omega
      obtain ⟨rl, hrld⟩ : ∃ r, r = wr.heap.size := ⟨_, rfl⟩
      rw [← hrld] at hE hA hrl hrl1 hrl2
      obtain ⟨Bl, hBl⟩ : ∃ r, r = w5.heap.size := ⟨_, rfl⟩
      rw [← hBl] at hE hA ⊢
      obtain ⟨Bh, hBh⟩ : ∃ r, r = w6.heap.size := ⟨_, rfl⟩
      rw [← hBh] at hE hA ⊢
      have HA := Off.mk hA
      have HE := Off.mk hE
      have HwW := Off.mk hwW
      have HRW := Off.mk hRW
      have HL0 : Off (Light (List.replicate n 0)) := ⟨fun j hj => by
        rw [List.getD_eq_getElem?_getD, List.getElem?_replicate]
        split <;> simp⟩
      clear hE hA hWb hwW hRW hW hown5 hown6 hg5 hg6 hn5 hn6 hlt5 hltB5 hlt6 hltB6 hlt56 hown2 hgl hBg hblk hnr hBr hBr0 hb hrld hBl hBh hl2 hw1 hR1 HBt hs hlt1 hlt0
      go_loopw [12] (fun i wr => ∃ k : Nat, k ≤ 9 * n ∧ i = .int .i64 ((k : Int) + 1) ∧ Off (¬ 0 < (searchTo p n k).1) ∧ Off (Env2 wr n rl w.heap.size Bl Bh Bt (Bh + 1) (Bh + 1 + 1) (some ⟨Bl + 1, 0, none⟩) (some ⟨g, 0, none⟩) (2 ^ n) capt p (searchTo p n k).2) ∧ Off (Keeps rl W wr) ∧ Off (Light (searchTo p n k).2))
        (fun i _ => 9 * n + 1 - (intOf i).toNat)
      case atStart => exact ⟨0, by omega, rfl, ⟨by simp [searchTo, tryTo]⟩, HE, ⟨Keeps.refl _ _⟩, HL0⟩
      case round =>
        clear HE HL0
        obtain ⟨k, hk, rfl, hno, hE, hkw, hL⟩ := hrel
        have hnum := hE.out.num
        have hon := hE.out.on
        by_cases hkM : k < 9 * n
        · have HG : Off (searchTo p n (k + 1) = onF p n (n - 1) 0 (searchTo p n k).2 (k + 1)) := ⟨tryTo_go hno.out⟩
          have HI : Off (Calls Try.prog 57 #[.int .i64 0, .int .i64 ((k : Int) + 1), .pointer (some ⟨w.heap.size, 0, none⟩), .pointer (some ⟨Bl, 0, none⟩), .pointer (some ⟨Bh + 1, 0, none⟩), .pointer (some ⟨Bh + 1 + 1, 0, none⟩)] wr fun e w' =>
              e = .returned (.int .i64 (searchTo p n (k + 1)).1) ∧ Env2 w' n rl w.heap.size Bl Bh Bt (Bh + 1) (Bh + 1 + 1) (some ⟨Bl + 1, 0, none⟩) (some ⟨g, 0, none⟩) (2 ^ n) capt p (searchTo p n (k + 1)).2 ∧ Keeps rl wr w' ∧ Light (searchTo p n (k + 1)).2) := ⟨by
            have := on_any n rl w.heap.size Bl Bh Bt (Bh + 1) (Bh + 1 + 1) (some ⟨Bl + 1, 0, none⟩) (some ⟨g, 0, none⟩) (2 ^ n) capt p hm1 hm HA (n - 1) 0 (k + 1) (searchTo p n k).2 wr (by omega) (by omega) hL hE.out
            rw [HG.out]
            exact this⟩
          obtain ⟨qv, hqv⟩ : ∃ q, q = (searchTo p n (k + 1)).1 := ⟨_, rfl⟩
          rw [← hqv] at HI
          have HQ := Off.mk hqv
          clear hqv
          by_cases hq : 0 < qv
          · have HS : Off (searchTo p n (9 * n) = searchTo p n (k + 1)) := ⟨tryTo_stop hkM (by rw [show (tryTo _ _ (k + 1)).1 = qv from HQ.out.symm]; exact hq)⟩
            go_wp2_with (go_at_call 57; refine (HI.out).mono ?_; rintro e w8 ⟨rfl, hE8, hk8, hl8⟩; have hv8 := hE8.env.var; obtain ⟨⟨c0, c1⟩, f0, f1⟩ := two_facts (keeps_block hk8 (keeps_block hkw.out HRW.out hrl1) hrl1))
            refine bodyPost_ret (v := .tuple #[.agg #[.int .i64 qv, .slice (some ⟨rl, 0, none⟩) n n], .int .i64 0]) ?_ rfl ?_
            · simp [results, Try.results22, go_sem, c0, c1]
            · have hK : Below w.heap.size w w8 := (hkw.out.trans hk8).below HwW.out HwW.out.size hrl
              rw [← HPD.out]
              refine ⟨.inl ⟨by rw [HS.out, ← HQ.out]; exact hq, _, by rw [HS.out, ← HQ.out], ?_⟩, (hK.setCell (by simp) _).setCell (by simp) _⟩
              obtain ⟨base, hrow⟩ := hE8.env.row
              have h1 := owns_rebase hrow (Nat.le_refl rl)
              have hlt : w.heap.size + 1 < rl := hrl2
              have h2 := ownsRow_setCell_below (ownsRow_setCell_below h1 (a := ⟨w.heap.size + 1, 0, none⟩) hlt (.int .i64 qv)) (a := ⟨w.heap.size + 1, 1, none⟩) hlt (.slice (some ⟨rl, 0, none⟩) n n)
              rw [HS.out]
              refine own_mono ⟨?_⟩ hrl
              rw [hE8.env.len]
              exact h2
          · go_wp2_with (go_at_call 57; refine (HI.out).mono ?_; rintro e w8 ⟨rfl, hE8, hk8, hl8⟩)
            go_roundw
            case rel => exact ⟨k + 1, by omega, by go_num, ⟨by rw [← HQ.out]; omega⟩, ⟨hE8⟩, ⟨hkw.out.trans hk8⟩, ⟨hl8⟩⟩
            case measure => simp only [intOf]; omega
        · obtain rfl : k = 9 * n := by omega
          obtain ⟨⟨c0, c1⟩, f0, f1⟩ := two_facts (keeps_block hkw.out HRW.out hrl1)
          go_wp2
          refine bodyPost_ret (v := .tuple #[.agg #[.int .i64 0, .slice none 0 0], .int .i64 10]) ?_ rfl ?_
          · simp [results, Try.results22, go_sem, c0, c1]
          · have hK : Below w.heap.size w wr := hkw.out.below HwW.out HwW.out.size hrl
            rw [← HPD.out]
            exact ⟨.inr ⟨Int.not_lt.2 hno.out, rfl⟩, (hK.setCell (by simp) _).setCell (by simp) _⟩
end Go.Proofs.Ytdbleghnblohgaa
