/- The law VoteWins: its walk. -/
import Derived.Test.YtdbleghnblohgaaWo
import Derived.Test.YtdbleghnblohgaaPw
namespace Go.Proofs.Ytdbleghnblohgaa
open Go.RowKit Go.Shelf

/-- The copying of a list into an empty row, as one step of a region that draws. -/
theorem step_copy {W : World} {ops : Array Oper} {o : Oper} {a : Act} {K : Act → World → Prop} {Q : Exit → Act → World → Prop} {E : Prop} (hgd : o.guard = none) (s x : Operand)
    (ho : o.op = .call { callee := .builtin .append, args := #[s, x], argTypes := #[22, 22] }) (A : Option Addr) (l : List Int) (c : Nat) (hl : IntsAt W A l) (h60 : l.length ≤ 60) (hA : A = none → c = 0 ∧ l = [])
    (g : Nat) (hg : W.heap[g]? = some (.cells #[] 3)) (hs : a.eval s = .slice (some ⟨g, 0, none⟩) 0 0) (hx : a.eval x = .slice A l.length c)
    (h : ∀ v' w', Own w' g v' l → W.grownBy w' (some g) → K (a.put o.dst v') w') : if Region.wanted o (yielded ops a.tmps) = true then Oper.wp Try.prog o a W K Q else E := by
  have hw : Region.wanted o (yielded ops a.tmps) = true := by simp [Region.wanted, hgd]
  rw [if_pos hw]
  obtain ⟨i0, hi, hz0, hz1, hz2⟩ := info_parts info3
  have hgl : g < W.heap.size := (Array.getElem?_eq_some_iff.1 hg).1
  have hown : W.ownsRow g 3 1 (.slice (some ⟨g, 0, none⟩) 0 0) 0 [] := ⟨rfl, .inr ⟨g, 0, #[], rfl, Nat.le_refl _, hg, Nat.le_refl _, by simp [maxLen], rfl, rfl⟩⟩
  cases A with
  | none =>
    obtain ⟨rfl, rfl⟩ := hA rfl
    have hrun := run_append_owned_none (P := Try.prog) (w := W) g 22 o.type 3 i0 1 Try.underlying22 hi _ 0 [] hown
    unfold Oper.wp
    simp [execOp, ho, resolve, invoke, builtin, hs, hx, hrun, Result.andThen]
    exact h _ _ ⟨hown⟩ ⟨rfl, rfl, rfl, Nat.le_refl _, fun _ _ _ => rfl⟩
  | some ad =>
    refine wp_append_own _ s x 22 ho g 3 i0 (.int .i64 0) 1 8 Try.underlying22 hi hz0 hz1 hz2 rfl (by decide) _ 0 [] hs hown ad l.length c (nums l) hx ?c1 ?c2 ?c3 ?c4 ?c5 ?c6 ?_
    case c1 => simp [nums]
    case c2 =>
      intro j u hj
      have hjl : j < l.length := by
        have := (List.getElem?_eq_some_iff.1 hj).1
        simpa [nums] using this
      obtain ⟨ad', e, hc⟩ := hl.cell j hjl
      cases e
      rw [hc]
      simp only [nums, List.getElem?_map, List.getElem?_eq_getElem hjl, Option.map_some, Option.some.injEq] at hj
      rw [← hj, getD_get hjl]
    case c3 =>
      intro u hu
      simp only [nums, List.mem_map] at hu
      obtain ⟨y, _, rfl⟩ := hu
      rfl
    case c4 => unfold maxLen; omega
    case c5 => omega
    case c6 => exact Nat.le_of_lt hgl
    intro v' w' hown' hgrow _
    exact h v' w' ⟨by simpa using hown'⟩ hgrow

/-- What is known of a world in which a list is about to be copied into the empty row g. -/
structure Copies (w W : World) (g : Nat) (A : Option Addr) (l : List Int) (b : Nat) (q : Int) (c : Nat) : Prop where
  ints : IntsAt W A l
  row : W.heap[g]? = some (.cells #[] 3)
  below : Below w.heap.size w W
  past : w.heap.size ≤ g
  other : b ≠ g
  box : BodyAt W b q A l.length c

theorem Copies.after {w W : World} {g : Nat} {A : Option Addr} {l : List Int} {b : Nat} {q : Int} {c : Nat} (h : Copies w W g A l b q c) {w2 : World} (hg : W.grownBy w2 (some g)) :
    (w2.cell? ⟨b, 0, none⟩ = some (.int .i64 q) ∧ w2.cell? ⟨b, 1, none⟩ = some (.slice A l.length c)) ∧ Below w.heap.size w w2 :=
  ⟨⟨hg.cell h.box.quota (fun e => h.other (Option.some.inj e)), hg.cell h.box.weights (fun e => h.other (Option.some.inj e))⟩, h.below.grown hg h.below.size (fun k e => by have := Option.some.inj e; have := h.past; omega)⟩
theorem kept {W w2 : World} {g k : Nat} {o : Obj} (hg : W.grownBy w2 (some g)) (hk : W.heap[k]? = some o) (hne : k ≠ g) : w2.heap[k]? = some o :=
  (hg.block k (Array.getElem?_eq_some_iff.1 hk).1 (fun e => hne (Option.some.inj e))).trans hk

/-- A world in which the copy lies in a body of its own. -/
structure Copied (w W : World) (B : Nat) (A A2 : Option Addr) (l : List Int) (b : Nat) (q : Int) (c c2 : Nat) : Prop where
  ints : IntsAt W A2 l
  below : Below w.heap.size w W
  box : BodyAt W b q A l.length c
  own : BodyAt W B q A2 l.length c2
theorem copied_new {w w2 : World} {A A2 : Option Addr} {l : List Int} {b : Nat} {q : Int} {c c2 : Nat} (hI : IntsAt w2 A2 l) (hB : Below w.heap.size w w2) (x0 : w2.cell? ⟨b, 0, none⟩ = some (.int .i64 q)) (x1 : w2.cell? ⟨b, 1, none⟩ = some (.slice A l.length c)) :
    Copied w (w2.alloc (.cells #[.int .i64 q, .slice A2 l.length c2] 24)) w2.heap.size A A2 l b q c c2 :=
  ⟨hI.below ((Below.refl _ _).alloc (Nat.le_refl _) _), belowC hB ((Below.refl _ _).alloc (Nat.le_refl _) _), ⟨cellB ((Below.refl _ _).alloc (Nat.le_refl _) _) x0, cellB ((Below.refl _ _).alloc (Nat.le_refl _) _) x1⟩, box_body _ _ _ _ _⟩
theorem copied_set {w w2 : World} {g B : Nat} {A A2 : Option Addr} {l : List Int} {b : Nat} {q : Int} {c c2 : Nat} (hO : Own w2 g (.slice A2 l.length c2) l) (h30 : l.length ≤ 30) (hB : Below w.heap.size w w2) (x0 : w2.cell? ⟨b, 0, none⟩ = some (.int .i64 q)) (x1 : w2.cell? ⟨b, 1, none⟩ = some (.slice A l.length c))
    (hz : w2.heap[B]? = some (.cells #[.int .i64 0, .slice none 0 0] 24)) (hb : b ≠ B) (hw : w.heap.size ≤ B) :
    Copied w ((w2.setCell ⟨B, 0, none⟩ (.int .i64 q)).setCell ⟨B, 1, none⟩ (.slice A2 l.length c2)) B A A2 l b q c c2 := by
  obtain ⟨⟨z0, z1⟩, _⟩ := two_facts hz
  obtain ⟨A', c', e, hI, _⟩ := own_ints hO (by omega)
  obtain ⟨rfl, _, rfl⟩ : A2 = A' ∧ l.length = l.length ∧ c2 = c' := by simpa using e
  have far : ∀ (k o : Nat), k ≠ B → ((w2.setCell ⟨B, 0, none⟩ (.int .i64 q)).setCell ⟨B, 1, none⟩ (.slice A2 l.length c2)).cell? ⟨k, o, none⟩ = w2.cell? ⟨k, o, none⟩ := fun k o hk => by
    rw [World.cell?_setCell_far _ _ _ _ (fun e => hk e.symm), World.cell?_setCell_far _ _ _ _ (fun e => hk e.symm)]
  refine ⟨⟨hI.len, fun j hj => ?_⟩, (hB.setCell hw _).setCell hw _, ⟨by rw [far b 0 hb]; exact x0, by rw [far b 1 hb]; exact x1⟩, ⟨?_, ?_⟩⟩
  · obtain ⟨ad, rfl, hc⟩ := hI.cell j hj
    refine ⟨ad, rfl, ?_⟩
    rcases hO.out.2 with ⟨h, _⟩ | ⟨g', cap, cur, h, _, hh, _⟩
    · cases h
    · have e2 : ad = ⟨g', 0, none⟩ := by
        have := (Value.slice.inj h).1
        exact Option.some.inj this
      subst e2
      have hne : g' ≠ B := fun e => by
        subst e
        rw [hz] at hh
        have := Option.some.inj hh
        injection this with _ h2
        exact absurd h2 (by decide)
      rw [Addr.add_lit] at hc ⊢
      rw [far _ _ hne]
      exact hc
  · go_simp
  · go_simp

/-- Both sides answer alike on whether a set wins, and on the least sets. -/
theorem wins_alike (q set : Int) (l : List Int) (h30 : l.length ≤ 30) : ∃ wb we, (∀ A c W, IntsAt W A l → Calls Try.prog 25 #[.agg #[.int .i64 q, .slice A l.length c], .int .i64 set] W fun e w' => e = .returned (.tuple #[.bool wb, .int .i64 we]) ∧ Below W.heap.size W w') ∧
    ∀ A c W, IntsAt W A l → Calls Try.prog 26 #[.agg #[.int .i64 q, .slice A l.length c], .int .i64 set] W fun e w' => e = .returned (.tuple #[.bool wb, .int .i64 we]) ∧ Below W.heap.size W w' := by
  by_cases h : bodyB q l = true ∧ 0 ≤ set ∧ set < 2 ^ l.length
  · refine ⟨winB q l set, 0, fun A c W hI => ?_, fun A c W hI => rWins_yes q set l A c W hI h.1 h.2.1 h.2.2⟩
    have := Wins_any q set l A c W hI
    rwa [if_pos h] at this
  · refine ⟨false, 2, fun A c W hI => ?_, fun A c W hI => rWins_no q set l A c W hI h30 h⟩
    have := Wins_any q set l A c W hI
    rwa [if_neg h] at this
theorem least_alike (q : Int) (l : List Int) (h30 : l.length ≤ 30) : ∃ L le, L.length ≤ 256 ∧ (∀ A c W, IntsAt W A l → Calls Try.prog 27 #[.agg #[.int .i64 q, .slice A l.length c]] W fun e w' => ∃ v, e = .returned (.tuple #[v, .int .i64 le]) ∧ Own w' W.heap.size v L ∧ Below W.heap.size W w') ∧
    ∀ A c W, IntsAt W A l → Calls Try.prog 28 #[.agg #[.int .i64 q, .slice A l.length c]] W fun e w' => ∃ v, e = .returned (.tuple #[v, .int .i64 le]) ∧ Own w' W.heap.size v L ∧ Below W.heap.size W w' := by
  cases h : bodyB q l
  · refine ⟨[], 2, by simp, fun A c W hI => (Least_no q l A c W hI h).mono ?_, fun A c W hI => (rLeast_no q l A c W hI h30 h).mono ?_⟩
    · rintro e w' ⟨rfl, hb⟩
      exact ⟨_, rfl, ⟨World.ownsRow_nil _ _ _ _⟩, hb⟩
    · rintro e w' ⟨rfl, hb⟩
      exact ⟨_, rfl, ⟨World.ownsRow_nil _ _ _ _⟩, hb⟩
  · have h8 := (Body.weights h).1
    refine ⟨leastTo (winB q l) l.length (2 ^ l.length), 0, Nat.le_trans (leastTo_length _ _ _) (pow_256 h8), fun A c W hI => Least_yes q l A c W hI h, fun A c W hI => rLeast_yes q l A c W hI h⟩

set_option maxHeartbeats 2000000 in
theorem vwins_many (q : Int) (l : List Int) (A : Option Addr) (c : Nat) (s : Int) (w : World) (h30 : 30 < l.length) :
    Calls Try.prog 6 #[.agg #[.int .i64 q, .slice A l.length c], .int .i64 s] w fun e w' => e = .returned (.bool true) ∧ Below w.heap.size w w' := by
  go_enter Try.func6, Try.ntmps6
  go_wp2_with (first
    | (go_at_call 15; refine (c_few_no q A l.length c h30 _).mono ?_; rintro e w1 ⟨rfl, hb1⟩)
    | (go_at_call 16; refine (alive_any _).mono ?_; rintro e w2 ⟨rfl, hb2⟩))
  go_ret
  exact ⟨rfl, belowC (belowC ((Below.refl _ _).alloc (Nat.le_refl _) _) hb1) hb2⟩

set_option maxHeartbeats 4000000 in
theorem vwins_few (q : Int) (l : List Int) (A : Option Addr) (c : Nat) (s : Int) (w : World) (hl : IntsAt w A l) (h30 : l.length ≤ 30) (hA : A = none → c = 0 ∧ l = []) :
    Calls Try.prog 6 #[.agg #[.int .i64 q, .slice A l.length c], .int .i64 s] w fun e w' => e = .returned (.bool true) ∧ Below w.heap.size w w' := by
  have HB : Off (∀ o, Below w.heap.size w (w.alloc o)) := ⟨fun o => (Below.refl _ _).alloc (Nat.le_refl _) _⟩
  have HA := Off.mk hA
  clear hA
  obtain ⟨wb, we, HW1, HW2⟩ := wins_alike q s l h30
  obtain ⟨L, le, hL, HL1, HL2⟩ := least_alike q l h30
  have HW1 := Off.mk HW1
  have HW2 := Off.mk HW2
  have HL1 := Off.mk HL1
  have HL2 := Off.mk HL2
  go_enter Try.func6, Try.ntmps6
  go_wp2_with fail
  refine (c_few q A l.length c (by omega) _).mono ?_
  rintro e w1 ⟨rfl, hb1⟩
  have B1 := belowC (HB.out _) hb1
  have hB1 := (box_body w q A l.length c).below hb1
  have hq1 := hB1.quota
  have hs1 := hB1.weights
  have hlt1 : w.heap.size < w1.heap.size := World.block_lt_of_cell? w1 ⟨w.heap.size, 0, none⟩ hq1
  have DA : ∀ o, Below w1.heap.size w1 (w1.drew.alloc o) := fun o => (Below.refl _ _).drew.alloc (by simp) o
  have DB : ∀ o o', Below w1.heap.size w1 ((w1.drew.alloc o).alloc o') := fun o o' => (DA o).alloc (by simp) o'
  have hsz : (w1.drew.alloc (.cells #[.int .i64 0, .slice none 0 0] 24)).heap.size = w1.heap.size + 1 := by simp
  have hsz' : (w1.drew.alloc (.cells #[] 3)).heap.size = w1.heap.size + 1 := by simp
  have HWa := Off.mk (Copies.mk (W := (w1.drew.alloc (.cells #[] 3))) (g := w1.heap.size) (A := A) (l := l) (b := w.heap.size) (q := q) (c := c) (hl.below (belowC B1 (DA _))) (block_new w1.drew _) (belowC B1 (DA _)) (Nat.le_of_lt hlt1) (by omega) (hB1.below (DA _)))
  have HWb := Off.mk (Copies.mk (W := ((w1.drew.alloc (.cells #[] 3)).alloc (.cells #[.int .i64 0, .slice none 0 0] 24))) (g := w1.heap.size) (A := A) (l := l) (b := w.heap.size) (q := q) (c := c) (hl.below (belowC B1 (DB _ _))) ((((Below.refl _ _).alloc (Nat.le_refl _) _ : Below (w1.drew.alloc (.cells #[] 3)).heap.size (w1.drew.alloc (.cells #[] 3)) _).block _ (by simp)).trans (block_new w1.drew _)) (belowC B1 (DB _ _)) (Nat.le_of_lt hlt1) (by omega) (hB1.below (DB _ _)))
  have HWc := Off.mk (Copies.mk (W := ((w1.drew.alloc (.cells #[.int .i64 0, .slice none 0 0] 24)).alloc (.cells #[] 3))) (g := w1.heap.size + 1) (A := A) (l := l) (b := w.heap.size) (q := q) (c := c) (hl.below (belowC B1 (DB _ _))) (hsz ▸ block_new (w1.drew.alloc (.cells #[.int .i64 0, .slice none 0 0] 24)) _) (belowC B1 (DB _ _)) (by omega) (by omega) (hB1.below (DB _ _)))
  have HZb : Off (((w1.drew.alloc (.cells #[] 3)).alloc (.cells #[.int .i64 0, .slice none 0 0] 24)).heap[w1.heap.size + 1]? = some (.cells #[.int .i64 0, .slice none 0 0] 24)) := ⟨hsz' ▸ block_new (w1.drew.alloc (.cells #[] 3)) _⟩
  have HZc : Off (((w1.drew.alloc (.cells #[.int .i64 0, .slice none 0 0] 24)).alloc (.cells #[] 3)).heap[w1.heap.size]? = some (.cells #[.int .i64 0, .slice none 0 0] 24)) := ⟨(((Below.refl _ _).alloc (Nat.le_refl _) _ : Below (w1.drew.alloc (.cells #[.int .i64 0, .slice none 0 0] 24)).heap.size (w1.drew.alloc (.cells #[.int .i64 0, .slice none 0 0] 24)) _).block _ (by simp)).trans (block_new w1.drew _)⟩
  clear hsz hsz' DA DB hb1
  go_wp2
  go_region_held3 (fun w' => w'.cell? ⟨w.heap.size, 0, none⟩ = some (.int .i64 q) ∧ w'.cell? ⟨w.heap.size, 1, none⟩ = some (.slice A l.length c))
    (first | go_keep | exact ⟨x0, x1⟩ | exact ⟨(copied_set hO2 h30 B2 x0 x1 hz hbz hwz).box.quota, (copied_set hO2 h30 B2 x0 x1 hz hbz hwz).box.weights⟩ | exact ⟨cellB ((Below.refl _ _).alloc (Nat.le_refl _) _) x0, cellB ((Below.refl _ _).alloc (Nat.le_refl _) _) x1⟩)
    (first
      | (refine step_copy (by rfl) _ _ (by rfl) A l c HWa.out.ints (by omega) HA.out _ HWa.out.row (by rfl) (by rfl) ?_; intro v2 w2 hO2 hg2; obtain ⟨A2, c2, rfl, hI2, hc2⟩ := own_ints hO2 (by omega); obtain ⟨⟨x0, x1⟩, B2⟩ := HWa.out.after hg2; have hlt2 : w.heap.size < w2.heap.size := World.block_lt_of_cell? w2 ⟨w.heap.size, 0, none⟩ x0)
      | (refine step_copy (by rfl) _ _ (by rfl) A l c HWb.out.ints (by omega) HA.out _ HWb.out.row (by rfl) (by rfl) ?_; intro v2 w2 hO2 hg2; obtain ⟨A2, c2, rfl, hI2, hc2⟩ := own_ints hO2 (by omega); obtain ⟨⟨x0, x1⟩, B2⟩ := HWb.out.after hg2; have hz := kept hg2 HZb.out (by omega); have hbz : w.heap.size ≠ w1.heap.size + 1 := (by omega); have hwz : w.heap.size ≤ w1.heap.size + 1 := (by omega); obtain ⟨⟨z0, z1⟩, y0, y1⟩ := two_facts hz; have hlt2 : w.heap.size < w2.heap.size := World.block_lt_of_cell? w2 ⟨w.heap.size, 0, none⟩ x0)
      | (refine step_copy (by rfl) _ _ (by rfl) A l c HWc.out.ints (by omega) HA.out _ HWc.out.row (by rfl) (by rfl) ?_; intro v2 w2 hO2 hg2; obtain ⟨A2, c2, rfl, hI2, hc2⟩ := own_ints hO2 (by omega); obtain ⟨⟨x0, x1⟩, B2⟩ := HWc.out.after hg2; have hz := kept hg2 HZc.out (by omega); have hbz : w.heap.size ≠ w1.heap.size := (by omega); have hwz : w.heap.size ≤ w1.heap.size := (by omega); obtain ⟨⟨z0, z1⟩, y0, y1⟩ := two_facts hz; have hlt2 : w.heap.size < w2.heap.size := World.block_lt_of_cell? w2 ⟨w.heap.size, 0, none⟩ x0))
  case' refine_2.refine_3.refine_3.refine_3.refine_3.refine_1.refine_2.refine_1.refine_2.refine_3.refine_1.refine_2.refine_1.refine_2 => have hF := Off.mk (copied_new (c2 := c2) hI2 B2 x0 x1)
  all_goals first | (have hF := Off.mk (copied_set hO2 h30 B2 x0 x1 hz hbz hwz)) | skip
  all_goals
    have p0 := hF.out.own.quota
    have p1 := hF.out.own.weights
    have x0 := hF.out.box.quota
    have x1 := hF.out.box.weights
    clear HWa HWb HWc HZb HZc hg2 hO2 B1 hB1 hq1 hs1
    go_wp2_with fail
    refine (HW1.out A2 c2 _ hF.out.ints).mono ?_
    rintro e w3 ⟨rfl, hb3⟩
    have B3 := belowC hF.out.below hb3
    have hC3 := hF.out.box.below hb3
    have hD3 := hF.out.own.below hb3
    have hI3 := hF.out.ints.below hb3
    have q3 := hC3.quota
    have s3 := hC3.weights
    clear hF p0 p1 x0 x1 B2 hI2 hb3
    go_wp2_with fail
    refine (HW2.out A c _ (hl.below B3)).mono ?_
    rintro e w4 ⟨rfl, hb4⟩
    have B4 := belowC B3 hb4
    have hC4 := hC3.below hb4
    have hD4 := hD3.below hb4
    have hI4 := hI3.below hb4
    have q4 := hD4.quota
    have s4 := hD4.weights
    clear q3 s3 hC3 hD3 hI3 hb4
    go_wp2_with fail
    refine (HL1.out A2 c2 _ hI4).mono ?_
    rintro e w5 ⟨v5, rfl, hO5, hb5⟩
    obtain ⟨A5, c5, rfl, hI5, _⟩ := own_ints hO5 (by omega)
    have B5 := belowC B4 hb5
    have hC5 := hC4.below hb5
    have hD5 := hD4.below hb5
    have hI5' := hI4.below hb5
    have q5 := hC5.quota
    have s5 := hC5.weights
    clear q4 s4 hC4 hD4 hI4 hb5 hO5
    go_wp2_with fail
    refine (HL2.out A c _ (hl.below B5)).mono ?_
    rintro e w6 ⟨v6, rfl, hO6, hb6⟩
    obtain ⟨A6, c6, rfl, hI6, _⟩ := own_ints hO6 (by omega)
    have B6 := belowC B5 hb6
    have hC6 := hC5.below hb6
    have hD6 := hD5.below hb6
    have hI6' := hI5'.below hb6
    have hI56 := hI5.below hb6
    clear q5 s5 hC5 hD5 hI5' hI5 hb6 hO6
    go_wp2_with fail
    refine (same_any L L A5 A6 c5 c6 _ hI56 hI6).mono ?_
    rw [decide_eq_true rfl]
    rintro e w7 ⟨rfl, hb7⟩
    have B7 := belowC B6 hb7
    have hC7 := hC6.below hb7
    have hD7 := hD6.below hb7
    have q7 := hC7.weights
    have s7 := hD7.weights
    have hI7 := hI6'.below hb7
    clear hC6 hD6 hI6' hI56 hI6 hb7
    go_wp2_with fail
    refine (same_any l l A2 A c2 c _ hI7 (hl.below B7)).mono ?_
    rw [decide_eq_true rfl]
    rintro e w8 ⟨rfl, hb8⟩
    have B8 := belowC B7 hb8
    go_wp2_with (go_at_call 16; refine (alive_any _).mono ?_; rintro e w9 ⟨rfl, hb9⟩)
    go_ret
    exact ⟨rfl, belowC B8 hb9⟩
end Go.Proofs.Ytdbleghnblohgaa
