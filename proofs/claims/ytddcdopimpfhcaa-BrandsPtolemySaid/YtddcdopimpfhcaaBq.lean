/- Contracts: Flip. -/
import Derived.Test.YtddcdopimpfhcaaBp
namespace Go.Proofs.Ytddcdopimpfhcaa
open Go.RowKit Go.Shelf

theorem brand_step {n : Int} {l : List (Int × Int)} (h : brandB n l = true) (j : Nat) (hj : j < l.length) : stepB n l j = true := by
  rw [brandB, Bool.and_eq_true, List.all_eq_true] at h
  exact h.2 j (List.mem_range.2 hj)
theorem brand_inR {n : Int} {l : List (Int × Int)} (h : brandB n l = true) : ∀ x, x ∈ l → inR x := by
  intro x hx
  obtain ⟨j, hj, rfl⟩ := List.getElem_of_mem hx
  have h1 := step_range (brand_step h j hj)
  have h2 := brand_range h
  rw [List.getD_eq_getElem?_getD, List.getElem?_eq_getElem hj] at h1
  simp only [Option.getD_some] at h1
  unfold inR
  omega
/-- The first value that a search finds. -/
def firstV {β : Type} (f : Nat → Option β) : Nat → Option β
  | 0 => none
  | k + 1 => match firstV f k with
    | some x => some x
    | none => f k
theorem firstV_up {β : Type} (f : Nat → Option β) {k m : Nat} {x : β} (h : firstV f k = some x) (hkm : k ≤ m) : firstV f m = some x := by
  induction m with
  | zero => obtain rfl : k = 0 := by omega
            exact h
  | succ m ih =>
    by_cases e : k = m + 1
    · subst e; exact h
    · rw [firstV, ih (by omega)]
theorem firstV_none {β : Type} (f : Nat → Option β) {k : Nat} (h : firstV f k = none) : firstV f (k + 1) = f k := by rw [firstV, h]
theorem firstV_some {β : Type} (f : Nat → Option β) : ∀ {k : Nat} {x : β}, firstV f k = some x → ∃ j, j < k ∧ f j = some x ∧ ∀ i, i < j → f i = none
  | 0, x, h => by simp [firstV] at h
  | k + 1, x, h => by
    rw [firstV] at h
    split at h
    · rename_i y hy
      obtain ⟨j, hj, h1, h2⟩ := firstV_some f hy
      cases h
      exact ⟨j, by omega, h1, h2⟩
    · rename_i hn
      refine ⟨k, by omega, h, fun i hi => ?_⟩
      by_cases e : f i = none
      · exact e
      · exfalso
        obtain ⟨y, hy⟩ := Option.ne_none_iff_exists'.1 e
        have : firstV f (i + 1) ≠ none := by
          rw [firstV]
          split
          · simp
          · rw [hy]; simp
        obtain ⟨z, hz⟩ := Option.ne_none_iff_exists'.1 this
        rw [firstV_up f hz (by omega)] at hn
        cases hn
theorem firstV_all {β : Type} (f : Nat → Option β) : ∀ {k : Nat}, firstV f k = none → ∀ i, i < k → f i = none
  | 0, _, i, hi => by omega
  | k + 1, h, i, hi => by
    rw [firstV] at h
    split at h
    · cases h
    · rename_i hn
      by_cases e : i = k
      · subst e; exact h
      · exact firstV_all f hn i (by omega)
def flipB (n : Nat) (l : List (Int × Int)) (i a b : Nat) : Bool := !(decide ((a : Int) = (l.getD i (0, 0)).1) && decide ((b : Int) = (l.getD i (0, 0)).2)) && fitsB n (a, b) (l.eraseIdx i)
def flipIn (_n : Nat) (T : Nat → Nat → Bool) (a k : Nat) : Option (Nat × Nat) := firstV (fun b => if a + 2 ≤ b ∧ T a b = true then some (a, b) else none) k
/-- The first other line that fits. -/
def flipAt (n : Nat) (T : Nat → Nat → Bool) (k : Nat) : Option (Nat × Nat) := firstV (fun a => flipIn n T a n) k
theorem flipIn_low (n : Nat) (T : Nat → Nat → Bool) (a : Nat) : ∀ k, k ≤ a + 2 → flipIn n T a k = none
  | 0, _ => rfl
  | k + 1, h => by
    have ih := flipIn_low n T a k (by omega)
    unfold flipIn at ih ⊢
    rw [firstV, ih]
    simp only
    rw [if_neg (by omega)]
/-- The brand with another line. -/
def flipL (n : Nat) (l : List (Int × Int)) (i : Nat) : Option (List (Int × Int)) := (flipAt n (flipB n l i) n).map fun p => sortL (l.eraseIdx i ++ [((p.1 : Int), (p.2 : Int))])
theorem neq_pair (x y z t : Int) (v : Bool) (hv : (!(decide (x = z) && decide (y = t))) = v) (w : World) : Sem.run Try.prog (binOp .neq 36 (.agg #[.int .i64 x, .int .i64 y]) (.agg #[.int .i64 z, .int .i64 t])) w = .ok (.bool v) w := by
  have h := eq_pair x y z t w
  simp [binOp, Op.equal, Op.maxDepth, h, ← hv]
theorem below_drew {B : Nat} {a w : World} (h : Below B a w) : Below B a w.drew := ⟨h.os, h.tape, h.output, h.size, h.block⟩
/-- What Flip hands back. -/
def FlipPost (w : World) (o : Option (List (Int × Int))) (e : Ending) (w' : World) : Prop :=
  Below w.heap.size w w' ∧ match o with
    | some m => ∃ v, e = .returned (.tuple #[v, .int .i64 0]) ∧ OwnQ w' w.heap.size v m
    | none => e = .returned (.tuple #[.slice none 0 0, .int .i64 10])
set_option maxHeartbeats 1000000 in
theorem flip_arg (n : Int) (l : List (Int × Int)) (A : Option Addr) (c : Nat) (i : Int) (h : ¬ (brandB n l = true ∧ 0 ≤ i ∧ i < l.length)) (w : World) (hx : PairsI w A l) (hlc : l.length ≤ c) :
    Calls Try.prog 20 #[.int .i64 n, .slice A l.length c, .int .i64 i] w fun e w' => e = .returned (.tuple #[.slice none 0 0, .int .i64 2]) ∧ Below w.heap.size w w' := by
  have CB := Off.mk (fun v hv => isBrand_any n l A c v hv w hx hlc)
  by_cases hb : brandB n l = true
  · have CB' := Off.mk (CB.out _ hb)
    clear CB hx
    by_cases h0 : i < 0
    · clear h hb
      go_enter Try.func20, Try.ntmps20
      go_wp2_with (go_at_call 26; refine CB'.out.mono ?_; rintro e w1 ⟨rfl, hb1⟩)
      go_ret2
      exact ⟨rfl, hb1⟩
    · have h1 : (l.length : Int) ≤ i := by
        by_cases e : i < l.length
        · exact (h ⟨hb, by omega, e⟩).elim
        · omega
      clear h hb
      go_enter Try.func20, Try.ntmps20
      go_wp2_with (go_at_call 26; refine CB'.out.mono ?_; rintro e w1 ⟨rfl, hb1⟩)
      go_ret2
      exact ⟨rfl, hb1⟩
  · have CB' := Off.mk (CB.out _ (by simpa using hb))
    clear CB hx h hb
    go_enter Try.func20, Try.ntmps20
    go_wp2_with (go_at_call 26; refine CB'.out.mono ?_; rintro e w1 ⟨rfl, hb1⟩)
    go_ret2
    exact ⟨rfl, hb1⟩
set_option linter.unusedSimpArgs false in
set_option maxHeartbeats 8000000 in
set_option maxRecDepth 100000 in
theorem flip_yes (n : Nat) (l : List (Int × Int)) (A : Option Addr) (c i : Nat) (hv : brandB n l = true) (hi : i < l.length) (w : World) (hx : PairsI w A l) (hlc : l.length ≤ c) (hA : A = none → c = 0) :
    Calls Try.prog 20 #[.int .i64 (n : Int), .slice A l.length c, .int .i64 (i : Int)] w fun e w' => FlipPost w (flipL n l i) e w' := by
  have hr := brand_range hv
  have CB := Off.mk (isBrand_any n l A c true hv w hx hlc)
  have hR := Off.mk (brand_inR hv)
  have HF : Off (flipL n l i = (flipAt n (flipB n l i) n).map fun p => sortL (l.eraseIdx i ++ [((p.1 : Int), (p.2 : Int))])) := ⟨rfl⟩
  have HT : Off (∀ a b : Nat, flipB n l i a b = (!(decide ((a : Int) = (l.getD i (0, 0)).1) && decide ((b : Int) = (l.getD i (0, 0)).2)) && fitsB n (a, b) (l.eraseIdx i))) := ⟨fun _ _ => rfl⟩
  obtain ⟨T, hT⟩ : ∃ T, T = flipB n l i := ⟨_, rfl⟩
  rw [← hT] at HT HF
  have hel : (l.eraseIdx i).length = l.length - 1 := List.length_eraseIdx_of_lt hi
  have HRO : Off (∀ x, x ∈ l.eraseIdx i → inR x) := ⟨fun x h => hR.out x (List.mem_of_mem_eraseIdx h)⟩
  obtain ⟨os, hos⟩ : ∃ os, os = l.eraseIdx i := ⟨_, rfl⟩
  rw [← hos] at HT HF hel HRO
  have HEL := Off.mk hel
  have HOS := Off.mk hos
  have h3 : 3 ≤ n := by omega
  have h12 : n ≤ 12 := by omega
  have hl9 : l.length ≤ 9 := by omega
  have HX := Off.mk hx
  have hi0 : (0 : Int) ≤ (i : Int) := by omega
  have hi1 : (i : Int) < (l.length : Int) := by omega
  have hA' := Off.mk hA
  obtain ⟨ad, hAe, p0, p1⟩ := hx.cell i hi
  subst hAe
  obtain ⟨q, hq⟩ : ∃ q, q = l.getD i (0, 0) := ⟨_, rfl⟩
  rw [← hq] at p0 p1 HT
  have CC := Off.mk (fun W (hW : Below w.heap.size w W) => cloneQ_any l (some ad) c W (HX.out.below hW) hlc (by omega) (fun e => by cases e))
  have hw1 : IntKind.i64.wrap ((i : Int) + 1) = (i : Int) + 1 := by rw [IntKind.wrap_i64]; omega
  clear hT hos hv hr hA hel hq
  go_enter Try.func20, Try.ntmps20
  go_wp2_with fail
  refine CB.out.mono ?_
  rintro e w1 ⟨rfl, hb1⟩
  have HB1 := Off.mk hb1
  clear hb1
  go_wp2_with fail
  refine (CC.out _ HB1.out).mono ?_
  rintro e w2 ⟨v2, rfl, hO2, hb2⟩
  obtain ⟨r, c2, rfl, hbr, hQ2⟩ := ownQ_row hO2 (by omega)
  have hnc : l.length ≤ c2 := by
    rcases hQ2.own.2 with ⟨h', _⟩ | ⟨g, cap, cur, h', hb, hg, hnc, hcm, hcs, htake⟩
    · simp at h'
    · simp only [Value.slice.injEq, Option.some.injEq, Addr.mk.injEq, and_true] at h'
      omega
  have CD := Off.mk (delQ_any w1.heap.size r l.length c2 i l w2 hQ2 hi (by omega) hnc)
  have HB2 := Off.mk (belowC HB1.out hb2)
  have Hbr := Off.mk hbr
  have Hnc := Off.mk hnc
  clear hO2 hb2 hQ2 hbr hnc CC CB
  go_wp2_with fail
  refine CD.out.mono ?_
  rintro e w3 ⟨rfl, hQ3, hK3⟩
  have HB3 : Off (Below w.heap.size w w3) := ⟨Keeps.below HB2.out hK3 HB2.out.size (by have := HB1.out.size; have := Hbr.out; omega)⟩
  have HQ3 : Off (QRow w3 w.heap.size r (l.length - 1) c2 os) := ⟨⟨by rw [HEL.out], (ownQ_mono (base' := w.heap.size) (xs := os) ⟨by
    have := hQ3.own
    rw [← HOS.out] at this
    rw [HEL.out]; exact this⟩ HB1.out.size).out |> fun h => by rw [HEL.out] at h; exact h⟩⟩
  have hlt3 := HQ3.out.lt
  have HLT := Off.mk hlt3
  clear hQ3 hK3 CD HB2
  obtain ⟨m, hm⟩ : ∃ m, m = l.length - 1 := ⟨_, rfl⟩
  rw [← hm] at HQ3 HEL ⊢
  have hm9 : m ≤ 9 := by omega
  have HM := Off.mk hm
  clear hm hlt3
  go_wp2
  go_loopw [33] (fun av wr => ∃ a : Nat, a ≤ n ∧ av = .int .i64 a ∧ Off (flipAt n T a = none) ∧ Off (Below w3.heap.size w3 wr)) (fun av _ => n - (intOf av).toNat)
  case atStart => exact ⟨0, by omega, rfl, ⟨rfl⟩, ⟨Below.refl _ _⟩⟩
  case round =>
    obtain ⟨a, ha, rfl, HN, HB⟩ := hrel
    by_cases han : a < n
    · have hI0 : Off (flipIn n T a (a + 2) = none) := ⟨flipIn_low n T a (a + 2) (by omega)⟩
      go_wp2
      go_loopw [10] (fun bv wr => ∃ b : Nat, a + 2 ≤ b ∧ (b ≤ n ∨ b = a + 2) ∧ bv = .int .i64 b ∧ Off (flipIn n T a b = none) ∧ Off (Below w3.heap.size w3 wr)) (fun bv _ => n - (intOf bv).toNat)
      case atStart => exact ⟨a + 2, by omega, .inr rfl, by go_num, hI0, HB⟩
      case round =>
        clear HB hI0
        obtain ⟨b, hb0, hb1, rfl, HI, HB⟩ := hrel
        have HBw := Off.mk (belowC HB3.out HB.out)
        by_cases hbn : b < n
        · have HIs : Off (flipIn n T a (b + 1) = if a + 2 ≤ b ∧ T a b = true then some (a, b) else none) := ⟨by
            have := HI.out
            unfold flipIn at this ⊢
            rw [firstV_none _ this]⟩
          have HTab := Off.mk (HT.out a b)
          have c0 := cellB HBw.out p0
          have c1 := cellB HBw.out p1
          have hbl := block_new wr (.cells #[.int .i64 (a : Int), .int .i64 (b : Int)] 36)
          obtain ⟨⟨q0, q1⟩, _, _⟩ := two_facts hbl
          have hBp : Below wr.heap.size wr (wr.alloc (.cells #[.int .i64 (a : Int), .int .i64 (b : Int)] 36)) := (Below.refl _ _).alloc (Nat.le_refl _) _
          have c0 := cellB hBp c0
          have c1 := cellB hBp c1
          obtain ⟨z, hz⟩ : ∃ z, z = wr.heap.size := ⟨_, rfl⟩
          obtain ⟨w4, hw4⟩ : ∃ w4, w4 = wr.alloc (.cells #[.int .i64 (a : Int), .int .i64 (b : Int)] 36) := ⟨_, rfl⟩
          rw [← hz, ← hw4] at q0 q1
          rw [← hw4] at hBp c0 c1
          have HB4 := Off.mk (belowC HB.out hBp)
          have HQ4 := Off.mk (HQ3.out.below HB4.out)
          have HZ : Off (w3.heap.size ≤ z) := ⟨by rw [hz]; exact HB.out.size⟩
          clear hbl hBp
          have CF := Off.mk (fun v (hv : fitsB n ((a : Int), (b : Int)) os = v) W (hW : Below w4.heap.size w4 W) => by
            obtain ⟨A', c', e', hp', _⟩ := ownQ_pairs (w := W) (base := w.heap.size) (v := .slice (some ⟨r, 0, none⟩) m c2) (xs := os) ⟨by rw [HEL.out]; exact (HQ4.out.below hW).own⟩ (by rw [HEL.out]; omega)
            have := fits_any n a b os A' c' v hv ⟨by omega, by omega⟩ W hp'
            rw [← e'] at this
            exact this)
          by_cases hpq : (a : Int) = q.1 ∧ (b : Int) = q.2
          · have hne : ∀ W, Sem.run Try.prog (binOp .neq 36 (.agg #[.int .i64 (a : Int), .int .i64 (b : Int)]) (.agg #[.int .i64 q.1, .int .i64 q.2])) W = .ok (.bool false) W := fun W => neq_pair _ _ _ _ _ (by rw [decide_eq_true hpq.1, decide_eq_true hpq.2]; rfl) W
            have HN' : Off (flipIn n T a (b + 1) = none) := ⟨by rw [HIs.out, HTab.out, decide_eq_true hpq.1, decide_eq_true hpq.2]; simp⟩
            clear hpq HIs HTab CF
            go_wp2
            rw [← hw4, ← hz]
            clear hw4 hz
            refine wp_region_held_drew (S := (fun w' => (w'.cell? ⟨z, 0, none⟩ = some (.int .i64 (a : Int)) ∧ w'.cell? ⟨z, 1, none⟩ = some (.int .i64 (b : Int))) ∧ (w'.cell? (ad.add (i * 2)) = some (.int .i64 q.1) ∧ w'.cell? ⟨(ad.add (i * 2)).block, (ad.add (i * 2)).off + 1, none⟩ = some (.int .i64 q.2)))) (by kernel_rfl) ⟨⟨q0, q1⟩, c0, c1⟩ (fun hHeld => ?_)
            refine wpAnyH_take (i := 0) (oi := ⟨some 46, _, _, _, _, _⟩) (v := ?_) rfl (by kernel_rfl) (by kernel_rfl) (by kernel_rfl) (fun _ _ _ h => h) (Or.inl ⟨by rfl, by intro w hSw; (try dsimp only at hSw); go_simp; try with_reducible rfl⟩) hHeld ?_
            try simp only [Act.put, List.setIfInBounds_toArray, List.set_cons_zero, List.set_cons_succ]
            refine wpAnyH_take (i := 1) (oi := ⟨some 47, _, _, _, _, _⟩) (v := ?_) rfl (by kernel_rfl) (by kernel_rfl) (by kernel_rfl) (fun _ _ _ h => h) (Or.inl ⟨by rfl, by intro w hSw; (try dsimp only at hSw); go_simp; try with_reducible rfl⟩) hHeld ?_
            try simp only [Act.put, List.setIfInBounds_toArray, List.set_cons_zero, List.set_cons_succ]
            refine wpAnyH_take (i := 2) (oi := ⟨some 48, _, _, _, _, _⟩) (v := ?_) rfl (by kernel_rfl) (by kernel_rfl) (by kernel_rfl) (fun _ _ _ h => h) (Or.inl ⟨by rfl, by intro w hSw; (try dsimp only at hSw); go_simp; try with_reducible rfl⟩) hHeld ?_
            try simp only [Act.put, List.setIfInBounds_toArray, List.set_cons_zero, List.set_cons_succ]
            refine wpAnyH_take (i := 3) (oi := ⟨some 49, _, _, _, _, _⟩) (v := ?_) rfl (by kernel_rfl) (by kernel_rfl) (by kernel_rfl) (fun _ _ _ h => h) (Or.inl ⟨by rfl, by intro w hSw; (try dsimp only at hSw); go_simp; try with_reducible rfl⟩) hHeld ?_
            try simp only [Act.put, List.setIfInBounds_toArray, List.set_cons_zero, List.set_cons_succ]
            refine wpAnyH_take (i := 4) (oi := ⟨some 50, _, _, _, _, _⟩) (v := ?_) rfl (by kernel_rfl) (by kernel_rfl) (by kernel_rfl) (fun _ _ _ h => h) (Or.inl ⟨by rfl, by intro w hSw; (try dsimp only at hSw); go_simp; try with_reducible rfl⟩) hHeld ?_
            try simp only [Act.put, List.setIfInBounds_toArray, List.set_cons_zero, List.set_cons_succ]
            refine wpAnyH_take (i := 5) (oi := ⟨some 51, _, _, _, _, _⟩) (v := ?_) rfl (by kernel_rfl) (by kernel_rfl) (by kernel_rfl) (fun _ _ _ h => h) (Or.inl ⟨by rfl, by intro w hSw; (try dsimp only at hSw); go_simp; try with_reducible rfl⟩) hHeld ?_
            try simp only [Act.put, List.setIfInBounds_toArray, List.set_cons_zero, List.set_cons_succ]
            refine wpAnyH_take (i := 6) (oi := ⟨some 52, _, _, _, _, _⟩) (v := ?_) rfl (by kernel_rfl) (by kernel_rfl) (by kernel_rfl) (fun _ _ _ h => h) (Or.inl ⟨by rfl, by intro w hSw; (try dsimp only at hSw); go_simp; try with_reducible rfl⟩) hHeld ?_
            try simp only [Act.put, List.setIfInBounds_toArray, List.set_cons_zero, List.set_cons_succ]
            refine wpAnyH_take (i := 7) (oi := ⟨some 53, _, _, _, _, _⟩) (v := undef) rfl (by kernel_rfl) (by kernel_rfl) (by kernel_rfl) (fun _ _ _ h => h) (Or.inr ⟨by rfl, rfl⟩) hHeld ?_
            try simp only [Act.put, List.setIfInBounds_toArray, List.set_cons_zero, List.set_cons_succ]
            refine wpAnyH_take (i := 8) (oi := ⟨some 54, _, _, _, _, _⟩) (v := undef) rfl (by kernel_rfl) (by kernel_rfl) (by kernel_rfl) (fun _ _ _ h => h) (Or.inr ⟨by rfl, rfl⟩) hHeld ?_
            try simp only [Act.put, List.setIfInBounds_toArray, List.set_cons_zero, List.set_cons_succ]
            refine wpAnyH_take (i := 9) (oi := ⟨some 55, _, _, _, _, _⟩) (v := undef) rfl (by kernel_rfl) (by kernel_rfl) (by kernel_rfl) (fun _ _ _ h => h) (Or.inr ⟨by rfl, rfl⟩) hHeld ?_
            try simp only [Act.put, List.setIfInBounds_toArray, List.set_cons_zero, List.set_cons_succ]
            refine wpAnyH_take (i := 10) (oi := ⟨some 56, _, _, _, _, _⟩) (v := undef) rfl (by kernel_rfl) (by kernel_rfl) (by kernel_rfl) (fun _ _ _ h => h) (Or.inr ⟨by rfl, rfl⟩) hHeld ?_
            try simp only [Act.put, List.setIfInBounds_toArray, List.set_cons_zero, List.set_cons_succ]
            refine wpAnyH_take (i := 11) (oi := ⟨some 57, _, _, _, _, _⟩) (v := ?_) rfl (by kernel_rfl) (by kernel_rfl) (by kernel_rfl) (fun _ _ _ h => h) (Or.inl ⟨by rfl, by intro w hSw; (try dsimp only at hSw); go_simp; try with_reducible rfl⟩) hHeld ?_
            try simp only [Act.put, List.setIfInBounds_toArray, List.set_cons_zero, List.set_cons_succ]
            refine wpAnyH_done (by kernel_rfl) ?_ _
            go_wp2
            go_roundw
            case rel => exact ⟨b + 1, by omega, .inl (by omega), by go_num, HN', ⟨below_drew HB4.out⟩⟩
            case measure => simp only [intOf]; omega
          · have hnb : (!(decide ((a : Int) = q.1) && decide ((b : Int) = q.2))) = true := by
              by_cases e1 : (a : Int) = q.1
              · rw [decide_eq_false (fun e2 => hpq ⟨e1, e2⟩)]; simp
              · rw [decide_eq_false e1]; simp
            have hne : ∀ W, Sem.run Try.prog (binOp .neq 36 (.agg #[.int .i64 (a : Int), .int .i64 (b : Int)]) (.agg #[.int .i64 q.1, .int .i64 q.2])) W = .ok (.bool true) W := fun W => neq_pair _ _ _ _ _ hnb W
            have HTab' : Off (T a b = fitsB n ((a : Int), (b : Int)) os) := ⟨by rw [HTab.out, hnb, Bool.true_and]⟩
            obtain ⟨f, hf⟩ : ∃ f, fitsB n ((a : Int), (b : Int)) os = f := ⟨_, rfl⟩
            have CF' := Off.mk (CF.out f hf)
            rw [hf] at HTab'
            clear hpq HTab CF hf hnb
            cases f
            · have HN' : Off (flipIn n T a (b + 1) = none) := ⟨by rw [HIs.out, HTab'.out]; simp⟩
              clear HIs HTab'
              go_wp2
              rw [← hw4, ← hz]
              clear hw4 hz
              refine wp_region_held_drew (S := (fun w' => (w'.cell? ⟨z, 0, none⟩ = some (.int .i64 (a : Int)) ∧ w'.cell? ⟨z, 1, none⟩ = some (.int .i64 (b : Int))) ∧ (w'.cell? (ad.add (i * 2)) = some (.int .i64 q.1) ∧ w'.cell? ⟨(ad.add (i * 2)).block, (ad.add (i * 2)).off + 1, none⟩ = some (.int .i64 q.2)))) (by kernel_rfl) ⟨⟨q0, q1⟩, c0, c1⟩ (fun hHeld => ?_)
              refine wpAnyH_take (i := 0) (oi := ⟨some 46, _, _, _, _, _⟩) (v := ?_) rfl (by kernel_rfl) (by kernel_rfl) (by kernel_rfl) (fun _ _ _ h => h) (Or.inl ⟨by rfl, by intro w hSw; (try dsimp only at hSw); go_simp; try with_reducible rfl⟩) hHeld ?_
              try simp only [Act.put, List.setIfInBounds_toArray, List.set_cons_zero, List.set_cons_succ]
              refine wpAnyH_take (i := 1) (oi := ⟨some 47, _, _, _, _, _⟩) (v := ?_) rfl (by kernel_rfl) (by kernel_rfl) (by kernel_rfl) (fun _ _ _ h => h) (Or.inl ⟨by rfl, by intro w hSw; (try dsimp only at hSw); go_simp; try with_reducible rfl⟩) hHeld ?_
              try simp only [Act.put, List.setIfInBounds_toArray, List.set_cons_zero, List.set_cons_succ]
              refine wpAnyH_take (i := 2) (oi := ⟨some 48, _, _, _, _, _⟩) (v := ?_) rfl (by kernel_rfl) (by kernel_rfl) (by kernel_rfl) (fun _ _ _ h => h) (Or.inl ⟨by rfl, by intro w hSw; (try dsimp only at hSw); go_simp; try with_reducible rfl⟩) hHeld ?_
              try simp only [Act.put, List.setIfInBounds_toArray, List.set_cons_zero, List.set_cons_succ]
              refine wpAnyH_take (i := 3) (oi := ⟨some 49, _, _, _, _, _⟩) (v := ?_) rfl (by kernel_rfl) (by kernel_rfl) (by kernel_rfl) (fun _ _ _ h => h) (Or.inl ⟨by rfl, by intro w hSw; (try dsimp only at hSw); go_simp; try with_reducible rfl⟩) hHeld ?_
              try simp only [Act.put, List.setIfInBounds_toArray, List.set_cons_zero, List.set_cons_succ]
              refine wpAnyH_take (i := 4) (oi := ⟨some 50, _, _, _, _, _⟩) (v := ?_) rfl (by kernel_rfl) (by kernel_rfl) (by kernel_rfl) (fun _ _ _ h => h) (Or.inl ⟨by rfl, by intro w hSw; (try dsimp only at hSw); go_simp; try with_reducible rfl⟩) hHeld ?_
              try simp only [Act.put, List.setIfInBounds_toArray, List.set_cons_zero, List.set_cons_succ]
              refine wpAnyH_take (i := 5) (oi := ⟨some 51, _, _, _, _, _⟩) (v := ?_) rfl (by kernel_rfl) (by kernel_rfl) (by kernel_rfl) (fun _ _ _ h => h) (Or.inl ⟨by rfl, by intro w hSw; (try dsimp only at hSw); go_simp; try with_reducible rfl⟩) hHeld ?_
              try simp only [Act.put, List.setIfInBounds_toArray, List.set_cons_zero, List.set_cons_succ]
              refine wpAnyH_take (i := 6) (oi := ⟨some 52, _, _, _, _, _⟩) (v := ?_) rfl (by kernel_rfl) (by kernel_rfl) (by kernel_rfl) (fun _ _ _ h => h) (Or.inl ⟨by rfl, by intro w hSw; (try dsimp only at hSw); go_simp; try with_reducible rfl⟩) hHeld ?_
              try simp only [Act.put, List.setIfInBounds_toArray, List.set_cons_zero, List.set_cons_succ]
              refine wpAnyH_take (i := 7) (oi := ⟨some 53, _, _, _, _, _⟩) (v := ?_) rfl (by kernel_rfl) (by kernel_rfl) (by kernel_rfl) (fun _ _ _ h => h) (Or.inl ⟨by rfl, by intro w hSw; (try dsimp only at hSw); go_simp; try with_reducible rfl⟩) hHeld ?_
              try simp only [Act.put, List.setIfInBounds_toArray, List.set_cons_zero, List.set_cons_succ]
              refine wpAnyH_take (i := 8) (oi := ⟨some 54, _, _, _, _, _⟩) (v := ?_) rfl (by kernel_rfl) (by kernel_rfl) (by kernel_rfl) (fun _ _ _ h => h) (Or.inl ⟨by rfl, by intro w hSw; (try dsimp only at hSw); go_simp; try with_reducible rfl⟩) hHeld ?_
              try simp only [Act.put, List.setIfInBounds_toArray, List.set_cons_zero, List.set_cons_succ]
              refine wpAnyH_take (i := 9) (oi := ⟨some 55, _, _, _, _, _⟩) (v := ?_) rfl (by kernel_rfl) (by kernel_rfl) (by kernel_rfl) (fun _ _ _ h => h) (Or.inl ⟨by rfl, by intro w hSw; (try dsimp only at hSw); go_simp; try with_reducible rfl⟩) hHeld ?_
              try simp only [Act.put, List.setIfInBounds_toArray, List.set_cons_zero, List.set_cons_succ]
              refine wpAnyH_ready (rs := [10]) (by kernel_rfl) (by simp) ?_
              refine AllReadyH.cons (o := ⟨some 56, _, _, _, _, _⟩) rfl (fun K hK => ?_) AllReadyH.nil
              go_simp
              go_at_call 55
              refine (CF'.out _ (below_drew (Below.refl _ _))).mono ?_
              rintro e w5 ⟨rfl, hb5⟩
              have HB5 := Off.mk (belowC (below_drew HB4.out) hb5)
              go_wp2_with fail
              refine hK.out _ _ ⟨⟨cellB hb5 hHeld.1.1, cellB hb5 hHeld.1.2⟩, cellB hb5 hHeld.2.1, cellB hb5 hHeld.2.2⟩ (fun hHeld => ?_)
              clear hK K
              try simp only [Act.put, List.setIfInBounds_toArray, List.set_cons_zero, List.set_cons_succ]
              refine wpAnyH_take (i := 11) (oi := ⟨some 57, _, _, _, _, _⟩) (v := ?_) rfl (by kernel_rfl) (by kernel_rfl) (by kernel_rfl) (fun _ _ _ h => h) (Or.inl ⟨by rfl, by intro w hSw; (try dsimp only at hSw); go_simp; try with_reducible rfl⟩) hHeld ?_
              try simp only [Act.put, List.setIfInBounds_toArray, List.set_cons_zero, List.set_cons_succ]
              refine wpAnyH_done (by kernel_rfl) ?_ _
              go_wp2
              go_roundw
              case rel => exact ⟨b + 1, by omega, .inl (by omega), by go_num, HN', HB5⟩
              case measure => simp only [intOf]; omega
            · have HY : Off (flipAt n T n = some (a, b)) := ⟨by
                have h1 : flipIn n T a (b + 1) = some (a, b) := by rw [HIs.out, HTab'.out]; simp [hb0]
                have h2 : flipIn n T a n = some (a, b) := firstV_up _ h1 (by omega)
                have h3 : flipAt n T (a + 1) = some (a, b) := by
                  have := HN.out
                  unfold flipAt at this ⊢
                  rw [firstV_none _ this]
                  exact h2
                exact firstV_up _ h3 (by omega)⟩
              clear HIs HTab'
              go_wp2
              rw [← hw4, ← hz]
              clear hw4 hz
              refine wp_region_held_drew (S := (fun w' => (w'.cell? ⟨z, 0, none⟩ = some (.int .i64 (a : Int)) ∧ w'.cell? ⟨z, 1, none⟩ = some (.int .i64 (b : Int))) ∧ (w'.cell? (ad.add (i * 2)) = some (.int .i64 q.1) ∧ w'.cell? ⟨(ad.add (i * 2)).block, (ad.add (i * 2)).off + 1, none⟩ = some (.int .i64 q.2)))) (by kernel_rfl) ⟨⟨q0, q1⟩, c0, c1⟩ (fun hHeld => ?_)
              refine wpAnyH_take (i := 0) (oi := ⟨some 46, _, _, _, _, _⟩) (v := ?_) rfl (by kernel_rfl) (by kernel_rfl) (by kernel_rfl) (fun _ _ _ h => h) (Or.inl ⟨by rfl, by intro w hSw; (try dsimp only at hSw); go_simp; try with_reducible rfl⟩) hHeld ?_
              try simp only [Act.put, List.setIfInBounds_toArray, List.set_cons_zero, List.set_cons_succ]
              refine wpAnyH_take (i := 1) (oi := ⟨some 47, _, _, _, _, _⟩) (v := ?_) rfl (by kernel_rfl) (by kernel_rfl) (by kernel_rfl) (fun _ _ _ h => h) (Or.inl ⟨by rfl, by intro w hSw; (try dsimp only at hSw); go_simp; try with_reducible rfl⟩) hHeld ?_
              try simp only [Act.put, List.setIfInBounds_toArray, List.set_cons_zero, List.set_cons_succ]
              refine wpAnyH_take (i := 2) (oi := ⟨some 48, _, _, _, _, _⟩) (v := ?_) rfl (by kernel_rfl) (by kernel_rfl) (by kernel_rfl) (fun _ _ _ h => h) (Or.inl ⟨by rfl, by intro w hSw; (try dsimp only at hSw); go_simp; try with_reducible rfl⟩) hHeld ?_
              try simp only [Act.put, List.setIfInBounds_toArray, List.set_cons_zero, List.set_cons_succ]
              refine wpAnyH_take (i := 3) (oi := ⟨some 49, _, _, _, _, _⟩) (v := ?_) rfl (by kernel_rfl) (by kernel_rfl) (by kernel_rfl) (fun _ _ _ h => h) (Or.inl ⟨by rfl, by intro w hSw; (try dsimp only at hSw); go_simp; try with_reducible rfl⟩) hHeld ?_
              try simp only [Act.put, List.setIfInBounds_toArray, List.set_cons_zero, List.set_cons_succ]
              refine wpAnyH_take (i := 4) (oi := ⟨some 50, _, _, _, _, _⟩) (v := ?_) rfl (by kernel_rfl) (by kernel_rfl) (by kernel_rfl) (fun _ _ _ h => h) (Or.inl ⟨by rfl, by intro w hSw; (try dsimp only at hSw); go_simp; try with_reducible rfl⟩) hHeld ?_
              try simp only [Act.put, List.setIfInBounds_toArray, List.set_cons_zero, List.set_cons_succ]
              refine wpAnyH_take (i := 5) (oi := ⟨some 51, _, _, _, _, _⟩) (v := ?_) rfl (by kernel_rfl) (by kernel_rfl) (by kernel_rfl) (fun _ _ _ h => h) (Or.inl ⟨by rfl, by intro w hSw; (try dsimp only at hSw); go_simp; try with_reducible rfl⟩) hHeld ?_
              try simp only [Act.put, List.setIfInBounds_toArray, List.set_cons_zero, List.set_cons_succ]
              refine wpAnyH_take (i := 6) (oi := ⟨some 52, _, _, _, _, _⟩) (v := ?_) rfl (by kernel_rfl) (by kernel_rfl) (by kernel_rfl) (fun _ _ _ h => h) (Or.inl ⟨by rfl, by intro w hSw; (try dsimp only at hSw); go_simp; try with_reducible rfl⟩) hHeld ?_
              try simp only [Act.put, List.setIfInBounds_toArray, List.set_cons_zero, List.set_cons_succ]
              refine wpAnyH_take (i := 7) (oi := ⟨some 53, _, _, _, _, _⟩) (v := ?_) rfl (by kernel_rfl) (by kernel_rfl) (by kernel_rfl) (fun _ _ _ h => h) (Or.inl ⟨by rfl, by intro w hSw; (try dsimp only at hSw); go_simp; try with_reducible rfl⟩) hHeld ?_
              try simp only [Act.put, List.setIfInBounds_toArray, List.set_cons_zero, List.set_cons_succ]
              refine wpAnyH_take (i := 8) (oi := ⟨some 54, _, _, _, _, _⟩) (v := ?_) rfl (by kernel_rfl) (by kernel_rfl) (by kernel_rfl) (fun _ _ _ h => h) (Or.inl ⟨by rfl, by intro w hSw; (try dsimp only at hSw); go_simp; try with_reducible rfl⟩) hHeld ?_
              try simp only [Act.put, List.setIfInBounds_toArray, List.set_cons_zero, List.set_cons_succ]
              refine wpAnyH_take (i := 9) (oi := ⟨some 55, _, _, _, _, _⟩) (v := ?_) rfl (by kernel_rfl) (by kernel_rfl) (by kernel_rfl) (fun _ _ _ h => h) (Or.inl ⟨by rfl, by intro w hSw; (try dsimp only at hSw); go_simp; try with_reducible rfl⟩) hHeld ?_
              try simp only [Act.put, List.setIfInBounds_toArray, List.set_cons_zero, List.set_cons_succ]
              refine wpAnyH_ready (rs := [10]) (by kernel_rfl) (by simp) ?_
              refine AllReadyH.cons (o := ⟨some 56, _, _, _, _, _⟩) rfl (fun K hK => ?_) AllReadyH.nil
              go_simp
              go_at_call 55
              refine (CF'.out _ (below_drew (Below.refl _ _))).mono ?_
              rintro e w5 ⟨rfl, hb5⟩
              have HB5 := Off.mk (belowC (below_drew HB4.out) hb5)
              go_wp2_with fail
              refine hK.out _ _ ⟨⟨cellB hb5 hHeld.1.1, cellB hb5 hHeld.1.2⟩, cellB hb5 hHeld.2.1, cellB hb5 hHeld.2.2⟩ (fun hHeld => ?_)
              clear hK K
              try simp only [Act.put, List.setIfInBounds_toArray, List.set_cons_zero, List.set_cons_succ]
              refine wpAnyH_take (i := 11) (oi := ⟨some 57, _, _, _, _, _⟩) (v := ?_) rfl (by kernel_rfl) (by kernel_rfl) (by kernel_rfl) (fun _ _ _ h => h) (Or.inl ⟨by rfl, by intro w hSw; (try dsimp only at hSw); go_simp; try with_reducible rfl⟩) hHeld ?_
              try simp only [Act.put, List.setIfInBounds_toArray, List.set_cons_zero, List.set_cons_succ]
              refine wpAnyH_done (by kernel_rfl) ?_ _
              have HQ5 : Off (OwnQ w5 w.heap.size (.slice (some ⟨r, 0, none⟩) m c2) os) := ⟨⟨by rw [HEL.out]; exact ((HQ3.out.below HB5.out)).own⟩⟩
              have HBw5 := Off.mk (belowC HB3.out HB5.out)
              obtain ⟨⟨g0, g1⟩, _⟩ := hHeld
              have hosl : os.length ≤ 1000 := by rw [HEL.out]; omega
              clear c0 c1 q0 q1 HB HBw HB4 HQ4 HI HN p0 p1
              go_wp2_with (at_builtin; refine wpList_pair rfl _ _ rfl w.heap.size _ os a b HQ5.out HBw5.out.size hosl rfl rfl ?_)
              intro v6 w6 hO6 hb6 _
              have hl6 : (os ++ [((a : Int), (b : Int))]).length = m + 1 := by rw [List.length_append, HEL.out]; rfl
              have CS := Off.mk (sorted_any w.heap.size v6 _ w6 hO6 (fun x hx => by
                rcases List.mem_append.1 hx with h | h
                · exact HRO.out x h
                · rw [List.mem_singleton] at h
                  subst h
                  unfold inR
                  constructor <;> simp only <;> omega) (by rw [hl6]; omega) (by rw [hl6]; omega))
              have HB6 := Off.mk (HBw5.out.trans hb6)
              clear hO6 hb6 hl6 g0 g1 hosl
              go_wp2_with (go_at_call 56; refine CS.out.mono ?_; rintro e w7 ⟨rfl, hO7, hb7⟩)
              go_ret2
              have hE : flipL n l i = some (sortL (os ++ [((a : Int), (b : Int))])) := by rw [HF.out, HY.out]; rfl
              rw [hE]
              exact ⟨HB6.out.trans (hb7 HB6.out.size), v6, rfl, hO7⟩
        · have HN1 : Off (flipAt n T (a + 1) = none) := ⟨by
            have h1 := HN.out
            unfold flipAt at h1 ⊢
            rw [firstV_none _ h1]
            rcases hb1 with h | h
            · obtain rfl : b = n := by omega
              exact HI.out
            · exact flipIn_low n T a n (by omega)⟩
          go_wp2
          go_roundw
          case rel => exact ⟨a + 1, by omega, by go_num, HN1, HB⟩
          case measure => simp only [intOf]; omega
    · obtain rfl : a = n := by omega
      go_wp2
      go_ret2
      have hE : flipL a l i = none := by rw [HF.out, HN.out]; rfl
      rw [hE]
      exact ⟨belowC HB3.out HB.out, rfl⟩
end Go.Proofs.Ytddcdopimpfhcaa
