/- Contracts: Turns, Turn. -/
import Derived.Test.YtnhbkopgbibcgaaGi
namespace Go.Proofs.Ytnhbkopgbibcgaa
open Go.RowKit Go.Shelf

/-- Pairs of numbers lie in memory. -/
structure PairsI (w : World) (A : Option Addr) (xs : List (Int × Int)) : Prop where
  len : xs.length ≤ 140737488351232
  cell : ∀ j, j < xs.length → ∃ ad, A = some ad ∧ w.cell? (ad.add (j * 2)) = some (.int .i64 (xs.getD j (0, 0)).1) ∧ w.cell? ⟨(ad.add (j * 2)).block, (ad.add (j * 2)).off + 1, none⟩ = some (.int .i64 (xs.getD j (0, 0)).2)
theorem PairsI.below {w w1 : World} {A : Option Addr} {xs : List (Int × Int)} (h : PairsI w A xs) (hb : Below w.heap.size w w1) : PairsI w1 A xs :=
  ⟨h.len, fun j hj => by obtain ⟨ad, e, h1, h2⟩ := h.cell j hj; exact ⟨ad, e, cellB hb h1, cellB hb h2⟩⟩
/-- Some pair is no plot. -/
def outB (a b : Int) (xs : List (Int × Int)) : Bool := xs.any fun x => !hasB a b x.1 x.2
/-- The first k plots are turned. -/
def turnsTo (xs : List (Int × Int)) (l : List Int) : Nat → List Int
  | 0 => l
  | k + 1 => turnS (turnsTo xs l k) (xs.getD k (0, 0)).1.toNat (xs.getD k (0, 0)).2
def turnsP (xs : List (Int × Int)) (l : List Int) : List Int := turnsTo xs l xs.length
theorem turnsTo_length (xs : List (Int × Int)) (l : List Int) (k : Nat) : (turnsTo xs l k).length = l.length := by
  induction k with
  | zero => rfl
  | succ k ih => rw [turnsTo, turnS_length, ih]
theorem out_no {a b : Int} {xs : List (Int × Int)} (h : outB a b xs = false) {k : Nat} (hk : k < xs.length) : hasB a b (xs.getD k (0, 0)).1 (xs.getD k (0, 0)).2 = true := by
  unfold outB at h
  rw [List.any_eq_false] at h
  have := h xs[k] (List.getElem_mem hk)
  rw [List.getD_eq_getElem?_getD, List.getElem?_eq_getElem hk]
  simpa using this
theorem turnsTo_state {a b : Int} {xs : List (Int × Int)} {l : List Int} (h : stateB a b l = true) (ho : outB a b xs = false) (k : Nat) (hk : k ≤ xs.length) : stateB a b (turnsTo xs l k) = true := by
  induction k with
  | zero => exact h
  | succ k ih =>
    have hh := of_decide_eq_true (out_no ho (show k < xs.length by omega))
    have hl := (of_decide_eq_true h).1
    exact turnS_state (ih (by omega)) _ _ (by rw [turnsTo_length]; omega) hh.2.1 hh.2.2
def turnsErr (a b : Int) (l : List Int) (xs : List (Int × Int)) : Int :=
  if askedB a b l then (if 200 < xs.length then 3 else if outB a b xs then 2 else 0) else 2

set_option maxHeartbeats 1000000 in
theorem turns1_any (n m : Int) (x y : Int) (v : Bool) (hv : (!hasB n m x y) = v) (P : Nat) (w : World) (hP : w.heap[P]? = some (.cells #[.int .i64 n, .int .i64 m] 62 (0, 0))) :
    Calls Try.prog 63 #[.agg #[.int .i64 x, .int .i64 y], .pointer (some ⟨P, 0, none⟩)] w fun e w' => e = .returned (.bool v) ∧ Below w.heap.size w w' := by
  obtain ⟨⟨c0, c1⟩, _, _⟩ := two_facts hP
  have CH := Off.mk (has_any n m x y (!v) (by rw [← hv]; simp))
  have HP : P < w.heap.size := (Array.getElem?_eq_some_iff.1 hP).1
  have HB : Off (∀ o, Below w.heap.size w (w.alloc o)) := ⟨fun o => (Below.refl _ _).alloc (Nat.le_refl _) _⟩
  clear hP hv
  go_enter Try.func63, Try.ntmps63
  go_wp2_with (go_at_call 64; refine (CH.out _).mono ?_; rintro e w1 ⟨rfl, hb1⟩)
  go_ret
  exact ⟨by simp, belowC (HB.out _) hb1⟩

set_option maxHeartbeats 1000000 in
theorem index_pairs (n m : Int) (xs : List (Int × Int)) (A : Option Addr) (c P : Nat) (w : World) (hx : PairsI w A xs) (hP : w.heap[P]? = some (.cells #[.int .i64 n, .int .i64 m] 62 (0, 0))) :
    Calls Try.prog 84 #[.slice A xs.length c, .func (.func 63) #[] #[.pointer (some ⟨P, 0, none⟩)]] w fun e w' => ∃ r : Int, e = .returned (.int .i64 r) ∧ decide (0 ≤ r) = outB n m xs ∧ Below w.heap.size w w' := by
  have hlen := hx.len
  have hcf : ∀ (args : Array Value) (w : World), (callFunc 63 args).run Try.prog w = .ok (.enter 63 args) w := enters_of Try.func63 (by kernel_rfl) rfl
  have HP := Off.mk hP
  have HX := Off.mk hx
  clear hP hx
  go_enter Try.func84, Try.ntmps84
  go_wp2
  go_loopw [8] (fun i wr => ∃ k : Nat, k ≤ xs.length ∧ i = .int .i64 k ∧ Below w.heap.size w wr ∧ Off (∀ j, j < k → hasB n m (xs.getD j (0, 0)).1 (xs.getD j (0, 0)).2 = true)) (fun i _ => xs.length - (intOf i).toNat)
  case atStart => exact ⟨0, by omega, rfl, Below.refl _ _, ⟨fun j hj => by omega⟩⟩
  case round =>
    obtain ⟨k, hk, rfl, hB, hno⟩ := hrel
    by_cases hlt : k < xs.length
    · have hki : (k : Int) < (xs.length : Int) := by omega
      obtain ⟨ad, rfl, cA, cB⟩ := (HX.out.below hB).cell k hlt
      have CT := Off.mk (fun v hv => turns1_any n m (xs.getD k (0, 0)).1 (xs.getD k (0, 0)).2 v hv P wr (blockB hB HP.out))
      have HH : Off (∀ v, hasB n m (xs.getD k (0, 0)).1 (xs.getD k (0, 0)).2 = v → (!v) = true → outB n m xs = true) := ⟨fun v hv h2 => by
        unfold outB
        rw [List.any_eq_true]
        refine ⟨xs[k], List.getElem_mem hlt, ?_⟩
        rw [List.getD_eq_getElem?_getD, List.getElem?_eq_getElem hlt] at hv
        have hv' : hasB n m xs[k].1 xs[k].2 = v := hv
        rw [hv']; exact h2⟩
      have HE : Off (∀ j, j = k → hasB n m (xs.getD j (0, 0)).1 (xs.getD j (0, 0)).2 = hasB n m (xs.getD k (0, 0)).1 (xs.getD k (0, 0)).2) := ⟨fun j e => by rw [e]⟩
      obtain ⟨x, hx⟩ : ∃ x, x = xs.getD k (0, 0) := ⟨_, rfl⟩
      rw [← hx] at cA cB CT HH HE
      clear hx
      cases hp : hasB n m x.1 x.2
      · have CT' := Off.mk (CT.out true (by rw [hp]; rfl))
        have HO := Off.mk (HH.out _ hp rfl)
        clear hp CT HH HE
        go_wp2_with (go_at_fn 63; refine (CT'.out).mono ?_; rintro e w1 ⟨rfl, hb1⟩)
        go_ret
        exact ⟨k, rfl, by rw [HO.out]; simp, belowC hB hb1⟩
      · have CT' := Off.mk (CT.out false (by rw [hp]; rfl))
        have HN : Off (∀ j, j < k + 1 → hasB n m (xs.getD j (0, 0)).1 (xs.getD j (0, 0)).2 = true) := ⟨fun j hj => by
          by_cases e : j = k
          · rw [HE.out j e]; exact hp
          · exact hno.out j (by omega)⟩
        clear hp CT HH HE
        go_wp2_with (go_at_fn 63; refine (CT'.out).mono ?_; rintro e w1 ⟨rfl, hb1⟩)
        go_roundw
        case rel => exact ⟨k + 1, by omega, by go_num, belowC hB hb1, HN⟩
        case measure => simp only [intOf]; omega
    · obtain rfl : k = xs.length := by omega
      have HO : Off (outB n m xs = false) := ⟨by
        unfold outB
        rw [List.any_eq_false]
        intro x hx
        obtain ⟨j, hj, rfl⟩ := List.mem_iff_getElem.1 hx
        have := hno.out j hj
        rw [List.getD_eq_getElem?_getD, List.getElem?_eq_getElem hj] at this
        simpa using this⟩
      go_wp2
      go_ret
      exact ⟨-1, rfl, by rw [HO.out]; rfl, hB⟩

set_option maxHeartbeats 1000000 in
theorem contains_pairs (n m : Int) (xs : List (Int × Int)) (A : Option Addr) (c P : Nat) (w : World) (hx : PairsI w A xs) (hP : w.heap[P]? = some (.cells #[.int .i64 n, .int .i64 m] 62 (0, 0))) :
    Calls Try.prog 62 #[.slice A xs.length c, .func (.func 63) #[] #[.pointer (some ⟨P, 0, none⟩)]] w fun e w' => e = .returned (.bool (outB n m xs)) ∧ Below w.heap.size w w' := by
  have CI := Off.mk (index_pairs n m xs A c P w hx hP)
  clear hx hP
  go_enter Try.func62, Try.ntmps62
  go_wp2_with (go_at_call 84; refine CI.out.mono ?_; rintro e w1 ⟨r, rfl, hd, hr⟩; have HD := Off.mk hd; clear hd)
  go_ret
  exact ⟨ret_bool HD.out, hr⟩

def TurnsPost (a b : Int) (l : List Int) (xs : List (Int × Int)) (w : World) (e : Ending) (w' : World) : Prop :=
  ∃ v, e = .returned (.tuple #[v, .int .i64 (turnsErr a b l xs)]) ∧ Own w' w.heap.size v (if turnsErr a b l xs = 0 then turnsP xs l else []) ∧ Below w.heap.size w w'

set_option maxHeartbeats 4000000 in
set_option maxRecDepth 100000 in
theorem Turns_any (a b : Int) (l : List Int) (A : Option Addr) (c : Nat) (xs : List (Int × Int)) (Ax : Option Addr) (cx : Nat) (w : World) (hl : IntsAt w A l) (hlc : l.length ≤ c) (hA : A = none → c = 0) (hx : PairsI w Ax xs) :
    Calls Try.prog 30 #[.int .i64 a, .int .i64 b, .slice A l.length c, .slice Ax xs.length cx] w fun e w' => TurnsPost a b l xs w e w' := by
  have hxl := hx.len
  have CR := Off.mk (read_any a b l A c w hl hlc hA)
  have HX := Off.mk hx
  clear hl hx
  cases hk : askedB a b l
  · have HK := Off.mk hk
    have HE : Off (turnsErr a b l xs = 2) := ⟨by unfold turnsErr; rw [hk]; rfl⟩
    clear hk
    go_enter Try.func30, Try.ntmps30
    go_wp2_with fail
    refine CR.out.mono ?_
    rintro e w1 ⟨v1, rfl, _, hv, hb1⟩
    obtain rfl := hv HK.out
    rw [HK.out]
    go_wp2
    go_ret2
    exact ⟨_, by rw [HE.out]; rfl, by rw [HE.out]; exact ⟨World.ownsRow_nil _ _ _ _⟩, belowA hb1 _⟩
  · have HK := Off.mk hk
    obtain ⟨n, m, rfl, rfl, hn, hn1, hn6, hm1, hm6, hs⟩ := asked_nat hk
    have HS := Off.mk hs
    have HN := Off.mk hn
    by_cases h200 : 200 < xs.length
    · have HE : Off (turnsErr n m l xs = 3) := ⟨by unfold turnsErr; rw [hk, if_pos rfl, if_pos h200]⟩
      clear hk hs hn
      go_enter Try.func30, Try.ntmps30
      go_wp2_with fail
      refine CR.out.mono ?_
      rintro e w1 ⟨v1, rfl, _, hv, hb1⟩
      rw [HK.out]
      clear hv
      go_wp2
      go_ret2
      exact ⟨_, by rw [HE.out]; rfl, by rw [HE.out]; exact ⟨World.ownsRow_nil _ _ _ _⟩, belowA hb1 _⟩
    · cases ho : outB n m xs
      · have HO := Off.mk ho
        have HE : Off (turnsErr n m l xs = 0) := ⟨by unfold turnsErr; rw [hk, if_pos rfl, if_neg h200, ho]; rfl⟩
        have HT : Off (∀ k, k ≤ xs.length → stateB n m (turnsTo xs l k) = true) := ⟨fun k hk => turnsTo_state hs ho k hk⟩
        have HL : Off (∀ k, (turnsTo xs l k).length = n) := ⟨fun k => by rw [turnsTo_length]; exact hn⟩
        have HH : Off (∀ k, k < xs.length → hasB n m (xs.getD k (0, 0)).1 (xs.getD k (0, 0)).2 = true) := ⟨fun k hk => out_no ho hk⟩
        clear hk hs hn ho
        go_enter Try.func30, Try.ntmps30
        go_wp2_with fail
        refine CR.out.mono ?_
        rintro e w1 ⟨v1, rfl, hO, _, hb1⟩
        obtain ⟨r, c1, rfl, hr0, hR1⟩ := own_row (hO HK.out) (by rw [HN.out]; omega)
        rw [HK.out]
        have bP := block_new w1 (.cells #[.int .i64 (n : Int), .int .i64 (m : Int)] 62)
        have hR2 := hR1.below ((Below.refl _ _).alloc (Nat.le_refl _) (.cells #[.int .i64 (n : Int), .int .i64 (m : Int)] 62))
        have hb2 := belowA hb1 (.cells #[.int .i64 (n : Int), .int .i64 (m : Int)] 62)
        obtain ⟨w2, hw2⟩ : ∃ w2, w2 = w1.alloc (.cells #[.int .i64 (n : Int), .int .i64 (m : Int)] 62) := ⟨_, rfl⟩
        go_wp2_with fail
        rw [← hw2] at bP hR2 hb2 ⊢
        have CC := Off.mk (contains_pairs n m xs Ax cx w1.heap.size w2 (HX.out.below hb2) bP)
        have HR2 := Off.mk hR2
        have hrs : w.heap.size ≤ r := hr0
        clear hw2 bP hR2 hR1 hO hr0
        refine CC.out.mono ?_
        rintro e w3 ⟨rfl, hb3⟩
        rw [HO.out]
        have hb3' := belowC hb2 hb3
        have HR3 := Off.mk (HR2.out.below hb3)
        have hrl : l.length = n := HN.out
        have hR0 : Off (RowC w3 w.heap.size r n c1 (turnsTo xs l 0)) := ⟨by rw [← hrl]; exact HR3.out⟩
        rw [hrl]
        clear HR3 HR2 hrl CC hb3
        go_wp2
        go_loopw [36] (fun iv wr => ∃ k : Nat, k ≤ xs.length ∧ iv = .int .i64 k ∧ Off (RowC wr w.heap.size r n c1 (turnsTo xs l k)) ∧ Keeps r w3 wr) (fun iv _ => xs.length - (intOf iv).toNat)
        case atStart => exact ⟨0, by omega, rfl, hR0, Keeps.refl _ _⟩
        case round =>
          obtain ⟨k, hk, rfl, hR, hK⟩ := hrel
          obtain ⟨wo, rfl⟩ : ∃ wo : World, wo = wr := ⟨_, rfl⟩
          have hBo := hK.below hb3' hb3'.size hrs
          by_cases hkl : k < xs.length
          · have hki : (k : Int) < (xs.length : Int) := by omega
            obtain ⟨ad, rfl, cA, cB⟩ := (HX.out.below hBo).cell k hkl
            have hh := of_decide_eq_true (HH.out k hkl)
            have HU : Off (turnsTo xs l (k + 1) = turnS (turnsTo xs l k) (xs.getD k (0, 0)).1.toNat (xs.getD k (0, 0)).2) := ⟨rfl⟩
            have hst := HT.out k (by omega)
            have hlm := HL.out k
            obtain ⟨x, hx⟩ : ∃ x, x = xs.getD k (0, 0) := ⟨_, rfl⟩
            rw [← hx] at cA cB hh HU
            obtain ⟨i, hi⟩ : ∃ i : Nat, x.1 = i := ⟨x.1.toNat, by omega⟩
            obtain ⟨j, hj⟩ : ∃ j : Int, j = x.2 := ⟨_, rfl⟩
            rw [hi] at cA hh HU
            rw [Int.toNat_natCast] at HU
            rw [← hj] at cB hh HU
            have CT : Off (∀ W, RowC W w.heap.size r n c1 (turnsTo xs l k) → Calls Try.prog 65 #[.slice (some ⟨r, 0, none⟩) n c1, .int .i64 (i : Int), .int .i64 j] W fun e w' => e = .returned (.tuple #[]) ∧ RowC w' w.heap.size r n c1 (turnS (turnsTo xs l k) i j) ∧ Keeps r W w') := ⟨fun W hW => by
              have hr := state_range hst (show i < (turnsTo xs l k).length by omega)
              have := turn_any (turnsTo xs l k) w.heap.size r c1 i j W (by rw [hlm]; exact hW) (by omega) hh.2.1 (by omega) (by omega) (by omega)
              rw [hlm] at this
              exact this⟩
            clear hx hi hj hst hlm hBo hh
            go_wp2_with fail
            have hRa := Off.mk (hR.out.below ((Below.refl _ _).alloc (Nat.le_refl _) (.cells #[.int .i64 (i : Int), .int .i64 j] 43)))
            have hKa := hK.alloc (.cells #[.int .i64 (i : Int), .int .i64 j] 43)
            refine (CT.out _ hRa.out).mono ?_
            rintro e w4 ⟨rfl, hR4, hK4⟩
            have HR4 := Off.mk hR4
            clear hR4 hR hK
            go_wp2
            go_roundw
            case rel => exact ⟨k + 1, by omega, by go_num, by rw [HU.out]; exact HR4, hKa.trans hK4⟩
            case measure => simp only [intOf]; omega
          · obtain rfl : k = xs.length := by omega
            have HF : Off (turnsP xs l = turnsTo xs l xs.length) := ⟨rfl⟩
            go_wp2
            go_ret2
            exact ⟨_, by rw [HE.out]; rfl, by rw [HE.out, if_pos rfl, HF.out]; exact hR.out.own_of, hBo⟩
      · have HO := Off.mk ho
        have HE : Off (turnsErr n m l xs = 2) := ⟨by unfold turnsErr; rw [hk, if_pos rfl, if_neg h200, ho]; rfl⟩
        clear hk hs hn ho
        go_enter Try.func30, Try.ntmps30
        go_wp2_with fail
        refine CR.out.mono ?_
        rintro e w1 ⟨v1, rfl, _, _, hb1⟩
        rw [HK.out]
        have bP := block_new w1 (.cells #[.int .i64 (n : Int), .int .i64 (m : Int)] 62)
        have hb2 := belowA hb1 (.cells #[.int .i64 (n : Int), .int .i64 (m : Int)] 62)
        obtain ⟨w2, hw2⟩ : ∃ w2, w2 = w1.alloc (.cells #[.int .i64 (n : Int), .int .i64 (m : Int)] 62) := ⟨_, rfl⟩
        go_wp2_with fail
        rw [← hw2] at bP hb2 ⊢
        have CC := Off.mk (contains_pairs n m xs Ax cx w1.heap.size w2 (HX.out.below hb2) bP)
        clear hw2 bP
        refine CC.out.mono ?_
        rintro e w3 ⟨rfl, hb3⟩
        rw [HO.out]
        go_wp2
        go_ret2
        exact ⟨_, by rw [HE.out]; rfl, by rw [HE.out]; exact ⟨World.ownsRow_nil _ _ _ _⟩, belowC hb2 hb3⟩

set_option maxHeartbeats 1000000 in
theorem Turn_any (a b : Int) (l : List Int) (A : Option Addr) (c : Nat) (i j : Int) (w : World) (hl : IntsAt w A l) (hlc : l.length ≤ c) (hA : A = none → c = 0) :
    Calls Try.prog 32 #[.int .i64 a, .int .i64 b, .slice A l.length c, .int .i64 i, .int .i64 j] w fun e w' => TurnsPost a b l [(i, j)] w e w' := by
  have HB : Off (∀ o, Below w.heap.size w (w.alloc o)) := ⟨fun o => (Below.refl _ _).alloc (Nat.le_refl _) _⟩
  have CT : Off (∀ W, Below w.heap.size w W → PairsI W (some ⟨w.heap.size, 0, none⟩) [(i, j)] → Calls Try.prog 30 #[.int .i64 a, .int .i64 b, .slice A l.length c, .slice (some ⟨w.heap.size, 0, none⟩) 1 1] W fun e w' => TurnsPost a b l [(i, j)] W e w') := ⟨fun W hW hP => Turns_any a b l A c [(i, j)] _ 1 W (hl.below hW) hlc hA hP⟩
  clear hl hA
  go_enter Try.func32, Try.ntmps32
  go_wp2_with fail
  refine (CT.out _ (HB.out _) ⟨by simp, fun k hk => ⟨_, rfl, ?_, ?_⟩⟩).mono ?_
  · obtain rfl : k = 0 := by simpa using hk
    simp [Addr.add_lit]
  · obtain rfl : k = 0 := by simpa using hk
    simp [Addr.add_lit]
  rintro e w1 ⟨v1, rfl, hO, hb⟩
  obtain ⟨z, hz⟩ : ∃ z : Int, z = turnsErr a b l [(i, j)] := ⟨_, rfl⟩
  rw [← hz]
  have HZ := Off.mk hz
  have HW : w.heap.size ≤ (w.alloc (.cells #[.int .i64 i, .int .i64 j] 43)).heap.size := by simp
  have HO := Off.mk hO
  clear hz hO
  go_wp2
  go_ret2
  exact ⟨_, by rw [HZ.out]; rfl, own_mono HO.out (by simp), belowC (HB.out _) hb⟩
end Go.Proofs.Ytnhbkopgbibcgaa
