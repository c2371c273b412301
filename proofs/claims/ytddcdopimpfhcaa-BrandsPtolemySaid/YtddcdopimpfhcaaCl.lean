/- Contracts: Closed of both. -/
import Derived.Test.YtddcdopimpfhcaaCk
namespace Go.Proofs.Ytddcdopimpfhcaa
open Go.RowKit Go.Shelf

def neB (x y : Int) : Bool := y != x
theorem ne70_any (y : Int) (v : Bool) (hv : neB 1 y = v) (w : World) : Calls Try.prog 70 #[.int .i64 y] w fun e w' => e = .returned (.bool v) ∧ w' = w := by
  have HV := Off.mk hv
  clear hv
  go_enter Try.func70, Try.ntmps70
  go_wp2
  go_ret
  exact ⟨ret_bool (by rw [← HV.out]; simp [neB]), rfl⟩
set_option maxHeartbeats 1000000 in
set_option maxRecDepth 100000 in
theorem index70_any (xs : List Int) (A : Option Addr) (c : Nat) (w : World) (hx : IntsAt w A xs) :
    Calls Try.prog 83 #[.slice A xs.length c, .func (.func 70) #[] #[]] w fun e w' => ∃ r : Int, e = .returned (.int .i64 r) ∧ decide (0 ≤ r) = xs.any (neB 1) ∧ w' = w := by
  have hlen := hx.len
  have hcf : ∀ (args : Array Value) (w : World), (callFunc 70 args).run Try.prog w = .ok (.enter 70 args) w := enters_of Try.func70 (by kernel_rfl) rfl
  have HX := Off.mk hx
  clear hx
  go_enter Try.func83, Try.ntmps83
  go_wp2
  go_loop [8] (fun i => ∃ k : Nat, k ≤ xs.length ∧ i = .int .i64 k ∧ Off (∀ j, j < k → neB 1 (xs.getD j 0) = false)) (fun i => xs.length - (intOf i).toNat)
  case atStart => exact ⟨0, by omega, rfl, ⟨fun j hj => by omega⟩⟩
  case round =>
    obtain ⟨k, hk, rfl, hno⟩ := hrel
    by_cases hlt : k < xs.length
    · have hki : (k : Int) < (xs.length : Int) := by omega
      obtain ⟨ad, rfl, cA⟩ := HX.out.cell k hlt
      have CT := Off.mk (fun v hv => ne70_any (xs.getD k 0) v hv w)
      have HH : Off (neB 1 (xs.getD k 0) = true → xs.any (neB 1) = true) := ⟨fun hv => by
        rw [List.any_eq_true]
        refine ⟨xs[k], List.getElem_mem hlt, ?_⟩
        rw [List.getD_eq_getElem?_getD, List.getElem?_eq_getElem hlt] at hv
        exact hv⟩
      have HE : Off (∀ j, j = k → neB 1 (xs.getD j 0) = neB 1 (xs.getD k 0)) := ⟨fun j e => by rw [e]⟩
      obtain ⟨x, hx⟩ : ∃ x, x = xs.getD k 0 := ⟨_, rfl⟩
      rw [← hx] at cA CT HH HE
      clear hx
      cases hp : neB 1 x
      · have CT' := Off.mk (CT.out false hp)
        have HN : Off (∀ j, j < k + 1 → neB 1 (xs.getD j 0) = false) := ⟨fun j hj => by
          by_cases e : j = k
          · rw [HE.out j e]; exact hp
          · exact hno.out j (by omega)⟩
        clear hp CT HH HE
        go_wp2_with (go_at_fn 70; refine (CT'.out).mono ?_; rintro e w1 ⟨rfl, hw1⟩; subst w1)
        go_round
        case rel => exact ⟨k + 1, by omega, by go_num, HN⟩
        case measure => simp only [intOf]; omega
      · have CT' := Off.mk (CT.out true hp)
        have HO := Off.mk (HH.out hp)
        clear hp CT HH HE
        go_wp2_with (go_at_fn 70; refine (CT'.out).mono ?_; rintro e w1 ⟨rfl, hw1⟩; subst w1)
        go_ret
        exact ⟨k, rfl, by rw [HO.out]; simp, rfl⟩
    · obtain rfl : k = xs.length := by omega
      have HO : Off (xs.any (neB 1) = false) := ⟨by
        rw [List.any_eq_false]
        intro y hy
        obtain ⟨j, hj, rfl⟩ := List.getElem_of_mem hy
        have := hno.out j hj
        rw [List.getD_eq_getElem?_getD, List.getElem?_eq_getElem hj] at this
        simpa using this⟩
      go_wp2
      go_ret
      exact ⟨-1, rfl, by rw [HO.out]; rfl, rfl⟩
theorem contains70_any (xs : List Int) (A : Option Addr) (c : Nat) (v : Bool) (hv : xs.any (neB 1) = v) (w : World) (hx : IntsAt w A xs) :
    Calls Try.prog 72 #[.slice A xs.length c, .func (.func 70) #[] #[]] w fun e w' => e = .returned (.bool v) ∧ w' = w := by
  have CI := Off.mk (index70_any xs A c w hx)
  have HV := Off.mk hv
  clear hx hv
  go_enter Try.func72, Try.ntmps72
  go_wp2_with (go_at_call 83; refine CI.out.mono ?_; rintro e w1 ⟨r, rfl, hr, hw1⟩; subst w1)
  go_ret
  exact ⟨ret_bool (by rw [← HV.out, ← hr]), rfl⟩
theorem ne71_any (y : Int) (v : Bool) (hv : neB 0 y = v) (w : World) : Calls Try.prog 71 #[.int .i64 y] w fun e w' => e = .returned (.bool v) ∧ w' = w := by
  have HV := Off.mk hv
  clear hv
  go_enter Try.func71, Try.ntmps71
  go_wp2
  go_ret
  exact ⟨ret_bool (by rw [← HV.out]; simp [neB]), rfl⟩
set_option maxHeartbeats 1000000 in
set_option maxRecDepth 100000 in
theorem index71_any (xs : List Int) (A : Option Addr) (c : Nat) (w : World) (hx : IntsAt w A xs) :
    Calls Try.prog 83 #[.slice A xs.length c, .func (.func 71) #[] #[]] w fun e w' => ∃ r : Int, e = .returned (.int .i64 r) ∧ decide (0 ≤ r) = xs.any (neB 0) ∧ w' = w := by
  have hlen := hx.len
  have hcf : ∀ (args : Array Value) (w : World), (callFunc 71 args).run Try.prog w = .ok (.enter 71 args) w := enters_of Try.func71 (by kernel_rfl) rfl
  have HX := Off.mk hx
  clear hx
  go_enter Try.func83, Try.ntmps83
  go_wp2
  go_loop [8] (fun i => ∃ k : Nat, k ≤ xs.length ∧ i = .int .i64 k ∧ Off (∀ j, j < k → neB 0 (xs.getD j 0) = false)) (fun i => xs.length - (intOf i).toNat)
  case atStart => exact ⟨0, by omega, rfl, ⟨fun j hj => by omega⟩⟩
  case round =>
    obtain ⟨k, hk, rfl, hno⟩ := hrel
    by_cases hlt : k < xs.length
    · have hki : (k : Int) < (xs.length : Int) := by omega
      obtain ⟨ad, rfl, cA⟩ := HX.out.cell k hlt
      have CT := Off.mk (fun v hv => ne71_any (xs.getD k 0) v hv w)
      have HH : Off (neB 0 (xs.getD k 0) = true → xs.any (neB 0) = true) := ⟨fun hv => by
        rw [List.any_eq_true]
        refine ⟨xs[k], List.getElem_mem hlt, ?_⟩
        rw [List.getD_eq_getElem?_getD, List.getElem?_eq_getElem hlt] at hv
        exact hv⟩
      have HE : Off (∀ j, j = k → neB 0 (xs.getD j 0) = neB 0 (xs.getD k 0)) := ⟨fun j e => by rw [e]⟩
      obtain ⟨x, hx⟩ : ∃ x, x = xs.getD k 0 := ⟨_, rfl⟩
      rw [← hx] at cA CT HH HE
      clear hx
      cases hp : neB 0 x
      · have CT' := Off.mk (CT.out false hp)
        have HN : Off (∀ j, j < k + 1 → neB 0 (xs.getD j 0) = false) := ⟨fun j hj => by
          by_cases e : j = k
          · rw [HE.out j e]; exact hp
          · exact hno.out j (by omega)⟩
        clear hp CT HH HE
        go_wp2_with (go_at_fn 71; refine (CT'.out).mono ?_; rintro e w1 ⟨rfl, hw1⟩; subst w1)
        go_round
        case rel => exact ⟨k + 1, by omega, by go_num, HN⟩
        case measure => simp only [intOf]; omega
      · have CT' := Off.mk (CT.out true hp)
        have HO := Off.mk (HH.out hp)
        clear hp CT HH HE
        go_wp2_with (go_at_fn 71; refine (CT'.out).mono ?_; rintro e w1 ⟨rfl, hw1⟩; subst w1)
        go_ret
        exact ⟨k, rfl, by rw [HO.out]; simp, rfl⟩
    · obtain rfl : k = xs.length := by omega
      have HO : Off (xs.any (neB 0) = false) := ⟨by
        rw [List.any_eq_false]
        intro y hy
        obtain ⟨j, hj, rfl⟩ := List.getElem_of_mem hy
        have := hno.out j hj
        rw [List.getD_eq_getElem?_getD, List.getElem?_eq_getElem hj] at this
        simpa using this⟩
      go_wp2
      go_ret
      exact ⟨-1, rfl, by rw [HO.out]; rfl, rfl⟩
theorem contains71_any (xs : List Int) (A : Option Addr) (c : Nat) (v : Bool) (hv : xs.any (neB 0) = v) (w : World) (hx : IntsAt w A xs) :
    Calls Try.prog 72 #[.slice A xs.length c, .func (.func 71) #[] #[]] w fun e w' => e = .returned (.bool v) ∧ w' = w := by
  have CI := Off.mk (index71_any xs A c w hx)
  have HV := Off.mk hv
  clear hx hv
  go_enter Try.func72, Try.ntmps72
  go_wp2_with (go_at_call 83; refine CI.out.mono ?_; rintro e w1 ⟨r, rfl, hr, hw1⟩; subst w1)
  go_ret
  exact ⟨ret_bool (by rw [← HV.out, ← hr]), rfl⟩
/-- The numbers between each corner and itself are those of a brand. -/
def closedB (l : List Int) : Bool := !(frRow l l.length (l.length - 1)).any (neB 1) && !(frRow l l.length l.length).any (neB 0)
theorem frRow_any (l : List Int) (n r : Nat) (x : Int) : (frRow l n r).any (neB x) = true ↔ ∃ i, i < n ∧ eN l i r ≠ x := by
  simp [frRow, neB]
theorem closedB_iff (l : List Int) : closedB l = true ↔ ∀ i, i < l.length → eN l i (l.length - 1) = 1 ∧ eN l i l.length = 0 := by
  unfold closedB
  rw [Bool.and_eq_true, Bool.not_eq_true', Bool.not_eq_true', Bool.eq_false_iff, Bool.eq_false_iff, ne_eq, ne_eq, frRow_any, frRow_any]
  constructor
  · intro h i hi
    refine ⟨?_, ?_⟩
    · by_cases e : eN l i (l.length - 1) = 1
      · exact e
      · exact (h.1 ⟨i, hi, e⟩).elim
    · by_cases e : eN l i l.length = 0
      · exact e
      · exact (h.2 ⟨i, hi, e⟩).elim
  · intro h
    exact ⟨fun ⟨i, hi, e⟩ => e (h i hi).1, fun ⟨i, hi, e⟩ => e (h i hi).2⟩
theorem closed_no (l : List Int) (A : Option Addr) (c : Nat) (h : roundB l = false) (w : World) (hl : IntsAt w A l) :
    Calls Try.prog 41 #[.slice A l.length c] w fun e w' => e = .returned (.tuple #[.bool false, .int .i64 2]) ∧ w' = w := by
  have CF := Off.mk (frieze_no l A c h w hl)
  clear h hl
  go_enter Try.func41, Try.ntmps41
  go_wp2_with (go_at_call 37; refine CF.out.mono ?_; rintro e w1 ⟨rfl, hw⟩; subst w1)
  go_ret2
  exact ⟨rfl, rfl⟩
set_option maxHeartbeats 1000000 in
set_option maxRecDepth 100000 in
theorem closed_yes (l : List Int) (A : Option Addr) (c : Nat) (v : Bool) (hv : closedB l = v) (h : roundB l = true) (w : World) (hl : IntsAt w A l) :
    Calls Try.prog 41 #[.slice A l.length c] w fun e w' => e = .returned (.tuple #[.bool v, .int .i64 0]) ∧ Below w.heap.size w w' := by
  obtain ⟨⟨h3, h12⟩, hg⟩ := roundB_iff.1 h
  have CF := Off.mk (frieze_yes l A c h w hl)
  obtain ⟨m, hm⟩ : ∃ m, l.length = m + 1 := ⟨l.length - 1, by omega⟩
  have HV : Off ((!(frRow l l.length m).any (neB 1) && !(frRow l l.length l.length).any (neB 0)) = v) := ⟨by rw [← hv, closedB, show l.length - 1 = m by omega]⟩
  have hw1 : IntKind.i64.wrap ((l.length : Int) - 1) = (m : Int) := by rw [IntKind.wrap_i64]; omega
  have hm0 : (0 : Int) ≤ (m : Int) := by omega
  have hm1 : (m : Int) < (l.length : Int) + 1 := by omega
  have hm2 : (l.length : Int) < (l.length : Int) + 1 := by omega
  have Hmn : Off (m < l.length) := ⟨by omega⟩
  clear h hl hg hv hm
  go_enter Try.func41, Try.ntmps41
  go_wp2_with (go_at_call 37; refine CF.out.mono ?_; rintro e w1 ⟨tb, ct, vs, rfl, hT, hb⟩; have HT := Off.mk hT; have HB := Off.mk hb; clear hT hb
               obtain ⟨x1, hf1⟩ := HT.out.cell (r := m) (by have := Hmn.out; omega); obtain ⟨x2, hf2⟩ := HT.out.cell (r := l.length) (by omega)
               obtain ⟨A1, c1, hv1, hI1, _⟩ := own_ints (HT.out.row m (by have := Hmn.out; omega)) (by rw [frRow_len]; omega)
               obtain ⟨A2, c2, hv2, hI2, _⟩ := own_ints (HT.out.row l.length (by omega)) (by rw [frRow_len]; omega)
               rw [hv1] at x1; rw [hv2] at x2; clear hv1 hv2 hf1 hf2
               have C1 := Off.mk (fun v hv => contains70_any (frRow l l.length m) A1 c1 v hv w1 hI1)
               have C2 := Off.mk (fun v hv => contains71_any (frRow l l.length l.length) A2 c2 v hv w1 hI2)
               clear hI1 hI2)
  cases h1 : (frRow l l.length m).any (neB 1)
  · have C1' := Off.mk (C1.out _ h1)
    have C2' := Off.mk (C2.out _ rfl)
    rw [h1] at HV
    obtain ⟨u, hu⟩ : ∃ u, u = (frRow l l.length l.length).any (neB 0) := ⟨_, rfl⟩
    rw [← hu] at HV C2'
    clear h1 C1 C2 hu
    go_wp2_with fail
    refine C1'.out.mono ?_
    rintro e w2 ⟨rfl, hw2⟩
    subst w2
    clear C1'
    go_wp2_with (go_at_call 72; refine C2'.out.mono ?_; rintro e w2 ⟨rfl, hw2⟩; subst w2)
    go_ret2
    exact ⟨congrArg (fun b => Ending.returned (.tuple #[.bool b, .int .i64 0])) HV.out, HB.out⟩
  · have C1' := Off.mk (C1.out _ h1)
    rw [h1] at HV
    clear h1 C1 C2
    go_wp2_with (go_at_call 72; refine C1'.out.mono ?_; rintro e w2 ⟨rfl, hw2⟩; subst w2)
    go_ret2
    exact ⟨congrArg (fun b => Ending.returned (.tuple #[.bool b, .int .i64 0])) HV.out, HB.out⟩
theorem rclosed_no (l : List Int) (A : Option Addr) (c : Nat) (h : roundB l = false) (w : World) (hl : IntsAt w A l) :
    Calls Try.prog 42 #[.slice A l.length c] w fun e w' => e = .returned (.tuple #[.bool false, .int .i64 2]) ∧ w' = w := by
  have CF := Off.mk (risRound_any l A c false h w hl)
  clear h hl
  go_enter Try.func42, Try.ntmps42
  go_wp2_with (go_at_call 35; refine CF.out.mono ?_; rintro e w1 ⟨rfl, hw⟩; subst w1)
  go_ret2
  exact ⟨rfl, rfl⟩
set_option maxHeartbeats 1000000 in
set_option maxRecDepth 100000 in
theorem rclosed_yes (l : List Int) (A : Option Addr) (c : Nat) (v : Bool) (hv : closedB l = v) (h : roundB l = true) (w : World) (hl : IntsAt w A l) :
    Calls Try.prog 42 #[.slice A l.length c] w fun e w' => e = .returned (.tuple #[.bool v, .int .i64 0]) ∧ w' = w := by
  obtain ⟨⟨h3, h12⟩, hg⟩ := roundB_iff.1 h
  have CR := Off.mk (risRound_any l A c true h w hl)
  have CE := Off.mk (fun (i d : Nat) (hi : i ≤ 12) (hd : d ≤ 12) => e_any l A c i d w hl hg h3 h12 hi hd)
  obtain ⟨m, hm⟩ : ∃ m, l.length = m + 1 := ⟨l.length - 1, by omega⟩
  have HV : Off (v = true ↔ ∀ i, i < l.length → eN l i m = 1 ∧ eN l i l.length = 0) := ⟨by rw [← hv, closedB_iff, show l.length - 1 = m by omega]⟩
  have Hmn : Off (m < l.length ∧ m ≤ 12 ∧ (m : Int) = (l.length : Int) - 1) := ⟨by omega⟩
  clear h hl hg hv hm
  go_enter Try.func42, Try.ntmps42
  go_wp2_with (go_at_call 35; refine CR.out.mono ?_; rintro e w1 ⟨rfl, hw⟩; subst w1)
  go_loop [5] (fun iv => ∃ i : Nat, i ≤ l.length ∧ iv = .int .i64 i ∧ Off (∀ j, j < i → eN l j m = 1 ∧ eN l j l.length = 0)) (fun iv => l.length - (intOf iv).toNat)
  case atStart => exact ⟨0, by omega, rfl, ⟨fun j hj => by omega⟩⟩
  case round =>
    obtain ⟨i, hi, rfl, HN⟩ := hrel
    by_cases hil : i < l.length
    · have C1 := Off.mk (CE.out i m (by omega) Hmn.out.2.1)
      have C2 := Off.mk (CE.out i l.length (by omega) (by omega))
      have HF : Off (¬ (eN l i m = 1 ∧ eN l i l.length = 0) → v = false) := ⟨fun h => by rw [Bool.eq_false_iff, ne_eq, HV.out]; exact fun e => h (e i hil)⟩
      have HS : Off (eN l i m = 1 → eN l i l.length = 0 → ∀ j, j < i + 1 → eN l j m = 1 ∧ eN l j l.length = 0) := ⟨fun h1 h2 j hj => by
        by_cases e : j = i
        · rw [e]; exact ⟨h1, h2⟩
        · exact HN.out j (by omega)⟩
      have hw2 : IntKind.i64.wrap ((i : Int) + (l.length : Int)) = (i : Int) + (l.length : Int) := by rw [IntKind.wrap_i64]; omega
      have hw3 : IntKind.i64.wrap ((i : Int) + (l.length : Int) - 1) = (i : Int) + (m : Int) := by have := Hmn.out.2.2; rw [IntKind.wrap_i64]; omega
      obtain ⟨x, hx⟩ : ∃ x, x = eN l i m := ⟨_, rfl⟩
      obtain ⟨y, hy⟩ : ∃ y, y = eN l i l.length := ⟨_, rfl⟩
      rw [← hx] at C1 HF HS
      rw [← hy] at C2 HF HS
      clear hx hy HN
      by_cases h1 : x = 1
      · by_cases h2 : y = 0
        · have HS' := Off.mk (HS.out h1 h2)
          clear HF HS
          subst h1 h2
          go_wp2_with fail
          refine C1.out.mono ?_
          rintro e w2 ⟨rfl, hw2⟩
          subst w2
          clear C1
          go_wp2_with (go_at_call 69; refine C2.out.mono ?_; rintro e w2 ⟨rfl, hw2⟩; subst w2)
          go_round
          case rel => exact ⟨i + 1, by omega, by go_num, HS'⟩
          case measure => simp only [intOf]; omega
        · have HO := Off.mk (HF.out (fun e => h2 e.2))
          clear HF HS
          subst h1
          have hb2 : (y != 0) = true := by simp [h2]
          go_wp2_with fail
          refine C1.out.mono ?_
          rintro e w2 ⟨rfl, hw2⟩
          subst w2
          clear C1
          go_wp2_with (go_at_call 69; refine C2.out.mono ?_; rintro e w2 ⟨rfl, hw2⟩; subst w2)
          go_ret2
          exact ⟨congrArg (fun b => Ending.returned (.tuple #[.bool b, .int .i64 0])) HO.out.symm, rfl⟩
      · have HO := Off.mk (HF.out (fun e => h1 e.1))
        clear HF HS
        have hb1 : (x != 1) = true := by simp [h1]
        go_wp2_with (go_at_call 69; refine C1.out.mono ?_; rintro e w2 ⟨rfl, hw2⟩; subst w2)
        go_ret2
        exact ⟨congrArg (fun b => Ending.returned (.tuple #[.bool b, .int .i64 0])) HO.out.symm, rfl⟩
    · obtain rfl : i = l.length := by omega
      have HO : Off (v = true) := ⟨by rw [HV.out]; exact fun j hj => HN.out j hj⟩
      clear HV
      go_wp2
      go_ret2
      exact ⟨congrArg (fun b => Ending.returned (.tuple #[.bool b, .int .i64 0])) HO.out.symm, rfl⟩
end Go.Proofs.Ytddcdopimpfhcaa
