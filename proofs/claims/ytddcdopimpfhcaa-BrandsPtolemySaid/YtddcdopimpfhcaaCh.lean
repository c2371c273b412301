/- Contracts: the specification's E, IsRound, Between. -/
import Derived.Test.YtddcdopimpfhcaaCg
namespace Go.Proofs.Ytddcdopimpfhcaa
open Go.RowKit Go.Shelf

/-- The number between the corner i and the one r further on. -/
def eN (l : List Int) (i : Nat) : Nat → Int
  | 0 => 0
  | 1 => 1
  | r + 2 => l.getD ((i + (r + 1)) % l.length) 0 * eN l i (r + 1) - eN l i r
def ePrev (l : List Int) (i : Nat) : Nat → Int
  | 0 => -1
  | r + 1 => eN l i r
theorem eN_next (l : List Int) (i r : Nat) : eN l i (r + 1) = l.getD ((i + r) % l.length) 0 * eN l i r - ePrev l i r := by
  cases r with
  | zero => simp [eN, ePrev]
  | succ r => rfl
theorem mul_bound {x y b : Int} (hx : 1 ≤ x ∧ x ≤ 12) (hy : -b ≤ y ∧ y ≤ b) : -(12 * b) ≤ x * y ∧ x * y ≤ 12 * b := by
  have hb : 0 ≤ b := by omega
  have h1 : x * y ≤ x * b := Int.mul_le_mul_of_nonneg_left hy.2 (by omega)
  have h2 : x * (-b) ≤ x * y := Int.mul_le_mul_of_nonneg_left hy.1 (by omega)
  have h3 : x * b ≤ 12 * b := Int.mul_le_mul_of_nonneg_right hx.2 hb
  have h4 : x * (-b) = -(x * b) := by rw [Int.mul_neg]
  omega
theorem eN_bound {l : List Int} (hl : ∀ j, j < l.length → 1 ≤ l.getD j 0 ∧ l.getD j 0 ≤ 12) (h0 : 0 < l.length) (i : Nat) : ∀ r, (-(13 ^ r) ≤ eN l i r ∧ eN l i r ≤ 13 ^ r) ∧ (-(13 ^ (r + 1)) ≤ eN l i (r + 1) ∧ eN l i (r + 1) ≤ 13 ^ (r + 1))
  | 0 => by simp [eN]
  | r + 1 => by
    obtain ⟨h1, h2⟩ := eN_bound hl h0 i r
    refine ⟨h2, ?_⟩
    have h3 := mul_bound (hl ((i + (r + 1)) % l.length) (Nat.mod_lt _ h0)) h2
    have e : eN l i (r + 1 + 1) = l.getD ((i + (r + 1)) % l.length) 0 * eN l i (r + 1) - eN l i r := rfl
    rw [e]
    have p1 : (13 : Int) ^ (r + 1) = 13 * 13 ^ r := by rw [Int.pow_succ]; omega
    have p2 : (13 : Int) ^ (r + 1 + 1) = 13 * 13 ^ (r + 1) := by rw [Int.pow_succ]; omega
    have p0 : (0 : Int) ≤ 13 ^ r := Int.le_of_lt (Int.pow_pos (by omega))
    omega
theorem pow13 {r : Nat} (h : r ≤ 13) : (13 : Int) ^ r ≤ 302875106592253 := by
  have h1 : 13 ^ r ≤ 13 ^ 13 := Nat.pow_le_pow_right (n := 13) (by omega) h
  have h2 : ((13 ^ r : Nat) : Int) ≤ ((13 ^ 13 : Nat) : Int) := by exact_mod_cast h1
  have h3 : ((13 ^ r : Nat) : Int) = (13 : Int) ^ r := by simp
  have h4 : ((13 ^ 13 : Nat) : Int) = 302875106592253 := by decide
  omega
theorem eN_range {l : List Int} (hl : ∀ j, j < l.length → 1 ≤ l.getD j 0 ∧ l.getD j 0 ≤ 12) (h0 : 0 < l.length) (i : Nat) {r : Nat} (h : r ≤ 13) : -302875106592253 ≤ eN l i r ∧ eN l i r ≤ 302875106592253 := by
  have h1 := (eN_bound hl h0 i r).1
  have h2 := pow13 h
  omega
theorem ePrev_range {l : List Int} (hl : ∀ j, j < l.length → 1 ≤ l.getD j 0 ∧ l.getD j 0 ≤ 12) (h0 : 0 < l.length) (i : Nat) {r : Nat} (h : r ≤ 13) : -302875106592253 ≤ ePrev l i r ∧ ePrev l i r ≤ 302875106592253 := by
  cases r with
  | zero => simp [ePrev]
  | succ r => exact eN_range hl h0 i (by omega)
set_option maxHeartbeats 2000000 in
theorem e_any (l : List Int) (A : Option Addr) (c i d : Nat) (w : World) (hl : IntsAt w A l) (hg : ∀ j, j < l.length → 1 ≤ l.getD j 0 ∧ l.getD j 0 ≤ 12) (h3 : 3 ≤ l.length) (h12 : l.length ≤ 12) (hi : i ≤ 12) (hd : d ≤ 12) :
    Calls Try.prog 69 #[.slice A l.length c, .int .i64 (i : Int), .int .i64 ((i : Int) + (d : Int))] w fun e w' => e = .returned (.int .i64 (eN l i d)) ∧ w' = w := by
  have HL := Off.mk hl
  have HG := Off.mk hg
  have hlen := hl.len
  clear hl hg
  go_enter Try.func69, Try.ntmps69
  go_wp2
  go_loop [7, 8, 9] (fun pv nv cv => ∃ r : Nat, r ≤ d ∧ pv = .int .i64 (ePrev l i r) ∧ nv = .int .i64 (eN l i r) ∧ cv = .int .i64 ((i : Int) + (r : Int))) (fun _ _ cv => i + d - (intOf cv).toNat)
  case atStart => exact ⟨0, by omega, rfl, rfl, by go_num⟩
  case round =>
    obtain ⟨r, hr, rfl, rfl, rfl⟩ := hrel
    by_cases hrd : r < d
    · have hlt : (i : Int) + (r : Int) < (i : Int) + (d : Int) := by omega
      obtain ⟨k, hk⟩ : ∃ k, k = (i + r) % l.length := ⟨_, rfl⟩
      have hkl : k < l.length := by rw [hk]; exact Nat.mod_lt _ (by omega)
      obtain ⟨ad, rfl, x0⟩ := HL.out.cell k hkl
      have HN : Off (eN l i (r + 1) = l.getD k 0 * eN l i r - ePrev l i r) := ⟨by rw [hk]; exact eN_next l i r⟩
      have HP : Off (ePrev l i (r + 1) = eN l i r) := ⟨rfl⟩
      have hx := HG.out k hkl
      have b1 := eN_range HG.out (by omega) i (r := r) (by omega)
      have b2 := ePrev_range HG.out (by omega) i (r := r) (by omega)
      have t1 : ((i : Int) + (r : Int)) % (l.length : Int) = (k : Int) := by
        rw [hk, show (i : Int) + (r : Int) = ((i + r : Nat) : Int) by omega]
        exact (Int.natCast_emod _ _).symm
      have t2 : ((i : Int) + (r : Int)).tmod (l.length : Int) = (k : Int) := by rw [Int.tmod_eq_emod_of_nonneg (by omega)]; exact t1
      obtain ⟨x, hxe⟩ : ∃ x, x = l.getD k 0 := ⟨_, rfl⟩
      obtain ⟨y, hye⟩ : ∃ y, y = eN l i r := ⟨_, rfl⟩
      obtain ⟨z, hze⟩ : ∃ z, z = ePrev l i r := ⟨_, rfl⟩
      rw [← hxe] at x0 hx HN
      rw [← hye] at b1 HN HP ⊢
      rw [← hze] at b2 HN ⊢
      have hm := mul_bound hx b1
      have w1 : IntKind.i64.wrap (x * y) = x * y := by rw [IntKind.wrap_i64]; omega
      have w2 : IntKind.i64.wrap (x * y - z) = x * y - z := by rw [IntKind.wrap_i64]; omega
      have hl0 : ¬ l.length = 0 := by omega
      have k0 : (0 : Int) ≤ (k : Int) := by omega
      have k1 : (k : Int) < (l.length : Int) := by omega
      clear hk hxe hye hze hm
      go_wp2
      go_round
      case rel => exact ⟨r + 1, by omega, by rw [HP.out], by rw [HN.out], by go_num⟩
      case measure => simp only [intOf]; omega
    · obtain rfl : r = d := by omega
      go_wp2
      go_ret
      exact ⟨rfl, rfl⟩
set_option maxHeartbeats 2000000 in
theorem risRound_any (l : List Int) (A : Option Addr) (c : Nat) (v : Bool) (hv : roundB l = v) (w : World) (hl : IntsAt w A l) :
    Calls Try.prog 35 #[.slice A l.length c] w fun e w' => e = .returned (.bool v) ∧ w' = w := by
  have HL := Off.mk hl
  have hlen := hl.len
  have HV := Off.mk hv
  clear hl hv
  go_enter Try.func35, Try.ntmps35
  go_wp2
  go_loop [3] (fun iv => ∃ i : Nat, i ≤ l.length ∧ iv = .int .i64 i ∧ Off (∀ j, j < i → 1 ≤ l.getD j 0 ∧ l.getD j 0 ≤ 12)) (fun iv => l.length - (intOf iv).toNat)
  case atStart => exact ⟨0, by omega, rfl, ⟨fun j hj => by omega⟩⟩
  case round =>
    obtain ⟨i, hi, rfl, HE⟩ := hrel
    by_cases hil : i < l.length
    · obtain ⟨ad, rfl, x0⟩ := HL.out.cell i hil
      have HN : Off ((1 ≤ l.getD i 0 ∧ l.getD i 0 ≤ 12) → ∀ j, j < i + 1 → 1 ≤ l.getD j 0 ∧ l.getD j 0 ≤ 12) := ⟨fun h j hj => by
        by_cases e : j = i
        · rw [e]; exact h
        · exact HE.out j (by omega)⟩
      have HF : Off (¬ (1 ≤ l.getD i 0 ∧ l.getD i 0 ≤ 12) → false = v) := ⟨fun h => by
        rw [← HV.out]
        symm
        rw [Bool.eq_false_iff, ne_eq, roundB_iff]
        exact fun e => h (e.2 i hil)⟩
      obtain ⟨x, hx⟩ : ∃ x, x = l.getD i 0 := ⟨_, rfl⟩
      rw [← hx] at x0 HN HF
      clear hx HE
      by_cases h1 : x < 1
      · have HO := Off.mk (HF.out (by omega))
        clear HN HF
        go_wp2
        go_ret
        exact ⟨ret_bool HO.out, rfl⟩
      · by_cases h2 : 12 < x
        · have HO := Off.mk (HF.out (by omega))
          clear HN HF
          go_wp2
          go_ret
          exact ⟨ret_bool HO.out, rfl⟩
        · have HO := Off.mk (HN.out (by omega))
          clear HN HF
          go_wp2
          go_round
          case rel => exact ⟨i + 1, by omega, by go_num, HO⟩
          case measure => simp only [intOf]; omega
    · obtain rfl : i = l.length := by omega
      by_cases h3 : 3 ≤ l.length
      · by_cases h12 : l.length ≤ 12
        · have HO : Off (true = v) := ⟨by rw [← HV.out]; symm; rw [roundB_iff]; exact ⟨⟨h3, h12⟩, HE.out⟩⟩
          go_wp2
          go_ret
          exact ⟨ret_bool (by rw [← HO.out]; simp; omega), rfl⟩
        · have HO : Off (false = v) := ⟨by rw [← HV.out]; symm; rw [Bool.eq_false_iff, ne_eq, roundB_iff]; exact fun e => h12 e.1.2⟩
          go_wp2
          go_ret
          exact ⟨ret_bool (by rw [← HO.out]; simp; omega), rfl⟩
      · have HO : Off (false = v) := ⟨by rw [← HV.out]; symm; rw [Bool.eq_false_iff, ne_eq, roundB_iff]; exact fun e => h3 e.1.1⟩
        go_wp2
        go_ret
        exact ⟨ret_bool (by rw [← HO.out]), rfl⟩
theorem rbetween_no (l : List Int) (A : Option Addr) (c : Nat) (i k : Int) (h : ¬ (roundB l = true ∧ 0 ≤ i ∧ i < l.length ∧ i ≤ k ∧ k ≤ i + l.length)) (w : World) (hl : IntsAt w A l) :
    Calls Try.prog 38 #[.slice A l.length c, .int .i64 i, .int .i64 k] w fun e w' => e = .returned (.tuple #[.int .i64 0, .int .i64 2]) ∧ w' = w := by
  have CR := Off.mk (fun v hv => risRound_any l A c v hv w hl)
  have hlen := hl.len
  by_cases hb : roundB l = true
  · have h12 := (roundB_iff.1 hb).1.2
    have CR' := Off.mk (CR.out _ hb)
    clear CR hl
    by_cases h0 : i < 0
    · clear h hb
      go_enter Try.func38, Try.ntmps38
      go_wp2_with (go_at_call 35; refine CR'.out.mono ?_; rintro e w1 ⟨rfl, hw⟩; subst w1)
      go_ret2
      exact ⟨rfl, rfl⟩
    · by_cases h1 : (l.length : Int) ≤ i
      · clear h hb
        go_enter Try.func38, Try.ntmps38
        go_wp2_with (go_at_call 35; refine CR'.out.mono ?_; rintro e w1 ⟨rfl, hw⟩; subst w1)
        go_ret2
        exact ⟨rfl, rfl⟩
      · by_cases h2 : k < i
        · clear h hb
          go_enter Try.func38, Try.ntmps38
          go_wp2_with (go_at_call 35; refine CR'.out.mono ?_; rintro e w1 ⟨rfl, hw⟩; subst w1)
          go_ret2
          exact ⟨rfl, rfl⟩
        · have h3 : i + l.length < k := by
            by_cases e : k ≤ i + l.length
            · exact (h ⟨hb, by omega, by omega, by omega, e⟩).elim
            · omega
          have hw : IntKind.i64.wrap (i + (l.length : Int)) = i + (l.length : Int) := by rw [IntKind.wrap_i64]; omega
          clear h hb
          go_enter Try.func38, Try.ntmps38
          go_wp2_with (go_at_call 35; refine CR'.out.mono ?_; rintro e w1 ⟨rfl, hw⟩; subst w1)
          go_ret2
          exact ⟨rfl, rfl⟩
  · have CR' := Off.mk (CR.out _ (by simpa using hb))
    clear CR hl h hb
    go_enter Try.func38, Try.ntmps38
    go_wp2_with (go_at_call 35; refine CR'.out.mono ?_; rintro e w1 ⟨rfl, hw⟩; subst w1)
    go_ret2
    exact ⟨rfl, rfl⟩
theorem rbetween_yes (l : List Int) (A : Option Addr) (c i d : Nat) (hb : roundB l = true) (hi : i < l.length) (hd : d ≤ l.length) (w : World) (hl : IntsAt w A l) :
    Calls Try.prog 38 #[.slice A l.length c, .int .i64 (i : Int), .int .i64 ((i : Int) + (d : Int))] w fun e w' => e = .returned (.tuple #[.int .i64 (eN l i d), .int .i64 0]) ∧ w' = w := by
  obtain ⟨⟨h3, h12⟩, hg⟩ := roundB_iff.1 hb
  have CR := Off.mk (risRound_any l A c true hb w hl)
  have CE := Off.mk (e_any l A c i d w hl hg h3 h12 (by omega) (by omega))
  have hiI : (i : Int) < (l.length : Int) := by omega
  have h1 : ¬ ((i : Int) + (d : Int) < (i : Int)) := by omega
  have h2 : ¬ ((i : Int) + (l.length : Int) < (i : Int) + (d : Int)) := by omega
  obtain ⟨x, hx⟩ : ∃ x, x = eN l i d := ⟨_, rfl⟩
  rw [← hx] at CE ⊢
  clear hb hl hg hx
  go_enter Try.func38, Try.ntmps38
  go_wp2_with (first
    | (go_at_call 35; refine CR.out.mono ?_; rintro e w1 ⟨rfl, hw⟩; subst w1)
    | (go_at_call 69; refine CE.out.mono ?_; rintro e w1 ⟨rfl, hw⟩; subst w1))
  go_ret2
  exact ⟨rfl, rfl⟩
end Go.Proofs.Ytddcdopimpfhcaa
