/- Contracts: Word of the specification. -/
import Derived.Test.YtnhbkopgbibcgaaGk
import Derived.Test.YtnhbkopgbibcgaaHb
namespace Go.Proofs.Ytnhbkopgbibcgaa
open Go.RowKit Go.Shelf

theorem str_snoc (xs : List UInt8) (c : UInt8) : (ByteArray.mk xs.toArray ++ ByteArray.mk #[c]) = ByteArray.mk (xs ++ [c]).toArray := by
  apply ByteArray.ext
  rw [ByteArray.data_append]
  simp
/-- What Word hands back. -/
def WordPost (a b : Int) (l : List Int) (w : World) (e : Ending) (w' : World) : Prop :=
  e = .returned (.tuple #[.string ⟨(if askedB a b l then wordP b.toNat l else []).toArray⟩, .int .i64 (if askedB a b l then 0 else 2)]) ∧ Below w.heap.size w w'
theorem Word_any (a b : Int) (l : List Int) (A : Option Addr) (c : Nat) (w : World) (hl : IntsAt w A l) (hlc : l.length ≤ c) (hA : A = none → c = 0) :
    Calls Try.prog 21 #[.int .i64 a, .int .i64 b, .slice A l.length c] w fun e w' => WordPost a b l w e w' := by
  cases hk : askedB a b l
  · refine (Word_no a b l A c w hl hlc hA hk).mono ?_
    rintro e w' ⟨rfl, hb⟩
    exact ⟨by rw [hk]; rfl, hb⟩
  · refine (Word_yes a b l A c w hl hlc hA hk).mono ?_
    rintro e w' ⟨rfl, hb⟩
    exact ⟨by rw [hk]; rfl, hb⟩
def rs (t : Nat) : List UInt8 := List.replicate t 114
theorem rs_succ (t : Nat) : rs (t + 1) = rs t ++ [114] := List.replicate_succ'
theorem rs_length (t : Nat) : (rs t).length = t := List.length_replicate

set_option maxHeartbeats 4000000 in
set_option maxRecDepth 100000 in
theorem rWord_any (a b : Int) (l : List Int) (A : Option Addr) (c : Nat) (w : World) (hl : IntsAt w A l) :
    Calls Try.prog 42 #[.int .i64 a, .int .i64 b, .slice A l.length c] w fun e w' => WordPost a b l w e w' := by
  cases hk : askedB a b l
  · have CA := Off.mk (asked_any a b l A c false hk w hl)
    have HK := Off.mk hk
    clear hk
    go_enter Try.func42, Try.ntmps42
    go_wp2_with (go_at_call 58; refine CA.out.mono ?_; rintro e w1 ⟨rfl, hb⟩; simp only [askedErr])
    go_ret2
    exact ⟨by rw [HK.out]; rfl, hb⟩
  · have CA := Off.mk (asked_any a b l A c true hk w hl)
    have HK := Off.mk hk
    obtain ⟨n, m, rfl, rfl, hn, hn1, hn6, hm1, hm6, hs⟩ := asked_nat hk
    obtain ⟨ad, rfl, _⟩ := hl.cell 0 (by omega)
    have HRange : Off (∀ k, k ≤ l.length → 0 ≤ haveAt l k ∧ haveAt l k ≤ m) := ⟨fun k hk => have_range hs (by omega) k hk⟩
    have HStep : Off (∀ k, k < l.length → haveAt l k ≤ l.getD (l.length - 1 - k) 0) := ⟨fun k hk => have_step hs k hk⟩
    have HTl : Off (∀ k, k ≤ l.length → ((textAt l k).length : Int) = k + haveAt l k) := ⟨fun k hk => textAt_len hs k hk⟩
    have HS : Off (∀ i, i < l.length → 0 ≤ l.getD i 0 ∧ l.getD i 0 ≤ m) := ⟨fun i hi => state_range hs hi⟩
    have HL := Off.mk hl
    have HN := Off.mk hn
    have HW : Off (wordP m l = textAt l l.length ++ rs ((m : Int) - haveAt l l.length).toNat) := ⟨rfl⟩
    have HX : Off (∀ k, textAt l (k + 1) = (textAt l k ++ rs (l.getD (l.length - 1 - k) 0 - haveAt l k).toNat) ++ [117]) := ⟨fun k => by rw [textAt, List.append_assoc]; rfl⟩
    have HV : Off (∀ k, haveAt l (k + 1) = l.getD (l.length - 1 - k) 0) := ⟨fun k => rfl⟩
    rw [hn] at CA HRange HStep HTl HS HW HX HV ⊢
    clear hk hs hl hn
    go_enter Try.func42, Try.ntmps42
    go_wp2_with fail
    refine CA.out.mono ?_
    rintro e w1 ⟨rfl, hb⟩
    simp only [askedErr]
    have x0 : Value.string ⟨(textAt l 0).toArray⟩ = .string ⟨#[]⟩ := rfl
    have x1 : Value.int .i64 (haveAt l 0) = .int .i64 0 := rfl
    have X0 := Off.mk x0
    have X1 := Off.mk x1
    have hI := HL.out.below hb
    clear CA x0 x1
    go_wp2
    go_loop [9, 10, 11] (fun t mv iv => ∃ k : Nat, k ≤ n ∧ iv = .int .i64 ((n : Int) - 1 - k) ∧ t = .string ⟨(textAt l k).toArray⟩ ∧ mv = .int .i64 (haveAt l k)) (fun _ _ iv => (intOf iv + 1).toNat)
    case atStart => exact ⟨0, by omega, by go_num, by rw [X0.out], by rw [X1.out]⟩
    case round =>
      obtain ⟨k, hk, rfl, rfl, rfl⟩ := hrel
      have h1 := HRange.out k hk
      have h3 := HTl.out k hk
      by_cases hkn : k < n
      · have h2 := HStep.out k hkn
        have h4 := HS.out (n - 1 - k) (by have := HN.out; omega)
        have HXk := Off.mk (HX.out k)
        have HVk := Off.mk (HV.out k)
        obtain ⟨ad', e, hc⟩ := hI.cell (n - 1 - k) (by have := HN.out; omega)
        cases e
        have HI : Off ((n : Int) - 1 - (k + 1 : Nat) = (n : Int) - 1 - k - 1) := ⟨by omega⟩
        obtain ⟨i, hi⟩ : ∃ i : Nat, i = n - 1 - k := ⟨_, rfl⟩
        have hi' : (n : Int) - 1 - k = (i : Int) := by omega
        rw [hi'] at HI ⊢
        rw [← hi] at h2 h4 hc HXk HVk
        obtain ⟨x, hx⟩ : ∃ x, x = l.getD i 0 := ⟨_, rfl⟩
        obtain ⟨y, hy⟩ : ∃ y, y = haveAt l k := ⟨_, rfl⟩
        obtain ⟨tx, htx⟩ : ∃ tx, tx = textAt l k := ⟨_, rfl⟩
        rw [← hx] at h2 h4 hc HXk HVk
        rw [← hy] at h1 h2 h3 HXk ⊢
        rw [← htx] at h3 HXk ⊢
        have hil : (i : Int) < (n : Int) := by omega
        have hi0 : (0 : Int) ≤ (i : Int) := by omega
        have hlast : Off (i < l.length) := ⟨by have := HN.out; omega⟩
        have hxy : tx.length ≤ 12 := by omega
        have T0 : Off (tx ++ rs 0 = tx) := ⟨by simp [rs]⟩
        clear hi hi' hx hy htx
        go_wp2_with fail
        go_loop [9, 10] (fun t mv => ∃ q : Nat, y + q ≤ x ∧ t = .string ⟨(tx ++ rs q).toArray⟩ ∧ mv = .int .i64 (y + q)) (fun _ mv => (x - intOf mv).toNat)
        case atStart => exact ⟨0, by omega, by rw [T0.out], by go_num⟩
        case round =>
          obtain ⟨q, hq, rfl, rfl⟩ := hrel
          by_cases hqx : y + q < x
          · have T1 : Off (tx ++ rs (q + 1) = (tx ++ rs q) ++ [114]) := ⟨by rw [rs_succ, List.append_assoc]⟩
            have hlen : (tx ++ rs q).length ≤ 100 := by rw [List.length_append, rs_length]; omega
            obtain ⟨ty, hty⟩ : ∃ ty, ty = tx ++ rs q := ⟨_, rfl⟩
            rw [← hty] at T1 hlen ⊢
            have hbig : ¬ (9223372036854775807 < ty.length + 1) := by omega
            have S1 := Off.mk (str_snoc ty 114)
            clear hty
            go_wp2
            rw [S1.out]
            go_round
            case rel => exact ⟨q + 1, by omega, by rw [T1.out], by go_num⟩
            case measure => simp only [intOf]; omega
          · have hq' : y + q = x := by omega
            have Q1 : Off (q = (x - y).toNat) := ⟨by omega⟩
            have hlen : (tx ++ rs q).length ≤ 100 := by rw [List.length_append, rs_length]; omega
            obtain ⟨ty, hty⟩ : ∃ ty, ty = tx ++ rs q := ⟨_, rfl⟩
            have T2 : Off (textAt l (k + 1) = ty ++ [117]) := ⟨by rw [hty, Q1.out]; exact HXk.out⟩
            rw [← hty] at hlen ⊢
            have hbig : ¬ (9223372036854775807 < ty.length + 1) := by omega
            have S1 := Off.mk (str_snoc ty 117)
            rw [hq']
            clear hty hq'
            go_wp2
            rw [S1.out]
            go_round
            case rel => exact ⟨k + 1, by omega, by rw [HI.out], by rw [T2.out], by rw [HVk.out]⟩
            case measure => simp only [intOf]; omega
      · obtain rfl : k = n := by omega
        obtain ⟨y, hy⟩ : ∃ y, y = haveAt l k := ⟨_, rfl⟩
        obtain ⟨tx, htx⟩ : ∃ tx, tx = textAt l k := ⟨_, rfl⟩
        rw [← hy] at h1 h3 HW ⊢
        rw [← htx] at h3 HW ⊢
        have hxy : tx.length ≤ 12 := by omega
        have T0 : Off (tx ++ rs 0 = tx) := ⟨by simp [rs]⟩
        have hm1' : ((k : Int) - 1 - k) = -1 := by omega
        rw [hm1']
        clear hy htx hm1'
        go_wp2_with fail
        go_loop [9, 10] (fun t mv => ∃ q : Nat, y + q ≤ m ∧ t = .string ⟨(tx ++ rs q).toArray⟩ ∧ mv = .int .i64 (y + q)) (fun _ mv => (m - intOf mv).toNat)
        case atStart => exact ⟨0, by omega, by rw [T0.out], by go_num⟩
        case round =>
          obtain ⟨q, hq, rfl, rfl⟩ := hrel
          by_cases hqx : y + q < m
          · have T1 : Off (tx ++ rs (q + 1) = (tx ++ rs q) ++ [114]) := ⟨by rw [rs_succ, List.append_assoc]⟩
            have hlen : (tx ++ rs q).length ≤ 100 := by rw [List.length_append, rs_length]; omega
            obtain ⟨ty, hty⟩ : ∃ ty, ty = tx ++ rs q := ⟨_, rfl⟩
            rw [← hty] at T1 hlen ⊢
            have hbig : ¬ (9223372036854775807 < ty.length + 1) := by omega
            have S1 := Off.mk (str_snoc ty 114)
            clear hty
            go_wp2
            rw [S1.out]
            go_round
            case rel => exact ⟨q + 1, by omega, by rw [T1.out], by go_num⟩
            case measure => simp only [intOf]; omega
          · have Q1 : Off (q = ((m : Int) - y).toNat) := ⟨by omega⟩
            have T2 : Off (wordP m l = tx ++ rs q) := ⟨by rw [Q1.out]; exact HW.out⟩
            go_wp2
            go_ret2
            exact ⟨by rw [HK.out, if_pos rfl, Int.toNat_natCast, T2.out]; rfl, hb⟩
end Go.Proofs.Ytnhbkopgbibcgaa
