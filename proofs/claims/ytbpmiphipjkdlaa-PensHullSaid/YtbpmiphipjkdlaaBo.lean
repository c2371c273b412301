/- Contracts of the specification: Convex, Area, Count, Where. -/
import Derived.Test.YtbpmiphipjkdlaaBn
namespace Go.Proofs.Ytbpmiphipjkdlaa
open Go.RowKit Go.Shelf

theorem turnAt_crs {xs : PtL} (i : Nat) (h : i < xs.length) : turnAt xs i = (Pk.crs (Pk.dv (postAt xs) i) (Pk.dv (postAt xs) (i + 1))).sign := by
  unfold turnAt
  rw [side_post' xs i h, signI_sign]
  rfl
theorem hitTo_iff (xs : PtL) (s : Int) : ∀ k, hitTo xs s k = true ↔ ∃ i, i < k ∧ turnAt xs i = s
  | 0 => by simp [hitTo]
  | k + 1 => by
    rw [hitTo, Bool.or_eq_true, hitTo_iff xs s k, decide_eq_true_eq]
    constructor
    · rintro (⟨i, h1, h2⟩ | h)
      · exact ⟨i, by omega, h2⟩
      · exact ⟨k, by omega, h⟩
    · rintro ⟨i, h1, h2⟩
      by_cases e : i = k
      · subst e; exact .inr h2
      · exact .inl ⟨i, by omega, h2⟩
theorem some_turn {xs : PtL} (h : readP xs = true) : hitTo xs 1 xs.length = true ∨ hitTo xs (-1) xs.length = true := by
  have hp := pen_of h
  rw [hitTo_iff, hitTo_iff]
  apply Classical.byContradiction
  intro hn
  rw [not_or] at hn
  have hz : ∀ i, i < xs.length → Pk.tau (postAt xs) i = 0 := fun i hi => by
    unfold Pk.tau
    apply Pk.W_par
    have h1 : turnAt xs i ≠ 1 := fun e => hn.1 ⟨i, hi, e⟩
    have h2 : turnAt xs i ≠ -1 := fun e => hn.2 ⟨i, hi, e⟩
    rw [turnAt_crs i hi] at h1 h2
    rcases Pk.sign_cases (Pk.crs (Pk.dv (postAt xs) i) (Pk.dv (postAt xs) (i + 1))) with ⟨e, _⟩ | ⟨_, e⟩ | ⟨e, _⟩
    · exact absurd e h1
    · exact e
    · exact absurd e h2
  have ht := Pk.taus_all hp
  rw [Pk.taus_nsum, Pk.nsum_none _ hz] at ht
  rcases Pk.rho_two hp with e | e <;> omega
theorem convex_eq {xs : PtL} (h : readP xs = true) : convexP xs false = convexR xs := by
  unfold convexP convexR
  rw [hitT_to, hitT_to]
  rcases some_turn h with e | e <;> rw [e] <;> simp
theorem ConvexR_any (xs : PtL) (A : Option Addr) (c : Nat) (w : World) (hx : PairsI w A xs) :
    Calls Try.prog 33 #[.slice A xs.length c] w fun e w' => e = .returned (if readP xs = true then .tuple #[.bool (convexP xs false), .int .i64 0] else .tuple #[.bool false, .int .i64 2]) ∧ Below w.heap.size w w' := by
  cases hv : readP xs with
  | false =>
    have CR := Off.mk (isPenR_read xs A c w false hv hx)
    clear hx
    rw [if_neg (by simp)]
    go_enter Try.func33, Try.ntmps33
    go_wp2_with fail
    refine CR.out.mono ?_
    rintro e w1 ⟨rfl, hb1⟩
    go_wp2
    refine bodyPost_ret (v := .tuple #[.bool false, .int .i64 2]) (by simp [results, Try.results33, go_sem]) rfl ⟨rfl, hb1⟩
  | true =>
    have CR := Off.mk (isPenR_read xs A c w true hv hx)
    obtain ⟨hn, h3, h10⟩ := near_all hv
    have CC : Off (∀ W, Below w.heap.size w W → Calls Try.prog 60 #[.slice A xs.length c] W fun e w' => e = .returned (.bool (convexP xs false)) ∧ Below W.heap.size W w') := ⟨fun W hb => by rw [convex_eq hv]; exact convexR_any xs A c W (by omega) hn (hx.below hb)⟩
    clear hx
    rw [if_pos rfl]
    clear hv hn
    go_enter Try.func33, Try.ntmps33
    go_wp2_with fail
    refine CR.out.mono ?_
    rintro e w1 ⟨rfl, hb1⟩
    go_wp2_with fail
    refine (CC.out _ hb1).mono ?_
    rintro e w2 ⟨rfl, hb2⟩
    go_wp2
    refine bodyPost_ret (v := .tuple #[.bool (convexP xs false), .int .i64 0]) (by simp [results, Try.results33, go_sem]) rfl ⟨rfl, belowC hb1 hb2⟩
theorem AreaR_any (xs : PtL) (A : Option Addr) (c : Nat) (w : World) (hx : PairsI w A xs) :
    Calls Try.prog 32 #[.slice A xs.length c] w fun e w' => e = .returned (if readP xs = true then .tuple #[.int .i64 ((twiceP xs).natAbs : Nat), .int .i64 0] else .tuple #[.int .i64 0, .int .i64 2]) ∧ Below w.heap.size w w' := by
  cases hv : readP xs with
  | false =>
    have CR := Off.mk (isPenR_read xs A c w false hv hx)
    clear hx
    rw [if_neg (by simp)]
    go_enter Try.func32, Try.ntmps32
    go_wp2_with fail
    refine CR.out.mono ?_
    rintro e w1 ⟨rfl, hb1⟩
    go_wp2
    refine bodyPost_ret (v := .tuple #[.int .i64 0, .int .i64 2]) (by simp [results, Try.results32, go_sem]) rfl ⟨rfl, hb1⟩
  | true =>
    have CR := Off.mk (isPenR_read xs A c w true hv hx)
    have CS := Off.mk (fun W (hb : Below w.heap.size w W) => signed_read xs A c W hv (hx.below hb))
    obtain ⟨hn, h3, h10⟩ := near_all hv
    have hb1 := twiceP_in hn (by omega)
    clear hx hv hn
    rw [if_pos rfl]
    obtain ⟨a, ha⟩ : ∃ a, a = twiceP xs := ⟨_, rfl⟩
    rw [← ha] at CS hb1 ⊢
    clear ha
    have W0 : IntKind.i64.wrap (-a) = -a := by rw [IntKind.wrap_i64]; omega
    obtain ⟨p, hp⟩ : ∃ p : Int, p = (a.natAbs : Nat) := ⟨_, rfl⟩
    have hmx : max a (-a) = p := by omega
    rw [← hp]
    clear hp hb1
    go_enter Try.func32, Try.ntmps32
    go_wp2_with fail
    refine CR.out.mono ?_
    rintro e w1 ⟨rfl, hw1⟩
    go_wp2_with fail
    refine (CS.out _ hw1).mono ?_
    rintro e w2 ⟨rfl, hw2⟩
    have hw2 := belowC hw1 hw2
    go_wp2_with fail
    refine (CS.out _ hw2).mono ?_
    rintro e w3 ⟨rfl, hw3⟩
    have hw3 := belowC hw2 hw3
    clear hw1 hw2
    go_wp2
    refine bodyPost_ret (v := .tuple #[.int .i64 p, .int .i64 0]) (by simp [results, Try.results32, go_sem]) rfl ⟨rfl, hw3⟩
theorem place_read (xs : PtL) (A : Option Addr) (c : Nat) (z : Int × Int) (w : World) (hv : readP xs = true) (hz : inB 2097152 z) (hx : PairsI w A xs) :
    Calls Try.prog 59 #[.slice A xs.length c, ptV z] w fun e w' => e = .returned (.int .i64 (whereP xs z)) ∧ Below w.heap.size w w' := by
  obtain ⟨hn, h3, h10⟩ := near_all hv
  exact place_any xs A c z w (by omega) (fun i => inB_mono (hn i) (by decide)) hz (fun i hi => ((rowR_iff xs i).1 (((readP_iff xs).1 hv).row i hi)).2) hx
/-- Points inside, column by column. -/
def insZ (xs : PtL) (z : Int × Int) : Int := if whereP xs z = 1 then 1 else 0
def colTo (xs : PtL) (x : Int) (j : Nat) : Int := Pk.isum (fun y => insZ xs (x, y)) (-50) j
def colsTo (xs : PtL) (i : Nat) : Int := Pk.isum (fun x => colTo xs x 101) (-50) i
theorem cols_all (xs : PtL) : colsTo xs 101 = insideP xs := (Pk.isum_swap (fun x y => insZ xs (x, y)) (-50) (-50) 101 101).trans rfl
theorem isum_in {f : Int → Int} {b : Nat} (h : ∀ x, 0 ≤ f x ∧ f x ≤ b) (lo : Int) : ∀ k : Nat, 0 ≤ Pk.isum f lo k ∧ Pk.isum f lo k ≤ (k * b : Nat)
  | 0 => by simp [Pk.isum]
  | k + 1 => by
    have h1 := isum_in h lo k
    have h2 := h (lo + k)
    rw [Pk.isum, Nat.add_mul]
    omega
theorem insZ_in (xs : PtL) (z : Int × Int) : 0 ≤ insZ xs z ∧ insZ xs z ≤ ((1 : Nat) : Int) := by unfold insZ; split <;> omega
theorem col_in (xs : PtL) (x : Int) (j : Nat) : 0 ≤ colTo xs x j ∧ colTo xs x j ≤ (j * 1 : Nat) := isum_in (fun y => insZ_in xs (x, y)) (-50) j
theorem cols_in (xs : PtL) (i : Nat) : 0 ≤ colsTo xs i ∧ colsTo xs i ≤ (i * 101 : Nat) := isum_in (b := 101) (fun x => col_in xs x 101) (-50) i
set_option maxHeartbeats 2000000 in
theorem CountR_any (xs : PtL) (A : Option Addr) (c : Nat) (w : World) (hx : PairsI w A xs) :
    Calls Try.prog 29 #[.slice A xs.length c] w fun e w' => e = .returned (if readP xs = true then .tuple #[.int .i64 (borderP xs), .int .i64 (insG xs 1), .int .i64 0] else .tuple #[.int .i64 0, .int .i64 0, .int .i64 2]) ∧ Below w.heap.size w w' := by
  cases hv : readP xs with
  | false =>
    have CR := Off.mk (isPenR_read xs A c w false hv hx)
    clear hx
    rw [if_neg (by simp)]
    go_enter Try.func29, Try.ntmps29
    go_wp2_with fail
    refine CR.out.mono ?_
    rintro e w1 ⟨rfl, hb1⟩
    go_wp2
    refine bodyPost_ret (v := .tuple #[.int .i64 0, .int .i64 0, .int .i64 2]) (by simp [results, Try.results29, go_sem]) rfl ⟨rfl, hb1⟩
  | true =>
    have CR := Off.mk (isPenR_read xs A c w true hv hx)
    have CB := Off.mk (fun W (hb : Below w.heap.size w W) => border_read xs A c W hv (hx.below hb))
    have CP := Off.mk (fun W (hb : Below w.heap.size w W) z (hz : inB 2097152 z) => place_read xs A c z W hv hz (hx.below hb))
    rw [if_pos rfl, ins_inside hv]
    clear hx hv
    obtain ⟨b, hb⟩ : ∃ b, b = borderP xs := ⟨_, rfl⟩
    rw [← hb] at CB ⊢
    clear hb
    go_enter Try.func29, Try.ntmps29
    go_wp2_with fail
    refine CR.out.mono ?_
    rintro e w1 ⟨rfl, hw1⟩
    go_wp2_with fail
    go_loopw [5, 6] (fun tv xv wr => ∃ (t x : Int) (i : Nat), i ≤ 101 ∧ x = -50 + (i : Int) ∧ tv = .int .i64 t ∧ xv = .int .i64 x ∧ Off (t = colsTo xs i) ∧ Off (Below w.heap.size w wr)) (fun _ xv _ => (51 - intOf xv).toNat)
    case atStart => exact ⟨0, -50, 0, by omega, by omega, rfl, rfl, ⟨rfl⟩, ⟨hw1⟩⟩
    case round =>
      clear hw1
      obtain ⟨t, x, i, hi, hxi, rfl, rfl, HT, HB⟩ := hrel
      by_cases hi2 : i < 101
      · have hx50 : x ≤ 50 := by omega
        have htb := cols_in xs i
        rw [← HT.out] at htb
        have W1 : IntKind.i64.wrap (x + 1) = x + 1 := by rw [IntKind.wrap_i64]; omega
        have HX := Off.mk hxi
        clear hxi
        go_wp2_with fail
        go_loopw [5, 7] (fun tv yv wi => ∃ (s y : Int) (j : Nat), j ≤ 101 ∧ y = -50 + (j : Int) ∧ tv = .int .i64 s ∧ yv = .int .i64 y ∧ Off (s = t + colTo xs x j) ∧ Off (Below w.heap.size w wi)) (fun _ yv _ => (51 - intOf yv).toNat)
        case atStart => exact ⟨t, -50, 0, by omega, by omega, rfl, rfl, ⟨by unfold colTo; simp [Pk.isum]⟩, HB⟩
        case round =>
          clear HB
          obtain ⟨s, y, j, hj, hyj, rfl, rfl, HS, HB⟩ := hrel
          by_cases hj2 : j < 101
          · have hy50 : y ≤ 50 := by omega
            have hcb := col_in xs x j
            have hsb : 0 ≤ s ∧ s ≤ 20000 := by rw [HS.out]; omega
            have W2 : IntKind.i64.wrap (y + 1) = y + 1 := by rw [IntKind.wrap_i64]; omega
            have W3 : IntKind.i64.wrap (s + 1) = s + 1 := by rw [IntKind.wrap_i64]; omega
            have CZ := Off.mk (CP.out _ HB.out (x, y) (by have := HX.out; unfold inB; simp only; omega))
            obtain ⟨v, hv⟩ : ∃ v, v = whereP xs (x, y) := ⟨_, rfl⟩
            rw [← hv] at CZ
            have HN : Off (∀ r, r = (if v = 1 then 1 else 0) → s + r = t + colTo xs x (j + 1)) := ⟨fun r hr => by
              unfold colTo at *
              rw [Pk.isum, ← hyj, HS.out]
              unfold insZ
              rw [← hv, hr]
              omega⟩
            have HY := Off.mk hyj
            clear hv hcb hsb hyj HS
            by_cases hv1 : v = 1
            · have HNs := Off.mk (HN.out 1 (by rw [if_pos hv1]))
              subst hv1
              clear HN
              go_wp2_with fail
              refine CZ.out.mono ?_
              rintro e w2 ⟨rfl, hb2⟩
              have HB2 := Off.mk (belowC HB.out hb2)
              clear hb2
              go_wp2
              go_roundw
              case rel => exact ⟨s + 1, y + 1, j + 1, by omega, by have := HY.out; omega, rfl, rfl, HNs, HB2⟩
              case measure => simp only [intOf]; omega
            · have HNs := Off.mk (HN.out 0 (by rw [if_neg hv1]))
              have hbv : (v == 1) = false := by simpa using hv1
              clear HN hv1
              go_wp2_with fail
              refine CZ.out.mono ?_
              rintro e w2 ⟨rfl, hb2⟩
              have HB2 := Off.mk (belowC HB.out hb2)
              clear hb2
              go_wp2
              go_roundw
              case rel => exact ⟨s, y + 1, j + 1, by omega, by have := HY.out; omega, rfl, rfl, ⟨by have := HNs.out; omega⟩, HB2⟩
              case measure => simp only [intOf]; omega
          · have hy51 : ¬ y ≤ 50 := by omega
            have HSN : Off (s = colsTo xs (i + 1)) := ⟨by
              obtain rfl : j = 101 := by omega
              rw [HS.out, HT.out]
              unfold colsTo
              rw [Pk.isum, ← HX.out]⟩
            clear hyj
            go_wp2
            go_roundw
            case rel => exact ⟨s, x + 1, i + 1, by omega, by have := HX.out; omega, rfl, rfl, HSN, HB⟩
            case measure => simp only [intOf]; omega
      · have hx51 : ¬ x ≤ 50 := by omega
        have HR : Off (t = insideP xs) := ⟨by obtain rfl : i = 101 := by omega
                                              rw [HT.out, cols_all]⟩
        clear hxi
        go_wp2_with fail
        refine (CB.out _ HB.out).mono ?_
        rintro e w2 ⟨rfl, hb2⟩
        go_wp2
        refine bodyPost_ret (v := .tuple #[.int .i64 b, .int .i64 t, .int .i64 0]) (by simp [results, Try.results29, go_sem]) rfl ⟨by rw [HR.out], belowC HB.out hb2⟩
end Go.Proofs.Ytbpmiphipjkdlaa
