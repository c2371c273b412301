/- Contracts: the sweep's closure, moved, Day, Back, Sweep. -/
import Derived.Test.YtnhbkopgbibcgaaGg
namespace Go.Proofs.Ytnhbkopgbibcgaa
open Go.RowKit Go.Shelf

/-- The plots of the first i rows with j - i = d are turned. -/
def swRow (b d : Int) : Nat → List Int → List Int
  | 0, l => l
  | i + 1, l => if 0 ≤ (i : Int) + d ∧ (i : Int) + d < b then turnS (swRow b d i l) i ((i : Int) + d) else swRow b d i l
/-- k lines of plots are turned. -/
def sweepTo (b : Int) (n : Nat) (l : List Int) : Nat → List Int
  | 0 => l
  | k + 1 => swRow b (1 - (n : Int) + k) n (sweepTo b n l k)
/-- The state after a sweep. -/
def sweepP (b : Nat) (l : List Int) : List Int := sweepTo b l.length l (l.length + b - 1)
theorem swRow_length (b d : Int) (i : Nat) (l : List Int) : (swRow b d i l).length = l.length := by
  induction i with
  | zero => rfl
  | succ i ih => rw [swRow]; split <;> simp [turnS_length, ih]
theorem sweepTo_length (b : Int) (n : Nat) (l : List Int) (k : Nat) : (sweepTo b n l k).length = l.length := by
  induction k with
  | zero => rfl
  | succ k ih => rw [sweepTo, swRow_length, ih]
theorem swRow_state {a b d : Int} {l : List Int} (h : stateB a b l = true) (i : Nat) (hi : i ≤ l.length) : stateB a b (swRow b d i l) = true := by
  induction i with
  | zero => exact h
  | succ i ih =>
    rw [swRow]
    split
    · rename_i hd
      exact turnS_state (ih (by omega)) i _ (by rw [swRow_length]; omega) hd.1 hd.2
    · exact ih (by omega)
theorem sweepTo_state {a b : Int} {n : Nat} {l : List Int} (h : stateB a b l = true) (hn : n = l.length) (k : Nat) : stateB a b (sweepTo b n l k) = true := by
  induction k with
  | zero => exact h
  | succ k ih => exact swRow_state ih _ (by rw [sweepTo_length]; omega)
theorem state_range {a b : Int} {l : List Int} (h : stateB a b l = true) {i : Nat} (hi : i < l.length) : 0 ≤ l.getD i 0 ∧ l.getD i 0 ≤ b := ((of_decide_eq_true h).2 i hi).1

set_option maxHeartbeats 4000000 in
set_option maxRecDepth 100000 in
theorem sweep1_any (l : List Int) (base r c n b : Nat) (w : World) (h : RowC w base r n c l) (hs : stateB n b l = true) (h1 : 1 ≤ n) (h6 : n ≤ 6) (hb1 : 1 ≤ b) (hb6 : b ≤ 6) :
    Calls Try.prog 72 #[.agg #[.int .i64 (n : Int), .int .i64 (b : Int)], .slice (some ⟨r, 0, none⟩) n c] w fun e w' => e = .returned (.slice (some ⟨r, 0, none⟩) n c) ∧ RowC w' base r n c (sweepP b l) ∧ Keeps r w w' := by
  have hlt := h.lt
  have hln := h.len
  have HS : Off (∀ k, stateB n b (sweepTo b n l k) = true) := ⟨fun k => sweepTo_state hs hln.symm k⟩
  obtain ⟨⟨c0, c1⟩, _, _⟩ := two_facts (block_new w (.cells #[.int .i64 (n : Int), .int .i64 (b : Int)] 62))
  have hR0 : Off (RowC (w.alloc (.cells #[.int .i64 (n : Int), .int .i64 (b : Int)] 62)) base r n c (sweepTo b n l 0)) := ⟨h.below ((Below.refl _ _).alloc (Nat.le_refl _) _)⟩
  have hK0 : Off (Keeps r w (w.alloc (.cells #[.int .i64 (n : Int), .int .i64 (b : Int)] 62))) := ⟨(Keeps.refl _ _).alloc _⟩
  have HLN := Off.mk hln
  have hne : w.heap.size ≠ r := by omega
  clear hs h hln
  go_enter Try.func72, Try.ntmps72
  go_wp2
  obtain ⟨w0, hw0⟩ : ∃ w0, w0 = w.alloc (.cells #[.int .i64 (n : Int), .int .i64 (b : Int)] 62) := ⟨_, rfl⟩
  rw [← hw0] at hR0 hK0 c0 c1 ⊢
  clear hw0
  go_loopw [5] (fun dv wr => ∃ k : Nat, k ≤ n + b - 1 ∧ dv = .int .i64 (1 - (n : Int) + k) ∧ Off (RowC wr base r n c (sweepTo b n l k)) ∧ Keeps r w0 wr) (fun dv _ => ((b : Int) - intOf dv).toNat)
  case atStart => exact ⟨0, by omega, by go_num, hR0, Keeps.refl _ _⟩
  case round =>
    obtain ⟨k, hk, rfl, hR, hK⟩ := hrel
    obtain ⟨wo, rfl⟩ : ∃ wo : World, wo = wr := ⟨_, rfl⟩
    have q0 := hK.cell c0 hne
    have q1 := hK.cell c1 hne
    by_cases hkl : k < n + b - 1
    · have HT : Off (sweepTo b n l (k + 1) = swRow b (1 - (n : Int) + k) n (sweepTo b n l k)) := ⟨rfl⟩
      have hst := HS.out k
      have hml : (sweepTo b n l k).length = n := by rw [sweepTo_length]; exact HLN.out
      obtain ⟨m, hm⟩ : ∃ m, m = sweepTo b n l k := ⟨_, rfl⟩
      rw [← hm] at hR HT hst hml
      have HST := Off.mk hst
      have HML := Off.mk hml
      have HD : Off (1 - (n : Int) + (k + 1 : Nat) = 1 - (n : Int) + k + 1) := ⟨by omega⟩
      obtain ⟨d, hd⟩ : ∃ d, d = 1 - (n : Int) + (k : Int) := ⟨_, rfl⟩
      rw [← hd] at HT HD ⊢
      have hd1 : -5 ≤ d := by omega
      have hd2 : d < b := by omega
      clear hm hst hml hd
      go_wp2
      have hR1 : Off (RowC wo base r n c (swRow b d 0 m)) := hR
      clear hR
      go_loopw [19] (fun iv wr => ∃ i : Nat, i ≤ n ∧ iv = .int .i64 i ∧ Off (RowC wr base r n c (swRow b d i m)) ∧ Keeps r w0 wr) (fun iv _ => n - (intOf iv).toNat)
      case atStart => exact ⟨0, by omega, rfl, hR1, hK⟩
      case round =>
        clear hK q0 q1 hR1
        obtain ⟨i, hi, rfl, hR, hK⟩ := hrel
        obtain ⟨wq, rfl⟩ : ∃ wo : World, wo = wr := ⟨_, rfl⟩
        have q0 := hK.cell c0 hne
        have q1 := hK.cell c1 hne
        have hrlt := hR.out.lt
        have hqs := hK.out.size
        have hw0q : w.heap.size < wq.heap.size := World.block_lt_of_cell? wq _ q0
        by_cases hin : i < n
        · have hi1 : (i : Int) < (n : Int) := by omega
          have hi0 : (0 : Int) ≤ (i : Int) := by omega
          have W1 : IntKind.i64.wrap ((i : Int) + d) = (i : Int) + d := by rw [IntKind.wrap_i64]; omega
          by_cases hh : 0 ≤ (i : Int) + d ∧ (i : Int) + d < b
          · have hv : hasB n b i ((i : Int) + d) = true := decide_eq_true ⟨⟨hi0, hi1⟩, hh⟩
            have HU : Off (swRow b d (i + 1) m = turnS (swRow b d i m) i ((i : Int) + d)) := ⟨by rw [swRow, if_pos hh]⟩
            have hsm : stateB n b (swRow b d i m) = true := swRow_state HST.out i (by rw [HML.out]; exact hi)
            have hlm : (swRow b d i m).length = n := by rw [swRow_length]; exact HML.out
            have CT : Off (∀ W, RowC W base r n c (swRow b d i m) → Calls Try.prog 65 #[.slice (some ⟨r, 0, none⟩) n c, .int .i64 (i : Int), .int .i64 ((i : Int) + d)] W fun e w' => e = .returned (.tuple #[]) ∧ RowC w' base r n c (turnS (swRow b d i m) i ((i : Int) + d)) ∧ Keeps r W w') := ⟨fun W hW => by
              have hr := state_range hsm (show i < (swRow b d i m).length by omega)
              have := turn_any (swRow b d i m) base r c i ((i : Int) + d) W (by rw [hlm]; exact hW) (by omega) hh.1 (by omega) (by omega) (by omega)
              rw [hlm] at this
              exact this⟩
            obtain ⟨h2, h3⟩ := hh
            clear hsm hlm
            have CH := Off.mk (has_any n b i ((i : Int) + d) true hv)
            clear hv
            go_wp2_with fail
            obtain ⟨⟨g0, g1⟩, _, _⟩ := two_facts (block_new wq (.cells #[.int .i64 (i : Int), .int .i64 ((i : Int) + d)] 43))
            have hRa := Off.mk (hR.out.below ((Below.refl _ _).alloc (Nat.le_refl _) (.cells #[.int .i64 (i : Int), .int .i64 ((i : Int) + d)] 43)))
            have hKa := hK.alloc (.cells #[.int .i64 (i : Int), .int .i64 ((i : Int) + d)] 43)
            refine (CH.out _).mono ?_
            rintro e w2 ⟨rfl, hb2⟩
            have g0 := cellB hb2 g0
            have g1 := cellB hb2 g1
            have hR2 := Off.mk (hRa.out.below hb2)
            have hK2 := Off.mk (hKa.trans (Keeps.of_below hb2))
            clear hKa hRa hR hK q0 q1
            go_wp2_with fail
            refine (CT.out _ hR2.out).mono ?_
            rintro e w3 ⟨rfl, hR3, hK3⟩
            have HR3 := Off.mk hR3
            clear hR3
            go_wp2
            go_roundw
            case rel => exact ⟨i + 1, by omega, by go_num, by rw [HU.out]; exact HR3, hK2.out.trans hK3⟩
            case measure => simp only [intOf]; omega
          · have hv : hasB n b i ((i : Int) + d) = false := decide_eq_false (fun e => hh e.2)
            have HU : Off (swRow b d (i + 1) m = swRow b d i m) := ⟨by rw [swRow, if_neg hh]⟩
            have CH := Off.mk (has_any n b i ((i : Int) + d) false hv)
            clear hv hh
            go_wp2_with fail
            have hRa := Off.mk (hR.out.below ((Below.refl _ _).alloc (Nat.le_refl _) (.cells #[.int .i64 (i : Int), .int .i64 ((i : Int) + d)] 43)))
            have hKa := hK.alloc (.cells #[.int .i64 (i : Int), .int .i64 ((i : Int) + d)] 43)
            refine (CH.out _).mono ?_
            rintro e w2 ⟨rfl, hb2⟩
            have hR2 := Off.mk (hRa.out.below hb2)
            have hK2 := Off.mk (hKa.trans (Keeps.of_below hb2))
            clear hKa hRa hR hK q0 q1
            go_wp2
            go_roundw
            case rel => exact ⟨i + 1, by omega, by go_num, by rw [HU.out]; exact hR2, hK2.out⟩
            case measure => simp only [intOf]; omega
        · obtain rfl : n = i := by omega
          go_wp2
          go_roundw
          case rel => exact ⟨k + 1, by omega, by rw [HD.out], by rw [HT.out]; exact hR, hK⟩
          case measure => simp only [intOf]; omega
    · obtain rfl : k = n + b - 1 := by omega
      have HF : Off (sweepP b l = sweepTo b n l (n + b - 1)) := ⟨by unfold sweepP; rw [HLN.out]⟩
      have hd : 1 - (n : Int) + ((n + b - 1 : Nat) : Int) = b := by omega
      rw [hd]
      have HR := hR
      clear hR hd
      go_wp2
      go_ret
      exact ⟨rfl, by rw [HF.out]; exact HR.out, hK0.out.trans hK⟩
end Go.Proofs.Ytnhbkopgbibcgaa
