/- The law GrazeSweeps: its walk. -/
import Derived.Test.YtnhbkopgbibcgaaHr
import Derived.Test.YtnhbkopgbibcgaaHe
import Derived.Test.YtnhbkopgbibcgaaHk
import Derived.Test.YtnhbkopgbibcgaaHo
namespace Go.Proofs.Ytnhbkopgbibcgaa
open Go.RowKit Go.Shelf

theorem sweepP_length (b : Nat) (l : List Int) : (sweepP b l).length = l.length := sweepTo_length _ _ _ _
theorem ofP_length (n : Nat) (ws : List UInt8) : (ofP n ws).length = n := ofTo_length _ _ _
theorem of_gets {a b : Int} {ws : List UInt8} {w : World} {e : Ending} {w' : World} (h : OfPost a b ws w e w') : Gets (if ofErr a b ws = 0 then ofP a.toNat ws else []) (ofErr a b ws) w e w' := by
  obtain ⟨v, rfl, hO, hb⟩ := h
  have hl : (if ofErr a b ws = 0 then ofP a.toNat ws else []).length ≤ 100 := by
    split
    · rename_i hk
      rw [ofP_length]
      unfold ofErr at hk
      by_cases hf : fieldB a b = true
      · have := field_len hf; omega
      · rw [if_neg hf] at hk; omega
    · simp
  obtain ⟨A, c, rfl, hI, h2, h3⟩ := own_ints' hO (by omega)
  exact ⟨A, c, rfl, hI, h2, h3, hb⟩

set_option maxHeartbeats 4000000 in
set_option maxRecDepth 100000 in
theorem sweeps_walk (a b : Int) (l : List Int) (A : Option Addr) (c : Nat) (s : ByteArray) (w : World) (hI : l.length ≤ 140737488351232 → IntsAt w A l) (hlc : l.length ≤ c) (hA : A = none → c = 0) :
    Calls Try.prog 12 #[.int .i64 a, .int .i64 b, .slice A l.length c, .string s] w fun e w' => e = .returned (.bool true) ∧ Below w.heap.size w w' := by
  by_cases h20 : 20 < l.length
  · clear hI hA hlc
    go_enter Try.func12, Try.ntmps12
    go_wp2_with (go_at_call 17; refine (alive_any _).mono ?_; rintro e w2 ⟨rfl, hb2⟩)
    go_ret
    exact ⟨rfl, hb2⟩
  · by_cases h40 : 40 < s.size
    · clear hI hA hlc
      go_enter Try.func12, Try.ntmps12
      go_wp2_with (go_at_call 17; refine (alive_any _).mono ?_; rintro e w2 ⟨rfl, hb2⟩)
      go_ret
      exact ⟨rfl, hb2⟩
    · have hl := hI (by omega)
      have hs : s.size ≤ 40 := by omega
      have HD := Off.mk ((Sweep_any a b l A c w hl hlc hA).mono fun _ _ h => moved_gets (fun hk => by rw [sweepP_length]; have := asked_len hk; omega) h)
      have HrD : Off (∀ W, Below w.heap.size w W → Calls Try.prog 41 #[.int .i64 a, .int .i64 b, .slice A l.length c] W fun e w' => Gets (resOf a b l (sweepP b.toNat l)) (errOf a b l) W e w') := ⟨fun W hW =>
        (rSweep_any a b l A c W (hl.below hW) hlc hA).mono fun _ _ h => moved_gets (fun hk => by rw [sweepP_length]; have := asked_len hk; omega) h⟩
      have HWd : Off (∀ W, Below w.heap.size w W → Calls Try.prog 21 #[.int .i64 a, .int .i64 b, .slice A l.length c] W fun e w' => WordPost a b l W e w') := ⟨fun W hW => Word_any a b l A c W (hl.below hW) hlc hA⟩
      have HrW : Off (∀ W, Below w.heap.size w W → Calls Try.prog 42 #[.int .i64 a, .int .i64 b, .slice A l.length c] W fun e w' => WordPost a b l W e w') := ⟨fun W hW => rWord_any a b l A c W (hl.below hW)⟩
      have HO : Off (∀ W, Calls Try.prog 43 #[.int .i64 a, .int .i64 b, .string s] W fun e w' => Gets (if ofErr a b s.data.toList = 0 then ofP a.toNat s.data.toList else []) (ofErr a b s.data.toList) W e w') := ⟨fun W => (Of_any a b s W hs).mono fun _ _ h => of_gets h⟩
      have HrO : Off (∀ W, Calls Try.prog 44 #[.int .i64 a, .int .i64 b, .string s] W fun e w' => Gets (if ofErr a b s.data.toList = 0 then ofP a.toNat s.data.toList else []) (ofErr a b s.data.toList) W e w') := ⟨fun W => (rOf_any a b s W hs).mono fun _ _ h => of_gets h⟩
      unfold WordPost at HWd HrW
      obtain ⟨R1, hR1⟩ : ∃ R, R = resOf a b l (sweepP b.toNat l) := ⟨_, rfl⟩
      obtain ⟨R2, hR2⟩ : ∃ R, R = (if ofErr a b s.data.toList = 0 then ofP a.toNat s.data.toList else []) := ⟨_, rfl⟩
      obtain ⟨z, hz⟩ : ∃ z, z = errOf a b l := ⟨_, rfl⟩
      obtain ⟨y, hy⟩ : ∃ y, y = ofErr a b s.data.toList := ⟨_, rfl⟩
      obtain ⟨tx, htx⟩ : ∃ tx : ByteArray, tx = ⟨(if askedB a b l then wordP b.toNat l else []).toArray⟩ := ⟨_, rfl⟩
      rw [← hR1, ← hz] at HD HrD
      rw [← hR2, ← hy] at HO HrO
      rw [← htx, show (if askedB a b l = true then (0 : Int) else 2) = z from hz.symm] at HWd HrW
      clear hR1 hR2 hz hI hy htx hl hlc hA
      go_enter Try.func12, Try.ntmps12
      go_wp2_with fail
      refine HD.out.mono ?_
      rintro e w2 ⟨A2, c2, rfl, hI2, _, _, b2⟩
      go_wp2_with fail
      refine (HrD.out _ b2).mono ?_
      rintro e w3 ⟨A3, c3, rfl, hI3, _, _, h3⟩
      have b3 := belowC b2 h3
      have hI2 := hI2.below h3
      clear h3 b2
      go_wp2_with fail
      refine (same_self R1 _ _ _ _ _ hI2 hI3).mono ?_
      rintro e w4 ⟨rfl, h4⟩
      have b4 := belowC b3 h4
      clear h4 b3 hI2 hI3
      go_wp2_with fail
      refine (HWd.out _ b4).mono ?_
      rintro e w5 ⟨rfl, h5⟩
      have b5 := belowC b4 h5
      clear h5 b4
      go_wp2_with fail
      refine (HrW.out _ b5).mono ?_
      rintro e w6 ⟨rfl, h6⟩
      have b6 := belowC b5 h6
      clear h6 b5
      go_wp2_with fail
      refine (HO.out _).mono ?_
      rintro e w7 ⟨A7, c7, rfl, hI7, _, _, h7⟩
      have b7 := belowC b6 h7
      clear h7 b6
      go_wp2_with fail
      refine (HrO.out _).mono ?_
      rintro e w8 ⟨A8, c8, rfl, hI8, _, _, h8⟩
      have b8 := belowC b7 h8
      have hI7 := hI7.below h8
      clear h8 b7
      go_wp2_with fail
      refine (same_self R2 _ _ _ _ _ hI7 hI8).mono ?_
      rintro e w9 ⟨rfl, h9⟩
      have b9 := belowC b8 h9
      clear h9 b8 hI7 hI8
      go_wp2_with (go_at_call 17; refine (alive_any _).mono ?_; rintro e w12 ⟨rfl, hb12⟩)
      go_ret
      exact ⟨rfl, belowC b9 hb12⟩
end Go.Proofs.Ytnhbkopgbibcgaa
