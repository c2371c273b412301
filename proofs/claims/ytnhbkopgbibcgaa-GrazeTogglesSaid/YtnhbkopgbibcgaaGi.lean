/- Contracts: moved, Day, Back, Sweep. -/
import Derived.Test.YtnhbkopgbibcgaaGh
namespace Go.Proofs.Ytnhbkopgbibcgaa
open Go.RowKit Go.Shelf

/-- A function that makes a state of a state that it may use. -/
structure Moves (g : Nat) (b : Nat) (l out : List Int) : Prop where
  enters : Enters Try.prog g
  call : ∀ W B v, Own W B v l → Calls Try.prog g #[.agg #[.int .i64 (l.length : Int), .int .i64 (b : Int)], v] W fun e w' => ∃ v', e = .returned v' ∧ Own w' B v' out ∧ Below B W w'
theorem own_size {W : World} {B : Nat} {v : Value} {l : List Int} (h : Own W B v l) (h1 : 0 < l.length) : B ≤ W.heap.size := by
  obtain ⟨r, c, rfl, hb, hR⟩ := own_row h h1
  have := hR.lt
  omega
theorem asked_nat {a b : Int} {l : List Int} (h : askedB a b l = true) : ∃ n m : Nat, a = n ∧ b = m ∧ l.length = n ∧ 1 ≤ n ∧ n ≤ 6 ∧ 1 ≤ m ∧ m ≤ 6 ∧ stateB a b l = true := by
  simp only [askedB, Bool.and_eq_true] at h
  obtain ⟨h1, h2⟩ := h
  have h3 := field_len h1
  have h4 := (of_decide_eq_true h2).1
  exact ⟨l.length, b.toNat, by omega, by omega, rfl, by omega, by omega, by omega, by omega, h2⟩
theorem day_moves (b : Nat) (l : List Int) (h1 : 1 ≤ l.length) (h6 : l.length ≤ 6) (hb6 : b ≤ 6) : Moves 57 b l (dayP b l) :=
  ⟨enters_of Try.func57 (by kernel_rfl) rfl, fun W B v hO => by
    obtain ⟨A, c, rfl, hI, _⟩ := own_ints hO (by omega)
    have hB := own_size hO h1
    refine (day_any l A c b W hI h6 hb6).mono ?_
    rintro e w' ⟨v', rfl, hO', hb⟩
    exact ⟨v', rfl, own_mono hO' hB, hb.mono hB⟩⟩
theorem before_moves (b : Nat) (l : List Int) (h1 : 1 ≤ l.length) (h6 : l.length ≤ 6) (hb6 : b ≤ 6) : Moves 60 b l (backP b l) :=
  ⟨enters_of Try.func60 (by kernel_rfl) rfl, fun W B v hO => by
    obtain ⟨A, c, rfl, hI, _⟩ := own_ints hO (by omega)
    have hB := own_size hO h1
    refine (before_any l A c b W hI h6 hb6).mono ?_
    rintro e w' ⟨v', rfl, hO', hb⟩
    exact ⟨v', rfl, own_mono hO' hB, hb.mono hB⟩⟩
theorem sweep_moves (b : Nat) (l : List Int) (hs : stateB l.length b l = true) (h1 : 1 ≤ l.length) (h6 : l.length ≤ 6) (hb1 : 1 ≤ b) (hb6 : b ≤ 6) : Moves 72 b l (sweepP b l) :=
  ⟨enters_of Try.func72 (by kernel_rfl) rfl, fun W B v hO => by
    have hB := own_size hO h1
    obtain ⟨r, c, rfl, hBr, hR⟩ := own_row hO h1
    refine (sweep1_any l B r c l.length b W hR hs h1 h6 hb1 hb6).mono ?_
    rintro e w' ⟨rfl, hR', hK⟩
    exact ⟨_, rfl, hR'.own_of, hK.below (Below.refl _ _) hB hBr⟩⟩

/-- What a move hands back. -/
def MovedPost (a b : Int) (l out : List Int) (w : World) (e : Ending) (w' : World) : Prop :=
  ∃ v, e = .returned (.tuple #[v, .int .i64 (if askedB a b l then 0 else 2)]) ∧ Own w' w.heap.size v (if askedB a b l then out else []) ∧ Below w.heap.size w w'

set_option maxHeartbeats 1000000 in
set_option maxRecDepth 100000 in
theorem moved_any (g : Nat) (out : List Int) (a b : Int) (l : List Int) (A : Option Addr) (c : Nat) (w : World) (hl : IntsAt w A l) (hlc : l.length ≤ c) (hA : A = none → c = 0)
    (hg : Off (askedB a b l = true → Moves g b.toNat l out)) :
    Calls Try.prog 56 #[.int .i64 a, .int .i64 b, .slice A l.length c, .func (.func g) #[] #[]] w fun e w' => MovedPost a b l out w e w' := by
  have HB : Off (∀ o, Below w.heap.size w (w.alloc o)) := ⟨fun o => (Below.refl _ _).alloc (Nat.le_refl _) _⟩
  have CR := Off.mk (fun W (hW : IntsAt W A l) => read_any a b l A c W hW hlc hA)
  have HL := Off.mk hl
  cases hk : askedB a b l
  · have HK := Off.mk hk
    clear hk
    go_enter Try.func56, Try.ntmps56
    go_wp2_with fail
    refine (CR.out _ HL.out).mono ?_
    rintro e w1 ⟨v1, rfl, _, hv, hb1⟩
    obtain rfl := hv HK.out
    rw [HK.out]
    go_wp2
    go_ret2
    exact ⟨_, by rw [HK.out]; rfl, by rw [HK.out]; exact ⟨World.ownsRow_nil _ _ _ _⟩, belowA hb1 _⟩
  · have HK := Off.mk hk
    obtain ⟨n, m, rfl, rfl, hn, hn1, hn6, hm1, hm6, hs⟩ := asked_nat hk
    have HM := Off.mk (hg.out hk)
    have hcf : ∀ (args : Array Value) (w : World), (callFunc g args).run Try.prog w = .ok (.enter g args) w := HM.out.enters
    have CM : Off (∀ W B v, Own W B v l → Calls Try.prog g #[.agg #[.int .i64 (n : Int), .int .i64 (m : Int)], v] W fun e w' => ∃ v', e = .returned v' ∧ Own w' B v' out ∧ Below B W w') := ⟨fun W B v hO => by
      have := HM.out.call W B v hO
      rw [Int.toNat_natCast, hn] at this
      exact this⟩
    clear hk hs hn hl
    go_enter Try.func56, Try.ntmps56
    go_wp2_with fail
    refine (CR.out _ HL.out).mono ?_
    rintro e w1 ⟨v1, rfl, hO, _, hb1⟩
    have HO1 := own_below (hO HK.out) ((Below.refl _ _).alloc (Nat.le_refl _) (.cells #[.int .i64 (n : Int), .int .i64 (m : Int)] 62))
    rw [HK.out]
    clear hO
    go_wp2_with fail
    refine (CM.out _ _ _ HO1).mono ?_
    rintro e w2 ⟨v2, rfl, hO2, hb2⟩
    go_wp2
    go_ret2
    exact ⟨_, by rw [HK.out]; rfl, by rw [HK.out]; exact hO2, (belowA hb1 _).trans hb2⟩

set_option maxHeartbeats 1000000 in
theorem Day_any (a b : Int) (l : List Int) (A : Option Addr) (c : Nat) (w : World) (hl : IntsAt w A l) (hlc : l.length ≤ c) (hA : A = none → c = 0) :
    Calls Try.prog 22 #[.int .i64 a, .int .i64 b, .slice A l.length c] w fun e w' => MovedPost a b l (dayP b.toNat l) w e w' := by
  have CM := Off.mk (moved_any 57 (dayP b.toNat l) a b l A c w hl hlc hA ⟨fun h => by
    obtain ⟨n, m, rfl, rfl, hn, hn1, hn6, hm1, hm6, hs⟩ := asked_nat h
    exact day_moves _ l (by omega) (by omega) (by omega)⟩)
  go_enter Try.func22, Try.ntmps22
  go_wp2_with fail
  refine CM.out.mono ?_
  rintro e w1 ⟨v1, rfl, hO, hb⟩
  obtain ⟨z, hz⟩ : ∃ z : Int, z = if askedB a b l then 0 else 2 := ⟨_, rfl⟩
  have HZ := Off.mk hz
  rw [← hz]
  clear hz
  go_wp2
  go_ret2
  exact ⟨_, by rw [← HZ.out]; rfl, hO, hb⟩
set_option maxHeartbeats 1000000 in
theorem Back_any (a b : Int) (l : List Int) (A : Option Addr) (c : Nat) (w : World) (hl : IntsAt w A l) (hlc : l.length ≤ c) (hA : A = none → c = 0) :
    Calls Try.prog 25 #[.int .i64 a, .int .i64 b, .slice A l.length c] w fun e w' => MovedPost a b l (backP b.toNat l) w e w' := by
  have CM := Off.mk (moved_any 60 (backP b.toNat l) a b l A c w hl hlc hA ⟨fun h => by
    obtain ⟨n, m, rfl, rfl, hn, hn1, hn6, hm1, hm6, hs⟩ := asked_nat h
    exact before_moves _ l (by omega) (by omega) (by omega)⟩)
  go_enter Try.func25, Try.ntmps25
  go_wp2_with fail
  refine CM.out.mono ?_
  rintro e w1 ⟨v1, rfl, hO, hb⟩
  obtain ⟨z, hz⟩ : ∃ z : Int, z = if askedB a b l then 0 else 2 := ⟨_, rfl⟩
  have HZ := Off.mk hz
  rw [← hz]
  clear hz
  go_wp2
  go_ret2
  exact ⟨_, by rw [← HZ.out]; rfl, hO, hb⟩
set_option maxHeartbeats 1000000 in
theorem Sweep_any (a b : Int) (l : List Int) (A : Option Addr) (c : Nat) (w : World) (hl : IntsAt w A l) (hlc : l.length ≤ c) (hA : A = none → c = 0) :
    Calls Try.prog 40 #[.int .i64 a, .int .i64 b, .slice A l.length c] w fun e w' => MovedPost a b l (sweepP b.toNat l) w e w' := by
  have CM := Off.mk (moved_any 72 (sweepP b.toNat l) a b l A c w hl hlc hA ⟨fun h => by
    obtain ⟨n, m, rfl, rfl, hn, hn1, hn6, hm1, hm6, hs⟩ := asked_nat h
    exact sweep_moves _ l (by rw [hn, Int.toNat_natCast]; exact hs) (by omega) (by omega) (by omega) (by omega)⟩)
  go_enter Try.func40, Try.ntmps40
  go_wp2_with fail
  refine CM.out.mono ?_
  rintro e w1 ⟨v1, rfl, hO, hb⟩
  obtain ⟨z, hz⟩ : ∃ z : Int, z = if askedB a b l then 0 else 2 := ⟨_, rfl⟩
  have HZ := Off.mk hz
  rw [← hz]
  clear hz
  go_wp2
  go_ret2
  exact ⟨_, by rw [← HZ.out]; rfl, hO, hb⟩
end Go.Proofs.Ytnhbkopgbibcgaa
