/- Contracts: Of of the program and of the specification. -/
import Derived.Test.YtnhbkopgbibcgaaHi
import Derived.Test.YtnhbkopgbibcgaaGf
namespace Go.Proofs.Ytnhbkopgbibcgaa
open Go.RowKit Go.Shelf

/-- The letters r ahead of place k. -/
def haveK (ws : List UInt8) (k : Nat) : Nat := (ws.take k).count 114
/-- The letters u ahead of place k. -/
def upsK (ws : List UInt8) (k : Nat) : Nat := (ws.take k).count 117
/-- The rows that the letters ahead of place k tell of. -/
def ofTo (ws : List UInt8) (n : Nat) : Nat → List Int
  | 0 => List.replicate n 0
  | k + 1 => if ws.getD k 0 = 117 then (ofTo ws n k).set (n - (upsK ws k + 1)) (haveK ws k) else ofTo ws n k
/-- The state of a word. -/
def ofP (n : Nat) (ws : List UInt8) : List Int := ofTo ws n ws.length
/-- Is it a word of a pasture? -/
def wordB (n m : Nat) (ws : List UInt8) : Bool := decide (ws.length = n + m ∧ ws.count 117 = n ∧ ws.count 114 = m)
def ofErr (a b : Int) (ws : List UInt8) : Int := if fieldB a b then (if wordB a.toNat b.toNat ws then 0 else 5) else 2
def OfPost (a b : Int) (ws : List UInt8) (w : World) (e : Ending) (w' : World) : Prop :=
  ∃ v, e = .returned (.tuple #[v, .int .i64 (ofErr a b ws)]) ∧ Own w' w.heap.size v (if ofErr a b ws = 0 then ofP a.toNat ws else []) ∧ Below w.heap.size w w'
theorem ofTo_length (ws : List UInt8) (n k : Nat) : (ofTo ws n k).length = n := by
  induction k with
  | zero => simp [ofTo]
  | succ k ih => rw [ofTo]; split <;> simp [ih]
theorem take_snoc' (ws : List UInt8) (k : Nat) (h : k < ws.length) : ws.take (k + 1) = ws.take k ++ [ws.getD k 0] := by
  rw [List.take_succ_eq_append_getElem h, List.getD_eq_getElem?_getD, List.getElem?_eq_getElem h]; rfl
theorem have_succ (ws : List UInt8) (k : Nat) (h : k < ws.length) : haveK ws (k + 1) = haveK ws k + if ws.getD k 0 = 114 then 1 else 0 := by
  unfold haveK
  rw [take_snoc' ws k h, List.count_append, List.count_singleton]
  simp only [beq_iff_eq]
theorem ups_succ (ws : List UInt8) (k : Nat) (h : k < ws.length) : upsK ws (k + 1) = upsK ws k + if ws.getD k 0 = 117 then 1 else 0 := by
  unfold upsK
  rw [take_snoc' ws k h, List.count_append, List.count_singleton]
  simp only [beq_iff_eq]
theorem have_le (ws : List UInt8) (k : Nat) : haveK ws k ≤ k := Nat.le_trans List.count_le_length (List.length_take_le _ _)
theorem ups_le (ws : List UInt8) (k : Nat) : upsK ws k ≤ ws.count 117 := by
  unfold upsK
  have := List.take_append_drop k ws
  have h : (ws.take k ++ ws.drop k).count 117 = ws.count 117 := by rw [this]
  rw [List.count_append] at h
  omega
theorem count_two (ws : List UInt8) : ws.count 117 + ws.count 114 ≤ ws.length := by
  induction ws with
  | nil => simp
  | cons x xs ih =>
    rw [List.count_cons, List.count_cons, List.length_cons]
    by_cases h : x = 117
    · subst h; simp; omega
    · by_cases h2 : x = 114
      · subst h2; simp; omega
      · simp [h, h2]; omega
theorem count_other (ws : List UInt8) (k : Nat) (h : k < ws.length) (h1 : ws.getD k 0 ≠ 117) (h2 : ws.getD k 0 ≠ 114) : ws.count 117 + ws.count 114 < ws.length := by
  have e := take_snoc' ws k h
  have d : ws.take (k + 1) ++ ws.drop (k + 1) = ws := List.take_append_drop _ _
  have hl : ws.length = (ws.take k).length + 1 + (ws.drop (k + 1)).length := by
    have := congrArg List.length d
    rw [e] at this
    simp only [List.length_append, List.length_cons, List.length_nil] at this
    omega
  have c1 : ws.count 117 = (ws.take k).count 117 + (ws.drop (k + 1)).count 117 := by
    have := congrArg (List.count (117 : UInt8)) d
    rw [e, List.count_append, List.count_append, List.count_singleton] at this
    simp only [beq_iff_eq, h1, if_false] at this
    omega
  have c2 : ws.count 114 = (ws.take k).count 114 + (ws.drop (k + 1)).count 114 := by
    have := congrArg (List.count (114 : UInt8)) d
    rw [e, List.count_append, List.count_append, List.count_singleton] at this
    simp only [beq_iff_eq, h2, if_false] at this
    omega
  have t1 := count_two (ws.take k)
  have t2 := count_two (ws.drop (k + 1))
  omega
theorem byte_at (s : ByteArray) (k : Nat) (h : k < s.size) : s[k] = s.data.toList.getD k 0 := by
  have h' : k < s.data.toList.length := by simpa using h
  rw [List.getD_eq_getElem?_getD, List.getElem?_eq_getElem h']
  rfl
theorem word_len (s : ByteArray) : s.data.toList.length = s.size := by simp

set_option maxHeartbeats 4000000 in
set_option maxRecDepth 100000 in
theorem Of_no (a b : Int) (s : ByteArray) (w : World) (hf : fieldB a b = false) :
    Calls Try.prog 43 #[.int .i64 a, .int .i64 b, .string s] w fun e w' => OfPost a b s.data.toList w e w' := by
  have HE : Off (ofErr a b s.data.toList = 2) := ⟨by unfold ofErr; rw [hf]; rfl⟩
  have CF := Off.mk (field_any a b w)
  rw [hf] at CF
  clear hf
  go_enter Try.func43, Try.ntmps43
  go_wp2_with fail
  refine CF.out.mono ?_
  rintro e w1 ⟨rfl, hb1⟩
  go_wp2
  go_ret2
  exact ⟨_, by rw [HE.out]; rfl, by rw [HE.out]; exact ⟨World.ownsRow_nil _ _ _ _⟩, belowA hb1 _⟩

theorem rOf_no (a b : Int) (s : ByteArray) (w : World) (hf : fieldB a b = false) :
    Calls Try.prog 44 #[.int .i64 a, .int .i64 b, .string s] w fun e w' => OfPost a b s.data.toList w e w' := by
  have HE : Off (ofErr a b s.data.toList = 2) := ⟨by unfold ofErr; rw [hf]; rfl⟩
  have CP := Off.mk (pasture_any a b false hf w)
  clear hf
  go_enter Try.func44, Try.ntmps44
  go_wp2_with (go_at_call 45; refine CP.out.mono ?_; rintro e w1 ⟨rfl, hw⟩; subst w1)
  go_ret2
  exact ⟨_, by rw [HE.out]; rfl, by rw [HE.out]; exact ⟨World.ownsRow_nil _ _ _ _⟩, Below.refl _ _⟩

set_option maxHeartbeats 4000000 in
set_option maxRecDepth 100000 in
theorem Of_form (n m : Nat) (s : ByteArray) (w : World) (hf : fieldB n m = true) (hw : wordB n m s.data.toList = false) :
    Calls Try.prog 43 #[.int .i64 (n : Int), .int .i64 (m : Int), .string s] w fun e w' => OfPost n m s.data.toList w e w' := by
  have HE : Off (ofErr n m s.data.toList = 5) := ⟨by unfold ofErr; rw [hf, if_pos rfl, Int.toNat_natCast, Int.toNat_natCast, hw]; rfl⟩
  have CF := Off.mk (field_any n m w)
  rw [hf] at CF
  have hn := field_len hf
  have hd : s.size ≠ n + m ∨ (s.size = n + m ∧ s.data.toList.count 117 ≠ n) ∨ (s.size = n + m ∧ s.data.toList.count 117 = n ∧ s.data.toList.count 114 ≠ m) := by
    have := of_decide_eq_false hw
    rw [word_len] at this
    omega
  have CU := Off.mk (fun W => shCount s 117 W)
  have CR := Off.mk (fun W => shCount s 114 W)
  obtain ⟨u, hu⟩ : ∃ u, u = s.data.toList.count 117 := ⟨_, rfl⟩
  obtain ⟨r, hr⟩ : ∃ r, r = s.data.toList.count 114 := ⟨_, rfl⟩
  rw [← hu, ← hr] at hd
  rw [show Lib.countByte s.data.toList 117 = u from hu.symm] at CU
  rw [show Lib.countByte s.data.toList 114 = r from hr.symm] at CR
  clear hu hr hf hw
  rcases hd with h | ⟨h, h1⟩ | ⟨h, h1, h2⟩
  · have g1 : ((s.size : Int) != (n : Int) + m) = true := by rw [bne_iff_ne]; omega
    clear h
    go_enter Try.func43, Try.ntmps43
    go_wp2_with fail
    refine CF.out.mono ?_
    rintro e w1 ⟨rfl, hb1⟩
    have hb2 := belowA hb1 (.cells #[.int .i64 (n : Int), .int .i64 (m : Int)] 62)
    obtain ⟨⟨q0, q1⟩, _, _⟩ := two_facts (block_new w1 (.cells #[.int .i64 (n : Int), .int .i64 (m : Int)] 62))
    have W1 : IntKind.i64.wrap ((n : Int) + m) = (n : Int) + m := by rw [IntKind.wrap_i64]; omega
    go_wp2_with fail
    go_quiet ((first | (go_at_call 74; first | (with_reducible exact Calls.quiet_of_same (CU.out _)) | (with_reducible exact Calls.quiet_of_same (CR.out _)))))
    go_wp2
    go_ret2
    exact ⟨_, by rw [HE.out]; rfl, by rw [HE.out]; exact ⟨World.ownsRow_nil _ _ _ _⟩, below_drewN' hb2 _⟩
  · have g1 : ((s.size : Int) != (n : Int) + m) = false := by rw [bne_eq_false_iff_eq]; omega
    have g2 : ((u : Int) != (n : Int)) = true := by rw [bne_iff_ne]; omega
    clear h h1
    go_enter Try.func43, Try.ntmps43
    go_wp2_with fail
    refine CF.out.mono ?_
    rintro e w1 ⟨rfl, hb1⟩
    have hb2 := belowA hb1 (.cells #[.int .i64 (n : Int), .int .i64 (m : Int)] 62)
    obtain ⟨⟨q0, q1⟩, _, _⟩ := two_facts (block_new w1 (.cells #[.int .i64 (n : Int), .int .i64 (m : Int)] 62))
    have W1 : IntKind.i64.wrap ((n : Int) + m) = (n : Int) + m := by rw [IntKind.wrap_i64]; omega
    go_wp2_with fail
    go_quiet ((first | (go_at_call 74; first | (with_reducible exact Calls.quiet_of_same (CU.out _)) | (with_reducible exact Calls.quiet_of_same (CR.out _)))))
    go_wp2
    go_ret2
    exact ⟨_, by rw [HE.out]; rfl, by rw [HE.out]; exact ⟨World.ownsRow_nil _ _ _ _⟩, below_drewN' hb2 _⟩
  · have g1 : ((s.size : Int) != (n : Int) + m) = false := by rw [bne_eq_false_iff_eq]; omega
    have g2 : ((u : Int) != (n : Int)) = false := by rw [bne_eq_false_iff_eq]; omega
    have g3 : ((r : Int) != (m : Int)) = true := by rw [bne_iff_ne]; omega
    clear h h1 h2
    go_enter Try.func43, Try.ntmps43
    go_wp2_with fail
    refine CF.out.mono ?_
    rintro e w1 ⟨rfl, hb1⟩
    have hb2 := belowA hb1 (.cells #[.int .i64 (n : Int), .int .i64 (m : Int)] 62)
    obtain ⟨⟨q0, q1⟩, _, _⟩ := two_facts (block_new w1 (.cells #[.int .i64 (n : Int), .int .i64 (m : Int)] 62))
    have W1 : IntKind.i64.wrap ((n : Int) + m) = (n : Int) + m := by rw [IntKind.wrap_i64]; omega
    go_wp2_with fail
    go_quiet ((first | (go_at_call 74; first | (with_reducible exact Calls.quiet_of_same (CU.out _)) | (with_reducible exact Calls.quiet_of_same (CR.out _)))))
    go_wp2
    go_ret2
    exact ⟨_, by rw [HE.out]; rfl, by rw [HE.out]; exact ⟨World.ownsRow_nil _ _ _ _⟩, below_drewN' hb2 _⟩
end Go.Proofs.Ytnhbkopgbibcgaa
