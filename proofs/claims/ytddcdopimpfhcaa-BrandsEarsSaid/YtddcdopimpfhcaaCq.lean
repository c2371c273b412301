/- Contracts: slices.Insert of one number. -/
import Derived.Test.YtddcdopimpfhcaaCp
import Derived.Shelf.Spec.SlicesInsertGrow
namespace Go.Proofs.Ytddcdopimpfhcaa
open Go.RowKit Go.Shelf

def rhoI : Ren := ⟨fun | 21 => 73 | 27 => 84 | 28 => 85 | 35 => 93 | 39 => 105 | n => n, fun | 0 => 0 | 3 => 3 | 4 => 4 | 22 => 45 | n => n, fun n => n⟩
theorem laysI : Lays2.n21 Try.prog rhoI where
  mixed := by kernel_rfl
  f21 := Try.func73.trans (congrArg some (by kernel_rfl))
  f27 := Try.func84.trans (congrArg some (by kernel_rfl))
  f28 := Try.func85.trans (congrArg some (by kernel_rfl))
  f35 := Try.func93.trans (congrArg some (by kernel_rfl))
  f39 := Try.func105.trans (congrArg some (by kernel_rfl))
  t0 := Try.underlying0
  a0 := Try.isAgg0
  z0 := Try.sizeOf0
  v0 := Try.zeroValue0
  t3 := Try.underlying3
  a3 := Try.isAgg3
  z3 := Try.sizeOf3
  v3 := Try.zeroValue3
  t4 := Try.underlying4
  a4 := Try.isAgg4
  z4 := Try.sizeOf4
  v4 := Try.zeroValue4
  t22 := Try.underlying45
  a22 := Try.isAgg45
  z22 := Try.sizeOf45
  v22 := Try.zeroValue45
  i3 := info3
/-- A number more at the place k. -/
def insL (xs : List Int) (k : Nat) (x : Int) : List Int := xs.take k ++ x :: xs.drop k
theorem insL_len (xs : List Int) (k : Nat) (x : Int) (h : k ≤ xs.length) : (insL xs k x).length = xs.length + 1 := by
  simp [insL]; omega
theorem insL_get (xs : List Int) (k : Nat) (x : Int) (h : k ≤ xs.length) (j : Nat) : (insL xs k x).getD j 0 = if j < k then xs.getD j 0 else if j = k then x else xs.getD (j - 1) 0 := by
  have hl : (xs.take k).length = k := by rw [List.length_take]; omega
  simp only [insL, List.getD_eq_getElem?_getD]
  by_cases h1 : j < k
  · rw [if_pos h1, List.getElem?_append_left (by omega), List.getElem?_take, if_pos h1]
  · rw [if_neg h1, List.getElem?_append_right (by omega), hl]
    by_cases h2 : j = k
    · rw [if_pos h2, h2, Nat.sub_self]; rfl
    · rw [if_neg h2, show j - k = (j - k - 1) + 1 by omega, List.getElem?_cons_succ, List.getElem?_drop, show k + (j - k - 1) = j - 1 by omega]
theorem below_sets {B b : Nat} {a : World} (hb : B ≤ b) : ∀ (vs : List Value) (o : Nat) (w : World), Below B a w → Below B a (w.setCells b o vs)
  | [], _, _, h => h
  | v :: r, o, _, h => below_sets hb r (o + 1) _ (h.setCell (p := ⟨b, o, none⟩) hb v)
theorem sets_some (b : Nat) (q : Addr) : ∀ (vs : List Value) (o : Nat) (w : World), (w.cell? q).isSome = true → ((w.setCells b o vs).cell? q).isSome = true := World.isSome_setCells b |> fun h vs o w => h vs o w q
/-- What the two copies leave. -/
theorem two_sets (w : World) (b k n : Nat) (xs : List Int) (x : Int) (hk : k ≤ n) (hx : xs.length = n) (hn : n ≤ 100) (hs : ∀ j, j < n + 1 → (w.cell? ⟨b, j, none⟩).isSome = true)
    (h0 : ∀ j, j < k → w.cell? ⟨b, j, none⟩ = some (.int .i64 (xs.getD j 0))) (w1 w2 : World) (e1 : ∀ p, w1.cell? p = (w.setCells b (k + 1) ((nums xs).drop k)).cell? p) (e2 : w2 = w1.setCells b k [.int .i64 x]) : IntsAt w2 (some ⟨b, 0, none⟩) (insL xs k x) := by
  refine ⟨by rw [insL_len _ _ _ (by omega)]; omega, fun j hj => ⟨_, rfl, ?_⟩⟩
  rw [insL_len _ _ _ (by omega), hx] at hj
  rw [Addr.add_lit, Nat.zero_add, insL_get _ _ _ (by omega), e2]
  have hd : ((nums xs).drop k).length = n - k := by rw [List.length_drop, nums_length]; omega
  by_cases h1 : j = k
  · subst h1
    have := World.cell?_setCells_in b [.int .i64 x] j w1 (fun i hi => by
      obtain rfl : i = 0 := by simpa using hi
      rw [e1]; exact sets_some b _ _ _ _ (hs _ (by omega))) 0 (by simp)
    rw [if_neg (Nat.lt_irrefl j), if_pos rfl]
    exact this
  · rw [World.cell?_setCells_out b _ _ _ _ (fun _ _ => by simp only [List.length_singleton]; omega), e1]
    by_cases h2 : j < k
    · rw [World.cell?_setCells_out b _ _ _ _ (fun _ _ => .inl (by show j < k + 1; omega)), if_pos h2]
      exact h0 j h2
    · rw [if_neg h2, if_neg h1]
      have := World.cell?_setCells_in b ((nums xs).drop k) (k + 1) w (fun i hi => hs _ (by omega)) (j - (k + 1)) (by omega)
      rw [show k + 1 + (j - (k + 1)) = j by omega] at this
      rw [this, List.getElem_drop, ← List.getElem?_eq_getElem, show k + (j - (k + 1)) = j - 1 by omega]
      exact nums_at xs (j - 1) (by omega)
/-- The same in the other order. -/
theorem two_sets' (w : World) (b k n : Nat) (xs : List Int) (x : Int) (hk : k ≤ n) (hx : xs.length = n) (hn : n ≤ 100) (hs : ∀ j, j < n + 1 → (w.cell? ⟨b, j, none⟩).isSome = true)
    (h0 : ∀ j, j < k → w.cell? ⟨b, j, none⟩ = some (.int .i64 (xs.getD j 0))) (w1 w2 : World) (e1 : ∀ p, w1.cell? p = (w.setCells b k [.int .i64 x]).cell? p) (e2 : w2 = w1.setCells b (k + 1) ((nums xs).drop k)) : IntsAt w2 (some ⟨b, 0, none⟩) (insL xs k x) := by
  refine ⟨by rw [insL_len _ _ _ (by omega)]; omega, fun j hj => ⟨_, rfl, ?_⟩⟩
  rw [insL_len _ _ _ (by omega), hx] at hj
  rw [Addr.add_lit, Nat.zero_add, insL_get _ _ _ (by omega), e2]
  have hd : ((nums xs).drop k).length = n - k := by rw [List.length_drop, nums_length]; omega
  by_cases h2 : k < j
  · rw [if_neg (by omega), if_neg (by omega)]
    have := World.cell?_setCells_in b ((nums xs).drop k) (k + 1) w1 (fun i hi => by rw [e1]; exact sets_some b _ _ _ _ (hs _ (by omega))) (j - (k + 1)) (by omega)
    rw [show k + 1 + (j - (k + 1)) = j by omega] at this
    rw [this, List.getElem_drop, ← List.getElem?_eq_getElem, show k + (j - (k + 1)) = j - 1 by omega]
    exact nums_at xs (j - 1) (by omega)
  · rw [World.cell?_setCells_out b _ _ _ _ (fun _ _ => .inl (by show j < k + 1; omega)), e1]
    by_cases h1 : j = k
    · subst h1
      have := World.cell?_setCells_in b [.int .i64 x] j w (fun i hi => by
        obtain rfl : i = 0 := by simpa using hi
        exact hs _ (by omega)) 0 (by simp)
      rw [if_neg (Nat.lt_irrefl j), if_pos rfl]
      exact this
    · rw [World.cell?_setCells_out b _ _ _ _ (fun _ _ => .inl (by show j < k; omega)), if_pos (by omega)]
      exact h0 j (by omega)
theorem one_val (x : Int) : ∀ j v, ([.int .i64 x] : List Value)[j]? = some v → j = 0 ∧ v = .int .i64 x := by
  intro j v h
  match j, h with
  | 0, h => simp at h; exact ⟨rfl, h.symm⟩
  | j + 1, h => simp at h
set_option maxHeartbeats 1000000 in
theorem insert_any (base r n c k : Nat) (xs : List Int) (x : Int) (w : World) (h : IRow w base r n c xs) (hb : base ≤ w.heap.size) (hk : k ≤ n) (h0 : 0 < n) (hn : n ≤ 100) (hc : n ≤ c) :
    Calls Try.prog 73 #[.slice (some ⟨r, 0, none⟩) n c, .int .i64 (k : Int), .slice (some ⟨w.heap.size, 0, none⟩) 1 1] (w.alloc (.cells #[.int .i64 x] 3)) fun e w' =>
      ∃ A c', e = .returned (.slice (some A) (n + 1) c') ∧ IntsAt w' (some A) (insL xs k x) ∧ Below base w w' := by
  have hA := belowA (Below.refl w.heap.size w) (.cells #[.int .i64 x] 3)
  have hI := h.below hA
  have hB1 : Below base w (w.alloc (.cells #[.int .i64 x] 3)) := (Below.refl _ _).alloc hb _
  have hr := h.lt
  have hbr : base ≤ r := own_base h.toOwn rfl
  have hx := h.len
  have hcm := room_le h.own
  unfold maxLen at hcm
  have hne : w.heap.size ≠ r := by omega
  have hcs : ∀ j v, (nums xs)[j]? = some v → (w.alloc (.cells #[.int .i64 x] 3)).cell? ⟨r, 0 + j, none⟩ = some v := fun j v hv => by
    have hlt := (List.getElem?_eq_some_iff.1 hv).1
    rw [nums_length] at hlt
    rw [Nat.zero_add, hI.own.cellAt j (by omega)]
    exact hv
  have hvs : ∀ j v, ([.int .i64 x] : List Value)[j]? = some v → (w.alloc (.cells #[.int .i64 x] 3)).cell? ⟨w.heap.size, 0 + j, none⟩ = some v := fun j v hv => by
    obtain ⟨rfl, rfl⟩ := one_val x j v hv
    simp
  have h1c : ∀ v ∈ nums xs, v.oneCell' = true := nums_one xs
  have h1v : ∀ v ∈ ([.int .i64 x] : List Value), v.oneCell' = true := by intro v hv; simp at hv; subst hv; rfl
  have hnl : (nums xs).length = n := by rw [nums_length]; omega
  have hc0 : ∀ j, j < n → (w.alloc (.cells #[.int .i64 x] 3)).cell? ⟨r, j, none⟩ = some (.int .i64 (xs.getD j 0)) := fun j hj => hI.cell hj
  have hf : ∀ j, (w.alloc (.cells #[.int .i64 x] 3)).frozen? ⟨w.heap.size, j, none⟩ = false := fun j => by simp only [World.frozen?, block_new]; simp
  have hsb : ∃ t m, (w.alloc (.cells #[.int .i64 x] 3)).shape? r = some (t, m) ∧ m ≠ 0 := by
    rcases hI.own.2 with ⟨e, _⟩ | ⟨g, cap, cur, e, _, hh, hnc, _, hsz, _⟩
    · cases e
    · cases e
      refine ⟨3, cur.size, ?_, by omega⟩
      simp [World.shape?, hh]
  obtain ⟨tB, kB, hsb, hkB⟩ := hsb
  have hsa : (w.alloc (.cells #[.int .i64 x] 3)).shape? w.heap.size = some (3, 1) := by simp only [World.shape?, block_new]; rfl
  by_cases hroom : n + 1 ≤ c
  · have hsp : ∀ j, j < n + 1 → ((w.alloc (.cells #[.int .i64 x] 3)).cell? ⟨r, j, none⟩).isSome = true := fun j hj => (room_cell hI.own j (by omega)).1
    have hfz : ∀ j, (w.alloc (.cells #[.int .i64 x] 3)).frozen? ⟨r, j, none⟩ = false := fun j => hI.own.frozenAt j
    by_cases hkn : k < n
    · refine (Any2.slices_Insert_int_shift laysI r 0 n c k w.heap.size 0 1 1 (nums xs) [.int .i64 x] _ hkn (by omega) hroom (by omega) hne hnl rfl hcs (fun j hj => by rw [Nat.zero_add]; exact hsp j hj) (fun j _ => hfz _) hvs h1c h1v 3 tB 1 kB hsa hsb hkB (hf 0) (hf 1)).mono ?_
      rintro e w' ⟨rfl, rfl⟩
      refine ⟨_, c, rfl, ?_, below_sets hbr _ _ _ (below_sets hbr _ _ _ (below_drew hB1))⟩
      rw [Nat.zero_add, Nat.zero_add]
      exact two_sets _ r k n xs x hk hx hn hsp (fun j hj => hc0 j (by omega)) _ _ (fun p => by rw [show ((w.alloc (.cells #[.int .i64 x] 3)).drew.setCells r (k + 1) ((nums xs).drop k)).cell? p = ((w.alloc (.cells #[.int .i64 x] 3)).setCells r (k + 1) ((nums xs).drop k)).cell? p by rw [← Go.Proofs.drew_setCells]; rfl]) rfl
    · obtain rfl : k = n := by omega
      refine (Any2.slices_Insert_int_end_room laysI r 0 k c w.heap.size 0 1 1 [.int .i64 x] _ (by omega) hroom (by omega) rfl (fun j hj => by rw [Nat.zero_add]; exact hsp _ (by omega)) (fun j _ => hfz _) hvs h1v).mono ?_
      rintro e w' ⟨rfl, rfl⟩
      refine ⟨_, c, rfl, ?_, below_sets hbr _ _ _ hB1⟩
      rw [Nat.zero_add]
      refine two_sets _ r k k xs x hk hx hn hsp (fun j hj => hc0 j (by omega)) _ _ (fun p => ?_) rfl
      rw [List.drop_of_length_le (by omega)]
      rfl
  · have hg : c < n + 1 := by omega
    by_cases hkn : k < n
    · refine (Any2.slices_Insert_int_grow laysI r 0 n c k w.heap.size 0 1 1 (nums xs) [.int .i64 x] _ hkn (by omega) hc hg (by omega) hnl rfl hcs hvs h1c h1v).mono ?_
      rintro e w' ⟨rfl, rfl⟩
      have hh : base ≤ (w.alloc (.cells #[.int .i64 x] 3)).heap.size := Nat.le_trans hb (by simp)
      refine ⟨_, _, rfl, ?_, below_sets hh _ _ _ (below_drew (below_sets hh _ _ _ (below_drew (hB1.alloc hh _))))⟩
      obtain ⟨wa, hwa⟩ : ∃ wa, wa = w.alloc (.cells #[.int .i64 x] 3) := ⟨_, rfl⟩
      rw [← hwa]
      have hsz : (((nums xs).take k).toArray ++ Builtin.zeroCells (Value.int .i64 0).cells (n + 1 - k)).size = n + 1 := by
        simp only [Array.size_append, List.size_toArray, List.length_take, hnl, Builtin.zeroCells]
        simp [Value.cells]
        omega
      obtain ⟨cs, hcs'⟩ : ∃ cs, cs = ((nums xs).take k).toArray ++ Builtin.zeroCells (Value.int .i64 0).cells (n + 1 - k) ++ Builtin.zeroCells (Value.int .i64 0).cells (grownCap wa (n + 1) c (rhoI.t 3) - (n + 1)) := ⟨_, rfl⟩
      have hcell : ∀ j, j < n + 1 → (wa.alloc (.cells cs (rhoI.t 3))).cell? ⟨wa.heap.size, j, none⟩ = cs[j]? := fun j hj => by
        simp only [World.cell?, block_new]
        rfl
      have hin : ∀ j, j < n + 1 → j < cs.size := fun j hj => by rw [hcs', Array.size_append]; omega
      rw [← hcs']
      refine two_sets' (wa.alloc (.cells cs (rhoI.t 3))) wa.heap.size k n xs x hk hx hn (fun j hj => by rw [hcell j hj, Array.getElem?_eq_getElem (hin j hj)]; rfl) (fun j hj => ?_) _ _ (fun p => ?_) rfl
      · rw [hcell j (by omega), hcs', Array.getElem?_append_left (by omega), Array.getElem?_append_left (by simp [hnl]; omega), List.getElem?_toArray, List.getElem?_take, if_pos hj]
        exact nums_at xs j (by omega)
      · rw [← Go.Proofs.drew_setCells]
        rfl
    · obtain rfl : k = n := by omega
      refine (Any2.slices_Insert_int_end_grow laysI (some ⟨r, 0, none⟩) k c w.heap.size 0 1 1 (nums xs) [.int .i64 x] _ (by omega) hc hg (by omega) hnl rfl (by simp) (fun a ha j v hv => by cases ha; rw [Addr.add_lit]; exact hcs j v hv) hvs h1v).mono ?_
      rintro e w' ⟨rfl, rfl⟩
      have hh : base ≤ (w.alloc (.cells #[.int .i64 x] 3)).heap.size := Nat.le_trans hb (by simp)
      refine ⟨_, _, rfl, ?_, (below_drew hB1).alloc hh _⟩
      obtain ⟨wa, hwa⟩ : ∃ wa, wa = w.alloc (.cells #[.int .i64 x] 3) := ⟨_, rfl⟩
      rw [← hwa]
      refine ⟨by rw [insL_len _ _ _ (by omega)]; omega, fun j hj => ⟨_, rfl, ?_⟩⟩
      rw [insL_len _ _ _ (by omega), hx] at hj
      rw [Addr.add_lit, Nat.zero_add, insL_get _ _ _ (by omega)]
      have hcell : ∀ cs : Array Value, (wa.drew.alloc (.cells cs (rhoI.t 3))).cell? ⟨wa.heap.size, j, none⟩ = cs[j]? := fun cs => by
        rw [show wa.heap.size = wa.drew.heap.size from rfl]
        simp only [World.cell?, block_new]
        rfl
      rw [hcell, Array.getElem?_append_left (by simp [hnl]; omega), List.getElem?_toArray]
      by_cases h1 : j < k
      · rw [if_pos h1, List.getElem?_append_left (by omega)]
        exact nums_at xs j (by omega)
      · obtain rfl : j = k := by omega
        rw [if_neg h1, if_pos rfl, List.getElem?_append_right (by omega), hnl, Nat.sub_self]
        rfl
end Go.Proofs.Ytddcdopimpfhcaa
