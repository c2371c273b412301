/- Contract: Word. -/
import Derived.Test.YtnhbkopgbibcgaaGj
import Derived.Test.YtnhbkopgbibcgaaGs
namespace Go.Proofs.Ytnhbkopgbibcgaa
open Go.RowKit Go.Shelf
attribute [local go_sem] Oper.semAt_some

/-- The columns grazed in the row that was met last. -/
def haveAt (zs : List Int) : Nat → Int
  | 0 => 0
  | k + 1 => zs.getD (zs.length - 1 - k) 0
/-- The word of the last k rows. -/
def textAt (zs : List Int) : Nat → List UInt8
  | 0 => []
  | k + 1 => textAt zs k ++ (List.replicate (zs.getD (zs.length - 1 - k) 0 - haveAt zs k).toNat 114 ++ [117])
/-- The word of a state. -/
def wordP (b : Nat) (l : List Int) : List UInt8 := textAt l l.length ++ List.replicate ((b : Int) - haveAt l l.length).toNat 114
theorem have_range {a b : Int} {l : List Int} (h : stateB a b l = true) (hb : 0 ≤ b) (k : Nat) (hk : k ≤ l.length) : 0 ≤ haveAt l k ∧ haveAt l k ≤ b := by
  cases k with
  | zero => exact ⟨Int.le_refl _, hb⟩
  | succ k => exact state_range h (by omega)
theorem have_step {a b : Int} {l : List Int} (h : stateB a b l = true) (k : Nat) (hk : k < l.length) : haveAt l k ≤ l.getD (l.length - 1 - k) 0 := by
  have hs := of_decide_eq_true h
  cases k with
  | zero => exact (hs.2 (l.length - 1 - 0) (by omega)).1.1
  | succ k =>
    have := (hs.2 (l.length - 1 - k) (by omega)).2 (by omega)
    rw [show l.length - 1 - k - 1 = l.length - 1 - (k + 1) by omega] at this
    exact this
theorem textAt_len {a b : Int} {l : List Int} (h : stateB a b l = true) (k : Nat) (hk : k ≤ l.length) : ((textAt l k).length : Int) = k + haveAt l k := by
  induction k with
  | zero => rfl
  | succ k ih =>
    have h1 := ih (by omega)
    have h2 := have_step h k (by omega)
    rw [textAt, List.length_append, List.length_append, List.length_replicate]
    show ((_ : Nat) : Int) = ((k + 1 : Nat) : Int) + l.getD (l.length - 1 - k) 0
    simp only [List.length_cons, List.length_nil]
    omega

theorem builderF_kept {T e : TypeId} {B b : Nat} {bs : List Value} {w w' : World} {row : Option Nat} (h : Lib.IsBuilderF T e B b bs w) (hg : w.grownBy w' row)
    (hr : ∀ r, row = some r → ∃ o : Obj, w.heap[r]? = some o ∧ o.isCells = false) : Lib.IsBuilderF T e B b bs w' := by
  have one : ∀ p, Lib.BuilderAtF T e B b p bs w → Lib.BuilderAtF T e B b p bs w' := by
    rintro p ⟨hB, v, hb, ho, hne⟩
    refine ⟨hB, v, (hg.block b (Array.getElem?_eq_some_iff.1 hb).1 (fun e => ?_)).trans hb, ho.kept hg ?_, hne⟩
    · obtain ⟨o, h1, h2⟩ := hr b e.symm
      rw [hb] at h1; cases h1; cases h2
    · rcases ho.2 with ⟨rfl, _⟩ | ⟨g, cap, cur, fz, rfl, _, hgb, _⟩
      · exact .inl rfl
      · refine .inr fun e => ?_
        obtain ⟨o, h1, h2⟩ := hr g (by simpa [Value.ownBlock] using e.symm)
        rw [hgb] at h1; cases h1; cases h2
  exact h.elim (fun x => .inl (one _ x)) (fun x => .inr (one _ x))
theorem builderF_below {T e : TypeId} {B b : Nat} {bs : List Value} {w w' : World} (h : Lib.IsBuilderF T e B b bs w) (hb : Below w.heap.size w w') : Lib.IsBuilderF T e B b bs w' :=
  builderF_kept (row := none) h ⟨hb.os, hb.tape, hb.output, hb.size, fun k hk _ => hb.block k hk⟩ (fun r e => by cases e)
theorem builderF_set {B b h : Nat} {bs : List Value} {w : World} {v : Value} (hbd : Lib.IsBuilderF 72 5 B b bs w) (hh : w.heap[h]? = some (.cells #[v] 3 (0, 0))) (v' : Value) : Lib.IsBuilderF 72 5 B b bs (w.setCell ⟨h, 0, none⟩ v') := by
  have hg := grownBy_setCell' w h v'
  have one : ∀ p, Lib.BuilderAtF 72 5 B b p bs w → Lib.BuilderAtF 72 5 B b p bs (w.setCell ⟨h, 0, none⟩ v') := by
    rintro p ⟨hB, v, hb, ho, hne⟩
    refine ⟨hB, v, (hg.block b (Array.getElem?_eq_some_iff.1 hb).1 (fun e => ?_)).trans hb, ho.kept hg ?_, hne⟩
    · cases e; rw [hb] at hh; cases hh
    · rcases ho.2 with ⟨rfl, _⟩ | ⟨g, cap, cur, fz, rfl, _, hgb, _⟩
      · exact .inl rfl
      · refine .inr fun e => ?_
        have : g = h := by simpa [Value.ownBlock] using e
        subst this
        rw [hgb] at hh; cases hh
  exact hbd.elim (fun x => .inl (one _ x)) (fun x => .inr (one _ x))
theorem cells_u (c : Nat) : Lib.strCells (ByteArray.mk (Array.replicate c 114) ++ ByteArray.mk #[117]) = Lib.byteCells (List.replicate c 114 ++ [117]) := by
  rw [Lib.strCells_eq, ByteArray.data_append]
  simp
theorem size_u (c : Nat) : (ByteArray.mk (Array.replicate c 114) ++ ByteArray.mk #[117]).size = c + 1 := by
  rw [← Lib.strCells_length, cells_u, Lib.byteCells_length]
  simp
theorem block_kept {w w' : World} {row : Option Nat} {b : Nat} {cs : Array Value} {t : TypeId} (h : w.heap[b]? = some (.cells cs t (0, 0))) (hg : w.grownBy w' row)
    (hr : ∀ r, row = some r → ∃ o : Obj, w.heap[r]? = some o ∧ o.isCells = false) : w'.heap[b]? = some (.cells cs t (0, 0)) :=
  (hg.block b (Array.getElem?_eq_some_iff.1 h).1 (fun e => by
    obtain ⟨o, h1, h2⟩ := hr b e.symm
    rw [h] at h1; cases h1; cases h2)).trans h
theorem othersKept_block {b : Nat} {w w' : World} (h : Lib.OthersKept 5 (some b) w w') {k : Nat} {cs : Array Value} {t : TypeId} (hk : w.heap[k]? = some (.cells cs t (0, 0))) (ht : t ≠ 5) (hne : k ≠ b) : w'.heap[k]? = some (.cells cs t (0, 0)) :=
  h k _ hk (fun e => hne (Option.some.inj e)) (fun c fz e => by cases e; exact ht rfl)
theorem Kb.of_below {bs : List Nat} {w w' : World} (h : Below w.heap.size w w') : Kb bs w w' := fun b _ _ _ _ e => (h.block b (Array.getElem?_eq_some_iff.1 e).1).trans e
theorem Kb.of_others {bs : List Nat} {b : Nat} {w w' : World} (h : Lib.OthersKept 5 (some b) w w') (hb : b ∉ bs) : Kb bs w w' := fun _ hk _ _ ht e => othersKept_block h e ht (fun e2 => hb (e2 ▸ hk))
theorem Kb.of_set {bs : List Nat} {b : Nat} (w : World) (v : Value) (hb : b ∉ bs) : Kb bs w (w.setCell ⟨b, 0, none⟩ v) := fun k hk _ _ _ e => ((grownBy_setCell' w b v).block k (Array.getElem?_eq_some_iff.1 e).1 (fun e2 => hb (by cases e2; exact hk))).trans e
theorem keepsOthers_below {w w' : World} (h : Below w.heap.size w w') : KeepsOthers w w' := ⟨h.size, fun k _ hk _ => (h.block k (Array.getElem?_eq_some_iff.1 hk).1).trans hk⟩
theorem keepsOthers_kept {b : Nat} {w w' : World} {cs : Array Value} (h : Lib.OthersKept 5 (some b) w w') (hb : w.heap[b]? = some (.cells cs 72 (0, 0))) (hs : w.heap.size ≤ w'.heap.size) : KeepsOthers w w' :=
  ⟨hs, fun k o hk ho => h k o hk (fun e => by cases e; rw [hb] at hk; cases hk; cases ho) (fun c fz e => by rw [e] at ho; cases ho)⟩
theorem builder_block {B b : Nat} {bs : List Value} {w : World} (h : Lib.IsBuilderF 72 5 B b bs w) : ∃ cs, w.heap[b]? = some (.cells cs 72 (0, 0)) := by
  rcases h with ⟨_, v, hb, _⟩ | ⟨_, v, hb, _⟩
  · exact ⟨_, hb⟩
  · exact ⟨_, hb⟩
theorem four_blocks (w : World) (o0 o1 o2 o3 : Obj) :
    ((((w.alloc o0).alloc o1).alloc o2).alloc o3).heap[w.heap.size]? = some o0 ∧ ((((w.alloc o0).alloc o1).alloc o2).alloc o3).heap[w.heap.size + 1]? = some o1 ∧
      ((((w.alloc o0).alloc o1).alloc o2).alloc o3).heap[w.heap.size + 1 + 1]? = some o2 ∧ ((((w.alloc o0).alloc o1).alloc o2).alloc o3).heap[w.heap.size + 1 + 1 + 1]? = some o3 ∧
      Below w.heap.size w ((((w.alloc o0).alloc o1).alloc o2).alloc o3) := by
  refine ⟨alloc_old (alloc_old (alloc_old (block_new w o0))), alloc_old (alloc_old ?_), alloc_old ?_, ?_, belowA (belowA (belowA ((Below.refl _ _).alloc (Nat.le_refl _) _) _) _) _⟩
  · have := block_new (w.alloc o0) o1
    rwa [World.size_alloc] at this
  · have := block_new ((w.alloc o0).alloc o1) o2
    rwa [World.size_alloc, World.size_alloc] at this
  · have := block_new (((w.alloc o0).alloc o1).alloc o2) o3
    rwa [World.size_alloc, World.size_alloc, World.size_alloc] at this
theorem repeat_r (z : Int) (h0 : 0 ≤ z) (h1 : z ≤ 100) (W : World) : Calls Try.prog 54 #[.string ⟨#[114]⟩, .int .i64 z] W fun e w' => e = .returned (.string ⟨(List.replicate z.toNat 114).toArray⟩) ∧ Below W.heap.size W w' := by
  obtain ⟨c, rfl⟩ : ∃ c : Nat, z = c := ⟨z.toNat, by omega⟩
  have := shRepeat ⟨#[114]⟩ c W (by omega) (by show 1 * c ≤ _; omega)
  rw [show (ByteArray.mk #[114]).data.toList = List.replicate 1 114 from rfl, Lib.repeatL_replicate, Nat.mul_one] at this
  exact this

set_option maxHeartbeats 1000000 in
theorem Word_no (a b : Int) (l : List Int) (A : Option Addr) (c : Nat) (w : World) (hl : IntsAt w A l) (hlc : l.length ≤ c) (hA : A = none → c = 0) (hk : askedB a b l = false) :
    Calls Try.prog 21 #[.int .i64 a, .int .i64 b, .slice A l.length c] w fun e w' => e = .returned (.tuple #[.string ⟨#[]⟩, .int .i64 2]) ∧ Below w.heap.size w w' := by
  have CR := Off.mk (read_any a b l A c w hl hlc hA)
  have HK := Off.mk hk
  clear hk hl
  go_enter Try.func21, Try.ntmps21
  go_wp2_with fail
  refine CR.out.mono ?_
  rintro e w1 ⟨v1, rfl, _, hv, hb1⟩
  obtain rfl := hv HK.out
  rw [HK.out]
  go_wp2
  go_ret2
  exact ⟨rfl, belowA hb1 _⟩

set_option maxHeartbeats 4000000 in
set_option maxRecDepth 100000 in
theorem Word_yes (a b : Int) (l : List Int) (A : Option Addr) (c : Nat) (w : World) (hl : IntsAt w A l) (hlc : l.length ≤ c) (hA : A = none → c = 0) (hk : askedB a b l = true) :
    Calls Try.prog 21 #[.int .i64 a, .int .i64 b, .slice A l.length c] w fun e w' => e = .returned (.tuple #[.string ⟨(wordP b.toNat l).toArray⟩, .int .i64 0]) ∧ Below w.heap.size w w' := by
  have CR := Off.mk (read_any a b l A c w hl hlc hA)
  have HK := Off.mk hk
  obtain ⟨n, m, rfl, rfl, hn, hn1, hn6, hm1, hm6, hs⟩ := asked_nat hk
  have HS := Off.mk hs
  have HN := Off.mk hn
  clear hk hl hs hn
  refine (callsIn_wide (n := 5)).1 ?_
  refine callsIn_of_wp_marks Try.func21 rfl trivial ?_
  refine wpIn_wide.2 ?_
  simp only [Try.ntmps21, List.size_toArray, List.length_cons, List.length_nil, Nat.reduceAdd, Nat.reduceSub, Array.replicate_succ, Array.replicate_zero, List.push_toArray, List.append_toArray, List.nil_append, List.cons_append]
  go_wp2_with fail
  refine CR.out.mono ?_
  rintro e w1 ⟨v1, rfl, hO, _, hb1⟩
  have hO1 := hO HK.out
  obtain ⟨r, c1, rfl, hr0, hR1⟩ := own_row hO1 (by rw [HN.out]; omega)
  rw [HK.out]
  clear hO
  go_wp2_with fail
  refine (backward_any _ _ _ _).mono ?_
  rintro e w2 ⟨rfl, hw2⟩
  obtain ⟨bP, bO, bH, bB, hb2⟩ := four_blocks w1 (.cells #[.int .i64 (n : Int), .int .i64 (m : Int)] 62) (.cells #[.pointer none, .slice none 0 0] 72) (.cells #[.int .i64 0] 3) (.cells #[.slice (some ⟨r, 0, none⟩) l.length c1] 67)
  rw [← hw2] at bP bO bH bB hb2
  rw [World.size_alloc, World.size_alloc, World.size_alloc]
  have hw3 := belowC hb1 hb2
  have hR2 := hR1.below hb2
  have hrw := hR1.lt
  clear hw2
  obtain ⟨p0, hp0⟩ : ∃ p0, p0 = w1.heap.size := ⟨_, rfl⟩
  rw [← hp0] at bP bO bH bB hrw ⊢
  have hwp : w.heap.size ≤ p0 := by rw [hp0]; exact hb1.size
  clear hp0
  have hp2 : p0 + 1 + 1 + 1 < w2.heap.size := (Array.getElem?_eq_some_iff.1 bB).1
  have hl6 : l.length ≤ 6 := by rw [HN.out]; exact hn6
  go_wp2_with fail
  obtain ⟨cur, hcur, hcs⟩ : ∃ cur, w2.heap[r]? = some (.cells cur 3 (0, 0)) ∧ ∀ j, j < l.length → cur[j]? = some (.int .i64 (l.getD j 0)) := by
    rcases hR2.own.2 with ⟨h', _⟩ | ⟨g, cap, cur, h', _, hh, _⟩
    · cases h'
    · cases h'
      refine ⟨cur, hh, fun j hj => ?_⟩
      have := hR2.cell hj
      simpa [World.cell?, hh] using this
  have HRange : Off (∀ k, k ≤ l.length → 0 ≤ haveAt l k ∧ haveAt l k ≤ m) := ⟨fun k hk => have_range HS.out (by omega) k hk⟩
  have HStep : Off (∀ k, k < l.length → haveAt l k ≤ l.getD (l.length - 1 - k) 0) := ⟨fun k hk => have_step HS.out k hk⟩
  have HTl : Off (∀ k, k ≤ l.length → ((textAt l k).length : Int) = k + haveAt l k) := ⟨fun k hk => textAt_len HS.out k hk⟩
  refine (wpIn_wide (n := 5)).1 ?_
  refine wpIn_yields (F := Fence.wide) (n := 5) rfl (by omega) (gf := 78) (lb := #[.pointer (some ⟨p0 + 1 + 1 + 1, 0, none⟩)]) rfl trivial (enters_of Try.func78 (by kernel_rfl) rfl)
    (back_yields Fence.wide 4 trivial rfl (by omega) (p0 + 1 + 1 + 1) r c1 l cur w2 (by omega) bB hcur hcs) (fun _ => rfl) Kb.trans Kb.put
    (fun k W => (Boxed W (p0 + 1 + 1) 3 (.int .i64 (haveAt l k)) ∧ Lib.IsBuilderF 72 5 (p0 + 1) (p0 + 1) (Lib.byteCells (textAt l k)) W ∧ W.heap[p0]? = some (.cells #[.int .i64 (n : Int), .int .i64 (m : Int)] 62 (0, 0))) ∧ Below w.heap.size w W)
    (OwnFrom.and (Own.from (fun s X Y row hs hg hr => ⟨block_kept hs.1 hg hr, builderF_kept hs.2.1 hg hr, block_kept hs.2.2 hg hr⟩) _) (ownFrom_below (Nat.le_refl _) (by omega)))
    ⟨⟨bH, .inl ⟨Nat.le_refl _, _, bO, World.ownsRowF_nil _ _ _ _, by simp [Value.ownBlock]⟩, bP⟩, hw3⟩
    (fun k => { tmps := #[Value.int IntKind.i64 ↑n, Value.int IntKind.i64 ↑m, Value.slice A l.length c, undef, undef, undef, Value.string { data := #[] }, Value.int IntKind.i64 0, Value.pointer (some { block := p0, off := 0 }), Value.slice (some { block := r, off := 0 }) l.length c1, Value.bool true, Value.pointer (some { block := p0 + 1, off := 0 }), Value.pointer (some { block := p0 + 1 + 1, off := 0 }), undef, Value.int IntKind.i64 (l.getD (l.length - 1 - k) 0), Value.tuple #[Value.agg #[Value.int IntKind.i64 ↑n, Value.int IntKind.i64 ↑m], Value.slice (some { block := r, off := 0 }) l.length c1, Value.bool true], Value.int IntKind.i64 ↑n, Value.int IntKind.i64 ↑m, Value.slice A l.length c, Value.tuple #[Value.agg #[Value.int IntKind.i64 ↑n, Value.int IntKind.i64 ↑m], Value.slice (some { block := r, off := 0 }) l.length c1, Value.bool true], Value.agg #[Value.int IntKind.i64 ↑n, Value.int IntKind.i64 ↑m], Value.slice (some { block := r, off := 0 }) l.length c1, Value.bool true, Value.bool true, Value.bool false, Value.slice (some { block := r, off := 0 }) l.length c1, Value.func (Fn.func 78) #[] #[Value.pointer (some { block := p0 + 1 + 1 + 1, off := 0 })], Value.int IntKind.i64 ((l.length - 1 - k : Nat) : Int), Value.int IntKind.i64 (l.getD (l.length - 1 - k) 0), undef, undef, undef, undef, undef, undef, undef, undef, undef, undef, undef, undef, undef, undef], defers := [] }) ?assign ?body ?done
  case assign =>
    intro l' k W K hK
    simp only [backAt]
    gi_wp2
    exact hK
  case body =>
    rintro l' k W hk ⟨⟨hH, hBd, hPc⟩, hB⟩
    have hc := hH.cell
    have hf := hH.frozen
    have h1 := HRange.out k (by omega)
    have h2 := HStep.out k hk
    have h3 := HTl.out k (by omega)
    have h4 := HRange.out (k + 1) (by omega)
    have HTx : Off (textAt l (k + 1) = textAt l k ++ (List.replicate (l.getD (l.length - 1 - k) 0 - haveAt l k).toNat 114 ++ [117])) := ⟨rfl⟩
    have HHv : Off (haveAt l (k + 1) = l.getD (l.length - 1 - k) 0) := ⟨rfl⟩
    rw [HHv.out] at h4
    obtain ⟨z, hz⟩ : ∃ z, z = l.getD (l.length - 1 - k) 0 := ⟨_, rfl⟩
    obtain ⟨y, hy⟩ : ∃ y, y = haveAt l k := ⟨_, rfl⟩
    obtain ⟨tx, htx⟩ : ∃ tx, tx = textAt l k := ⟨_, rfl⟩
    rw [← hz] at h2 h4 HTx HHv
    rw [← hz]
    rw [← hy] at h1 h2 h3 HTx hc hH
    rw [← htx] at HTx h3 hBd
    have CR : Off (∀ W, Calls Try.prog 54 #[.string ⟨#[114]⟩, .int .i64 (z - y)] W fun e w' => e = .returned (.string ⟨(List.replicate (z - y).toNat 114).toArray⟩) ∧ Below W.heap.size W w') := ⟨fun W => repeat_r (z - y) (by omega) (by omega) W⟩
    clear hz hy htx
    have HBd := Off.mk hBd
    clear hBd
    gi_wp2_with (refine ⟨trivial, ?_⟩; gi_at_call 54; refine (CallsIn.inRound l' (callsIn_wide.2 (CR.out _))).mono ?_; rintro e w4 ⟨rfl, hb4⟩)
    refine ⟨trivial, ?_⟩
    have hBd4 := builderF_below HBd.out hb4
    have hsz4 : p0 + 1 ≤ w4.heap.size := by
      have := hb4.size
      have := hH.lt
      omega
    refine (CallsIn.inRound l' (callsIn_wide.2 (shWrite (p0 + 1) (p0 + 1) _ _ _ hBd4 (by rw [Lib.byteCells_length, size_u]; omega) hsz4))).mono ?_
    rintro e w5 ⟨rfl, hBd5, hb5, ho5⟩
    have hH4 := blockB hb4 hH
    have hP4 := blockB hb4 hPc
    have hH5 : Boxed w5 (p0 + 1 + 1) 3 (.int .i64 y) := othersKept_block ho5 hH4 (by decide) (by omega)
    have hP5 := othersKept_block ho5 hP4 (by decide) (by omega)
    have hc5 := hH5.cell
    have hf5 := hH5.frozen
    obtain ⟨cs4, hcs4⟩ := builder_block hBd4
    rw [cells_u, ← Lib.byteCells_append, ← HTx.out] at hBd5
    have HB5 := Off.mk hBd5
    clear hBd5
    gi_wp2
    refine ⟨((keepsOthers_below hb4).trans (keepsOthers_kept ho5 hcs4 hb5.size)).trans (KeepsOthers.setCell _ _ _), ((Kb.of_below hb4).trans (Kb.of_others ho5 (by simp <;> omega))).trans (Kb.of_set _ _ (by simp <;> omega)), ⟨?_, builderF_set (.inr HB5.out) hH5 _, ?_⟩, ?_⟩
    · rw [HHv.out]; exact hH5.set _
    · exact ((grownBy_setCell' w5 (p0 + 1 + 1) (.int .i64 z)).block p0 (Array.getElem?_eq_some_iff.1 hP5).1 (fun e => by cases e)).trans hP5
    · exact ((belowC hB hb4).trans (hb5.mono (by omega))).setCell (p := ⟨p0 + 1 + 1, 0, none⟩) (by show w.heap.size ≤ p0 + 1 + 1; omega) _
  case done =>
    rintro D W hD ⟨⟨hH, hBd, hPc⟩, hB⟩ hDd
    have h1 := HRange.out l.length (Nat.le_refl _)
    have h3 := HTl.out l.length (Nat.le_refl _)
    have HW : Off (wordP m l = textAt l l.length ++ List.replicate ((m : Int) - haveAt l l.length).toNat 114) := ⟨rfl⟩
    obtain ⟨y, hy⟩ : ∃ y, y = haveAt l l.length := ⟨_, rfl⟩
    obtain ⟨tx, htx⟩ : ∃ tx, tx = textAt l l.length := ⟨_, rfl⟩
    rw [← hy, ← htx] at HW
    rw [← hy] at h1 hH h3
    rw [← htx] at hBd h3
    have htl : tx.length ≤ 20 := by omega
    have CR : Off (∀ W, Calls Try.prog 54 #[.string ⟨#[114]⟩, .int .i64 (m - y)] W fun e w' => e = .returned (.string ⟨(List.replicate (m - y).toNat 114).toArray⟩) ∧ Below W.heap.size W w') := ⟨fun W => repeat_r (m - y) (by omega) (by omega) W⟩
    clear hy htx
    have hc := hH.cell
    obtain ⟨⟨q0, q1⟩, _, _⟩ := two_facts hPc
    have HBd := Off.mk hBd
    have hsz4 : p0 + 1 ≤ W.heap.size := by
      have := hH.lt
      omega
    have hOlt := hH.lt
    clear hBd
    go_wp2_with fail
    have HBd' : Off (Lib.IsBuilderF 72 5 (p0 + 1) (p0 + 1) (Lib.byteCells tx) W.drew) := ⟨builderF_below HBd.out (Below.refl _ _).drew⟩
    have hPcD : Off (W.drew.heap[p0]? = some (.cells #[.int .i64 (n : Int), .int .i64 (m : Int)] 62 (0, 0))) := ⟨hPc⟩
    have hHD : Off (W.drew.heap[p0 + 1 + 1]? = some (.cells #[.int .i64 y] 3 (0, 0))) := ⟨hH⟩
    have hszD : Off (p0 + 1 ≤ W.drew.heap.size) := ⟨hsz4⟩
    have W1 : IntKind.i64.wrap ((m : Int) - y) = (m : Int) - y := by rw [IntKind.wrap_i64]; omega
    have hbig : ¬ (9223372036854775807 < tx.length + ((m : Int) - y).toNat) := by omega
    have hne : Off (p0 ≠ p0 + 1 ∧ p0 + 1 + 1 ≠ p0 + 1) := ⟨by omega⟩
    go_region_held3 (fun w' => (w'.cell? ⟨p0, 0, none⟩ = some (.int .i64 (n : Int)) ∧ w'.cell? ⟨p0, 1, none⟩ = some (.int .i64 (m : Int))) ∧ w'.cell? ⟨p0 + 1 + 1, 0, none⟩ = some (.int .i64 y))
      (first | go_keep | exact ⟨⟨q0, q1⟩, hc⟩)
      (first
        | (go_at_call 55; refine (shString (p0 + 1) (p0 + 1) tx _ HBd'.out hszD.out).mono ?_; rintro e w5 ⟨rfl, hBd5, hb5, ho5⟩; have hP5 := othersKept_block ho5 hPcD.out (by decide) hne.out.1; have hH5 := othersKept_block ho5 hHD.out (by decide) hne.out.2; obtain ⟨⟨q0, q1⟩, _, _⟩ := two_facts hP5; have hc := (one_facts hH5).1)
        | (go_at_call 54; refine (CR.out _).mono ?_; rintro e w6 ⟨rfl, hb6⟩; have q0 := cellB hb6 q0; have q1 := cellB hb6 q1; have hc := cellB hb6 hc))
    have hD5 : w5.heap[D]? = some (.deferred (some [])) := ho5 D _ hDd (fun e => by cases e; rcases HBd.out with ⟨_, v, hb, _⟩ | ⟨_, v, hb, _⟩ <;> (rw [hb] at hDd; cases hDd)) (fun c fz e => by cases e)
    have hD6 := blockB hb6 hD5
    have hB6 : Below w.heap.size w w6 := belowC ((hB.drew).trans (hb5.mono (by omega))) hb6
    go_wp2
    refine ⟨by simp, .inl ⟨_, _, rfl, run_takeDeferred hD6, ?_⟩⟩
    refine ⟨.tuple #[.string ⟨(wordP m l).toArray⟩, .int .i64 0], ?_, rfl, hB6.trans (belowK_b (w := w) (Nat.le_refl _) _ D _ _ (by omega) hD6 rfl rfl)⟩
    have hstr : (ByteArray.mk tx.toArray ++ ByteArray.mk (Array.replicate ((m : Int) - y).toNat 114)) = ByteArray.mk (wordP m l).toArray := by
      rw [HW.out]
      apply ByteArray.ext
      rw [ByteArray.data_append]
      simp
    simp [results, Try.results21, go_sem, hstr]
end Go.Proofs.Ytnhbkopgbibcgaa
