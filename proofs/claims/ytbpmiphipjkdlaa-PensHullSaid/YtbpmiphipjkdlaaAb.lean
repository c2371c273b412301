/- Ground for the layer pens: points in memory, rows of them of the call's own (e: 34 for points, 70 for points as arrays). -/
import Derived.Test.YtbpmiphipjkdlaaAa
namespace Go.Proofs.Ytbpmiphipjkdlaa
open Go.RowKit Go.Shelf

/-- Pairs of numbers lie in memory. -/
structure PairsI (w : World) (A : Option Addr) (xs : List (Int × Int)) : Prop where
  len : xs.length ≤ 140737488351232
  cell : ∀ j, j < xs.length → ∃ ad, A = some ad ∧ w.cell? (ad.add (j * 2)) = some (.int .i64 (xs.getD j (0, 0)).1) ∧ w.cell? ⟨(ad.add (j * 2)).block, (ad.add (j * 2)).off + 1, none⟩ = some (.int .i64 (xs.getD j (0, 0)).2)
theorem PairsI.below {w w1 : World} {A : Option Addr} {xs : List (Int × Int)} (h : PairsI w A xs) (hb : Below w.heap.size w w1) : PairsI w1 A xs :=
  ⟨h.len, fun j hj => by obtain ⟨ad, e, h1, h2⟩ := h.cell j hj; exact ⟨ad, e, cellB hb h1, cellB hb h2⟩⟩
theorem info34 : (Try.prog.info? 34).map (fun i => (i.zero, i.size, i.bytes)) = some (some (.agg #[.int .i64 0, .int .i64 0]), 2, 16) := by kernel_rfl
theorem info70 : (Try.prog.info? 70).map (fun i => (i.zero, i.size, i.bytes)) = some (some (.agg #[.int .i64 0, .int .i64 0]), 2, 16) := by kernel_rfl
def pairCells (xs : List (Int × Int)) : List Value := xs.flatMap fun x => [.int .i64 (x.1 : Int), .int .i64 (x.2 : Int)]
/-- A row of pairs of the call's own. -/
structure OwnQ (e : TypeId) (w : World) (base : Nat) (v : Value) (xs : List (Int × Int)) : Prop where
  out : w.ownsRow base e 2 v xs.length (pairCells xs)
theorem ownQ_below {e : TypeId} {w w1 : World} {base : Nat} {v : Value} {xs : List (Int × Int)} (h : OwnQ e w base v xs) (hb : Below w.heap.size w w1) : OwnQ e w1 base v xs :=
  ⟨h.out.kept (row := none) ⟨hb.os, hb.tape, hb.output, hb.size, fun i hi _ => hb.block i hi⟩ (by cases v.ownBlock <;> simp)⟩
theorem ownQ_base {e : TypeId} {w : World} {base : Nat} {v : Value} {xs : List (Int × Int)} (h : OwnQ e w base v xs) {k : Nat} (hk : v.ownBlock = some k) : base ≤ k := by
  rcases h.out.2 with ⟨rfl, _⟩ | ⟨g, cap, cur, rfl, hb, _⟩
  · simp [Value.ownBlock] at hk
  · have : g = k := by simpa [Value.ownBlock] using hk
    omega
theorem ownQ_mono {e : TypeId} {w : World} {base base' : Nat} {v : Value} {xs : List (Int × Int)} (h : OwnQ e w base v xs) (hb : base' ≤ base) : OwnQ e w base' v xs := by
  refine ⟨h.out.1, ?_⟩
  rcases h.out.2 with h | ⟨g, cap, cur, e, hg, r⟩
  · exact .inl h
  · exact .inr ⟨g, cap, cur, e, Nat.le_trans hb hg, r⟩
theorem pairCells_len (xs : List (Int × Int)) : (pairCells xs).length = xs.length * 2 := by
  induction xs with
  | nil => rfl
  | cons x xs ih => simp only [pairCells, List.flatMap_cons, List.length_append, List.length_cons, List.length_nil] at *; omega
theorem pairCells_at (xs : List (Int × Int)) : ∀ j, j < xs.length → (pairCells xs)[j * 2]? = some (.int .i64 ((xs.getD j (0, 0)).1 : Int)) ∧ (pairCells xs)[j * 2 + 1]? = some (.int .i64 ((xs.getD j (0, 0)).2 : Int)) := by
  induction xs with
  | nil => intro j hj; simp at hj
  | cons x xs ih =>
    intro j hj
    cases j with
    | zero => simp [pairCells]
    | succ j =>
      have h := ih j (by simpa using hj)
      have e : (j + 1) * 2 = j * 2 + 2 := by omega
      rw [e]
      simpa [pairCells] using h
theorem ownQ_pairs {e : TypeId} {w : World} {base : Nat} {v : Value} {xs : List (Int × Int)} (h : OwnQ e w base v xs) (hx : xs.length ≤ 140737488351232) : ∃ A c, v = .slice A xs.length c ∧ PairsI w A xs ∧ xs.length ≤ c ∧ (A = none → c = 0) := by
  rcases h.out.2 with ⟨rfl, h1⟩ | ⟨g, cap, cur, rfl, hb, hh, hc, _⟩
  · obtain rfl : xs = [] := List.length_eq_zero_iff.1 h1
    exact ⟨none, 0, rfl, ⟨by simp, fun j hj => by simp at hj⟩, Nat.le_refl _, fun _ => rfl⟩
  · refine ⟨_, cap, rfl, ⟨hx, fun j hj => ⟨⟨g, 0, none⟩, rfl, ?_, ?_⟩⟩, hc, fun e => by cases e⟩
    · have := h.out.cellAt (j * 2) (by omega)
      rw [Addr.add_lit, Nat.zero_add, this]
      exact (pairCells_at xs j hj).1
    · have := h.out.cellAt (j * 2 + 1) (by omega)
      simp only [Addr.add_lit, Nat.zero_add]
      rw [this]
      exact (pairCells_at xs j hj).2

theorem ownQ_nil (e : TypeId) (w : World) (base : Nat) : OwnQ e w base (.slice none 0 0) [] := ⟨World.ownsRow_nil _ _ _ _⟩
/-- Two rows do not share a block. -/
def Apart (v u : Value) : Prop := v.ownBlock = none ∨ v.ownBlock ≠ u.ownBlock
/-- append goes on in its own block or in a new one. -/
theorem append_block {w : World} (base : Nat) (t ty e : TypeId) (i : TypeInfo) (z : Value) (size bytes : Nat) (ht : Try.prog.underlying t = some (.slice e)) (hi : Try.prog.info? e = some i) (hz : i.zero = some z)
    (hsize : i.size = size) (hby : i.bytes = bytes) (v : Value) (n : Nat) (xs : List Value) (hown : w.ownsRow base e size v n xs)
    (a : Addr) (m c : Nat) (news : List Value) (hl : news.length = m * size) (hnews : ∀ j u, news[j]? = some u → w.cell? (a.add j) = some u) (h1 : ∀ u ∈ news, u.oneCell' = true)
    (hm : 0 < m) (h63 : n + m ≤ maxLen) (hbytes : (n + m) * bytes ≤ 140737488355328) {v' : Value} {w' : World}
    (hr : (Builtin.append_ #[t, t] ty #[v, .slice (some a) m c]).run Try.prog w = .ok v' w') : v'.ownBlock = v.ownBlock ∨ v'.ownBlock = some w.heap.size := by
  subst hsize hby
  unfold maxLen at h63
  rcases hown.2 with ⟨rfl, rfl⟩ | ⟨g, cap, cur, rfl, hbg, hg, hnc, hcm, hcs, htake⟩
  · rw [run_append_nil (P := Try.prog) w t ty e i z ht hi hz a m c news hl hnews hm (by omega) (by rw [Nat.zero_add] at hbytes; omega)] at hr
    cases hr
    exact .inr rfl
  · by_cases hroom : n + m ≤ cap
    · have hfit : n * i.size + news.length ≤ cur.size := by rw [hl, hcs, ← Nat.add_mul]; exact Nat.mul_le_mul_right _ hroom
      rw [run_append_room (P := Try.prog) w t ty e i ht hi g n cap cur hg a m c news hl hnews h1 hroom hfit] at hr
      cases hr
      exact .inl rfl
    · rw [run_append_grow (P := Try.prog) w t ty e i z ht hi hz ⟨g, 0, none⟩ n cap xs hown.1 (hown.cells (g := g) rfl) a m c news hl hnews (by omega) (by omega) (growslice_fits (by omega) hbytes)] at hr
      cases hr
      exact .inr rfl
/-- A pair more in a list of pairs. -/
theorem wpList_pair {e t : TypeId} {i0 : TypeInfo} {z : Value} (hu : Try.prog.underlying t = some (.slice e)) (hj : Try.prog.info? e = some i0) (hy0 : i0.zero = some z) (hy1 : i0.size = 2) (hy2 : i0.bytes = 16) (hzc : z.cells.size = 2) {w : World} {ops : Array Oper} {rest : List Oper} {o : Oper} {a : Act} {Q : Exit → Act → World → Prop} (hgd : o.guard = none) (s x : Operand)
    (ho : o.op = .call { callee := .builtin .append, args := #[s, x], argTypes := #[t, t] }) (base : Nat) (v : Value) (xs : List (Int × Int)) (i j : Int) (hO : OwnQ e w base v xs) (hb : base ≤ w.heap.size) (h100 : xs.length ≤ 1000)
    (hs : a.eval s = v) (hx : a.eval x = .slice (some ⟨w.heap.size, 0, none⟩) 1 1)
    (h : ∀ v' w', OwnQ e w' base v' (xs ++ [(i, j)]) → Below base w w' → (∀ u ys, OwnQ e w base u ys → Apart v u → OwnQ e w' base u ys ∧ Apart v' u) → wpList Try.prog ops Q rest (a.put o.dst v') w') :
    wpList Try.prog ops Q (o :: rest) a (w.alloc (.cells #[.int .i64 (i : Int), .int .i64 (j : Int)] e)) := by
  refine wpList_plain hgd fun K hK => ?_
  have hW : Below w.heap.size w (w.alloc (.cells #[.int .i64 (i : Int), .int .i64 (j : Int)] e)) := (Below.refl _ _).alloc (Nat.le_refl _) _
  have c1 : ∀ k u, ([.int .i64 (i : Int), .int .i64 (j : Int)] : List Value)[k]? = some u → (w.alloc (.cells #[.int .i64 (i : Int), .int .i64 (j : Int)] e)).cell? ((⟨w.heap.size, 0, none⟩ : Addr).add k) = some u := by
    intro k u hk
    match k, hk with
    | 0, hk => simp at hk; subst hk; simp [Addr.add_lit]
    | 1, hk => simp at hk; subst hk; simp [Addr.add_lit]
  have c2 : ∀ u ∈ ([.int .i64 (i : Int), .int .i64 (j : Int)] : List Value), u.oneCell' = true := by intro u hu; simp at hu; rcases hu with rfl | rfl <;> rfl
  obtain ⟨v', w', hr, h2, h3, h4⟩ := run_append_own (P := Try.prog) _ base t o.type e i0 _ 2 16 hu hj hy0 hy1 hy2 hzc (by decide) v xs.length _ (hO.out.alloc _) ⟨w.heap.size, 0, none⟩ 1 1 _ rfl c1 c2 (by unfold maxLen; omega) (by omega) (by simp; omega)
  have hblk := append_block base t o.type e i0 _ 2 16 hu hj hy0 hy1 hy2 v xs.length _ (hO.out.alloc _) ⟨w.heap.size, 0, none⟩ 1 1 _ rfl c1 c2 (by omega) (by unfold maxLen; omega) (by omega) hr
  have hB : Below base w w' := ((Below.refl _ _).alloc hb _).grown h3 (by simp; omega) (fun k e => ownQ_base hO e)
  unfold Oper.wp execOp
  simp only [ho, resolve, invoke, builtin, Sem.run_bind, Sem.run_pure, Result.andThen_ok, List.map_toArray, List.map_cons, List.map_nil, hs, hx, hr]
  refine hK _ _ (h v' w' ⟨by rw [List.length_append]; simpa [pairCells] using h2⟩ hB fun u ys hu1 hap => ?_)
  have hu' := hu1.out.alloc (.cells #[.int .i64 (i : Int), .int .i64 (j : Int)] e)
  refine ⟨⟨hu'.kept h3 ?_⟩, ?_⟩
  · rcases hap with e | e
    · rcases hvu : u.ownBlock with _ | g
      · exact .inl rfl
      · right; rw [e]; exact fun x => by cases x
    · rcases hvu : u.ownBlock with _ | g
      · exact .inl rfl
      · right; rw [← hvu]; exact fun x => e x.symm
  · rcases hblk with e | e
    · rcases hap with f | f
      · exact .inl (e.trans f)
      · exact .inr (by rw [e]; exact f)
    · right
      rw [e]
      intro f
      have h5 := (hu1.out.lt _ f.symm).2
      rw [World.size_alloc] at h5
      omega

structure Keeps (r : Nat) (w w' : World) : Prop where
  out : w.grownBy w' (some r)
theorem Keeps.refl (r : Nat) (w : World) : Keeps r w w := ⟨World.grownBy.refl _ _⟩
theorem Keeps.trans {r : Nat} {a b c : World} (h : Keeps r a b) (k : Keeps r b c) : Keeps r a c :=
  ⟨⟨k.out.os.trans h.out.os, k.out.tape.trans h.out.tape, k.out.output.trans h.out.output, Nat.le_trans h.out.size k.out.size, fun i hi hne => (k.out.block i (Nat.lt_of_lt_of_le hi h.out.size) hne).trans (h.out.block i hi hne)⟩⟩
theorem Keeps.of_below {r : Nat} {w w' : World} (h : Below w.heap.size w w') : Keeps r w w' := ⟨⟨h.os, h.tape, h.output, h.size, fun i hi _ => h.block i hi⟩⟩
theorem Keeps.below {r B : Nat} {w0 w w' : World} (h : Below B w0 w) (k : Keeps r w w') (hB : B ≤ w.heap.size) (hr : B ≤ r) : Below B w0 w' :=
  h.grown k.out hB (fun j e => by cases e; exact hr)
theorem Keeps.cell {r : Nat} {w w1 : World} (h : Keeps r w w1) {a : Addr} {v : Value} (hc : w.cell? a = some v) (hne : a.block ≠ r) : w1.cell? a = some v :=
  h.out.cell hc (fun e => hne (Option.some.inj e))
theorem pairCells_set (xs : List (Int × Int)) : ∀ (i : Nat) (x y : Int), i < xs.length → pairCells (xs.set i (x, y)) = ((pairCells xs).set (i * 2) (.int .i64 (x : Int))).set (i * 2 + 1) (.int .i64 (y : Int)) := by
  induction xs with
  | nil => intro i x y h; simp at h
  | cons z xs ih =>
    intro i x y h
    cases i with
    | zero => simp [pairCells]
    | succ i =>
      have e : (i + 1) * 2 = i * 2 + 2 := by omega
      have h2 := ih i x y (by simpa using h)
      rw [List.set_cons_succ, e]
      show [_, _] ++ pairCells (xs.set i (x, y)) = _
      rw [h2]
      simp [pairCells]
/-- A row of k pairs that the call owns, at block r. -/
structure QRow (e : TypeId) (w : World) (base r k c : Nat) (xs : List (Int × Int)) : Prop where
  len : xs.length = k
  own : w.ownsRow base e 2 (.slice (some ⟨r, 0, none⟩) k c) k (pairCells xs)
theorem QRow.cells {e : TypeId} {w : World} {base r k c : Nat} {xs : List (Int × Int)} (h : QRow e w base r k c xs) {i : Nat} (hi : i < k) : w.cell? ⟨r, i * 2, none⟩ = some (.int .i64 ((xs.getD i (0, 0)).1 : Int)) ∧ w.cell? ⟨r, i * 2 + 1, none⟩ = some (.int .i64 ((xs.getD i (0, 0)).2 : Int)) := by
  have hp := pairCells_at xs i (by rw [h.len]; exact hi)
  exact ⟨by rw [h.own.cellAt (i * 2) (by omega)]; exact hp.1, by rw [h.own.cellAt (i * 2 + 1) (by omega)]; exact hp.2⟩
theorem QRow.frozen {e : TypeId} {w : World} {base r k c : Nat} {xs : List (Int × Int)} (h : QRow e w base r k c xs) (i : Nat) : w.frozen? ⟨r, i, none⟩ = false := h.own.frozenAt i
theorem QRow.below {e : TypeId} {w w1 : World} {base r k c : Nat} {xs : List (Int × Int)} (h : QRow e w base r k c xs) (hb : Below w.heap.size w w1) : QRow e w1 base r k c xs := ⟨h.len, owns_below h.own hb⟩
theorem QRow.stored {e : TypeId} {w : World} {base r k c : Nat} {xs : List (Int × Int)} (h : QRow e w base r k c xs) {i : Nat} (hi : i < k) (x y : Int) :
    QRow e ((w.setCell ⟨r, i * 2, none⟩ (.int .i64 (x : Int))).setCell ⟨r, i * 2 + 1, none⟩ (.int .i64 (y : Int))) base r k c (xs.set i (x, y)) ∧ Keeps r w ((w.setCell ⟨r, i * 2, none⟩ (.int .i64 (x : Int))).setCell ⟨r, i * 2 + 1, none⟩ (.int .i64 (y : Int))) := by
  obtain ⟨ho, hg⟩ := h.own.stored (i * 2) (.int .i64 (x : Int))
  obtain ⟨ho2, hg2⟩ := ho.stored (i * 2 + 1) (.int .i64 (y : Int))
  exact ⟨⟨by rw [List.length_set]; exact h.len, by rw [pairCells_set _ _ _ _ (by rw [h.len]; exact hi)]; exact ho2⟩, (Keeps.mk hg).trans ⟨hg2⟩⟩
theorem owns_lt {w : World} {base r k c n size e : Nat} {ys : List Value} (h : w.ownsRow base e size (.slice (some ⟨r, 0, none⟩) k c) n ys) : r < w.heap.size := (h.lt r rfl).2
theorem QRow.lt {e : TypeId} {w : World} {base r k c : Nat} {xs : List (Int × Int)} (h : QRow e w base r k c xs) : r < w.heap.size := owns_lt h.own
theorem ownQ_row {e : TypeId} {w : World} {base : Nat} {v : Value} {xs : List (Int × Int)} (h : OwnQ e w base v xs) (hn : 0 < xs.length) : ∃ r c, v = .slice (some ⟨r, 0, none⟩) xs.length c ∧ base ≤ r ∧ QRow e w base r xs.length c xs := by
  have h' := h.out
  rcases h.out.2 with ⟨rfl, h1⟩ | ⟨g, cap, cur, rfl, hb, _⟩
  · omega
  · exact ⟨g, cap, rfl, hb, rfl, h'⟩
theorem ownQ_keeps2 {e : TypeId} {r base : Nat} {w w1 : World} {v : Value} {xs : List (Int × Int)} (h : OwnQ e w base v xs) (k : Keeps r w w1) (hr : v.ownBlock ≠ some r) : OwnQ e w1 base v xs :=
  ⟨h.out.kept k.out (.inr hr)⟩
theorem pairCells_one (xs : List (Int × Int)) : ∀ u ∈ pairCells xs, u.oneCell' = true := by
  intro u hu
  unfold pairCells at hu
  obtain ⟨x, _, hx⟩ := List.mem_flatMap.1 hu
  simp at hx
  rcases hx with rfl | rfl <;> rfl
theorem own_ints' {w : World} {base : Nat} {v : Value} {xs : List Int} (h : Own w base v xs) (hx : xs.length ≤ 140737488351232) : ∃ A c, v = .slice A xs.length c ∧ IntsAt w A xs ∧ xs.length ≤ c ∧ (A = none → c = 0) := by
  obtain ⟨A, c, rfl, h1, h2⟩ := own_ints h hx
  refine ⟨A, c, rfl, h1, h2, ?_⟩
  rintro rfl
  rcases h.out.2 with ⟨e, _⟩ | ⟨g, cap, cur, e, _⟩
  · simp at e; exact e.2
  · simp at e
end Go.Proofs.Ytbpmiphipjkdlaa
