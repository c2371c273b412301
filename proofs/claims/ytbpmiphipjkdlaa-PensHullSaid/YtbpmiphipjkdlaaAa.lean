/- Ground for the layer pens: facts that stay hidden, integers in memory, rows of the call's own. -/
import Derived.Test.YtbpmiphipjkdlaaProg
import Derived.WalkKit
import Derived.Below
import Derived.Deep.QuietTactic
import Derived.BigQuiet
import Derived.WalkLawsBesides
import Derived.WalkSpells
import Derived.Laws.BitsLemmas
import Derived.Shelf.Abstract
import Derived.Outline
import Derived.OwnWalk
import Derived.Laws.OwnMore
namespace Go.Proofs.Ytbpmiphipjkdlaa
open Go.RowKit Go.Shelf

/-- A fact that the walk's simp doesn't look into. -/
structure Off (p : Prop) : Prop where mk :: (out : p)
/-- The integers of a slice lie in memory. -/
structure IntsAt (w : World) (A : Option Addr) (l : List Int) : Prop where
  len : l.length ≤ 140737488351232
  cell : ∀ j, j < l.length → ∃ ad, A = some ad ∧ w.cell? (ad.add j) = some (.int .i64 (l.getD j 0))
theorem cellB {w w1 : World} (h : Below w.heap.size w w1) {a : Addr} {v : Value} (hc : w.cell? a = some v) : w1.cell? a = some v := (h.cell (World.block_lt_of_cell? w a hc)).trans hc
theorem IntsAt.below {w w1 : World} {A : Option Addr} {l : List Int} (h : IntsAt w A l) (hb : Below w.heap.size w w1) : IntsAt w1 A l :=
  ⟨h.len, fun j hj => by obtain ⟨ad, e, hc⟩ := h.cell j hj; exact ⟨ad, e, cellB hb hc⟩⟩
theorem below_drewN' {B : Nat} {a w : World} (h : Below B a w) (q : Nat) : Below B a (w.drewN q) := ⟨h.os, h.tape, h.output, h.size, h.block⟩
theorem ret_int {k : IntKind} {a b : Int} (h : a = b) : Ending.returned (.int k a) = .returned (.int k b) := by rw [h]
theorem ret_bool {a b : Bool} (h : a = b) : Ending.returned (.bool a) = .returned (.bool b) := by rw [h]
def nums (xs : List Int) : List Value := xs.map (Value.int .i64)
theorem info3 : (Try.prog.info? 3).map (fun i => (i.zero, i.size, i.bytes)) = some (some (.int .i64 0), 1, 8) := by kernel_rfl
/-- A row of whole numbers of the call's own. -/
structure Own (w : World) (base : Nat) (v : Value) (xs : List Int) : Prop where
  out : w.ownsRow base 3 1 v xs.length (nums xs)
theorem own_below {w w1 : World} {base : Nat} {v : Value} {xs : List Int} (h : Own w base v xs) (hb : Below w.heap.size w w1) : Own w1 base v xs :=
  ⟨h.out.kept (row := none) ⟨hb.os, hb.tape, hb.output, hb.size, fun i hi _ => hb.block i hi⟩ (by cases v.ownBlock <;> simp)⟩

theorem own_base {w : World} {base : Nat} {v : Value} {xs : List Int} (h : Own w base v xs) {k : Nat} (hk : v.ownBlock = some k) : base ≤ k := by
  rcases h.out.2 with ⟨rfl, _⟩ | ⟨g, cap, cur, rfl, hb, _⟩
  · simp [Value.ownBlock] at hk
  · have : g = k := by simpa [Value.ownBlock] using hk
    omega

theorem own_mono {w : World} {base base' : Nat} {v : Value} {xs : List Int} (h : Own w base v xs) (hb : base' ≤ base) : Own w base' v xs := by
  refine ⟨h.out.1, ?_⟩
  rcases h.out.2 with h | ⟨g, cap, cur, e, hg, r⟩
  · exact .inl h
  · exact .inr ⟨g, cap, cur, e, Nat.le_trans hb hg, r⟩

theorem nums_at (xs : List Int) (i : Nat) (h : i < xs.length) : (nums xs)[i]? = some (.int .i64 (xs.getD i 0)) := by
  simp [nums, List.getElem?_eq_getElem h, List.getD_eq_getElem?_getD]
theorem own_ints {w : World} {base : Nat} {v : Value} {xs : List Int} (h : Own w base v xs) (hx : xs.length ≤ 140737488351232) : ∃ A c, v = .slice A xs.length c ∧ IntsAt w A xs ∧ xs.length ≤ c := by
  rcases h.out.2 with ⟨rfl, h1⟩ | ⟨g, cap, cur, rfl, hb, hh, hc, _⟩
  · have : xs = [] := by simpa [nums] using h1
    subst this
    exact ⟨none, 0, rfl, ⟨by simp, fun j hj => by simp at hj⟩, Nat.le_refl _⟩
  · refine ⟨_, cap, rfl, ⟨hx, fun j hj => ⟨⟨g, 0, none⟩, rfl, ?_⟩⟩, hc⟩
    have := h.out.cellAt j (by omega)
    rw [Addr.add_lit, Nat.zero_add, this]
    exact nums_at xs j hj
/-- A block of four numbers, whole. -/
theorem four_facts {w : World} {b : Nat} {v0 v1 v2 v3 : Value} {t : TypeId} (h : w.heap[b]? = some (.cells #[v0, v1, v2, v3] t (0, 0))) :
    (w.cell? ⟨b, 0, none⟩ = some v0 ∧ w.cell? ⟨b, 1, none⟩ = some v1 ∧ w.cell? ⟨b, 2, none⟩ = some v2 ∧ w.cell? ⟨b, 3, none⟩ = some v3) ∧
      w.frozen? ⟨b, 0, none⟩ = false ∧ w.frozen? ⟨b, 1, none⟩ = false ∧ w.frozen? ⟨b, 2, none⟩ = false ∧ w.frozen? ⟨b, 3, none⟩ = false := by
  simp [World.cell?, World.frozen?, h]
theorem block_new (w : World) (o : Obj) : (w.alloc o).heap[w.heap.size]? = some o := by
  show (w.heap.push o)[w.heap.size]? = some o
  simp

theorem belowC {w0 a b : World} (h : Below w0.heap.size w0 a) (k : Below a.heap.size a b) : Below w0.heap.size w0 b := h.trans (k.mono h.size)
theorem belowA {w0 a : World} (h : Below w0.heap.size w0 a) (o : Obj) : Below w0.heap.size w0 (a.alloc o) := h.alloc h.size o

theorem two_facts {w : World} {b : Nat} {v0 v1 : Value} {t : TypeId} (h : w.heap[b]? = some (.cells #[v0, v1] t (0, 0))) :
    (w.cell? ⟨b, 0, none⟩ = some v0 ∧ w.cell? ⟨b, 1, none⟩ = some v1) ∧ w.frozen? ⟨b, 0, none⟩ = false ∧ w.frozen? ⟨b, 1, none⟩ = false := by
  simp [World.cell?, World.frozen?, h]
theorem one_facts {w : World} {b : Nat} {v0 : Value} {t : TypeId} (h : w.heap[b]? = some (.cells #[v0] t (0, 0))) :
    w.cell? ⟨b, 0, none⟩ = some v0 ∧ w.frozen? ⟨b, 0, none⟩ = false := by
  simp [World.cell?, World.frozen?, h]
theorem belowD {B : Nat} {w0 a b : World} (h : Below B w0 a) (hB : B ≤ a.heap.size) (k : Below a.heap.size a b) : Below B w0 b := h.trans (k.mono hB)
theorem owns_below {w w1 : World} {base size n : Nat} {e : TypeId} {v : Value} {xs : List Value} (h : w.ownsRow base e size v n xs) (hb : Below w.heap.size w w1) : w1.ownsRow base e size v n xs :=
  h.kept (row := none) ⟨hb.os, hb.tape, hb.output, hb.size, fun i hi _ => hb.block i hi⟩ (by cases v.ownBlock <;> simp)
theorem alloc_old {w : World} {o o' : Obj} {b : Nat} (h : w.heap[b]? = some o) : (w.alloc o').heap[b]? = some o :=
  (Below.heap_alloc w o' b (Array.getElem?_eq_some_iff.1 h).1).trans h
theorem blockB {w w1 : World} (h : Below w.heap.size w w1) {b : Nat} {o : Obj} (hc : w.heap[b]? = some o) : w1.heap[b]? = some o :=
  (h.block b (Array.getElem?_eq_some_iff.1 hc).1).trans hc

theorem tab_keep {w w2 w3 w4 : World} {v : Value} {Bt n e size : Nat} {t : TypeId} {xs : List Value} {o : Obj} (hblk : w.heap[Bt]? = some (.cells #[v] t (0, 0))) (hown : w.ownsRow (Bt + 1) e size v n xs)
    (hb2 : Below w.heap.size w w2) (hb3 : Below w2.heap.size w2 w3) (hg : (w3.alloc o).grownBy w4 v.ownBlock) : w4.heap[Bt]? = some (.cells #[v] t (0, 0)) := by
  have h3 := alloc_old (o' := o) (blockB hb3 (blockB hb2 hblk))
  refine (hg.block Bt (Array.getElem?_eq_some_iff.1 h3).1 ?_).trans h3
  intro e1
  rcases hown.2 with ⟨rfl, _⟩ | ⟨g, cap, cur, rfl, hb, _⟩
  · simp [Value.ownBlock] at e1
  · have : Bt = g := by simpa [Value.ownBlock] using e1
    omega

theorem tab_step {w1 w w2 w3 w4 : World} {v v' : Value} {Bt n : Nat} {t : TypeId} {xs ys : List Value} {o : Obj} (hb : Below Bt w1 w) (hblk : w.heap[Bt]? = some (.cells #[v] t (0, 0))) (hown : w.ownsRow (Bt + 1) 4 1 v n xs)
    (hb2 : Below w.heap.size w w2) (hb3 : Below w2.heap.size w2 w3) (ho : w4.ownsRow (Bt + 1) 4 1 v' (n + 1) ys) (hg : (w3.alloc o).grownBy w4 v.ownBlock) :
    Below Bt w1 (w4.setCell ⟨Bt, 0, none⟩ v') ∧ (w4.setCell ⟨Bt, 0, none⟩ v').heap[Bt]? = some (.cells #[v'] t (0, 0)) ∧ (w4.setCell ⟨Bt, 0, none⟩ v').ownsRow (Bt + 1) 4 1 v' (n + 1) ys := by
  have h4 := tab_keep hblk hown hb2 hb3 hg
  have hs : Bt < w.heap.size := (Array.getElem?_eq_some_iff.1 hblk).1
  have h2 := belowD hb (Nat.le_of_lt hs) hb2
  have h3 := belowD h2 (Nat.le_trans (Nat.le_of_lt hs) hb2.size) hb3
  have hs3 : Bt ≤ w3.heap.size := Nat.le_trans (Nat.le_trans (Nat.le_of_lt hs) hb2.size) hb3.size
  have h5 : Below Bt w1 w4 := (h3.alloc hs3 o).grown hg (by simp; omega) (fun k e => by
    rcases hown.2 with ⟨rfl, _⟩ | ⟨g, cap, cur, rfl, hb, _⟩
    · simp [Value.ownBlock] at e
    · have : g = k := by simpa [Value.ownBlock] using e
      omega)
  exact ⟨h5.setCell (Nat.le_refl _) _, one_setCell h4, ownsRow_setCell_below ho (by simp) _⟩

theorem getD_get {l : List Int} {j : Nat} (h : j < l.length) : l.getD j 0 = l[j] := by
  rw [List.getD_eq_getElem?_getD, List.getElem?_eq_getElem h]
  rfl
end Go.Proofs.Ytbpmiphipjkdlaa
