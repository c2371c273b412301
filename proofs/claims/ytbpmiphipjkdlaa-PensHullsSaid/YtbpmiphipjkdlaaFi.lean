/- Plain: the specification's search for the next post; contracts: less. -/
import Derived.Test.YtbpmiphipjkdlaaFh
import Derived.Test.YtbpmiphipjkdlaaBf
import Derived.Test.YtbpmiphipjkdlaaBe
namespace Go.Proofs.Ytbpmiphipjkdlaa
open Go.RowKit Go.Shelf

theorem crossR_cr (a b c : Int × Int) : crossR a b c = Hu.cr (Hu.sb b a) (Hu.sb c a) := rfl
/-- Is a point taken in place of another one? -/
def updB (a y p : Int × Int) : Bool := !(eqP p a) && (eqP y a || (decide (crossR a y p < 0) || (decide (crossR a y p = 0) && onR a p y)))
theorem eqP_iff (p q : Int × Int) : eqP p q = true ↔ p = q := by
  unfold eqP
  rw [Bool.and_eq_true, decide_eq_true_eq, decide_eq_true_eq]
  exact ⟨fun h => Prod.ext h.1 h.2, fun h => by rw [h]; exact ⟨rfl, rfl⟩⟩
theorem upd_to {l : List (Int × Int)} {a t y : Int × Int} (n : Hu.Nx l a t) (hy : y = a ∨ y ∈ l) : updB a y t = true ∨ y = t := by
  by_cases e : y = t
  · exact .inr e
  left
  unfold updB
  have h1 : eqP t a = false := by rw [← Bool.not_eq_true, eqP_iff]; exact n.ne.symm
  rw [h1]
  by_cases e2 : y = a
  · rw [(eqP_iff y a).2 e2]; rfl
  · have hyl : y ∈ l := by
      rcases hy with h | h
      · exact absurd h e2
      · exact h
    have hc : crossR a y t = - Hu.cr (Hu.sb t a) (Hu.sb y a) := by rw [crossR_cr]; exact Hu.cr_anti _ _
    rcases n.all y hyl with h | ⟨h, ho⟩
    · rw [decide_eq_true (show crossR a y t < 0 by omega)]
      simp
    · rw [decide_eq_true (show crossR a y t = 0 by omega), (onR_iff a t y n.ne).2 ho]
      simp
theorem upd_keep {l : List (Int × Int)} {a t p : Int × Int} (n : Hu.Nx l a t) (hp : p ∈ l) (hne : p ≠ t) : updB a t p = false := by
  unfold updB
  by_cases e : p = a
  · rw [(eqP_iff p a).2 e]; rfl
  · have h1 : eqP p a = false := by rw [← Bool.not_eq_true, eqP_iff]; exact e
    have h2 : eqP t a = false := by rw [← Bool.not_eq_true, eqP_iff]; exact n.ne.symm
    rw [h1, h2]
    have hc : crossR a t p = Hu.cr (Hu.sb t a) (Hu.sb p a) := rfl
    rcases n.all p hp with h | ⟨h, ho⟩
    · rw [decide_eq_false (show ¬ crossR a t p < 0 by omega), decide_eq_false (show ¬ crossR a t p = 0 by omega)]
      rfl
    · rw [decide_eq_false (show ¬ crossR a t p < 0 by omega)]
      have : onR a p t = false := by
        rw [← Bool.not_eq_true, onR_iff a p t (Ne.symm e)]
        intro h2
        exact hne (Hu.On.tot ho h2)
      rw [this]
      simp
/-- A point in a box of its own. -/
def Box34 (w : World) (N : Nat) (a : Int × Int) : Prop := w.heap[N]? = some (.cells #[.int .i64 a.1, .int .i64 a.2] 34 (0, 0))
theorem Box34.facts {w : World} {N : Nat} {a : Int × Int} (h : Box34 w N a) : (w.cell? ⟨N, 0, none⟩ = some (.int .i64 a.1) ∧ w.cell? ⟨N, 1, none⟩ = some (.int .i64 a.2)) ∧ w.frozen? ⟨N, 0, none⟩ = false ∧ w.frozen? ⟨N, 1, none⟩ = false := two_facts h
theorem Box34.below {w w1 : World} {N : Nat} {a : Int × Int} (h : Box34 w N a) (hb : Below w.heap.size w w1) : Box34 w1 N a := block_below hb h
theorem Box34.lt {w : World} {N : Nat} {a : Int × Int} (h : Box34 w N a) : N < w.heap.size := (Array.getElem?_eq_some_iff.1 h).1
theorem Box34.stored {w : World} {N : Nat} {a : Int × Int} (h : Box34 w N a) (b : Int × Int) : Box34 ((w.setCell ⟨N, 0, none⟩ (.int .i64 b.1)).setCell ⟨N, 1, none⟩ (.int .i64 b.2)) N b ∧ Keeps N w ((w.setCell ⟨N, 0, none⟩ (.int .i64 b.1)).setCell ⟨N, 1, none⟩ (.int .i64 b.2)) := by
  refine ⟨heap_setCell_same _ N 1 _ _ _ (heap_setCell_same w N 0 _ _ _ h), ?_⟩
  have k : ∀ (w : World) (o : Nat) (v : Value), Keeps N w (w.setCell ⟨N, o, none⟩ v) := fun w o v => ⟨⟨rfl, rfl, rfl, by simp, fun i _ hne => heap_setCell_other _ _ _ _ (fun e => hne (congrArg some e))⟩⟩
  exact (k w 0 _).trans (k _ 1 _)
theorem Box34.keeps {w w1 : World} {N X : Nat} {a : Int × Int} (h : Box34 w N a) (k : Keeps X w w1) (hne : N ≠ X) : Box34 w1 N a := by
  unfold Box34
  rw [k.out.block N h.lt (fun e => hne (Option.some.inj e))]
  exact h
theorem less_any (a b : Int × Int) (v : Bool) (hv : decide (a.1 < b.1 ∨ (a.1 = b.1 ∧ a.2 < b.2)) = v) (w : World) : Calls Try.prog 82 #[ptV a, ptV b] w fun e w' => e = .returned (.bool v) ∧ Below w.heap.size w w' := by
  have hB := Off.mk (belowA (belowA (Below.refl w.heap.size w) (.cells #[.int .i64 a.1, .int .i64 a.2] 34)) (.cells #[.int .i64 b.1, .int .i64 b.2] 34))
  by_cases h1 : a.1 < b.1
  · have hd : decide (a.1 < b.1) = true := decide_eq_true h1
    have HV : Off (v = true) := ⟨by rw [← hv]; exact decide_eq_true (.inl h1)⟩
    clear hv h1
    go_enter Try.func82, Try.ntmps82
    go_wp2
    go_ret
    exact ⟨ret_bool HV.out.symm, hB.out⟩
  · have hd : decide (a.1 < b.1) = false := decide_eq_false h1
    by_cases h2 : a.1 = b.1
    · have hb : (a.1 == b.1) = true := by rw [h2]; simp
      have hd2 : decide (a.2 < b.2) = v := by rw [← hv]; exact decide_eq_decide.2 (by omega)
      clear hv h1 h2
      go_enter Try.func82, Try.ntmps82
      go_wp2
      go_ret
      exact ⟨rfl, hB.out⟩
    · have hb : (a.1 == b.1) = false := beq_eq_false_iff_ne.2 h2
      have HV : Off (v = false) := ⟨by rw [← hv]; exact decide_eq_false (by omega)⟩
      clear hv h1 h2
      go_enter Try.func82, Try.ntmps82
      go_wp2
      go_ret
      exact ⟨ret_bool HV.out.symm, hB.out⟩
end Go.Proofs.Ytbpmiphipjkdlaa
