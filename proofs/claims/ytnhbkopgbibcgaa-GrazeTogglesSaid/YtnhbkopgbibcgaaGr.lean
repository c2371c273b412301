/- A range over a function that yields N times, known values, and that always goes on: a law of the walk. -/
import Derived.RangeFuncNested
import Derived.RangeFuncBound
import Derived.RangeFuncCalls
import Derived.RangeFuncLeaves
import Derived.RangeFuncBox
import Derived.Shelf.RegionOpen
import Derived.TacticsInMore
import Derived.LoopNIn
import Derived.LoopIn
import Derived.OwnWalkIn
import Derived.WalkKit
namespace Go.Proofs.Ytnhbkopgbibcgaa
open Go.RowKit Go.Shelf

/-- An iterator that yields N times, f k in round k, whatever the rounds do that keep Kp. -/
def Yields (F : Fence) (n : Nat) (P : Program) (g : Nat) (lb : Array Value) (f : Nat → Array Value) (N : Nat) (Kp : World → World → Prop) (w : World) : Prop :=
  ∀ (l : Nat) (J : Nat → World → Prop) (W : World), Below w.heap.size w W →
    (∀ k W1, k < N → J k W1 → YieldAt F (n - 1) P l (f k) W1 fun e W' => e = .returned (.bool true) ∧ J (k + 1) W' ∧ Kp W1 W') → J 0 W →
    CallsIn F n P g (#[.func (.yield l) #[] #[]] ++ lb) W fun e W' => (∃ v, e = .returned v) ∧ J N W'

variable {F : Fence} {n : Nat} {P : Program}
theorem wpIn_yields {g : Operand} {ps : Array Tmp} {assign body : Code} {Q : Exit → Act → World → Prop} {a : Act} {w : World} (hro : F.round = none) (h1 : 1 ≤ n) {gf : Nat} {lb : Array Value}
    (hg : a.eval g = .func (.func gf) #[] lb) (hF : F.fn gf) (eg : ∀ args w, (callFunc gf args).run P w = .ok (.enter gf args) w) {f : Nat → Array Value} {N : Nat} {Kp : World → World → Prop}
    (hseq : Yields F (n - 1) P gf lb f N Kp w) (hps : ∀ k, (f k).size = ps.size) (hKt : ∀ {A B C : World}, Kp A B → Kp B C → Kp A C)
    (hKb : ∀ (W : World) (l : Nat) (o o' : Obj), W.heap[l]? = some o → o.isCells = false → Kp W (W.putObj l o'))
    (I : Nat → World → Prop) (hI : OwnFrom w.heap.size I) (h0 : I 0 w) (a₁ : Nat → Act)
    (hassign : ∀ (l k : Nat) (W : World) (K : Act → World → Prop), K (a₁ k) W → assign.wpIn (F.inRound l) (n - 1 - 1) P (Exit.then K (fun _ _ _ => False)) { tmps := (ps.zip (f k)).foldl (fun t (p, v) => t.setIfInBounds p v) a.tmps, defers := [] } W)
    (hbody : ∀ (l k : Nat) (W : World), k < N → I k W → body.wpIn (F.inRound l) (n - 1 - 1) P (Exit.then (fun _ W' => KeepsOthers W W' ∧ Kp W W' ∧ I (k + 1) W') (fun _ _ _ => False)) (a₁ k) W)
    (hdone : ∀ (D : Nat) (W : World), w.heap.size ≤ D → I N W → W.heap[D]? = some (.deferred (some [])) → Q .normal { a with defers := { target := .collected D, args := #[] } :: a.defers } W) :
    (Code.rangeFunc g ps assign body).wpIn F n P Q a w := by
  refine wpIn_rangeFunc fun fn hfn => ?_
  rw [hro]
  have hE := run_enterLoop_outer (P := P) (w := w) fn a.tmps ps assign body
  obtain ⟨R, hR⟩ : ∃ R : LoopState → Loop, R = fun st => { state := st, pending := none, fn, tmps := a.tmps, params := ps, assign, body, defers := w.heap.size } := ⟨_, rfl⟩
  have hRr : ∀ st st', { R st with state := st', pending := none } = R st' := by rw [hR]; intros; rfl
  have hRs : ∀ st, (R st).state = st := by rw [hR]; intros; rfl
  have hRp : ∀ st, (R st).pending = none := by rw [hR]; intros; rfl
  obtain ⟨W1, hW1⟩ : ∃ W1, W1 = (w.alloc (.deferred (some []))).alloc (.loop (R .ready)) := ⟨_, rfl⟩
  rw [show (w.alloc (.deferred (some []))).alloc (.loop { state := .ready, pending := none, fn, tmps := a.tmps, params := ps, assign, body, defers := w.heap.size }) = W1 by rw [hW1, hR]] at hE
  have hL : W1.heap[w.heap.size + 1]? = some (.loop (R .ready)) := by
    rw [hW1, ← World.size_alloc w (.deferred (some []))]
    exact World.alloc_heap_new _ _
  have hD : W1.heap[w.heap.size]? = some (.deferred (some [])) := by
    rw [hW1]
    exact (Below.heap_alloc _ _ _ (by simp)).trans (World.alloc_heap_new w _)
  have hB : Below w.heap.size w W1 := by
    rw [hW1]
    exact ((Below.refl _ w).alloc (Nat.le_refl _) _).alloc (by simp) _
  have hI1 : I 0 W1 := by rw [hW1]; exact hI.alloc _ (hI.alloc _ h0)
  clear hW1
  refine ⟨w.heap.size + 1, [{ target := .collected w.heap.size, args := #[] }], W1, { target := .fn (.func gf) lb, args := #[.func (.yield (w.heap.size + 1)) #[] #[]] }, W1, gf,
    #[.func (.yield (w.heap.size + 1)) #[] #[]] ++ lb, W1, hE, ?_, fun f' e => ?_, ?_, fun _ => h1, ?_⟩
  · simp only [resolve, hg]
    simp [go_sem]
  · simp [Target.leads] at e
    rw [← e]
    exact hF
  · simp [invoke, go_sem, eg]
  refine (hseq (w.heap.size + 1) (fun k W => I k W ∧ W.heap[w.heap.size + 1]? = some (.loop (R .ready)) ∧ W.heap[w.heap.size]? = some (.deferred (some []))) W1 hB ?_ ⟨hI1, hL, hD⟩).mono ?_
  · rintro k W hk ⟨hi, hl, hd⟩
    have hy := run_yield (P := P) (args := f k) hl (by rw [hR]; exact hps k)
    have hfn' : (R .ready).fn = fn := by rw [hR]
    have htm : (R .ready).tmps = a.tmps := by rw [hR]
    have hpa : (R .ready).params = ps := by rw [hR]
    have has : (R .ready).assign = assign := by rw [hR]
    have hbo : (R .ready).body = body := by rw [hR]
    rw [hfn', htm, hpa, has, hbo] at hy
    refine ⟨fn, _, assign, body, hy, roundIn_of_wpIn hfn (hassign _ k W _ ⟨_, run_beginRound hl (hRs _), ?_⟩)⟩
    rw [show ({ R .ready with state := .busy } : Loop) = R .busy by rw [hR]]
    have hlt : w.heap.size + 1 < W.heap.size := (Array.getElem?_eq_some_iff.1 hl).1
    have hl2 : (W.putObj (w.heap.size + 1) (.loop (R .busy))).heap[w.heap.size + 1]? = some (.loop (R .busy)) := World.putObj_heap_same hlt
    have hd2 : (W.putObj (w.heap.size + 1) (.loop (R .busy))).heap[w.heap.size]? = some (.deferred (some [])) := (World.putObj_heap_other (by omega)).trans hd
    refine wpIn_mono (hbody _ k _ hk (hI.putObj _ hi (by omega) hl rfl)) ?_
    intro e a3 W3 hp
    cases e with
    | normal =>
      obtain ⟨hko, hkp, hi3⟩ := hp
      have hl3 := hko.same _ _ hl2 rfl
      have hr := run_endRound (P := P) none hl3
      rw [show (if (none : Option Code).isNone then LoopState.ready else LoopState.done) = .ready from rfl, hRr] at hr
      exact ⟨_, _, hr, rfl, ⟨hI.putObj _ hi3 (by omega) hl3 rfl, World.putObj_heap_same (Array.getElem?_eq_some_iff.1 hl3).1, (World.putObj_heap_other (by omega)).trans (hko.same _ _ hd2 rfl)⟩,
        hKt (hKt (hKb _ _ _ _ hl rfl) hkp) (hKb _ _ _ _ hl3 rfl)⟩
    | ret => exact hp.elim
    | exit id => exact hp.elim
    | goto t => exact hp.elim
    | panic ch => exact hp.elim
    | outgrown => exact hp.elim
  · rintro e W2 ⟨⟨v, rfl⟩, hi, hl, hd⟩
    have hr := run_endLoop (P := P) hl (by rw [hRs]; simp)
    rw [hRp] at hr
    exact ⟨none, _, hr, hdone _ _ (Nat.le_refl _) (hI.putObj _ hi (by omega) hl rfl) ((World.putObj_heap_other (by omega)).trans hd)⟩

/-- The blocks bs of cells stand, if they are no bytes. -/
def Kb (bs : List Nat) (W W' : World) : Prop := ∀ b ∈ bs, ∀ cs t, t ≠ 5 → W.heap[b]? = some (.cells cs t (0, 0)) → W'.heap[b]? = some (.cells cs t (0, 0))
theorem Kb.trans {bs : List Nat} {A B C : World} (h : Kb bs A B) (k : Kb bs B C) : Kb bs A C := fun b hb cs t ht e => k b hb cs t ht (h b hb cs t ht e)
theorem Kb.refl (bs : List Nat) (A : World) : Kb bs A A := fun _ _ _ _ _ e => e
theorem Kb.put {bs : List Nat} (W : World) (l : Nat) (o o' : Obj) (h : W.heap[l]? = some o) (ho : o.isCells = false) : Kb bs W (W.putObj l o') := fun b _ cs t _ e => by
  refine (World.putObj_heap_other ?_).trans e
  rintro rfl
  rw [h] at e
  cases e
  cases ho
end Go.Proofs.Ytnhbkopgbibcgaa
