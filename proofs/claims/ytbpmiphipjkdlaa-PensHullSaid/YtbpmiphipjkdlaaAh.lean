/- Regions that draw their order, inside a fence or a round: an operation that only reads may be taken first where every step keeps what it reads. -/
import Derived.OrdersIn
import Derived.OrdersHeld
import Derived.RangeFuncNested
import Derived.Test.YtbpmiphipjkdlaaProg
namespace Go.Proofs.Ytbpmiphipjkdlaa
open Go.RowKit

/-- A fact out of sight. -/
structure Off' (p : Prop) : Prop where mk :: (out : p)
section
variable {F : Fence} {n : Nat} {P : Program} {ops : Array Oper} {Q : Exit → Act → World → Prop} {md : Region.Mode} {S : World → Prop}
/-- All that a step waits for is done. -/
def Inv (md : Region.Mode) (ops : Array Oper) (done : Array Bool) : Prop := ∀ j o, ops[j]? = some o → done.getD j false = true → ∀ e ∈ o.after, Region.binds md e = true → done.getD e.on false = true
theorem inv_start : Inv md ops (Array.replicate ops.size false) := fun j o _ h => by
  rw [Array.getD_eq_getD_getElem?, Array.getElem?_replicate] at h
  split at h <;> simp at h
theorem inv_step {done : Array Bool} (h : Inv md ops done) {i : Nat} (hr : i ∈ Region.ready md ops done) : Inv md ops (done.setIfInBounds i true) := by
  intro j o ho hj e he hb
  refine getD_set_true ?_
  by_cases hij : i = j
  · subst hij
    obtain ⟨_, o', ho', hall⟩ := mem_ready.1 hr
    rw [ho] at ho'
    cases ho'
    exact hall e he hb
  · rw [getD_set_ne false hij] at hj
    exact h j o ho hj e he hb
/-- Step c waits for step i. -/
def waits (md : Region.Mode) (ops : Array Oper) (i : Nat) : Nat → Nat → Bool
  | 0, c => decide (c = i)
  | f + 1, c => decide (c = i) || match ops[c]? with
    | none => false
    | some o => o.after.any fun e => Region.binds md e && waits md ops i f e.on
theorem waits_done {done : Array Bool} (h : Inv md ops done) {i : Nat} : ∀ (f c : Nat), waits md ops i f c = true → done.getD c false = true → done.getD i false = true
  | 0, c, hw, hc => by
    rw [waits, decide_eq_true_iff] at hw
    rw [← hw]; exact hc
  | f + 1, c, hw, hc => by
    rw [waits, Bool.or_eq_true, decide_eq_true_iff] at hw
    rcases hw with e | hw
    · rw [← e]; exact hc
    · cases ho : ops[c]? with
      | none => rw [ho] at hw; cases hw
      | some o =>
        rw [ho] at hw
        have hw' : (o.after.any fun e => Region.binds md e && waits md ops i f e.on) = true := hw
        rw [Array.any_eq_true] at hw'
        obtain ⟨q, hq, hw'⟩ := hw'
        rw [Bool.and_eq_true] at hw'
        exact waits_done h f _ hw'.2 (h c o ho hc _ (Array.getElem_mem hq) hw'.1)
/-- In whatever order, S holding behind every step until step c is done. -/
def anyS (F : Fence) (n : Nat) (P : Program) (md : Region.Mode) (ops : Array Oper) (Q : Exit → Act → World → Prop) (S : World → Prop) (c : Nat) : Nat → Array Bool → Act → World → Prop
  | 0, done, a, w => Region.ready md ops done = [] ∧ Q .normal a w
  | k + 1, done, a, w => (Region.ready md ops done = [] → Q .normal a w) ∧ ∀ i ∈ Region.ready md ops done, wpOpIn F n P ops Q i (fun b u => ((done.setIfInBounds i true).getD c false = false → S u) ∧ anyS F n P md ops Q S c k (done.setIfInBounds i true) b u) a w
variable {c : Nat}
theorem anyIn_of_anyS : ∀ (k : Nat) (done : Array Bool) (a : Act) (w : World), anyS F n P md ops Q S c k done a w → wpAnyIn F n P md ops Q k done a w
  | 0, _, _, _, h => h
  | k + 1, _, _, _, h => ⟨h.1, fun i hi => wpOpIn_mono (fun b u h' => anyIn_of_anyS k _ b u h'.2) (h.2 i hi)⟩
theorem region_anyS {id : Nat} {a : Act} {w : World} (c : Nat) (hm : P.follows .mixedOrders = true) (hS : S w.drew) (h : S w.drew → anyS F n P .any ops Q S c ops.size (Array.replicate ops.size false) a w.drew) : (Code.region id ops true).wpIn F n P Q a w :=
  wpIn_region_any hm (anyIn_of_anyS _ _ _ _ (h hS))
def plainOp (o : Oper) : Bool := match o.op with
  | .defer _ => false
  | _ => true
theorem plainOp_ne {o : Oper} (h : plainOp o = true) (c : Call) : o.op ≠ .defer c := by
  intro e
  rw [plainOp, e] at h
  cases h
/-- It yields v in every world that meets S, and enters no function. -/
def GivesS (P : Program) (ops : Array Oper) (S : World → Prop) (o : Oper) (v : Value) (a : Act) : Prop := YieldsIf P ops S o v a ∧ ∀ w, o.about P w a.eval = none
theorem GivesS.of_same {o : Oper} {v : Value} {a b : Act} (h : GivesS P ops S o v a) (he : execOp b.eval o = execOp a.eval o) (hw : Region.wanted o (yielded ops b.tmps) = Region.wanted o (yielded ops a.tmps)) (hb : ∀ w, o.about P w b.eval = o.about P w a.eval) : GivesS P ops S o v b := by
  refine ⟨?_, fun w => by rw [hb w]; exact h.2 w⟩
  rcases h.1 with ⟨h1, h2⟩ | ⟨h1, h2⟩
  · exact .inl ⟨by rw [hw]; exact h1, fun w hS => by rw [he]; exact h2 w hS⟩
  · exact .inr ⟨by rw [hw]; exact h1, h2⟩
theorem GivesS.step {i : Nat} {o : Oper} {v : Value} {a : Act} (hp : plainOp o = true) (hi : ops[i]? = some o) (h : GivesS P ops S o v a) {K : Act → World → Prop} {w : World} (hS : S w) (hK : K (a.put o.dst v) w) : wpOpIn F n P ops Q i K a w := by
  have hno : ∀ f, o.about P w a.eval = some f → F.fn f := fun f hf => by rw [h.2 w] at hf; cases hf
  unfold wpOpIn
  rw [hi]
  rcases h.1 with ⟨h1, h2⟩ | ⟨h1, rfl⟩
  · simp only [h1, if_true, Oper.wpIn, Oper.semAt_eq _ _ o (plainOp_ne hp), h2 w hS, Oper.uponIn]
    exact ⟨hno, hK⟩
  · simp only [h1, Bool.false_eq_true, if_false]
    exact ⟨hno, hK⟩
/-- A step of another operation, the first one's value already laid. -/
theorem step_swap {j : Nat} {oi oj : Oper} {v : Value} (hp : plainOp oj = true) (hj : ops[j]? = some oj) (hap : oi.apart ops oj = true) (hsi : ∀ cs b, oi.op ≠ .select cs b) (hsj : ∀ cs b, oj.op ≠ .select cs b)
    (hQ : ∀ c a w, Q (.panic c) (a.put oi.dst v) w → Q (.panic c) a w) {K : Act → World → Prop} {a : Act} {w : World} (hy : GivesS P ops S oi v a) (h : wpOpIn F n P ops Q j K (a.put oi.dst v) w) :
    wpOpIn F n P ops Q j (fun b u => GivesS P ops S oi v b ∧ K (b.put oi.dst v) u) a w := by
  obtain ⟨h1, h2, h3⟩ := Oper.apart_spec hap
  have keep : ∀ (a : Act), GivesS P ops S oi v a → ∀ u, GivesS P ops S oi v (a.put oj.dst u) := fun a hy u => hy.of_same (execOp_put oi hsi a oj.dst u h3) (wanted_put oi a oj.dst u h3) (fun w => about_put oi w a oj.dst u h3)
  have keepD : ∀ d, GivesS P ops S oi v { a with defers := d :: a.defers } := fun d => hy.of_same rfl rfl (fun _ => rfl)
  unfold wpOpIn at *
  simp only [hj] at *
  rw [wanted_put oj a oi.dst v h1, about_put oj w a oi.dst v h1] at h
  by_cases hw : Region.wanted oj (yielded ops a.tmps) = true
  · simp only [hw, if_true] at h ⊢
    unfold Oper.wpIn at *
    rw [about_put oj w a oi.dst v h1] at h
    refine ⟨h.1, ?_⟩
    have h := h.2
    rw [Oper.semAt_eq _ _ oj (plainOp_ne hp), execOp_put oj hsj a oi.dst v h1] at h
    rw [Oper.semAt_eq _ _ oj (plainOp_ne hp)]
    generalize (execOp a.eval oj).run P w = r at *
    cases r with
    | ok x u =>
      cases x <;> simp only [Oper.uponIn] at h ⊢
      case value z => exact ⟨keep a hy z, by rw [← Act.put_comm a v z h2]; exact h⟩
      case skip => exact ⟨keep a hy _, by rw [← Act.put_comm a v undef h2]; exact h⟩
      case defer d =>
        refine ⟨keep _ (keepD d) _, ?_⟩
        rw [← Act.put_comm _ v undef h2, ← Act.put_defers]
        exact h
      case enter f args =>
        refine ⟨h.1, CallsIn.mono h.2 fun e u' he => ?_⟩
        cases e with
        | returned z => exact ⟨keep a hy z, by rw [← Act.put_comm a v z h2]; exact he⟩
        | panicked c => exact hQ _ _ _ he
        | outgrown => exact he
      case row row args => exact ⟨h.1, RowsIn.mono h.2 fun z u' he => ⟨keep a hy z, by rw [← Act.put_comm a v z h2]; exact he⟩⟩
      case round l f tmps assign body =>
        refine ⟨h.1, RoundIn.mono h.2 fun e u' he => ?_⟩
        cases e with
        | returned z => exact ⟨keep a hy z, by rw [← Act.put_comm a v z h2]; exact he⟩
        | panicked c => exact hQ _ _ _ he
        | outgrown => exact he
    | halt x u =>
      cases x <;> simp only [Oper.uponIn] at h ⊢
      case panic c => exact hQ _ _ _ h
  · simp only [hw, Bool.false_eq_true, if_false] at h ⊢
    exact ⟨h.1, keep a hy _, by rw [← Act.put_comm a v undef h2]; exact h.2⟩
theorem anyS_first {i : Nat} {oi : Oper} {v : Value} {T : World → Prop} (hpl : ops.all plainOp = true) (hi : ops[i]? = some oi) (hsel : ∀ (j : Nat) (o : Oper) cs b, ops[j]? = some o → o.op ≠ .select cs b)
    (hic : i ≠ c) (hT : ∀ (done : Array Bool) (u : World), Inv md ops done → done.getD i true = false → (done.getD c false = false → S u) → T u)
    (hQ : ∀ c a w, Q (.panic c) (a.put oi.dst v) w → Q (.panic c) a w) :
    ∀ (k : Nat) (done : Array Bool) (a : Act) (w : World),
      (∀ j oj, ops[j]? = some oj → j ≠ i → done.getD j true = false → (∀ e ∈ oj.after, Region.binds md e = true → e.on ≠ i) → oi.apart ops oj = true) →
      i ∈ Region.ready md ops done → Inv md ops done → GivesS P ops T oi v a → (done.getD c false = false → S w) →
      anyS F n P md ops Q S c k (done.setIfInBounds i true) (a.put oi.dst v) w → anyS F n P md ops Q S c (k + 1) done a w := by
  have hpo : ∀ (j : Nat) (o : Oper), ops[j]? = some o → plainOp o = true := fun j o h => by
    rw [Array.all_eq_true_iff_forall_mem] at hpl
    exact hpl o (Array.mem_of_getElem? h)
  intro k
  induction k with
  | zero =>
    intro done a w _ hr hI hy hS H
    have ht := hT done w hI (mem_ready.1 hr).1 hS
    refine ⟨fun h => (by rw [h] at hr; cases hr), fun j hj => ?_⟩
    by_cases hji : j = i
    · subst hji; exact hy.step (hpo _ _ hi) hi ht ⟨fun e => hS (by rw [getD_set_ne false hic] at e; exact e), H⟩
    · have := ready_mono hj hji
      rw [H.1] at this
      cases this
  | succ k ih =>
    intro done a w hfree hr hI hy hS H
    have ht := hT done w hI (mem_ready.1 hr).1 hS
    refine ⟨fun h => (by rw [h] at hr; cases hr), fun j hj => ?_⟩
    by_cases hji : j = i
    · subst hji; exact hy.step (hpo _ _ hi) hi ht ⟨fun e => hS (by rw [getD_set_ne false hic] at e; exact e), H⟩
    · have h1 := H.2 j (ready_mono hj hji)
      obtain ⟨hjun, oj, hoj, hall⟩ := mem_ready.1 hj
      have hnot : ∀ e ∈ oj.after, Region.binds md e = true → e.on ≠ i := fun e he hb heq => by
        have h1 := hall e he hb
        have h0 := (mem_ready.1 hr).1
        rw [heq] at h1
        rcases Nat.lt_or_ge i done.size with h' | h'
        · simp [h'] at h0 h1; rw [h0] at h1; cases h1
        · simp [Array.getElem?_eq_none h'] at h1
      have h2 := step_swap (hpo _ _ hoj) hoj (hfree j oj hoj hji hjun hnot) (fun cs b => hsel i oi cs b hi) (fun cs b => hsel j oj cs b hoj) hQ hy h1
      have hfree' : ∀ q oq, ops[q]? = some oq → q ≠ i → (done.setIfInBounds j true).getD q true = false → (∀ e ∈ oq.after, Region.binds md e = true → e.on ≠ i) → oi.apart ops oq = true := fun q oq hq hqi hun hno => by
        refine hfree q oq hq hqi ?_ hno
        by_cases hjq : j = q
        · subst hjq; exact hjun
        · rw [getD_set_ne true hjq] at hun; exact hun
      refine wpOpIn_mono (fun b u h3 => ?_) h2
      have hSu : (done.setIfInBounds j true).getD c false = false → S u := fun e => h3.2.1 (by
        rw [← Array.setIfInBounds_comm _ _ hji, getD_set_ne false hic]
        exact e)
      refine ⟨hSu, ih (done.setIfInBounds j true) b u hfree' (ready_mono hr (Ne.symm hji)) (inv_step hI hj) h3.1 hSu ?_⟩
      rw [Array.setIfInBounds_comm _ _ hji]
      exact h3.2.2
theorem region_anyS' {id : Nat} {a : Act} {w : World} (c : Nat) (hm : P.follows .mixedOrders = true) (hS : S w.drew) (h : Inv .any ops (Array.replicate ops.size false) → ((Array.replicate ops.size false).getD c false = false → S w.drew) → anyS F n P .any ops Q S c ops.size (Array.replicate ops.size false) a w.drew) : (Code.region id ops true).wpIn F n P Q a w :=
  region_anyS c hm hS fun hS => h inv_start fun _ => hS
/-- A step that reads what S says, ahead of c. -/
theorem anyS_take {i : Nat} {oi : Oper} {v : Value} {k : Nat} {done : Array Bool} {a : Act} {w : World} (hpl : ops.all plainOp = true) (hi : ops[i]? = some oi) (hs : Region.noSelect ops = true) (hf : Region.free md ops done i = true)
    (hr : (Region.ready md ops done).contains i = true) (hw : (decide (i ≠ c) && waits md ops i ops.size c) = true) (hQ : ∀ c a w, Q (.panic c) (a.put oi.dst v) w → Q (.panic c) a w) (hy : YieldsIf P ops S oi v a) (hab : ∀ w, oi.about P w a.eval = none)
    (hI : Inv md ops done) (hS : done.getD c false = false → S w) (h : Inv md ops (done.setIfInBounds i true) → ((done.setIfInBounds i true).getD c false = false → S w) → anyS F n P md ops Q S c k (done.setIfInBounds i true) (a.put oi.dst v) w) : anyS F n P md ops Q S c (k + 1) done a w := by
  rw [Bool.and_eq_true, decide_eq_true_iff] at hw
  have hr' : i ∈ Region.ready md ops done := by simpa using hr
  refine anyS_first (T := S) hpl hi (Region.noSelect_spec hs) hw.1 (fun done' u hI' hun hS' => hS' ?_) hQ k done a w (Region.free_spec hi hf) hr' hI ⟨hy, hab⟩ hS (h (inv_step hI hr') (fun e => hS (by rw [getD_set_ne false hw.1] at e; exact e)))
  cases e : done'.getD c false with
  | false => rfl
  | true =>
    have := waits_done hI' _ _ hw.2 e
    rw [Array.getD_eq_getD_getElem?] at this hun
    cases e2 : done'[i]? with
    | none => rw [e2] at hun; simp at hun
    | some b => rw [e2] at this hun; simp at this hun; rw [this] at hun; cases hun
/-- A step that reads nothing. -/
theorem anyS_pure {i : Nat} {oi : Oper} {v : Value} {k : Nat} {done : Array Bool} {a : Act} {w : World} (hpl : ops.all plainOp = true) (hi : ops[i]? = some oi) (hs : Region.noSelect ops = true) (hf : Region.free md ops done i = true)
    (hr : (Region.ready md ops done).contains i = true) (hic : i ≠ c) (hQ : ∀ c a w, Q (.panic c) (a.put oi.dst v) w → Q (.panic c) a w) (hy : YieldsIf P ops (fun _ => True) oi v a) (hab : ∀ w, oi.about P w a.eval = none)
    (hI : Inv md ops done) (hS : done.getD c false = false → S w) (h : Inv md ops (done.setIfInBounds i true) → ((done.setIfInBounds i true).getD c false = false → S w) → anyS F n P md ops Q S c k (done.setIfInBounds i true) (a.put oi.dst v) w) : anyS F n P md ops Q S c (k + 1) done a w := by
  have hr' : i ∈ Region.ready md ops done := by simpa using hr
  exact anyS_first (T := fun _ => True) hpl hi (Region.noSelect_spec hs) hic (fun _ _ _ _ _ => trivial) hQ k done a w (Region.free_spec hi hf) hr' hI ⟨hy, hab⟩ hS (h (inv_step hI hr') (fun e => hS (by rw [getD_set_ne false hic] at e; exact e)))
/-- One operation alone may come up. -/
theorem anyS_one {i : Nat} {o : Oper} {k : Nat} {done : Array Bool} {a : Act} {w : World} (hr : Region.ready md ops done = [i]) (ho : ops[i]? = some o) (hI : Inv md ops done)
    (h : ∀ K : Act → World → Prop, Off' (∀ b u, ((done.setIfInBounds i true).getD c false = false → S u) → (Inv md ops (done.setIfInBounds i true) → ((done.setIfInBounds i true).getD c false = false → S u) → anyS F n P md ops Q S c k (done.setIfInBounds i true) b u) → K b u) → if Region.wanted o (yielded ops a.tmps) = true then Oper.wpIn F n P o a w K Q else (∀ f, o.about P w a.eval = some f → F.fn f) ∧ K (a.put o.dst undef) w) : anyS F n P md ops Q S c (k + 1) done a w := by
  refine ⟨fun e => (by rw [hr] at e; cases e), fun j hj => ?_⟩
  have hI2 := inv_step hI hj
  rw [hr, List.mem_singleton] at hj
  subst hj
  unfold wpOpIn
  simp only [ho]
  exact h _ ⟨fun b u hS hK => ⟨hS, hK hI2 hS⟩⟩
theorem anyS_done {done : Array Bool} {a : Act} {w : World} (hr : Region.ready md ops done = []) (h : Q .normal a w) : ∀ k, anyS F n P md ops Q S c k done a w
  | 0 => ⟨hr, h⟩
  | _ + 1 => ⟨fun _ => h, by rw [hr]; simp⟩
end
end Go.Proofs.Ytbpmiphipjkdlaa
