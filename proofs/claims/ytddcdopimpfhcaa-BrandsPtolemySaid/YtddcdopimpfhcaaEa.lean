/- Plain: lines of a polygon whose corners are a list; how many there can be; ears. -/
namespace Go.Proofs.Ytddcdopimpfhcaa

/-- Two lines cross. -/
def Crs (p q : Int × Int) : Prop := p.1 < q.1 ∧ q.1 < p.2 ∧ p.2 < q.2 ∨ q.1 < p.1 ∧ p.1 < q.2 ∧ q.2 < p.2
theorem Crs.comm {p q : Int × Int} (h : Crs p q) : Crs q p := h.elim .inr .inl
/-- A line of the corners S. -/
structure LineOf (S : List Int) (p : Int × Int) : Prop where
  fst : p.1 ∈ S
  snd : p.2 ∈ S
  mid : ∃ s, s ∈ S ∧ p.1 < s ∧ s < p.2
  out : ∃ s, s ∈ S ∧ (s < p.1 ∨ p.2 < s)
/-- Lines of the corners S that do not cross. -/
structure Part (S : List Int) (L : List (Int × Int)) : Prop where
  sorted : S.Pairwise (· < ·)
  nodup : L.Nodup
  line : ∀ p, p ∈ L → LineOf S p
  free : ∀ p, p ∈ L → ∀ q, q ∈ L → ¬ Crs p q
/-- A corner between two neighbours; or the first or the last one. The line g joins the neighbours. -/
inductive Cut (S : List Int) (c : Int) : Int × Int → Prop
  | mid (a b : Int) : a ∈ S → b ∈ S → a < c → c < b → (∀ s, s ∈ S → s ≤ a ∨ s = c ∨ b ≤ s) → Cut S c (a, b)
  | fst (a b : Int) : a ∈ S → b ∈ S → c < a → a < b → (∀ s, s ∈ S → s = c ∨ a ≤ s ∧ s ≤ b) → Cut S c (a, b)
  | lst (a b : Int) : a ∈ S → b ∈ S → a < b → b < c → (∀ s, s ∈ S → s = c ∨ a ≤ s ∧ s ≤ b) → Cut S c (a, b)
theorem Part.sub {S : List Int} {L : List (Int × Int)} (h : Part S L) (p : Int × Int) : Part S (L.erase p) :=
  ⟨h.sorted, h.nodup.erase p, fun q hq => h.line q (List.mem_of_mem_erase hq), fun q hq r hr => h.free q (List.mem_of_mem_erase hq) r (List.mem_of_mem_erase hr)⟩
theorem least_of {α : Type} (f : α → Nat) : ∀ (l : List α), l ≠ [] → ∃ x, x ∈ l ∧ ∀ y, y ∈ l → f x ≤ f y
  | [], h => (h rfl).elim
  | [x], _ => ⟨x, by simp, by simp⟩
  | x :: y :: l, _ => by
    obtain ⟨z, hz, hm⟩ := least_of f (y :: l) (by simp)
    by_cases h : f x ≤ f z
    · exact ⟨x, by simp, fun t ht => by
        rcases List.mem_cons.1 ht with rfl | ht
        · exact Nat.le_refl _
        · exact Nat.le_trans h (hm t ht)⟩
    · exact ⟨z, List.mem_cons_of_mem _ hz, fun t ht => by
        rcases List.mem_cons.1 ht with rfl | ht
        · omega
        · exact hm t ht⟩
/-- The corners under a least line have no lines. -/
theorem free_corner {S : List Int} {L : List (Int × Int)} (h : Part S L) (hne : L ≠ []) :
    ∃ c p, c ∈ S ∧ p ∈ L ∧ p.1 < c ∧ c < p.2 ∧ ∀ q, q ∈ L → q.1 ≠ c ∧ q.2 ≠ c := by
  obtain ⟨p, hp, hmin⟩ := least_of (fun p : Int × Int => (p.2 - p.1).toNat) L hne
  obtain ⟨c, hc, h1, h2⟩ := (h.line p hp).mid
  refine ⟨c, p, hc, hp, h1, h2, fun q hq => ?_⟩
  obtain ⟨d, _, h3, h4⟩ := (h.line q hq).mid
  have hm := hmin q hq
  have hf := h.free p hp q hq
  unfold Crs at hf
  constructor
  · rintro rfl
    by_cases h5 : p.2 < q.2
    · exact hf (.inl ⟨h1, h2, h5⟩)
    · omega
  · rintro rfl
    by_cases h5 : q.1 < p.1
    · exact hf (.inr ⟨h5, h1, h2⟩)
    · omega
theorem nodup_le {α : Type} [DecidableEq α] : ∀ (l l' : List α), l.Nodup → (∀ x, x ∈ l → x ∈ l') → l.length ≤ l'.length
  | [], _, _, _ => by simp
  | x :: l, l', h, hs => by
    have hx := hs x (by simp)
    have h1 := List.nodup_cons.1 h
    have := nodup_le l (l'.erase x) h1.2 (fun y hy => (List.mem_erase_of_ne (by rintro rfl; exact h1.1 hy)).2 (hs y (List.mem_cons_of_mem _ hy)))
    rw [List.length_erase_of_mem hx] at this
    have := List.length_pos_of_mem hx
    simp
    omega
theorem sorted_nodup {S : List Int} (h : S.Pairwise (· < ·)) : S.Nodup := h.imp (fun h e => by omega)
theorem greatest_of (f : Int → Int) : ∀ (l : List Int), l ≠ [] → ∃ x, x ∈ l ∧ ∀ y, y ∈ l → f y ≤ f x
  | [], h => (h rfl).elim
  | [x], _ => ⟨x, by simp, by simp⟩
  | x :: y :: l, _ => by
    obtain ⟨z, hz, hm⟩ := greatest_of f (y :: l) (by simp)
    by_cases h : f z ≤ f x
    · exact ⟨x, by simp, fun t ht => by
        rcases List.mem_cons.1 ht with rfl | ht
        · exact Int.le_refl _
        · exact Int.le_trans (hm t ht) h⟩
    · exact ⟨z, List.mem_cons_of_mem _ hz, fun t ht => by
        rcases List.mem_cons.1 ht with rfl | ht
        · omega
        · exact hm t ht⟩
/-- The greatest corner below c. -/
theorem pred_of {S : List Int} {c : Int} (h : ∃ s, s ∈ S ∧ s < c) : ∃ a, a ∈ S ∧ a < c ∧ ∀ s, s ∈ S → s < c → s ≤ a := by
  obtain ⟨s, hs, h1⟩ := h
  obtain ⟨a, ha, hm⟩ := greatest_of id (S.filter (fun x => decide (x < c))) (List.ne_nil_of_mem (List.mem_filter.2 ⟨hs, by simpa using h1⟩))
  rw [List.mem_filter] at ha
  exact ⟨a, ha.1, by simpa using ha.2, fun t ht h => hm t (List.mem_filter.2 ⟨ht, by simpa using h⟩)⟩
theorem succ_of {S : List Int} {c : Int} (h : ∃ s, s ∈ S ∧ c < s) : ∃ b, b ∈ S ∧ c < b ∧ ∀ s, s ∈ S → c < s → b ≤ s := by
  obtain ⟨s, hs, h1⟩ := h
  obtain ⟨a, ha, hm⟩ := greatest_of (fun x => -x) (S.filter (fun x => decide (c < x))) (List.ne_nil_of_mem (List.mem_filter.2 ⟨hs, by simpa using h1⟩))
  rw [List.mem_filter] at ha
  exact ⟨a, ha.1, by simpa using ha.2, fun t ht h => by have := hm t (List.mem_filter.2 ⟨ht, by simpa using h⟩); omega⟩
theorem mem_cut {S : List Int} {c s : Int} (h : s ∈ S) (hne : s ≠ c) : s ∈ S.erase c := (List.mem_erase_of_ne hne).2 h
/-- A corner without lines is cut off. -/
theorem Part.cut {S : List Int} {L : List (Int × Int)} (h : Part S L) {c : Int} {g : Int × Int} (hc : Cut S c g) (hfree : ∀ q, q ∈ L → q.1 ≠ c ∧ q.2 ≠ c) : Part (S.erase c) (L.erase g) := by
  refine ⟨h.sorted.sublist List.erase_sublist, h.nodup.erase g, fun q hq => ?_, fun q hq r hr => h.free q (List.mem_of_mem_erase hq) r (List.mem_of_mem_erase hr)⟩
  have hq0 := List.mem_of_mem_erase hq
  have hne : q ≠ g := fun e => by
    subst e
    exact (h.nodup.mem_erase_iff.1 hq).1 rfl
  obtain ⟨f1, f2⟩ := hfree q hq0
  have hl := h.line q hq0
  refine ⟨mem_cut hl.fst f1, mem_cut hl.snd f2, ?_, ?_⟩
  · obtain ⟨s, hs, h1, h2⟩ := hl.mid
    by_cases e : s = c
    · subst e
      cases hc with
      | mid a b ha hb h3 h4 hall =>
        by_cases h5 : q.1 = a
        · by_cases h6 : q.2 = b
          · exact (hne (by rw [← h5, ← h6])).elim
          · have := hall _ hl.snd
            exact ⟨b, mem_cut hb (by omega), by omega, by omega⟩
        · have := hall _ hl.fst
          exact ⟨a, mem_cut ha (by omega), by omega, by omega⟩
      | fst a b ha hb h3 h4 hall => have := hall _ hl.fst; omega
      | lst a b ha hb h3 h4 hall => have := hall _ hl.snd; omega
    · exact ⟨s, mem_cut hs e, h1, h2⟩
  · obtain ⟨s, hs, h1⟩ := hl.out
    obtain ⟨m, hm, h7, h8⟩ := hl.mid
    by_cases e : s = c
    · subst e
      cases hc with
      | mid a b ha hb h3 h4 hall =>
        rcases h1 with h1 | h1
        · exact ⟨a, mem_cut ha (by omega), .inl (by omega)⟩
        · exact ⟨b, mem_cut hb (by omega), .inr (by omega)⟩
      | fst a b ha hb h3 h4 hall =>
        have e1 := hall _ hl.fst
        have e2 := hall _ hl.snd
        by_cases h5 : q.1 = a
        · by_cases h6 : q.2 = b
          · exact (hne (by rw [← h5, ← h6])).elim
          · exact ⟨b, mem_cut hb (by omega), .inr (by omega)⟩
        · exact ⟨a, mem_cut ha (by omega), .inl (by omega)⟩
      | lst a b ha hb h3 h4 hall =>
        have e1 := hall _ hl.fst
        have e2 := hall _ hl.snd
        by_cases h5 : q.1 = a
        · by_cases h6 : q.2 = b
          · exact (hne (by rw [← h5, ← h6])).elim
          · exact ⟨b, mem_cut hb (by omega), .inr (by omega)⟩
        · exact ⟨a, mem_cut ha (by omega), .inl (by omega)⟩
    · exact ⟨s, mem_cut hs e, h1⟩
/-- Each corner of three or more has its neighbours. -/
theorem cut_of {S : List Int} (h : S.Pairwise (· < ·)) (h3 : 3 ≤ S.length) {c : Int} (hc : c ∈ S) : ∃ g, Cut S c g := by
  by_cases h1 : ∃ s, s ∈ S ∧ s < c
  · obtain ⟨a, ha, ha1, ha2⟩ := pred_of h1
    by_cases h2 : ∃ s, s ∈ S ∧ c < s
    · obtain ⟨b, hb, hb1, hb2⟩ := succ_of h2
      exact ⟨(a, b), .mid a b ha hb ha1 hb1 (fun s hs => by
        rcases Int.lt_trichotomy s c with h | h | h
        · exact .inl (ha2 s hs h)
        · exact .inr (.inl h)
        · exact .inr (.inr (hb2 s hs h)))⟩
    · obtain ⟨d, hd, hd1⟩ : ∃ d, d ∈ S ∧ d < a := by
        refine Classical.byContradiction fun hno => ?_
        have hsub : S.length ≤ [a, c].length := by
          refine nodup_le _ _ (sorted_nodup h) ?_
          intro s hs
          have e1 : ¬ s < a := fun e => hno ⟨s, hs, e⟩
          have e2 : ¬ c < s := fun e => h2 ⟨s, hs, e⟩
          have e3 : s < c → s ≤ a := ha2 s hs
          simp
          omega
        simp at hsub
        omega
      obtain ⟨b, hb, hb1⟩ := greatest_of (fun x => -x) S (List.ne_nil_of_mem hc)
      have := hb1 d hd
      exact ⟨(b, a), .lst b a hb ha (by omega) ha1 (fun s hs => by
        have e2 : ¬ c < s := fun e => h2 ⟨s, hs, e⟩
        have e3 : s < c → s ≤ a := ha2 s hs
        have := hb1 s hs
        omega)⟩
  · obtain ⟨b, hb, hb1⟩ := greatest_of id S (List.ne_nil_of_mem hc)
    have h2 : ∃ s, s ∈ S ∧ c < s := by
      refine Classical.byContradiction fun hno => ?_
      have hsub : S.length ≤ [c].length := by
        refine nodup_le _ _ (sorted_nodup h) ?_
        intro s hs
        have e1 : ¬ s < c := fun e => h1 ⟨s, hs, e⟩
        have e2 : ¬ c < s := fun e => hno ⟨s, hs, e⟩
        simp
        omega
      simp at hsub
      omega
    obtain ⟨a, ha, ha1, ha2⟩ := succ_of h2
    obtain ⟨d, hd, hd1⟩ : ∃ d, d ∈ S ∧ a < d := by
      refine Classical.byContradiction fun hno => ?_
      have hsub : S.length ≤ [a, c].length := by
        refine nodup_le _ _ (sorted_nodup h) ?_
        intro s hs
        have e1 : ¬ s < c := fun e => h1 ⟨s, hs, e⟩
        have e2 : ¬ a < s := fun e => hno ⟨s, hs, e⟩
        have e3 : c < s → a ≤ s := ha2 s hs
        simp
        omega
      simp at hsub
      omega
    have := hb1 d hd
    simp only [id] at this
    exact ⟨(a, b), .fst a b ha hb ha1 (by omega) (fun s hs => by
      have e1 : ¬ s < c := fun e => h1 ⟨s, hs, e⟩
      have e3 : c < s → a ≤ s := ha2 s hs
      have := hb1 s hs
      simp only [id] at this
      omega)⟩
theorem len_erase {S : List Int} {c : Int} (hc : c ∈ S) : (S.erase c).length + 1 = S.length := by
  have := List.length_pos_of_mem hc
  rw [List.length_erase_of_mem hc]
  omega
theorem four_of {S : List Int} {L : List (Int × Int)} (h : Part S L) {p : Int × Int} (hp : p ∈ L) : 4 ≤ S.length := by
  have hl := h.line p hp
  obtain ⟨m, hm, h1, h2⟩ := hl.mid
  obtain ⟨t, ht, h3⟩ := hl.out
  have hs : [p.1, m, p.2, t].length ≤ S.length := by
    refine nodup_le _ _ ?_ ?_
    · simp; omega
    · intro s hs
      simp at hs
      rcases hs with rfl | rfl | rfl | rfl
      · exact hl.fst
      · exact hm
      · exact hl.snd
      · exact ht
  simpa using hs
/-- There are at most n - 3 lines. -/
theorem part_le : ∀ (n : Nat) {S : List Int} {L : List (Int × Int)}, S.length = n → Part S L → 3 ≤ S.length → L.length + 3 ≤ S.length
  | 0, S, L, e, _, h3 => by omega
  | n + 1, S, L, e, h, h3 => by
    by_cases hne : L = []
    · subst hne; simpa using h3
    · obtain ⟨c, p, hc, hp, _, _, hfree⟩ := free_corner h hne
      have h4 := four_of h hp
      obtain ⟨g, hg⟩ := cut_of h.sorted h3 hc
      have hl := len_erase hc
      have := part_le n (by omega) (h.cut hg hfree) (by omega)
      have h5 : L.length ≤ (L.erase g).length + 1 := by
        rw [List.length_erase]
        split <;> omega
      omega
/-- The lines are a brand of the corners S. -/
structure Full (S : List Int) (L : List (Int × Int)) : Prop where
  part : Part S L
  len : L.length + 3 = S.length
/-- A corner without lines is an ear. -/
theorem Full.ear {S : List Int} {L : List (Int × Int)} (h : Full S L) (h4 : 4 ≤ S.length) {c : Int} {g : Int × Int} (hc : Cut S c g) (hcS : c ∈ S) (hfree : ∀ q, q ∈ L → q.1 ≠ c ∧ q.2 ≠ c) :
    g ∈ L ∧ Full (S.erase c) (L.erase g) := by
  have hP := h.part.cut hc hfree
  have hl := len_erase hcS
  have hb := part_le _ rfl hP (by omega)
  have hlen := h.len
  by_cases hg : g ∈ L
  · refine ⟨hg, hP, ?_⟩
    rw [List.length_erase_of_mem hg] at hb ⊢
    have := List.length_pos_of_mem hg
    omega
  · rw [List.erase_of_not_mem hg] at hb
    omega
end Go.Proofs.Ytddcdopimpfhcaa
