/- Plain: a brand's list of numbers, ear by ear, gives the brand back; and what ear by ear comes out is a brand with that list. -/
import Derived.Test.YtddcdopimpfhcaaFa
import Derived.Test.YtddcdopimpfhcaaBr
namespace Go.Proofs.Ytddcdopimpfhcaa

theorem nextN_val {k m : Nat} (hk : k < m) : nextN k m = if k + 1 = m then 0 else k + 1 := by
  unfold nextN
  split
  · rename_i h; rw [h, Nat.mod_self]
  · exact Nat.mod_eq_of_lt (by omega)
theorem prevN_val {k m : Nat} (hk : k < m) : prevN k m = if k = 0 then m - 1 else k - 1 := by
  unfold prevN
  split
  · rename_i h; subst h; rw [Nat.zero_add]; exact Nat.mod_eq_of_lt (by omega)
  · rw [show k + m - 1 = k - 1 + m by omega, Nat.add_mod_right]; exact Nat.mod_eq_of_lt (by omega)
theorem srt_lt {S : List Int} (hs : S.Pairwise (· < ·)) {i j : Nat} (hij : i < j) (hj : j < S.length) : S.getD i 0 < S.getD j 0 := by
  rw [List.pairwise_iff_getElem] at hs
  have := hs i j (by omega) hj hij
  rw [List.getD_eq_getElem?_getD, List.getD_eq_getElem?_getD, List.getElem?_eq_getElem (by omega), List.getElem?_eq_getElem hj]
  exact this
theorem idx_mem {S : List Int} {i : Nat} (hi : i < S.length) : S.getD i 0 ∈ S := by
  rw [List.getD_eq_getElem?_getD, List.getElem?_eq_getElem hi]
  exact List.getElem_mem hi
theorem mem_idx {S : List Int} {s : Int} (h : s ∈ S) : ∃ i, i < S.length ∧ S.getD i 0 = s := by
  obtain ⟨i, hi, rfl⟩ := List.getElem_of_mem h
  exact ⟨i, hi, by rw [List.getD_eq_getElem?_getD, List.getElem?_eq_getElem hi]; rfl⟩
theorem srt_inj {S : List Int} (hs : S.Pairwise (· < ·)) {i j : Nat} (hi : i < S.length) (hj : j < S.length) (h : S.getD i 0 = S.getD j 0) : i = j := by
  rcases Nat.lt_trichotomy i j with e | e | e
  · have := srt_lt hs e hj; omega
  · exact e
  · have := srt_lt hs e hi; omega
theorem srt_le {S : List Int} (hs : S.Pairwise (· < ·)) {i j : Nat} (hij : i ≤ j) (hj : j < S.length) : S.getD i 0 ≤ S.getD j 0 := by
  rcases Nat.lt_or_eq_of_le hij with e | rfl
  · exact Int.le_of_lt (srt_lt hs e hj)
  · exact Int.le_refl _
theorem cut_line {S : List Int} (hs : S.Pairwise (· < ·)) (h3 : 3 ≤ S.length) {j : Nat} (hj : j < S.length) : Cut S (S.getD j 0) (lineAt S j) := by
  have hp := prevN_val hj
  have hn := nextN_val hj
  have hpl : prevN j S.length < S.length := prevN_lt (by omega)
  have hnl : nextN j S.length < S.length := nextN_lt (by omega)
  unfold lineAt
  by_cases h0 : j = 0
  · subst h0
    rw [if_pos rfl] at hp
    rw [if_neg (by omega), Nat.zero_add] at hn
    have h1 := srt_lt hs (i := 0) (j := 1) (by omega) (by omega)
    have h2 := srt_lt hs (i := 1) (j := S.length - 1) (by omega) (by omega)
    rw [hp, hn, Int.min_eq_right (by omega), Int.max_eq_left (by omega)]
    refine .fst _ _ (idx_mem (by omega)) (idx_mem (by omega)) h1 h2 (fun s hs' => ?_)
    obtain ⟨i, hi, rfl⟩ := mem_idx hs'
    by_cases e : i = 0
    · subst e; exact .inl rfl
    · exact .inr ⟨srt_le hs (by omega) hi, srt_le hs (by omega) (by omega)⟩
  · by_cases hl : j + 1 = S.length
    · rw [if_neg h0] at hp
      rw [if_pos hl] at hn
      have h1 := srt_lt hs (i := 0) (j := j - 1) (by omega) (by omega)
      have h2 := srt_lt hs (i := j - 1) (j := j) (by omega) (by omega)
      rw [hp, hn, Int.min_eq_right (by omega), Int.max_eq_left (by omega)]
      refine .lst _ _ (idx_mem (by omega)) (idx_mem (by omega)) h1 h2 (fun s hs' => ?_)
      obtain ⟨i, hi, rfl⟩ := mem_idx hs'
      by_cases e : i = j
      · subst e; exact .inl rfl
      · exact .inr ⟨srt_le hs (by omega) hi, srt_le hs (by omega) (by omega)⟩
    · rw [if_neg h0] at hp
      rw [if_neg hl] at hn
      have h1 := srt_lt hs (i := j - 1) (j := j) (by omega) (by omega)
      have h2 := srt_lt hs (i := j) (j := j + 1) (by omega) (by omega)
      rw [hp, hn, Int.min_eq_left (by omega), Int.max_eq_right (by omega)]
      refine .mid _ _ (idx_mem (by omega)) (idx_mem (by omega)) h1 h2 (fun s hs' => ?_)
      obtain ⟨i, hi, rfl⟩ := mem_idx hs'
      rcases Nat.lt_trichotomy i j with e | e | e
      · exact .inl (srt_le hs (by omega) (by omega))
      · subst e; exact .inr (.inl rfl)
      · exact .inr (.inr (srt_le hs (by omega) (by omega)))
theorem line_ends {S : List Int} (hs : S.Pairwise (· < ·)) (h3 : 3 ≤ S.length) {j i : Nat} (_ : j < S.length) (hi : i < S.length) :
    ((lineAt S j).1 = S.getD i 0 ∨ (lineAt S j).2 = S.getD i 0) ↔ (i = prevN j S.length ∨ i = nextN j S.length) := by
  have hpl : prevN j S.length < S.length := prevN_lt (by omega)
  have hnl : nextN j S.length < S.length := nextN_lt (by omega)
  unfold lineAt
  constructor
  · intro h
    have h' : S.getD (prevN j S.length) 0 = S.getD i 0 ∨ S.getD (nextN j S.length) 0 = S.getD i 0 := by omega
    rcases h' with h' | h'
    · exact .inl (srt_inj hs hpl hi h').symm
    · exact .inr (srt_inj hs hnl hi h').symm
  · rintro (rfl | rfl) <;> omega
theorem erase_at : ∀ {S : List Int} (_ : S.Nodup) {j : Nat} (_ : j < S.length), S.eraseIdx j = S.erase (S.getD j 0)
  | [], _, j, hj => by simp at hj
  | x :: S, h, 0, _ => by simp
  | x :: S, h, j + 1, hj => by
    have h1 := List.nodup_cons.1 h
    have hj' : j < S.length := by simpa using hj
    have hm : S.getD j 0 ∈ S := idx_mem hj'
    rw [List.eraseIdx_cons_succ, List.getD_cons_succ, List.erase_cons_tail, erase_at h1.2 hj']
    simp only [beq_iff_eq]
    intro e
    rw [← e] at hm
    exact h1.1 hm
theorem erase_idx {S : List Int} (hs : S.Pairwise (· < ·)) {j : Nat} (hj : j < S.length) : S.eraseIdx j = S.erase (S.getD j 0) := erase_at (sorted_nodup hs) hj
/-- The numbers of the corners. -/
structure Rd (S : List Int) (L : List (Int × Int)) (q : List Int) : Prop where
  len : q.length = S.length
  get : ∀ j, j < S.length → q.getD j 0 = 1 + cnt L (S.getD j 0)
theorem idxI_at (x : Int) : ∀ (l : List Int), idxI x l < l.length → l.getD (idxI x l) 0 = x
  | [], h => by simp at h
  | y :: l, h => by
    by_cases e : y = x
    · rw [idxI, if_pos e]; simpa using e
    · rw [idxI, if_neg e] at h ⊢
      have := idxI_at x l (by simpa using h)
      simpa using this
theorem idxI_lt {x : Int} {l : List Int} {j : Nat} (hj : j < l.length) (h : l.getD j 0 = x) : idxI x l < l.length := by
  refine Classical.byContradiction fun hno => ?_
  have hall : ∀ i, i < l.length → l.getD i 0 ≠ x := by
    clear h hj
    induction l with
    | nil => intro i hi; simp at hi
    | cons y l ih =>
      by_cases e : y = x
      · rw [idxI, if_pos e] at hno; simp at hno
      · rw [idxI, if_neg e] at hno
        intro i hi
        rcases i with _ | i
        · simpa using e
        · simpa using ih (by simpa using hno) i (by simpa using hi)
  exact hall j hj h
theorem cut_len {q : List Int} {j : Nat} (hj : j < q.length) : ((cutAt q j).eraseIdx j).length + 1 = q.length := by
  rw [List.length_eraseIdx, cutAt_len, if_pos hj]
  omega
theorem cutI_get {q : List Int} {j i : Nat} (hj : j < q.length) (h3 : 3 ≤ q.length) : (cutAt q j).getD i 0 = q.getD i 0 - if i = prevN j q.length ∨ i = nextN j q.length then 1 else 0 :=
  cut_get q _ _ i (prev_next hj h3).1 (prevN_lt (by omega)) (nextN_lt (by omega))
theorem Rd.cut {S : List Int} {L : List (Int × Int)} {q : List Int} (h : Rd S L q) (hs : S.Pairwise (· < ·)) (h4 : 4 ≤ S.length) {j : Nat} (hj : j < S.length) (hg : lineAt S j ∈ L) : Rd (S.eraseIdx j) (L.erase (lineAt S j)) ((cutAt q j).eraseIdx j) := by
  have hl := h.len
  have e1 := cut_len (q := q) (j := j) (by omega)
  have e2 : (S.eraseIdx j).length + 1 = S.length := by
    rw [List.length_eraseIdx, if_pos hj]
    omega
  refine ⟨by omega, fun i hi => ?_⟩
  rw [getD_erase, getD_erase]
  have key : ∀ k, k < S.length → (cutAt q j).getD k 0 = 1 + cnt (L.erase (lineAt S j)) (S.getD k 0) := by
    intro k hk
    have h1 := h.get k hk
    have h2 := cnt_erase hg (S.getD k 0)
    have h3 := line_ends hs (by omega) hj hk
    rw [cutI_get (by omega) (by omega), h1, h2, hl]
    by_cases e : k = prevN j S.length ∨ k = nextN j S.length
    · rw [if_pos e, if_pos (h3.2 e)]; omega
    · rw [if_neg e, if_neg (fun c => e (h3.1 c))]; omega
  split
  · exact key i (by omega)
  · exact key (i + 1) (by omega)
theorem list_three {q : List Int} (h : q.length = 3) : ∃ x y z, q = [x, y, z] := by
  match q, h with
  | [x, y, z], _ => exact ⟨x, y, z, rfl⟩
theorem Rd.free {S : List Int} {L : List (Int × Int)} {q : List Int} (h : Rd S L q) {j : Nat} (hj : j < S.length) (h1 : q.getD j 0 = 1) : ∀ p, p ∈ L → p.1 ≠ S.getD j 0 ∧ p.2 ≠ S.getD j 0 := by
  have := h.get j hj
  exact cnt_zero.1 (by omega)
theorem Rd.ear {S : List Int} {L : List (Int × Int)} {q : List Int} (h : Rd S L q) (hf : Full S L) (h4 : 4 ≤ S.length) {j : Nat} (hj : j < S.length) (h1 : q.getD j 0 = 1) :
    lineAt S j ∈ L ∧ Full (S.eraseIdx j) (L.erase (lineAt S j)) ∧ Rd (S.eraseIdx j) (L.erase (lineAt S j)) ((cutAt q j).eraseIdx j) ∧ 2 ≤ q.getD (prevN j S.length) 0 ∧ 2 ≤ q.getD (nextN j S.length) 0 := by
  obtain ⟨he, hF⟩ := hf.ear h4 (cut_line hf.part.sorted (by omega) hj) (idx_mem hj) (h.free hj h1)
  rw [← erase_idx hf.part.sorted hj] at hF
  have hp : prevN j S.length < S.length := prevN_lt (by omega)
  have hn : nextN j S.length < S.length := nextN_lt (by omega)
  have e1 := cnt_pos he ((line_ends hf.part.sorted (by omega) hj hp).2 (.inl rfl))
  have e2 := cnt_pos he ((line_ends hf.part.sorted (by omega) hj hn).2 (.inr rfl))
  have e3 := h.get _ hp
  have e4 := h.get _ hn
  exact ⟨he, hF, h.cut hf.part.sorted h4 hj he, by omega, by omega⟩
/-- Ear by ear the lines of a brand come out. -/
theorem ofRun_full : ∀ (f : Nat) {S : List Int} {L : List (Int × Int)} {q : List Int} (out : List (Int × Int)), S.length ≤ f → 3 ≤ S.length → Full S L → Rd S L q → ∃ M, ofRun f q S out = some (out ++ M) ∧ M.Perm L
  | 0, S, L, q, out, h, h3, _, _ => by omega
  | f + 1, S, L, q, out, h, h3, hF, hR => by
    have hl := hR.len
    by_cases h4 : 4 ≤ S.length
    · obtain ⟨c, a, b, m⟩ := hF.mid h4
      obtain ⟨j0, hj0, hc⟩ := mem_idx m.cS
      have hq0 : q.getD j0 0 = 1 := by
        have := hR.get j0 hj0
        rw [hc, m.cntc] at this
        exact this
      have hi := idxI_lt (by omega) hq0
      have hone := idxI_at 1 q hi
      obtain ⟨he, hF', hR', h2, h2'⟩ := hR.ear hF h4 (by omega) hone
      have hpn := prev_next (k := idxI 1 q) (m := q.length) hi (by omega)
      have hmin : ¬ min ((cutAt q (idxI 1 q)).getD (prevN (idxI 1 q) q.length) 0) ((cutAt q (idxI 1 q)).getD (nextN (idxI 1 q) q.length) 0) < 1 := by
        rw [cutI_get hi (by omega), cutI_get hi (by omega), if_pos (.inl rfl), if_pos (.inr rfl)]
        rw [← hl] at h2 h2'
        omega
      rw [ofRun_on (by omega) hi hmin]
      obtain ⟨M, h5, h6⟩ := ofRun_full f (out ++ [lineAt S (idxI 1 q)]) (by
        rw [List.length_eraseIdx, if_pos (by omega)]; omega) (by rw [List.length_eraseIdx, if_pos (by omega)]; omega) hF' hR'
      exact ⟨lineAt S (idxI 1 q) :: M, by rw [h5]; simp, (h6.cons _).trans (List.perm_cons_erase he).symm⟩
    · obtain ⟨x, y, z, rfl⟩ := list_three (q := q) (by omega)
      have hlen := hF.len
      obtain rfl : L = [] := by rw [← List.length_eq_zero_iff]; omega
      have hz : ∀ s, cnt [] s = 0 := fun _ => rfl
      have g0 := hR.get 0 (by omega)
      have g1 := hR.get 1 (by omega)
      have g2 := hR.get 2 (by omega)
      rw [hz] at g0 g1 g2
      simp at g0 g1 g2
      subst g0 g1 g2
      exact ⟨[], by simp [ofRun, maxTo], List.Perm.refl _⟩
/-- An ear more. -/
theorem Full.glue {S : List Int} {M : List (Int × Int)} (hs : S.Pairwise (· < ·)) (h4 : 4 ≤ S.length) {c : Int} {g : Int × Int} (hc : Cut S c g) (hcS : c ∈ S) (h : Full (S.erase c) M) : Full S (g :: M) := by
  have hnd := sorted_nodup hs
  have hl := len_erase hcS
  have hsub : ∀ s, s ∈ S.erase c → s ∈ S := fun s h => List.mem_of_mem_erase h
  have hnc : ∀ s, s ∈ S.erase c → s ≠ c := fun s h => (hnd.mem_erase_iff.1 h).1
  obtain ⟨d, hd, hdc, hdg⟩ : ∃ d, d ∈ S ∧ d ≠ c ∧ d ≠ g.1 ∧ d ≠ g.2 := by
    refine Classical.byContradiction fun hno => ?_
    have : S.length ≤ [c, g.1, g.2].length := by
      refine nodup_le _ _ hnd (fun s hs => ?_)
      simp only [List.mem_cons, List.not_mem_nil, or_false]
      refine Classical.byContradiction fun hn => hno ⟨s, hs, fun e => hn (.inl e), fun e => hn (.inr (.inl e)), fun e => hn (.inr (.inr e))⟩
    simp at this
    omega
  -- the line joins neighbours of the other corners
  have hadj : g.1 ∈ S ∧ g.2 ∈ S ∧ g.1 < g.2 ∧ g.1 ≠ c ∧ g.2 ≠ c ∧ ((∀ s, s ∈ S.erase c → s ≤ g.1 ∨ g.2 ≤ s) ∨ ∀ s, s ∈ S.erase c → g.1 ≤ s ∧ s ≤ g.2) := by
    cases hc with
    | mid a b ha hb h1 h2 hall => exact ⟨ha, hb, by simp only; omega, by simp only; omega, by simp only; omega, .inl fun s hs => by have := hall s (hsub s hs); have := hnc s hs; simp only; omega⟩
    | fst a b ha hb h1 h2 hall => exact ⟨ha, hb, by simp only; omega, by simp only; omega, by simp only; omega, .inr fun s hs => by have := hall s (hsub s hs); have := hnc s hs; simp only; omega⟩
    | lst a b ha hb h1 h2 hall => exact ⟨ha, hb, by simp only; omega, by simp only; omega, by simp only; omega, .inr fun s hs => by have := hall s (hsub s hs); have := hnc s hs; simp only; omega⟩
  obtain ⟨g1, g2, g12, g1c, g2c, hadj⟩ := hadj
  have hfree : ∀ p, p ∈ M → ¬ Crs g p := by
    intro p hp hX
    have hL := h.part.line p hp
    unfold Crs at hX
    rcases hadj with ha | ha
    · have := ha p.1 hL.fst
      have := ha p.2 hL.snd
      omega
    · have := ha p.1 hL.fst
      have := ha p.2 hL.snd
      omega
  refine ⟨⟨hs, ?_, ?_, ?_⟩, by have := h.len; simp; omega⟩
  · refine List.nodup_cons.2 ⟨fun hm => ?_, h.part.nodup⟩
    have hL := h.part.line g hm
    obtain ⟨s, hs1, h1, h2⟩ := hL.mid
    obtain ⟨t, ht1, h3⟩ := hL.out
    rcases hadj with ha | ha
    · have := ha s hs1; omega
    · have := ha t ht1; omega
  · intro p hp
    rcases List.mem_cons.1 hp with rfl | hp
    · refine ⟨g1, g2, ?_, ?_⟩
      · cases hc with
        | mid a b ha hb h1 h2 hall => exact ⟨c, hcS, h1, h2⟩
        | fst a b ha hb h1 h2 hall => have := hall d hd; exact ⟨d, hd, by simp only at hdg ⊢; omega, by simp only at hdg ⊢; omega⟩
        | lst a b ha hb h1 h2 hall => have := hall d hd; exact ⟨d, hd, by simp only at hdg ⊢; omega, by simp only at hdg ⊢; omega⟩
      · cases hc with
        | mid a b ha hb h1 h2 hall => have := hall d hd; exact ⟨d, hd, by simp only at hdg ⊢; omega⟩
        | fst a b ha hb h1 h2 hall => exact ⟨c, hcS, .inl h1⟩
        | lst a b ha hb h1 h2 hall => exact ⟨c, hcS, .inr h2⟩
    · have hL := h.part.line p hp
      obtain ⟨s, hs1, h1⟩ := hL.mid
      obtain ⟨t, ht1, h3⟩ := hL.out
      exact ⟨hsub _ hL.fst, hsub _ hL.snd, ⟨s, hsub s hs1, h1⟩, ⟨t, hsub t ht1, h3⟩⟩
  · intro p hp q hq
    rcases List.mem_cons.1 hp with rfl | _
    · rcases List.mem_cons.1 hq with rfl | hq'
      · unfold Crs; omega
      · exact hfree q hq'
    · rename_i hp'
      rcases List.mem_cons.1 hq with rfl | hq'
      · exact fun hX => hfree p hp' hX.comm
      · exact h.part.free p hp' q hq'
theorem full_three {S : List Int} (hs : S.Pairwise (· < ·)) (h3 : S.length = 3) : Full S [] :=
  ⟨⟨hs, List.nodup_nil, fun p hp => by simp at hp, fun p hp => by simp at hp⟩, by simp [h3]⟩
theorem sorted_erase {S : List Int} (hs : S.Pairwise (· < ·)) (j : Nat) : (S.eraseIdx j).Pairwise (· < ·) := hs.sublist (List.eraseIdx_sublist _ _)
/-- What comes out ear by ear is a brand, and the list is its numbers. -/
theorem full_ofRun : ∀ (f : Nat) {S q : List Int} {out res : List (Int × Int)}, S.Pairwise (· < ·) → q.length = S.length → 3 ≤ S.length → (∀ j, j < q.length → 1 ≤ q.getD j 0) → ofRun f q S out = some res →
    ∃ L, res = out ++ L ∧ Full S L ∧ Rd S L q
  | 0, S, q, out, res, hs, hl, h3, hq, h => by simp [ofRun] at h
  | f + 1, S, q, out, res, hs, hl, h3, hq, h => by
    by_cases h4 : 3 < q.length
    · by_cases hi : idxI 1 q < q.length
      · by_cases hm : min ((cutAt q (idxI 1 q)).getD (prevN (idxI 1 q) q.length) 0) ((cutAt q (idxI 1 q)).getD (nextN (idxI 1 q) q.length) 0) < 1
        · rw [ofRun_low h4 hi hm] at h; cases h
        · rw [ofRun_on h4 hi hm] at h
          have hj : idxI 1 q < S.length := by omega
          have hlq := cut_len hi
          have hlS : (S.eraseIdx (idxI 1 q)).length + 1 = S.length := by rw [List.length_eraseIdx, if_pos hj]; omega
          have hpos : ∀ k, k < q.length → k ≠ idxI 1 q → 1 ≤ (cutAt q (idxI 1 q)).getD k 0 := by
            intro k hk hne
            by_cases e1 : k = prevN (idxI 1 q) q.length
            · rw [← e1] at hm; omega
            · by_cases e2 : k = nextN (idxI 1 q) q.length
              · rw [← e2] at hm; omega
              · rw [cutI_get hi (by omega), if_neg (by omega)]
                have := hq k hk
                omega
          obtain ⟨L', h5, h6, h7⟩ := full_ofRun f (S := S.eraseIdx (idxI 1 q)) (sorted_erase hs _) (by omega) (by omega) (fun k hk => by
            rw [getD_erase]
            split
            · exact hpos k (by omega) (by omega)
            · exact hpos (k + 1) (by omega) (by omega)) h
          have hc := cut_line hs h3 hj
          rw [erase_idx hs hj] at h6
          have hG := h6.glue hs (by omega) hc (idx_mem hj)
          refine ⟨lineAt S (idxI 1 q) :: L', by rw [h5]; simp, hG, hl, fun k hk => ?_⟩
          rw [cnt_cons]
          have hends := line_ends hs h3 hj hk
          by_cases e : k = idxI 1 q
          · subst e
            have hz : cnt L' (S.getD (idxI 1 q) 0) = 0 := cnt_zero.2 fun p hp => by
              have hL := h6.part.line p hp
              have n1 := ((sorted_nodup hs).mem_erase_iff.1 hL.fst).1
              have n2 := ((sorted_nodup hs).mem_erase_iff.1 hL.snd).1
              exact ⟨n1, n2⟩
            have hpn := prev_next (k := idxI 1 q) (m := S.length) hj (by omega)
            rw [hz, if_neg (fun c => by have := hends.1 c; omega), idxI_at 1 q hi]
            rfl
          · have hk' : 1 + (cnt L' (S.getD k 0) : Int) = (cutAt q (idxI 1 q)).getD k 0 := by
              by_cases e2 : k < idxI 1 q
              · have := h7.get k (by omega)
                rw [getD_erase, getD_erase, if_pos e2, if_pos e2] at this
                exact this.symm
              · have := h7.get (k - 1) (by omega)
                rw [getD_erase, getD_erase, if_neg (by omega), if_neg (by omega), show k - 1 + 1 = k by omega] at this
                exact this.symm
            rw [cutI_get hi (by omega), hl] at hk'
            by_cases e3 : k = prevN (idxI 1 q) S.length ∨ k = nextN (idxI 1 q) S.length
            · rw [if_pos e3] at hk'; rw [if_pos (hends.2 e3)]; omega
            · rw [if_neg e3] at hk'; rw [if_neg (fun c => e3 (hends.1 c))]; omega
      · rw [ofRun_none h4 hi] at h; cases h
    · obtain ⟨x, y, z, rfl⟩ := list_three (q := q) (by omega)
      have g0 := hq 0 (by simp)
      have g1 := hq 1 (by simp)
      have g2 := hq 2 (by simp)
      rw [ofRun, if_neg (by simp)] at h
      split at h
      · rename_i h5
        have b0 := le_maxTo [x, y, z] 2 0 (by omega)
        have b1 := le_maxTo [x, y, z] 2 1 (by omega)
        have b2 := le_maxTo [x, y, z] 2 2 (by omega)
        have h5' : maxTo [x, y, z] 2 = 1 := h5
        rw [h5'] at b0 b1 b2
        simp at b0 b1 b2 g0 g1 g2
        have h6 : out = res := by simpa using h
        refine ⟨[], by rw [h6]; simp, full_three hs (by simpa using hl.symm), hl, fun j hj => ?_⟩
        have hz : cnt [] (S.getD j 0) = 0 := rfl
        rw [hz]
        rw [← hl] at hj
        have hj' : j < 3 := hj
        match j, hj' with
        | 0, _ => simp; omega
        | 1, _ => simp; omega
        | 2, _ => simp; omega
      · cases h
end Go.Proofs.Ytddcdopimpfhcaa
