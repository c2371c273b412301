/- Plain: the number of choices of triangles for the corners between two others is the determinant of their vectors. -/
import Derived.Test.YtddcdopimpfhcaaFc
namespace Go.Proofs.Ytddcdopimpfhcaa

/-- A corner behind i and ahead of k, going around. -/
def btw (i k x : Int) : Bool := if i < k then decide (i < x ∧ x < k) else decide (i < x ∨ x < k)
theorem btw_iff {i k x : Int} : btw i k x = true ↔ (i < k ∧ i < x ∧ x < k) ∨ (¬ i < k ∧ (i < x ∨ x < k)) := by
  unfold btw
  split
  · rename_i h; rw [decide_eq_true_iff]; omega
  · rename_i h; rw [decide_eq_true_iff]; omega
def dst (v : Int → Int × Int) (i k : Int) : Int := if i < k then detV (v i) (v k) else detV (v k) (v i)
def Bro (S : List Int) (L : List (Int × Int)) (v : Int → Int × Int) : Prop :=
  ∀ T, Tris S L T → ∀ i k, i ∈ S → k ∈ S → i ≠ k → (chW (S.filter (btw i k)) T : Int) = dst v i k
theorem perm_mem {l m : List Int} (h1 : l.Nodup) (h2 : m.Nodup) (h : ∀ x, x ∈ l ↔ x ∈ m) : l.Perm m := (List.perm_ext_iff_of_nodup h1 h2).2 h
theorem Mid.bro {S : List Int} {L : List (Int × Int)} {c a b : Int} (m : Mid S L c a b) {v : Int → Int × Int} (h : Frame (S.erase c) (L.erase (a, b)) v) (h3 : 3 ≤ (S.erase c).length) (hB : Bro (S.erase c) (L.erase (a, b)) v) : Bro S L (addV v c a b) := by
  intro T hT i k hi hk hik
  have hac := m.ac
  have hcb := m.cb
  obtain ⟨hmem, hT'⟩ := m.tris hT
  have hB' := hB _ hT'
  have hlen := (count_tris _ rfl h3 m.cut hT').1
  have hnS' : (S.erase c).Nodup := (sorted_nodup m.part.sorted).erase c
  have hfar : ∀ x, x ∈ S.erase c → x ∈ S ∧ x ≠ c ∧ (x ≤ a ∨ b ≤ x) := fun x hx => by
    have h1 := m.mem.1 hx
    have := m.all x h1.1
    exact ⟨h1.1, h1.2, by omega⟩
  have ha' : a ∈ S.erase c := m.mem.2 ⟨m.aS, by omega⟩
  have hb' : b ∈ S.erase c := m.mem.2 ⟨m.bS, by omega⟩
  have hab := m.ab1 h
  have hpT := List.perm_cons_erase hmem
  have ht0 : (a, c, b) ∉ T.erase (a, c, b) := fun e => (hT.nodup.mem_erase_iff.1 e).1 rfl
  have hnT : ((a, c, b) :: T.erase (a, c, b)).Nodup := List.nodup_cons.2 ⟨ht0, hT'.nodup⟩
  have hlow : ∀ t, t ∈ T.erase (a, c, b) → hasT c t = false := fun t ht => ((m.tri_cut t).1 ((hT'.mem t).1 ht)).2
  -- the corners between, with and without the ear
  have hcs : ∀ (q : Int → Bool), chW (S.filter q) T = chW (if q c then c :: (S.erase c).filter q else (S.erase c).filter q) ((a, c, b) :: T.erase (a, c, b)) := by
    intro q
    rw [chW_perm _ hpT]
    refine chW_order ?_ hnT
    have := (List.perm_cons_erase m.cS).filter q
    rw [List.filter_cons] at this
    exact this
  have nofilter : ∀ (q : Int → Bool) , ((S.erase c).filter q).Nodup := fun q => hnS'.sublist List.filter_sublist
  rw [hcs]
  by_cases hic : i = c
  · subst hic
    have hpc : btw i k i = false := by
      rw [Bool.eq_false_iff]
      intro e
      rw [btw_iff] at e
      omega
    rw [hpc]
    simp only [Bool.false_eq_true, if_false]
    have hk' : k ∈ S.erase i := m.mem.2 ⟨hk, by omega⟩
    have hkf := hfar k hk'
    unfold dst
    rw [addV_c, addV_ne v i a b (by omega : k ≠ i), detV_add_left, detV_add_right]
    by_cases hkb : k = b
    · subst hkb
      have : (S.erase i).filter (btw i k) = [] := by
        rw [List.filter_eq_nil_iff]
        intro x hx e
        have := hfar x hx
        rw [btw_iff] at e
        omega
      rw [this, chW, if_pos hcb, hab, detV_self]
      rfl
    · have hF : ((S.erase i).filter (btw i k)).Perm (b :: (S.erase i).filter (btw b k)) := by
        refine perm_mem (nofilter _) (List.nodup_cons.2 ⟨fun e => ?_, nofilter _⟩) (fun x => ?_)
        · have := (List.mem_filter.1 e).2
          rw [btw_iff] at this
          omega
        · rw [List.mem_filter, List.mem_cons, List.mem_filter, btw_iff, btw_iff]
          constructor
          · rintro ⟨h1, h2⟩
            have := hfar x h1
            by_cases e : x = b
            · exact .inl e
            · exact .inr ⟨h1, by omega⟩
          · rintro (rfl | ⟨h1, h2⟩)
            · exact ⟨hb', by omega⟩
            · have := hfar x h1
              exact ⟨h1, by omega⟩
      have hnone : ∀ x, x ∈ (S.erase i).filter (btw b k) → hasT x (a, i, b) = false := by
        intro x hx
        obtain ⟨h1, h2⟩ := List.mem_filter.1 hx
        have := hfar x h1
        rw [btw_iff] at h2
        simp only [hasT, decide_eq_false_iff_not]
        omega
      rw [chW_order hF hnT, chW_one b _ _ _ ht0 (by simp [hasT]) hnone]
      have e1 := hB' b k hb' hk' (by omega)
      by_cases hka : k = a
      · subst hka
        have h0 : chW (b :: (S.erase i).filter (btw b k)) (T.erase (k, i, b)) = 0 := by
          refine chW_few _ _ ?_
          have hp : (b :: (S.erase i).filter (btw b k)).Perm ((S.erase i).erase k) := by
            refine perm_mem ?_ (hnS'.erase k) (fun x => ?_)
            · refine List.nodup_cons.2 ⟨fun e => ?_, nofilter _⟩
              have := (List.mem_filter.1 e).2
              rw [btw_iff] at this
              omega
            · rw [hnS'.mem_erase_iff, List.mem_cons, List.mem_filter, btw_iff]
              constructor
              · rintro (rfl | ⟨h1, h2⟩)
                · exact ⟨by omega, hb'⟩
                · exact ⟨by omega, h1⟩
              · rintro ⟨h1, h2⟩
                have := hfar x h2
                by_cases e : x = b
                · exact .inl e
                · exact .inr ⟨h2, by omega⟩
          rw [hp.length_eq, List.length_erase_of_mem hk']
          omega
        rw [h0, if_neg (by omega), detV_self, Nat.add_zero, e1]
        unfold dst
        rw [if_neg (by omega)]
        omega
      · have hG : (b :: (S.erase i).filter (btw b k)).Perm ((S.erase i).filter (btw a k)) := by
          refine hF.symm.trans (perm_mem (nofilter _) (nofilter _) (fun x => ?_))
          rw [List.mem_filter, List.mem_filter, btw_iff, btw_iff]
          constructor
          · rintro ⟨h1, h2⟩
            have := hfar x h1
            exact ⟨h1, by omega⟩
          · rintro ⟨h1, h2⟩
            have := hfar x h1
            exact ⟨h1, by omega⟩
        have e2 := hB' a k ha' hk' (fun e => hka e.symm)
        rw [chW_order hG hT'.nodup]
        have e3 : ((chW ((S.erase i).filter (btw b k)) (T.erase (a, i, b)) + chW ((S.erase i).filter (btw a k)) (T.erase (a, i, b)) : Nat) : Int) = dst v b k + dst v a k := by
          rw [Int.natCast_add, e1, e2]
        rw [e3]
        unfold dst
        by_cases h5 : i < k
        · rw [if_pos (by omega), if_pos (by omega), if_pos h5]
          omega
        · rw [if_neg (by omega), if_neg (by omega), if_neg h5]
          omega
  · by_cases hkc : k = c
    · subst hkc
      have hpc : btw i k k = false := by
        rw [Bool.eq_false_iff]
        intro e
        rw [btw_iff] at e
        omega
      rw [hpc]
      simp only [Bool.false_eq_true, if_false]
      have hi' : i ∈ S.erase k := m.mem.2 ⟨hi, by omega⟩
      have hif := hfar i hi'
      unfold dst
      rw [addV_c, addV_ne v k a b (by omega : i ≠ k), detV_add_left, detV_add_right]
      by_cases hia : i = a
      · subst hia
        have : (S.erase k).filter (btw i k) = [] := by
          rw [List.filter_eq_nil_iff]
          intro x hx e
          have := hfar x hx
          rw [btw_iff] at e
          omega
        rw [this, chW, if_pos hac, hab, detV_self]
        rfl
      · have hF : ((S.erase k).filter (btw i k)).Perm (a :: (S.erase k).filter (btw i a)) := by
          refine perm_mem (nofilter _) (List.nodup_cons.2 ⟨fun e => ?_, nofilter _⟩) (fun x => ?_)
          · have := (List.mem_filter.1 e).2
            rw [btw_iff] at this
            omega
          · rw [List.mem_filter, List.mem_cons, List.mem_filter, btw_iff, btw_iff]
            constructor
            · rintro ⟨h1, h2⟩
              have := hfar x h1
              by_cases e : x = a
              · exact .inl e
              · exact .inr ⟨h1, by omega⟩
            · rintro (rfl | ⟨h1, h2⟩)
              · exact ⟨ha', by omega⟩
              · have := hfar x h1
                exact ⟨h1, by omega⟩
        have hnone : ∀ x, x ∈ (S.erase k).filter (btw i a) → hasT x (a, k, b) = false := by
          intro x hx
          obtain ⟨h1, h2⟩ := List.mem_filter.1 hx
          have := hfar x h1
          rw [btw_iff] at h2
          simp only [hasT, decide_eq_false_iff_not]
          omega
        rw [chW_order hF hnT, chW_one a _ _ _ ht0 (by simp [hasT]) hnone]
        have e1 := hB' i a hi' ha' hia
        by_cases hib : i = b
        · subst hib
          have h0 : chW (a :: (S.erase k).filter (btw i a)) (T.erase (a, k, i)) = 0 := by
            refine chW_few _ _ ?_
            have hp : (a :: (S.erase k).filter (btw i a)).Perm ((S.erase k).erase i) := by
              refine perm_mem ?_ (hnS'.erase i) (fun x => ?_)
              · refine List.nodup_cons.2 ⟨fun e => ?_, nofilter _⟩
                have := (List.mem_filter.1 e).2
                rw [btw_iff] at this
                omega
              · rw [hnS'.mem_erase_iff, List.mem_cons, List.mem_filter, btw_iff]
                constructor
                · rintro (rfl | ⟨h1, h2⟩)
                  · exact ⟨by omega, ha'⟩
                  · exact ⟨by omega, h1⟩
                · rintro ⟨h1, h2⟩
                  have := hfar x h2
                  by_cases e : x = a
                  · exact .inl e
                  · exact .inr ⟨h2, by omega⟩
            rw [hp.length_eq, List.length_erase_of_mem hi']
            omega
          rw [h0, if_neg (by omega), detV_self, Nat.add_zero, e1]
          unfold dst
          rw [if_neg (by omega)]
          omega
        · have hG : (a :: (S.erase k).filter (btw i a)).Perm ((S.erase k).filter (btw i b)) := by
            refine hF.symm.trans (perm_mem (nofilter _) (nofilter _) (fun x => ?_))
            rw [List.mem_filter, List.mem_filter, btw_iff, btw_iff]
            constructor
            · rintro ⟨h1, h2⟩
              have := hfar x h1
              exact ⟨h1, by omega⟩
            · rintro ⟨h1, h2⟩
              have := hfar x h1
              exact ⟨h1, by omega⟩
          have e2 := hB' i b hi' hb' hib
          rw [chW_order hG hT'.nodup]
          have e3 : ((chW ((S.erase k).filter (btw i a)) (T.erase (a, k, b)) + chW ((S.erase k).filter (btw i b)) (T.erase (a, k, b)) : Nat) : Int) = dst v i a + dst v i b := by
            rw [Int.natCast_add, e1, e2]
          rw [e3]
          unfold dst
          by_cases h5 : i < k
          · rw [if_pos (by omega), if_pos (by omega), if_pos h5]
          · rw [if_neg (by omega), if_neg (by omega), if_neg h5]
    · have hi' : i ∈ S.erase c := m.mem.2 ⟨hi, hic⟩
      have hk' : k ∈ S.erase c := m.mem.2 ⟨hk, hkc⟩
      have hif := hfar i hi'
      have hkf := hfar k hk'
      have hd : dst (addV v c a b) i k = dst v i k := by
        unfold dst
        rw [addV_ne v c a b hic, addV_ne v c a b hkc]
      rw [hd, ← hB' i k hi' hk' hik]
      congr 1
      cases hp : btw i k c
      · simp only [Bool.false_eq_true, if_false]
        refine chW_none _ _ _ ht0 (fun x hx => ?_)
        obtain ⟨h1, h2⟩ := List.mem_filter.1 hx
        have := hfar x h1
        have hp' : ¬ btw i k c = true := by rw [hp]; simp
        rw [btw_iff] at h2 hp'
        simp only [hasT, decide_eq_false_iff_not]
        omega
      · rw [if_pos rfl]
        exact chW_only c _ _ _ ht0 (by simp [hasT]) hlow
theorem bro_three {x y z : Int} (h1 : x < y) (h2 : y < z) {v : Int → Int × Int} (h : Frame [x, y, z] [] v) : Bro [x, y, z] [] v := by
  intro T hT i k hi hk hik
  have hp := tris_three h1 h2 hT
  rw [chW_perm _ hp]
  have hd : dst v i k = 1 := by
    have hn : ∀ p q, p ∈ [x, y, z] → q ∈ [x, y, z] → p < q → Nearby [x, y, z] [] p q := by
      intro p q hp hq hpq
      simp only [List.mem_cons, List.not_mem_nil, or_false] at hp hq
      have : (p = x ∧ q = y) ∨ (p = y ∧ q = z) ∨ (p = x ∧ q = z) := by omega
      rcases this with ⟨rfl, rfl⟩ | ⟨rfl, rfl⟩ | ⟨rfl, rfl⟩
      · refine .inr (.inl ?_)
        intro s hs; simp only [List.mem_cons, List.not_mem_nil, or_false] at hs; omega
      · refine .inr (.inl ?_)
        intro s hs; simp only [List.mem_cons, List.not_mem_nil, or_false] at hs; omega
      · refine .inr (.inr ?_)
        intro s hs; simp only [List.mem_cons, List.not_mem_nil, or_false] at hs; omega
    unfold dst
    split
    · rename_i e; exact (h.one i k hi hk e).2 (hn _ _ hi hk e)
    · rename_i e; exact (h.one k i hk hi (by omega)).2 (hn _ _ hk hi (by omega))
  rw [hd]
  have hF : ∀ p q r : Int, p ∈ [x, y, z] → q ∈ [x, y, z] → r ∈ [x, y, z] → p ≠ q → q ≠ r → p ≠ r → ∀ s, s ∈ [x, y, z] → s = p ∨ s = q ∨ s = r := by
    intro p q r hp hq hr h1 h2 h3 s hs
    simp only [List.mem_cons, List.not_mem_nil, or_false] at hp hq hr hs
    omega
  have hnd : [x, y, z].Nodup := by simp; omega
  by_cases hne : ([x, y, z].filter (btw i k)) = []
  · rw [hne]; rfl
  · obtain ⟨s, hs⟩ := List.exists_mem_of_ne_nil _ hne
    have hs1 := (List.mem_filter.1 hs).1
    have hs2 := (List.mem_filter.1 hs).2
    rw [btw_iff] at hs2
    have hl : ([x, y, z].filter (btw i k)).Perm [s] := by
      refine perm_mem (hnd.sublist List.filter_sublist) (by simp) (fun t => ?_)
      rw [List.mem_singleton]
      constructor
      · intro ht
        have h3 := (List.mem_filter.1 ht).2
        rw [btw_iff] at h3
        have := hF i k s hi hk hs1 hik (by omega) (by omega) t (List.mem_filter.1 ht).1
        omega
      · rintro rfl; exact hs
    rw [chW_order hl (by simp), chW_only s [] _ [] (by simp) ?_ (by simp)]
    · rfl
    · simp only [List.mem_cons, List.not_mem_nil, or_false] at hs1
      simp only [hasT, decide_eq_true_eq]
      omega
/-- Vectors whose determinants are the numbers of choices. -/
theorem Full.bro : ∀ (n : Nat) {S : List Int} {L : List (Int × Int)}, S.length = n → 3 ≤ S.length → Full S L → ∃ v, Frame S L v ∧ Bro S L v
  | 0, S, L, e, h3, h => by omega
  | n + 1, S, L, e, h3, h => by
    by_cases h4 : 4 ≤ S.length
    · obtain ⟨c, a, b, m⟩ := h.mid h4
      have := m.len
      obtain ⟨v, hv, hb⟩ := Full.bro n (by omega) (by omega) m.cut
      exact ⟨_, m.frame hv, m.bro hv (by omega) hb⟩
    · obtain ⟨x, y, z, rfl, h1, h2⟩ := three_of h.part.sorted (by omega)
      have hl := h.len
      obtain rfl : L = [] := by simpa using hl
      exact ⟨_, frame_three h1 h2, bro_three h1 h2 (frame_three h1 h2)⟩
end Go.Proofs.Ytddcdopimpfhcaa
