/- Plain: a list that closes, with the greatest sum, is cut ear by ear. -/
import Derived.Test.YtddcdopimpfhcaaFb
import Derived.Test.YtddcdopimpfhcaaFe
namespace Go.Proofs.Ytddcdopimpfhcaa

def Rot (a b : List Int) : Prop := ∃ u v, a = u ++ v ∧ b = v ++ u
theorem Rot.symm {a b : List Int} : Rot a b → Rot b a := fun ⟨u, v, h1, h2⟩ => ⟨v, u, h2, h1⟩
theorem Rot.perm {a b : List Int} : Rot a b → a.Perm b := fun ⟨u, v, h1, h2⟩ => by rw [h1, h2]; exact List.perm_append_comm
theorem Rot.sum {a b : List Int} : Rot a b → a.sum = b.sum := fun ⟨u, v, h1, h2⟩ => by rw [h1, h2, sum_app, sum_app]; omega
theorem Rot.pos {a b : List Int} (h : Rot a b) (hp : PosL a) : PosL b := fun x hx => hp x (h.perm.mem_iff.2 hx)
theorem Rot.mon {a b : List Int} {s : Int} : Rot a b → Mon s a → Mon s b := fun ⟨u, v, h1, h2⟩ h => by subst h1 h2; exact h.rot u v
theorem getI_ext {a b : List Int} (h : a.length = b.length) (h2 : ∀ i, i < a.length → a.getD i 0 = b.getD i 0) : a = b := by
  refine List.ext_getElem h (fun i h3 h4 => ?_)
  have := h2 i h3
  rw [List.getD_eq_getElem?_getD, List.getD_eq_getElem?_getD, List.getElem?_eq_getElem h3, List.getElem?_eq_getElem h4] at this
  exact this
theorem getD_app (a b : List Int) (i : Nat) : (a ++ b).getD i 0 = if i < a.length then a.getD i 0 else b.getD (i - a.length) 0 := by
  rw [List.getD_eq_getElem?_getD, List.getElem?_append]
  split <;> rw [List.getD_eq_getElem?_getD]
theorem getD_cons (x : Int) (l : List Int) (i : Nat) : (x :: l).getD i 0 = if i = 0 then x else l.getD (i - 1) 0 := by
  rcases i with _ | i
  · rfl
  · rw [if_neg (by omega)]; rfl
theorem cut_shape {q : List Int} {j : Nat} (hj : j < q.length) (h4 : 4 ≤ q.length) (h1 : q.getD j 0 = 1) : ∃ x y mid, q.getD (prevN j q.length) 0 = x ∧ q.getD (nextN j q.length) 0 = y ∧
    Rot q (x :: 1 :: y :: mid) ∧ Rot ((cutAt q j).eraseIdx j) ((x - 1) :: (y - 1) :: mid) := by
  have hlen := cut_len hj
  have hg : ∀ i, ((cutAt q j).eraseIdx j).getD i 0 = if i < j then q.getD i 0 - (if i = prevN j q.length ∨ i = nextN j q.length then 1 else 0) else q.getD (i + 1) 0 - (if i + 1 = prevN j q.length ∨ i + 1 = nextN j q.length then 1 else 0) := by
    intro i
    rw [getD_erase, cutI_get hj (by omega), cutI_get hj (by omega)]
  rw [prevN_val hj, nextN_val hj] at hg ⊢
  generalize hN : (cutAt q j).eraseIdx j = N at hlen hg ⊢
  by_cases h0 : j = 0
  · subst h0
    obtain ⟨y, mid, x, rfl⟩ : ∃ y mid x, q = 1 :: y :: (mid ++ [x]) := by
      rcases q with _ | ⟨o, _ | ⟨y, r⟩⟩
      · simp at hj
      · simp at h4
      · have hr : r ≠ [] := by rintro rfl; simp at h4
        have ho : o = 1 := by simpa using h1
        exact ⟨y, r.dropLast, r.getLast hr, by rw [ho, List.dropLast_concat_getLast hr]⟩
    simp only [List.length_cons, List.length_append, List.length_nil] at hlen hg h4 ⊢
    refine ⟨x, y, mid, ?_, ?_, ⟨1 :: y :: mid, [x], by simp, by simp⟩, ⟨(y - 1) :: mid, [x - 1], ?_, by simp⟩⟩
    · simp
    · simp
    · refine getI_ext (by simp; omega) (fun i hi => ?_)
      rw [hg, if_neg (by omega)]
      rcases i with _ | t
      · simp
      · by_cases e1 : t < mid.length
        · rw [if_neg (by simp; omega), List.getD_cons_succ, List.getD_cons_succ, List.cons_append, List.getD_cons_succ, getD_app, getD_app, if_pos e1, if_pos e1]
          omega
        · obtain rfl : t = mid.length := by simp at hi hlen; omega
          simp
  · by_cases hl : j + 1 = q.length
    · obtain ⟨y, mid, x, rfl⟩ : ∃ y mid x, q = y :: (mid ++ [x, 1]) := by
        have hq : q ≠ [] := by rintro rfl; simp at hj
        have e1 := List.dropLast_concat_getLast hq
        have hd : q.dropLast ≠ [] := by
          intro e
          have := congrArg List.length e
          simp at this
          omega
        have e2 := List.dropLast_concat_getLast hd
        obtain ⟨y, mid, e3⟩ : ∃ y mid, q.dropLast.dropLast = y :: mid := by
          rcases h : q.dropLast.dropLast with _ | ⟨y, mid⟩
          · have := congrArg List.length h
            simp at this
            omega
          · exact ⟨y, mid, rfl⟩
        have e4 : q.getLast hq = 1 := by
          rw [← h1, List.getLast_eq_getElem, List.getD_eq_getElem?_getD, List.getElem?_eq_getElem hj]
          simp only [Option.getD_some]
          congr 1
          omega
        obtain ⟨x, e5⟩ : ∃ x, q.dropLast.dropLast ++ [x] = q.dropLast := ⟨_, e2⟩
        rw [e4] at e1
        refine ⟨y, mid, x, ?_⟩
        calc q = q.dropLast ++ [1] := e1.symm
          _ = (q.dropLast.dropLast ++ [x]) ++ [1] := by rw [e5]
          _ = y :: (mid ++ [x, 1]) := by rw [e3]; simp
      simp only [List.length_cons, List.length_append, List.length_nil] at hlen hg h4 hl ⊢
      obtain rfl : j = mid.length + 2 := by omega
      refine ⟨x, y, mid, ?_, ?_, ⟨y :: mid, [x, 1], by simp, by simp⟩, ⟨(y - 1) :: mid, [x - 1], ?_, by simp⟩⟩
      · simp
      · simp
      · refine getI_ext (by simp; omega) (fun i hi => ?_)
        rw [hg, if_pos (by omega)]
        rcases i with _ | t
        · simp
        · by_cases e1 : t < mid.length
          · rw [if_neg (by simp; omega), List.getD_cons_succ, List.cons_append, List.getD_cons_succ, getD_app, getD_app, if_pos e1, if_pos e1]
            omega
          · obtain rfl : t = mid.length := by omega
            simp
    · obtain ⟨pre, x, y, post, rfl, hpre⟩ : ∃ pre x y post, q = pre ++ x :: 1 :: y :: post ∧ pre.length + 1 = j := by
        refine ⟨q.take (j - 1), q[j - 1], q[j + 1], q.drop (j + 2), ?_, by rw [List.length_take]; omega⟩
        have e1 : q.drop (j - 1) = q[j - 1] :: q.drop (j - 1 + 1) := List.drop_eq_getElem_cons (by omega)
        have e2 : q.drop j = q[j] :: q.drop (j + 1) := List.drop_eq_getElem_cons (by omega)
        have e3 : q.drop (j + 1) = q[j + 1] :: q.drop (j + 1 + 1) := List.drop_eq_getElem_cons (by omega)
        have e4 : q[j] = 1 := by
          rw [List.getD_eq_getElem?_getD, List.getElem?_eq_getElem hj] at h1
          exact h1
        rw [show j - 1 + 1 = j by omega, e2, e3, e4] at e1
        rw [← e1, List.take_append_drop]
      subst hpre
      simp only [List.length_cons, List.length_append] at hlen hg h4 hl ⊢
      refine ⟨x, y, post ++ pre, ?_, ?_, ⟨pre, x :: 1 :: y :: post, rfl, by simp⟩, ⟨pre, (x - 1) :: (y - 1) :: post, ?_, by simp⟩⟩
      · rw [if_neg (by omega)]
        simp
      · rw [if_neg (by omega), getD_app, if_neg (by omega), show pre.length + 1 + 1 - pre.length = 2 by omega]
        rfl
      · refine getI_ext (by simp; omega) (fun i hi => ?_)
        rw [hg]
        rw [if_neg (by omega : ¬ pre.length + 1 = 0), if_neg (by omega : ¬ pre.length + 1 + 1 = pre.length + (post.length + 1 + 1 + 1))]
        rcases Nat.lt_trichotomy i pre.length with e | e | e
        · rw [if_pos (by omega), if_neg (by omega), getD_app, getD_app, if_pos e, if_pos e]; omega
        · subst e
          simp
        · rw [if_neg (by omega), getD_app, getD_app, if_neg (by omega : ¬ i + 1 < pre.length), if_neg (by omega : ¬ i < pre.length)]
          by_cases e2 : i = pre.length + 1
          · subst e2
            rw [if_pos (by omega), show pre.length + 1 + 1 - pre.length = 2 by omega, show pre.length + 1 - pre.length = 1 by omega]
            rfl
          · obtain ⟨t, rfl⟩ : ∃ t, i = pre.length + 2 + t := ⟨i - pre.length - 2, by omega⟩
            rw [if_neg (by omega), show pre.length + 2 + t + 1 - pre.length = t + 3 by omega, show pre.length + 2 + t - pre.length = t + 2 by omega]
            exact Int.sub_zero _
theorem PosL.get {q : List Int} (h : PosL q) {j : Nat} (hj : j < q.length) : 1 ≤ q.getD j 0 := h _ (idx_mem hj)
/-- Lists that close, of the greatest sum, are cut ear by ear. -/
theorem ofRun_mon : ∀ (f : Nat) {q S : List Int} (out : List (Int × Int)), q.length ≤ f → 3 ≤ q.length → PosL q → Mon (-1) q → q.sum + 6 = 3 * (q.length : Int) → ∃ res, ofRun f q S out = some res
  | 0, q, S, out, h, h3, _, _, _ => by omega
  | f + 1, q, S, out, h, h3, hp, hm, hs => by
    by_cases h4 : 3 < q.length
    · have hone := mon_has_one hm hp (by rintro rfl; simp at h4)
      obtain ⟨j0, hj0, hc⟩ := mem_idx hone
      have hi := idxI_lt hj0 hc
      have hv := idxI_at 1 q hi
      obtain ⟨x, y, mid, hx, hy, hr, hr'⟩ := cut_shape hi h4 hv
      have hlr := hr.perm.length_eq
      have hlr' := hr'.perm.length_eq
      have hl := cut_len hi
      have hmid : mid ≠ [] := by rintro rfl; simp at hlr; omega
      obtain ⟨hx2, hy2, hm'⟩ := mon_cut (hr.mon hm) (.inr rfl) (hr.pos hp) hmid (by rw [← hr.sum, ← hlr]; exact hs)
      have hmin : ¬ min ((cutAt q (idxI 1 q)).getD (prevN (idxI 1 q) q.length) 0) ((cutAt q (idxI 1 q)).getD (nextN (idxI 1 q) q.length) 0) < 1 := by
        rw [cutI_get hi (by omega), cutI_get hi (by omega), if_pos (.inl rfl), if_pos (.inr rfl), hx, hy]
        omega
      rw [ofRun_on h4 hi hmin]
      have hp2 := hr.pos hp
      refine ofRun_mon f _ (by omega) (by omega) (hr'.symm.pos (fun z hz => ?_)) (hr'.symm.mon hm') ?_
      · simp only [List.mem_cons] at hz
        rcases hz with rfl | rfl | hz
        · omega
        · omega
        · exact hp2 z (by simp [hz])
      · have e1 := hr.sum
        have e2 := hr'.sum
        simp only [List.sum_cons, List.length_cons] at e1 e2 hlr hlr'
        omega
    · obtain ⟨x, y, z, rfl⟩ := list_three (q := q) (by omega)
      have g0 := hp x (by simp)
      have g1 := hp y (by simp)
      have g2 := hp z (by simp)
      simp at hs
      obtain ⟨rfl, rfl, rfl⟩ : x = 1 ∧ y = 1 ∧ z = 1 := by omega
      exact ⟨out, by simp [ofRun, maxTo]⟩
end Go.Proofs.Ytddcdopimpfhcaa
