/- Plain: vectors at the corners of a brand: two corners are near exactly if their determinant is 1. -/
import Derived.Test.YtddcdopimpfhcaaEa
namespace Go.Proofs.Ytddcdopimpfhcaa

def detV (u v : Int × Int) : Int := u.1 * v.2 - u.2 * v.1
/-- How many lines a corner has. -/
def cnt (L : List (Int × Int)) (c : Int) : Nat := L.countP fun p => decide (p.1 = c ∨ p.2 = c)
/-- Two corners x < y are neighbours. -/
def Adj (S : List Int) (x y : Int) : Prop := (∀ s, s ∈ S → s ≤ x ∨ y ≤ s) ∨ ∀ s, s ∈ S → x ≤ s ∧ s ≤ y
/-- Two corners x < y are neighbours or joined. -/
def Nearby (S : List Int) (L : List (Int × Int)) (x y : Int) : Prop := (x, y) ∈ L ∨ Adj S x y
theorem cnt_perm {L M : List (Int × Int)} (h : L.Perm M) (c : Int) : cnt L c = cnt M c := h.countP_eq _
theorem cnt_cons (p : Int × Int) (L : List (Int × Int)) (c : Int) : cnt (p :: L) c = cnt L c + if p.1 = c ∨ p.2 = c then 1 else 0 := by
  unfold cnt
  rw [List.countP_cons]
  simp only [decide_eq_true_eq]
theorem cnt_erase {L : List (Int × Int)} {g : Int × Int} (h : g ∈ L) (c : Int) : cnt L c = cnt (L.erase g) c + if g.1 = c ∨ g.2 = c then 1 else 0 := by
  rw [cnt_perm (List.perm_cons_erase h), cnt_cons]
theorem cnt_zero {L : List (Int × Int)} {c : Int} : cnt L c = 0 ↔ ∀ q, q ∈ L → q.1 ≠ c ∧ q.2 ≠ c := by
  unfold cnt
  rw [List.countP_eq_zero]
  constructor
  · intro h q hq
    have := h q hq
    simp only [decide_eq_true_eq] at this
    exact ⟨fun e => this (.inl e), fun e => this (.inr e)⟩
  · intro h q hq
    have := h q hq
    simp only [decide_eq_true_eq]
    rintro (e | e)
    · exact this.1 e
    · exact this.2 e
theorem cnt_pos {L : List (Int × Int)} {c : Int} {g : Int × Int} (h : g ∈ L) (hc : g.1 = c ∨ g.2 = c) : 1 ≤ cnt L c := by
  rw [cnt_erase h, if_pos hc]
  omega
/-- An ear between two others. -/
structure Mid (S : List Int) (L : List (Int × Int)) (c a b : Int) : Prop where
  cS : c ∈ S
  aS : a ∈ S
  bS : b ∈ S
  ac : a < c
  cb : c < b
  all : ∀ s, s ∈ S → s ≤ a ∨ s = c ∨ b ≤ s
  free : ∀ q, q ∈ L → q.1 ≠ c ∧ q.2 ≠ c
  line : (a, b) ∈ L
  part : Part S L
  cut : Full (S.erase c) (L.erase (a, b))
theorem Mid.cutc {S : List Int} {L : List (Int × Int)} {c a b : Int} (m : Mid S L c a b) : Cut S c (a, b) := .mid a b m.aS m.bS m.ac m.cb m.all
theorem Full.mid_at {S : List Int} {L : List (Int × Int)} (h : Full S L) (h4 : 4 ≤ S.length) {c : Int} (hc : c ∈ S) (h1 : ∃ s, s ∈ S ∧ s < c) (h2 : ∃ s, s ∈ S ∧ c < s) (hfree : ∀ q, q ∈ L → q.1 ≠ c ∧ q.2 ≠ c) : ∃ a b, Mid S L c a b := by
  obtain ⟨g, hg⟩ := cut_of h.part.sorted (by omega) hc
  obtain ⟨he, hf⟩ := h.ear h4 hg hc hfree
  obtain ⟨s, hs, h3⟩ := h1
  obtain ⟨t, ht, h5⟩ := h2
  cases hg with
  | mid a b ha hb h6 h7 hall => exact ⟨a, b, hc, ha, hb, h6, h7, hall, hfree, he, h.part, hf⟩
  | fst a b ha hb h6 h7 hall => have := hall s hs; omega
  | lst a b ha hb h6 h7 hall => have := hall t ht; omega
theorem Full.mid {S : List Int} {L : List (Int × Int)} (h : Full S L) (h4 : 4 ≤ S.length) : ∃ c a b, Mid S L c a b := by
  have hne : L ≠ [] := by
    rintro rfl
    have := h.len
    simp at this
    omega
  obtain ⟨c, p, hc, hp, h1, h2, hfree⟩ := free_corner h.part hne
  obtain ⟨a, b, hm⟩ := h.mid_at h4 hc ⟨p.1, (h.part.line p hp).fst, h1⟩ ⟨p.2, (h.part.line p hp).snd, h2⟩ hfree
  exact ⟨c, a, b, hm⟩
theorem Mid.cntc {S : List Int} {L : List (Int × Int)} {c a b : Int} (m : Mid S L c a b) : cnt L c = 0 := cnt_zero.2 m.free
theorem Mid.not_mem {S : List Int} {L : List (Int × Int)} {c a b : Int} (m : Mid S L c a b) : c ∉ S.erase c := fun h => ((sorted_nodup m.part.sorted).mem_erase_iff.1 h).1 rfl
theorem Mid.mem {S : List Int} {L : List (Int × Int)} {c a b s : Int} (m : Mid S L c a b) : s ∈ S.erase c ↔ s ∈ S ∧ s ≠ c := by
  rw [(sorted_nodup m.part.sorted).mem_erase_iff]
  exact And.comm
theorem Mid.len {S : List Int} {L : List (Int × Int)} {c a b : Int} (m : Mid S L c a b) : (S.erase c).length + 1 = S.length := len_erase m.cS
theorem Mid.near {S : List Int} {L : List (Int × Int)} {c a b : Int} (m : Mid S L c a b) {x y : Int} (hx : x ∈ S) (hy : y ∈ S) (_ : x ≠ c) (_ : y ≠ c) (hxy : x < y) :
    Nearby S L x y ↔ Nearby (S.erase c) (L.erase (a, b)) x y := by
  have hac := m.ac
  have hcb := m.cb
  have hx1 := m.all x hx
  have hy1 := m.all y hy
  by_cases hg : x = a ∧ y = b
  · obtain ⟨rfl, rfl⟩ := hg
    refine ⟨fun _ => .inr (.inl fun s hs => ?_), fun _ => .inl m.line⟩
    have := m.all s (m.mem.1 hs).1
    have := (m.mem.1 hs).2
    omega
  · have hne : (x, y) ≠ (a, b) := fun e => hg ⟨congrArg Prod.fst e, congrArg Prod.snd e⟩
    unfold Nearby
    rw [List.mem_erase_of_ne hne]
    constructor
    · rintro (h | h | h)
      · exact .inl h
      · exact .inr (.inl fun s hs => h s (m.mem.1 hs).1)
      · exact .inr (.inr fun s hs => h s (m.mem.1 hs).1)
    · rintro (h | h | h)
      · exact .inl h
      · refine .inr (.inl fun s hs => ?_)
        by_cases e : s = c
        · have ha := h a (m.mem.2 ⟨m.aS, by omega⟩)
          have hb := h b (m.mem.2 ⟨m.bS, by omega⟩)
          omega
        · exact h s (m.mem.2 ⟨hs, e⟩)
      · refine .inr (.inr fun s hs => ?_)
        by_cases e : s = c
        · have ha := h a (m.mem.2 ⟨m.aS, by omega⟩)
          have hb := h b (m.mem.2 ⟨m.bS, by omega⟩)
          omega
        · exact h s (m.mem.2 ⟨hs, e⟩)
theorem Mid.near_ac {S : List Int} {L : List (Int × Int)} {c a b : Int} (m : Mid S L c a b) {x : Int} (hx : x ∈ S) (hxc : x < c) : Nearby S L x c ↔ x = a := by
  have hac := m.ac
  have hcb := m.cb
  have hx1 := m.all x hx
  constructor
  · rintro (h | h | h)
    · exact ((m.free _ h).2 rfl).elim
    · have := h a m.aS; omega
    · have := h b m.bS; omega
  · rintro rfl
    exact .inr (.inl fun s hs => by have := m.all s hs; omega)
theorem Mid.near_cb {S : List Int} {L : List (Int × Int)} {c a b : Int} (m : Mid S L c a b) {y : Int} (hy : y ∈ S) (hcy : c < y) : Nearby S L c y ↔ y = b := by
  have hac := m.ac
  have hcb := m.cb
  have hx1 := m.all y hy
  constructor
  · rintro (h | h | h)
    · exact ((m.free _ h).1 rfl).elim
    · have := h b m.bS; omega
    · have := h a m.aS; omega
  · rintro rfl
    exact .inr (.inl fun s hs => by have := m.all s hs; omega)
/-- What the vector at a corner is of its neighbours' vectors. -/
def RecAt (v : Int → Int × Int) (c : Int) (q : Int) (g : Int × Int) : Prop :=
  q * (v c).1 = (if g.2 < c then -1 else 1) * (v g.1).1 + (if c < g.1 then -1 else 1) * (v g.2).1 ∧
  q * (v c).2 = (if g.2 < c then -1 else 1) * (v g.1).2 + (if c < g.1 then -1 else 1) * (v g.2).2
structure Frame (S : List Int) (L : List (Int × Int)) (v : Int → Int × Int) : Prop where
  pos : ∀ x y, x ∈ S → y ∈ S → x < y → 1 ≤ detV (v x) (v y)
  one : ∀ x y, x ∈ S → y ∈ S → x < y → (detV (v x) (v y) = 1 ↔ Nearby S L x y)
  recur : ∀ c g, c ∈ S → Cut S c g → RecAt v c (1 + cnt L c) g
theorem three_of {S : List Int} (hs : S.Pairwise (· < ·)) (h : S.length = 3) : ∃ x y z, S = [x, y, z] ∧ x < y ∧ y < z := by
  match S, h with
  | [x, y, z], _ =>
    simp at hs
    exact ⟨x, y, z, rfl, by omega, by omega⟩
theorem frame_three {x y z : Int} (h1 : x < y) (h2 : y < z) : Frame [x, y, z] [] (fun c => if c = x then (1, 0) else if c = y then (0, 1) else (-1, 1)) := by
  have hd : ∀ p q, p ∈ [x, y, z] → q ∈ [x, y, z] → p < q → detV ((fun c => if c = x then ((1 : Int), (0 : Int)) else if c = y then (0, 1) else (-1, 1)) p) ((fun c => if c = x then (1, 0) else if c = y then (0, 1) else (-1, 1)) q) = 1 := by
    intro p q hp hq hpq
    simp only [List.mem_cons, List.not_mem_nil, or_false] at hp hq
    rcases hp with rfl | rfl | rfl <;> rcases hq with rfl | rfl | rfl <;> first | (exfalso; omega) | skip
    · simp only [if_true, if_neg (by omega : ¬ q = p)]
      decide
    · simp only [if_true, if_neg (by omega : ¬ q = p), if_neg (by omega : ¬ q = y)]
      decide
    · simp only [if_true, if_neg (by omega : ¬ p = x), if_neg (by omega : ¬ q = x), if_neg (by omega : ¬ q = p)]
      decide
  refine ⟨fun p q hp hq h => by rw [hd p q hp hq h]; decide, fun p q hp hq h => ⟨fun _ => .inr ?_, fun _ => hd p q hp hq h⟩, ?_⟩
  · unfold Adj
    simp only [List.mem_cons, List.not_mem_nil, or_false] at hp hq
    rcases hp with rfl | rfl | rfl <;> rcases hq with rfl | rfl | rfl <;> first | (exfalso; omega) | skip
    · left; intro s hs; simp at hs; omega
    · right; intro s hs; simp at hs; omega
    · left; intro s hs; simp at hs; omega
  · intro c g hc hg
    have e : ∀ s, s ∈ [x, y, z] ↔ s = x ∨ s = y ∨ s = z := fun s => by simp
    have h0 : cnt [] c = 0 := rfl
    rw [h0]
    cases hg with
    | mid a b ha hb h3 h4 hall =>
      have hx := hall x (by simp); have hy := hall y (by simp); have hz := hall z (by simp)
      rw [e] at ha hb hc
      obtain ⟨rfl, rfl, rfl⟩ : a = x ∧ c = y ∧ b = z := by omega
      unfold RecAt
      simp only [if_true, if_neg (by omega : ¬ b < c), if_neg (by omega : ¬ c < a), if_neg (by omega : ¬ c = a), if_neg (by omega : ¬ b = a), if_neg (by omega : ¬ b = c)]
      decide
    | fst a b ha hb h3 h4 hall =>
      have hx := hall x (by simp); have hy := hall y (by simp); have hz := hall z (by simp)
      rw [e] at ha hb hc
      obtain ⟨rfl, rfl, rfl⟩ : c = x ∧ a = y ∧ b = z := by omega
      unfold RecAt
      simp only [if_true, if_neg (by omega : ¬ b < c), if_pos h3, if_neg (by omega : ¬ a = c), if_neg (by omega : ¬ b = a), if_neg (by omega : ¬ b = c)]
      decide
    | lst a b ha hb h3 h4 hall =>
      have hx := hall x (by simp); have hy := hall y (by simp); have hz := hall z (by simp)
      rw [e] at ha hb hc
      obtain ⟨rfl, rfl, rfl⟩ : a = x ∧ b = y ∧ c = z := by omega
      unfold RecAt
      simp only [if_true, if_pos h4, if_neg (by omega : ¬ c < a), if_neg (by omega : ¬ c = a), if_neg (by omega : ¬ b = a), if_neg (by omega : ¬ c = b)]
      decide
theorem detV_add_left (u v w : Int × Int) : detV (u.1 + v.1, u.2 + v.2) w = detV u w + detV v w := by
  unfold detV
  simp only [Int.add_mul]
  omega
theorem detV_add_right (u v w : Int × Int) : detV w (u.1 + v.1, u.2 + v.2) = detV w u + detV w v := by
  unfold detV
  simp only [Int.mul_add]
  omega
theorem detV_self (u : Int × Int) : detV u u = 0 := by
  unfold detV
  rw [Int.mul_comm]
  omega
theorem detV_anti (u v : Int × Int) : detV u v = - detV v u := by
  unfold detV
  rw [Int.mul_comm u.1, Int.mul_comm u.2]
  omega
/-- The vectors, one corner more. -/
def addV (v : Int → Int × Int) (c a b : Int) : Int → Int × Int := fun d => if d = c then ((v a).1 + (v b).1, (v a).2 + (v b).2) else v d
theorem addV_c (v : Int → Int × Int) (c a b : Int) : addV v c a b c = ((v a).1 + (v b).1, (v a).2 + (v b).2) := by simp [addV]
theorem addV_ne (v : Int → Int × Int) (c a b : Int) {d : Int} (h : d ≠ c) : addV v c a b d = v d := by simp [addV, h]
theorem Mid.four {S : List Int} {L : List (Int × Int)} {c a b : Int} (m : Mid S L c a b) : ∃ s, s ∈ S ∧ s ≠ a ∧ s ≠ b ∧ s ≠ c := by
  obtain ⟨s, hs, h⟩ := (m.part.line _ m.line).out
  have := m.ac
  have := m.cb
  exact ⟨s, hs, by simp only at h; omega, by simp only at h; omega, by simp only at h; omega⟩
theorem Mid.ab1 {S : List Int} {L : List (Int × Int)} {c a b : Int} (m : Mid S L c a b) {v : Int → Int × Int} (h : Frame (S.erase c) (L.erase (a, b)) v) : detV (v a) (v b) = 1 := by
  have hac := m.ac
  have hcb := m.cb
  refine (h.one a b (m.mem.2 ⟨m.aS, by omega⟩) (m.mem.2 ⟨m.bS, by omega⟩) (by omega)).2 (.inr (.inl fun s hs => ?_))
  have := m.all s (m.mem.1 hs).1
  have := (m.mem.1 hs).2
  omega
theorem Mid.recur {S : List Int} {L : List (Int × Int)} {c a b : Int} (m : Mid S L c a b) {v : Int → Int × Int} (h : Frame (S.erase c) (L.erase (a, b)) v) {d : Int} {g : Int × Int} (hd : d ∈ S) (hg : Cut S d g) :
    RecAt (addV v c a b) d (1 + cnt L d) g := by
  have hac := m.ac
  have hcb := m.cb
  have hcnt := cnt_erase m.line d
  simp only at hcnt
  have hda := m.all d hd
  have mem : ∀ s, s ∈ S → s ≠ c → s ∈ S.erase c := fun s h1 h2 => m.mem.2 ⟨h1, h2⟩
  have ha' := mem a m.aS (by omega)
  have hb' := mem b m.bS (by omega)
  have far : ∀ s, s ∈ S.erase c → s ∈ S ∧ s ≠ c ∧ (s ≤ a ∨ b ≤ s) := fun s hs => by
    have h1 := m.mem.1 hs
    have := m.all s h1.1
    exact ⟨h1.1, h1.2, by omega⟩
  obtain ⟨s4, hs4, h4a, h4b, h4c⟩ := m.four
  by_cases hdc : d = c
  · subst hdc
    rw [m.cntc]
    cases hg with
    | mid x y hx hy h1 h2 hall =>
      have e1 := hall a m.aS
      have e2 := hall b m.bS
      have e3 := m.all x hx
      have e4 := m.all y hy
      obtain ⟨rfl, rfl⟩ : x = a ∧ y = b := by omega
      unfold RecAt
      rw [addV_c, addV_ne v d x y (by omega : x ≠ d), addV_ne v d x y (by omega : y ≠ d), if_neg (by omega), if_neg (by omega)]
      simp only
      constructor <;> omega
    | fst x y hx hy h1 h2 hall => have := hall a m.aS; omega
    | lst x y hx hy h1 h2 hall => have := hall b m.bS; omega
  · have hd' := mem d hd hdc
    cases hg with
    | mid x y hx hy h1 h2 hall =>
      have e1 := hall a m.aS
      have e2 := hall b m.bS
      have e3 := m.all x hx
      have e4 := m.all y hy
      have e5 := hall c m.cS
      by_cases hxc : x = c
      · subst hxc
        obtain rfl : d = b := by omega
        have hr := h.recur d (a, y) hd' (.mid a y ha' (mem y hy (by omega)) (by omega) h2 (fun s hs => by
          have := far s hs
          have := hall s this.1
          omega))
        rw [if_pos (.inr rfl)] at hcnt
        rw [hcnt]
        unfold RecAt at hr ⊢
        rw [addV_c, addV_ne v x a d hdc, addV_ne v x a d (by omega : y ≠ x)]
        simp only at hr ⊢
        rw [if_neg (by omega), if_neg (by omega)] at hr ⊢
        rw [show (1 + ((cnt (L.erase (a, d)) d + 1 : Nat) : Int)) = (1 + (cnt (L.erase (a, d)) d : Int)) + 1 by omega]
        simp only [Int.add_mul] at hr ⊢
        omega
      · by_cases hyc : y = c
        · subst hyc
          obtain rfl : d = a := by omega
          have hr := h.recur d (x, b) hd' (.mid x b (mem x hx (by omega)) hb' h1 (by omega) (fun s hs => by
            have := far s hs
            have := hall s this.1
            omega))
          rw [if_pos (.inl rfl)] at hcnt
          rw [hcnt]
          unfold RecAt at hr ⊢
          rw [addV_c, addV_ne v y d b hdc, addV_ne v y d b (by omega : x ≠ y)]
          simp only at hr ⊢
          rw [if_neg (by omega), if_neg (by omega)] at hr ⊢
          rw [show (1 + ((cnt (L.erase (d, b)) d + 1 : Nat) : Int)) = (1 + (cnt (L.erase (d, b)) d : Int)) + 1 by omega]
          simp only [Int.add_mul] at hr ⊢
          omega
        · have hr := h.recur d (x, y) hd' (.mid x y (mem x hx hxc) (mem y hy hyc) h1 h2 (fun s hs => hall s (far s hs).1))
          rw [if_neg (by omega)] at hcnt
          rw [hcnt]
          unfold RecAt at hr ⊢
          rw [addV_ne v c a b hdc, addV_ne v c a b hxc, addV_ne v c a b hyc]
          exact hr
    | fst x y hx hy h1 h2 hall =>
      have e1 := hall a m.aS
      have e2 := hall b m.bS
      have e3 := m.all x hx
      have e4 := m.all y hy
      have e5 := hall c m.cS
      have e6 := hall s4 hs4
      have e7 := m.all s4 hs4
      by_cases hxc : x = c
      · subst hxc
        obtain rfl : d = a := by omega
        have hr := h.recur d (b, y) hd' (.fst b y hb' (mem y hy (by omega)) (by omega) (by omega) (fun s hs => by
          have := far s hs
          have := hall s this.1
          omega))
        rw [if_pos (.inl rfl)] at hcnt
        rw [hcnt]
        unfold RecAt at hr ⊢
        rw [addV_c, addV_ne v x d b hdc, addV_ne v x d b (by omega : y ≠ x)]
        simp only at hr ⊢
        rw [if_neg (by omega), if_pos (by omega)] at hr ⊢
        rw [show (1 + ((cnt (L.erase (d, b)) d + 1 : Nat) : Int)) = (1 + (cnt (L.erase (d, b)) d : Int)) + 1 by omega]
        simp only [Int.add_mul] at hr ⊢
        omega
      · have hyc : y ≠ c := by omega
        have hr := h.recur d (x, y) hd' (.fst x y (mem x hx hxc) (mem y hy hyc) h1 h2 (fun s hs => hall s (far s hs).1))
        rw [if_neg (by omega)] at hcnt
        rw [hcnt]
        unfold RecAt at hr ⊢
        rw [addV_ne v c a b hdc, addV_ne v c a b hxc, addV_ne v c a b hyc]
        exact hr
    | lst x y hx hy h1 h2 hall =>
      have e1 := hall a m.aS
      have e2 := hall b m.bS
      have e3 := m.all x hx
      have e4 := m.all y hy
      have e5 := hall c m.cS
      have e6 := hall s4 hs4
      have e7 := m.all s4 hs4
      by_cases hyc : y = c
      · subst hyc
        obtain rfl : d = b := by omega
        have hr := h.recur d (x, a) hd' (.lst x a (mem x hx (by omega)) ha' (by omega) (by omega) (fun s hs => by
          have := far s hs
          have := hall s this.1
          omega))
        rw [if_pos (.inr rfl)] at hcnt
        rw [hcnt]
        unfold RecAt at hr ⊢
        rw [addV_c, addV_ne v y a d hdc, addV_ne v y a d (by omega : x ≠ y)]
        simp only at hr ⊢
        rw [if_pos (by omega), if_neg (by omega)] at hr ⊢
        rw [show (1 + ((cnt (L.erase (a, d)) d + 1 : Nat) : Int)) = (1 + (cnt (L.erase (a, d)) d : Int)) + 1 by omega]
        simp only [Int.add_mul] at hr ⊢
        omega
      · have hxc : x ≠ c := by omega
        have hr := h.recur d (x, y) hd' (.lst x y (mem x hx hxc) (mem y hy hyc) h1 h2 (fun s hs => hall s (far s hs).1))
        rw [if_neg (by omega)] at hcnt
        rw [hcnt]
        unfold RecAt at hr ⊢
        rw [addV_ne v c a b hdc, addV_ne v c a b hxc, addV_ne v c a b hyc]
        exact hr
theorem Mid.frame {S : List Int} {L : List (Int × Int)} {c a b : Int} (m : Mid S L c a b) {v : Int → Int × Int} (h : Frame (S.erase c) (L.erase (a, b)) v) : Frame S L (addV v c a b) := by
  have hac := m.ac
  have hcb := m.cb
  have mem : ∀ s, s ∈ S → s ≠ c → s ∈ S.erase c := fun s h1 h2 => m.mem.2 ⟨h1, h2⟩
  have ha' := mem a m.aS (by omega)
  have hb' := mem b m.bS (by omega)
  have hab := m.ab1 h
  have key : ∀ x y, x ∈ S → y ∈ S → x < y → 1 ≤ detV (addV v c a b x) (addV v c a b y) ∧ (detV (addV v c a b x) (addV v c a b y) = 1 ↔ Nearby S L x y) := by
    intro x y hx hy hxy
    have e3 := m.all x hx
    have e4 := m.all y hy
    by_cases hxc : x = c
    · subst hxc
      have hy' := mem y hy (by omega)
      rw [addV_c, addV_ne v x a b (by omega : y ≠ x), detV_add_left, m.near_cb hy hxy]
      by_cases hyb : y = b
      · subst hyb
        rw [hab, detV_self]
        exact ⟨by omega, by omega⟩
      · have h1 := h.pos a y ha' hy' (by omega)
        have h2 := h.pos b y hb' hy' (by omega)
        omega
    · by_cases hyc : y = c
      · subst hyc
        have hx' := mem x hx (by omega)
        rw [addV_c, addV_ne v y a b hxc, detV_add_right, m.near_ac hx hxy]
        by_cases hxa : x = a
        · subst hxa
          rw [hab, detV_self]
          exact ⟨by omega, by omega⟩
        · have h1 := h.pos x a hx' ha' (by omega)
          have h2 := h.pos x b hx' hb' (by omega)
          omega
      · rw [addV_ne v c a b hxc, addV_ne v c a b hyc, m.near hx hy hxc hyc hxy]
        exact ⟨h.pos x y (mem x hx hxc) (mem y hy hyc) hxy, h.one x y (mem x hx hxc) (mem y hy hyc) hxy⟩
  exact ⟨fun x y hx hy hxy => (key x y hx hy hxy).1, fun x y hx hy hxy => (key x y hx hy hxy).2, fun d g hd hg => m.recur h hd hg⟩
/-- Each brand has vectors. -/
theorem Full.frame : ∀ (n : Nat) {S : List Int} {L : List (Int × Int)}, S.length = n → 3 ≤ S.length → Full S L → ∃ v, Frame S L v
  | 0, S, L, e, h3, h => by omega
  | n + 1, S, L, e, h3, h => by
    by_cases h4 : 4 ≤ S.length
    · obtain ⟨c, a, b, m⟩ := h.mid h4
      have := m.len
      obtain ⟨v, hv⟩ := Full.frame n (by omega) (by omega) m.cut
      exact ⟨_, m.frame hv⟩
    · obtain ⟨x, y, z, rfl, h1, h2⟩ := three_of h.part.sorted (by omega)
      have hl := h.len
      obtain rfl : L = [] := by simpa using hl
      exact ⟨_, frame_three h1 h2⟩
end Go.Proofs.Ytddcdopimpfhcaa
