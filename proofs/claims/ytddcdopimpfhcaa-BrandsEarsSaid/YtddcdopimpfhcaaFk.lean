/- Plain: a brand has two ears; instead of a line just one other one fits. -/
import Derived.Test.YtddcdopimpfhcaaFg
import Derived.Test.YtddcdopimpfhcaaCg
namespace Go.Proofs.Ytddcdopimpfhcaa

def FreeC (L : List (Int × Int)) (c : Int) : Prop := ∀ q, q ∈ L → q.1 ≠ c ∧ q.2 ≠ c
theorem Mid.neighbour {S : List Int} {L : List (Int × Int)} {c a b : Int} (m : Mid S L c a b) {g : Int × Int} : (Cut (S.erase c) a g → g.1 = b ∨ g.2 = b) ∧ (Cut (S.erase c) b g → g.1 = a ∨ g.2 = a) := by
  have hac := m.ac
  have hcb := m.cb
  have ha' : a ∈ S.erase c := m.mem.2 ⟨m.aS, by omega⟩
  have hb' : b ∈ S.erase c := m.mem.2 ⟨m.bS, by omega⟩
  have hfar : ∀ x, x ∈ S.erase c → x ≤ a ∨ b ≤ x := fun x hx => by
    have h1 := m.mem.1 hx
    have := m.all x h1.1
    omega
  constructor
  · intro h
    cases h with
    | mid x y hx hy h1 h2 hall => have := hall b hb'; have := hfar x hx; have := hfar y hy; right; simp only; omega
    | fst x y hx hy h1 h2 hall => have := hall b hb'; have := hfar x hx; have := hfar y hy; left; simp only; omega
    | lst x y hx hy h1 h2 hall => have := hall b hb'; have := hfar x hx; have := hfar y hy; omega
  · intro h
    cases h with
    | mid x y hx hy h1 h2 hall => have := hall a ha'; have := hfar x hx; have := hfar y hy; left; simp only; omega
    | fst x y hx hy h1 h2 hall => have := hall a ha'; have := hfar x hx; have := hfar y hy; omega
    | lst x y hx hy h1 h2 hall => have := hall a ha'; have := hfar x hx; have := hfar y hy; right; simp only; omega
/-- Two ears. -/
theorem two_ears : ∀ (n : Nat) {S : List Int} {L : List (Int × Int)}, S.length = n → 4 ≤ S.length → Full S L → ∃ c d, c ∈ S ∧ d ∈ S ∧ c ≠ d ∧ FreeC L c ∧ FreeC L d
  | 0, S, L, e, h4, h => by omega
  | n + 1, S, L, e, h4, h => by
    obtain ⟨c, a, b, m⟩ := h.mid h4
    have hl := m.len
    have hac := m.ac
    have hcb := m.cb
    have back : ∀ d, d ≠ a → d ≠ b → FreeC (L.erase (a, b)) d → FreeC L d := by
      intro d h1 h2 hf q hq
      by_cases e : q = (a, b)
      · subst e; exact ⟨fun e => h1 e.symm, fun e => h2 e.symm⟩
      · exact hf q ((List.mem_erase_of_ne e).2 hq)
    by_cases h5 : 5 ≤ S.length
    · obtain ⟨d, f, hd, hf, hdf, d1, f1⟩ := two_ears n (by omega) (by omega) m.cut
      have hd0 := m.mem.1 hd
      have hf0 := m.mem.1 hf
      by_cases hda : d ≠ a ∧ d ≠ b
      · exact ⟨c, d, m.cS, hd0.1, fun e => hd0.2 e.symm, m.free, back d hda.1 hda.2 d1⟩
      · by_cases hfa : f ≠ a ∧ f ≠ b
        · exact ⟨c, f, m.cS, hf0.1, fun e => hf0.2 e.symm, m.free, back f hfa.1 hfa.2 f1⟩
        · exfalso
          have hcase : (d = a ∧ f = b) ∨ (d = b ∧ f = a) := by omega
          obtain ⟨g, hg⟩ := cut_of m.cut.part.sorted (by omega) hd
          have hgL := (m.cut.ear (by omega) hg hd d1).1
          have hff := f1 g hgL
          rcases hcase with ⟨rfl, rfl⟩ | ⟨rfl, rfl⟩
          · have := m.neighbour.1 hg; omega
          · have := m.neighbour.2 hg; omega
    · obtain ⟨s, hs, h1, h2, h3⟩ := m.four
      refine ⟨c, s, m.cS, hs, fun e => h3 e.symm, m.free, back s h1 h2 ?_⟩
      have hlen := m.cut.len
      have : L.erase (a, b) = [] := by rw [← List.length_eq_zero_iff]; omega
      rw [this]
      intro q hq
      simp at hq
/-- A line that fits instead of g. -/
structure Fit (S : List Int) (L : List (Int × Int)) (g p : Int × Int) : Prop where
  line : LineOf S p
  ne : p ≠ g
  new : p ∉ L.erase g
  free : ∀ x, x ∈ L.erase g → ¬ Crs p x
theorem Fit.part {S : List Int} {L : List (Int × Int)} {g p : Int × Int} (h : Part S L) (f : Fit S L g p) : Part S (p :: L.erase g) := by
  have hs := h.sub g
  refine ⟨h.sorted, List.nodup_cons.2 ⟨f.new, hs.nodup⟩, fun q hq => ?_, fun q hq r hr => ?_⟩
  · rcases List.mem_cons.1 hq with rfl | hq'
    · exact f.line
    · exact hs.line q hq'
  · rcases List.mem_cons.1 hq with rfl | hq'
    · rcases List.mem_cons.1 hr with rfl | hr'
      · unfold Crs; omega
      · exact f.free r hr'
    · rcases List.mem_cons.1 hr with rfl | hr'
      · exact fun hX => f.free q hq' hX.comm
      · exact hs.free q hq' r hr'
theorem cut_two {S : List Int} (hs : S.Nodup) (h5 : 5 ≤ S.length) {c d : Int} {g : Int × Int} (hcd : c ≠ d) (hc : c ∈ S) (hd : d ∈ S) (h1 : Cut S c g) (h2 : Cut S d g) : False := by
  have : S.length ≤ [g.1, g.2, c, d].length := by
    refine nodup_le _ _ hs fun s hsS => ?_
    simp only [List.mem_cons, List.not_mem_nil, or_false]
    cases h1 with
    | mid a b ha hb h3 h4 hall =>
      have e1 := hall s hsS
      have e2 := hall d hd
      have e3 := hall c hc
      cases h2 with
      | mid _ _ _ _ h5 h6 hall2 => have := hall2 s hsS; have := hall2 c hc; simp only; omega
      | fst _ _ _ _ h5 h6 hall2 => have := hall2 s hsS; have := hall2 c hc; simp only; omega
      | lst _ _ _ _ h5 h6 hall2 => have := hall2 s hsS; have := hall2 c hc; simp only; omega
    | fst a b ha hb h3 h4 hall =>
      have e1 := hall s hsS
      have e2 := hall d hd
      have e3 := hall c hc
      cases h2 with
      | mid _ _ _ _ h5 h6 hall2 => have := hall2 s hsS; have := hall2 c hc; simp only; omega
      | fst _ _ _ _ h5 h6 hall2 => have := hall2 s hsS; have := hall2 c hc; simp only; omega
      | lst _ _ _ _ h5 h6 hall2 => have := hall2 s hsS; have := hall2 c hc; simp only; omega
    | lst a b ha hb h3 h4 hall =>
      have e1 := hall s hsS
      have e2 := hall d hd
      have e3 := hall c hc
      cases h2 with
      | mid _ _ _ _ h5 h6 hall2 => have := hall2 s hsS; have := hall2 c hc; simp only; omega
      | fst _ _ _ _ h5 h6 hall2 => have := hall2 s hsS; have := hall2 c hc; simp only; omega
      | lst _ _ _ _ h5 h6 hall2 => have := hall2 s hsS; have := hall2 c hc; simp only; omega
  simp at this
  omega
/-- No line from a corner that is cut off. -/
theorem cut_free {S : List Int} {c : Int} {e p : Int × Int} (hc : Cut S c e) (_ : c ∈ S) (hp : LineOf S p) (hX : ¬ Crs p e) : p.1 ≠ c ∧ p.2 ≠ c := by
  obtain ⟨x, y⟩ := p
  obtain ⟨s, hs, h1, h2⟩ := hp.mid
  obtain ⟨t, ht, h3⟩ := hp.out
  have hx := hp.fst
  have hy := hp.snd
  unfold Crs at hX
  simp only at *
  cases hc with
  | mid a b ha hb h4 h5 hall =>
    have e1 := hall x hx
    have e2 := hall y hy
    have e3 := hall s hs
    have e4 := hall t ht
    simp only at hX
    constructor
    · rintro rfl; omega
    · rintro rfl; omega
  | fst a b ha hb h4 h5 hall =>
    have e1 := hall x hx
    have e2 := hall y hy
    have e3 := hall s hs
    have e4 := hall t ht
    simp only at hX
    constructor
    · rintro rfl; omega
    · rintro rfl; omega
  | lst a b ha hb h4 h5 hall =>
    have e1 := hall x hx
    have e2 := hall y hy
    have e3 := hall s hs
    have e4 := hall t ht
    simp only at hX
    constructor
    · rintro rfl; omega
    · rintro rfl; omega
/-- The line of an ear crosses no line of the other corners, and is none. -/
theorem cut_adj {S : List Int} {c : Int} {e p : Int × Int} (hs : S.Nodup) (hc : Cut S c e) (hp : LineOf (S.erase c) p) : p ≠ e ∧ ¬ Crs p e := by
  obtain ⟨x, y⟩ := p
  have hm : ∀ s, s ∈ S.erase c → s ∈ S ∧ s ≠ c := fun s h => ⟨List.mem_of_mem_erase h, (hs.mem_erase_iff.1 h).1⟩
  obtain ⟨s, hs', h1, h2⟩ := hp.mid
  obtain ⟨t, ht, h3⟩ := hp.out
  have hx := hm _ hp.fst
  have hy := hm _ hp.snd
  have hss := hm _ hs'
  have htt := hm _ ht
  unfold Crs
  simp only at *
  cases hc with
  | mid a b ha hb h4 h5 hall =>
    have e1 := hall x hx.1
    have e2 := hall y hy.1
    have e3 := hall s hss.1
    have e4 := hall t htt.1
    simp only [ne_eq, Prod.mk.injEq]
    omega
  | fst a b ha hb h4 h5 hall =>
    have e1 := hall x hx.1
    have e2 := hall y hy.1
    have e3 := hall s hss.1
    have e4 := hall t htt.1
    simp only [ne_eq, Prod.mk.injEq]
    omega
  | lst a b ha hb h4 h5 hall =>
    have e1 := hall x hx.1
    have e2 := hall y hy.1
    have e3 := hall s hss.1
    have e4 := hall t htt.1
    simp only [ne_eq, Prod.mk.injEq]
    omega
theorem line_erase {S : List Int} {c : Int} {p : Int × Int} (h : LineOf (S.erase c) p) : LineOf S p := by
  obtain ⟨s, hs, h1⟩ := h.mid
  obtain ⟨t, ht, h2⟩ := h.out
  exact ⟨List.mem_of_mem_erase h.fst, List.mem_of_mem_erase h.snd, ⟨s, List.mem_of_mem_erase hs, h1⟩, ⟨t, List.mem_of_mem_erase ht, h2⟩⟩
theorem four_of_len {S : List Int} (hs : S.Pairwise (· < ·)) (h : S.length = 4) : ∃ x y z t, S = [x, y, z, t] ∧ x < y ∧ y < z ∧ z < t := by
  match S, h with
  | [x, y, z, t], _ =>
    simp at hs
    exact ⟨x, y, z, t, rfl, by omega, by omega, by omega⟩
theorem line_four {x y z t : Int} (h1 : x < y) (h2 : y < z) (h3 : z < t) (p : Int × Int) : LineOf [x, y, z, t] p ↔ p = (x, z) ∨ p = (y, t) := by
  obtain ⟨a, b⟩ := p
  constructor
  · intro h
    obtain ⟨s, hs, h4, h5⟩ := h.mid
    obtain ⟨u, hu, h6⟩ := h.out
    have ha := h.fst
    have hb := h.snd
    simp only [List.mem_cons, List.not_mem_nil, or_false] at hs hu ha hb h4 h5 h6
    simp only [Prod.mk.injEq]
    omega
  · rintro (e | e)
    · cases e
      exact ⟨by simp, by simp, ⟨y, by simp, h1, h2⟩, ⟨t, by simp, .inr h3⟩⟩
    · cases e
      exact ⟨by simp, by simp, ⟨z, by simp, h2, h3⟩, ⟨x, by simp, .inl h1⟩⟩
/-- Just one other line fits. -/
theorem flip_one : ∀ (n : Nat) {S : List Int} {L : List (Int × Int)} {g : Int × Int}, S.length = n → Full S L → g ∈ L → ∃ p, Fit S L g p ∧ ∀ p', Fit S L g p' → p' = p
  | 0, S, L, g, e, h, hg => by have := four_of h.part hg; omega
  | n + 1, S, L, g, e, h, hg => by
    have h4 := four_of h.part hg
    have hnd := sorted_nodup h.part.sorted
    by_cases h5 : 5 ≤ S.length
    · obtain ⟨c, d, hc, hd, hcd, fc, fd⟩ := two_ears _ rfl h4 h
      obtain ⟨e1, he1⟩ := cut_of h.part.sorted (by omega) hc
      obtain ⟨e2, he2⟩ := cut_of h.part.sorted (by omega) hd
      -- an ear whose line is another one
      obtain ⟨c, e, hc, fc, he, hne⟩ : ∃ c e, c ∈ S ∧ FreeC L c ∧ Cut S c e ∧ e ≠ g := by
        by_cases h1 : e1 = g
        · by_cases h2 : e2 = g
          · subst h1; subst h2
            exact (cut_two hnd h5 hcd hc hd he1 he2).elim
          · exact ⟨d, e2, hd, fd, he2, h2⟩
        · exact ⟨c, e1, hc, fc, he1, h1⟩
      obtain ⟨heL, hF⟩ := h.ear h4 he hc fc
      have hl := len_erase hc
      have hg' : g ∈ L.erase e := (List.mem_erase_of_ne (fun k => hne k.symm)).2 hg
      have heg : e ∈ L.erase g := (List.mem_erase_of_ne hne).2 heL
      obtain ⟨p, hp, hu⟩ := flip_one n (by omega) hF hg'
      have hsub : ∀ x, x ∈ L.erase g → x = e ∨ x ∈ (L.erase e).erase g := fun x hx => by
        by_cases k : x = e
        · exact .inl k
        · rw [List.erase_comm]
          exact .inr ((List.mem_erase_of_ne k).2 hx)
      have hadj := cut_adj hnd he hp.line
      refine ⟨p, ⟨line_erase hp.line, hp.ne, fun hm => ?_, fun x hx => ?_⟩, fun p' f => hu p' ?_⟩
      · rcases hsub p hm with k | k
        · exact hadj.1 k
        · exact hp.new k
      · rcases hsub x hx with rfl | k
        · exact hadj.2
        · exact hp.free x k
      · have hP := f.part h.part
        have hpe : p' ≠ e := fun k => f.new (by rw [k]; exact heg)
        have hfr := cut_free he hc f.line (f.free e heg)
        have hP' := hP.cut he (fun q hq => by
          rcases List.mem_cons.1 hq with rfl | hq'
          · exact hfr
          · exact fc q (List.mem_of_mem_erase hq'))
        refine ⟨hP'.line p' ((List.mem_erase_of_ne hpe).2 (by simp)), f.ne, fun hm => f.new ?_, fun x hx => f.free x ?_⟩
        · rw [List.erase_comm] at hm
          exact List.mem_of_mem_erase hm
        · rw [List.erase_comm] at hx
          exact List.mem_of_mem_erase hx
    · obtain ⟨x, y, z, t, rfl, h1, h2, h3⟩ := four_of_len h.part.sorted (by omega)
      have hlen := h.len
      obtain ⟨g', rfl⟩ : ∃ g', L = [g'] := by
        match L, hlen with
        | [g'], _ => exact ⟨g', rfl⟩
      obtain rfl : g = g' := by simpa using hg
      have hfit : ∀ p, Fit [x, y, z, t] [g] g p ↔ LineOf [x, y, z, t] p ∧ p ≠ g := by
        intro p
        constructor
        · intro f; exact ⟨f.line, f.ne⟩
        · rintro ⟨f1, f2⟩; exact ⟨f1, f2, by simp, by simp⟩
      have hgl := (line_four h1 h2 h3 g).1 (h.part.line g (by simp))
      have hne : ((x, z) : Int × Int) ≠ (y, t) := by
        simp only [ne_eq, Prod.mk.injEq]
        omega
      rcases hgl with rfl | rfl
      · refine ⟨(y, t), (hfit _).2 ⟨(line_four h1 h2 h3 _).2 (.inr rfl), fun k => hne k.symm⟩, fun p' f => ?_⟩
        have := (hfit p').1 f
        rcases (line_four h1 h2 h3 p').1 this.1 with k | k
        · exact (this.2 k).elim
        · exact k
      · refine ⟨(x, z), (hfit _).2 ⟨(line_four h1 h2 h3 _).2 (.inl rfl), hne⟩, fun p' f => ?_⟩
        have := (hfit p').1 f
        rcases (line_four h1 h2 h3 p').1 this.1 with k | k
        · exact k
        · exact (this.2 k).elim
theorem lineP_iff {n : Nat} {p : Int × Int} (h3 : 3 ≤ n) : lineP n p ↔ LineOf (natsI n) p := by
  constructor
  · intro hl
    unfold lineP at hl
    refine ⟨mem_nats.2 (by omega), mem_nats.2 (by omega), ⟨p.1 + 1, mem_nats.2 (by omega), by omega, by omega⟩, ?_⟩
    by_cases e : p.1 = 0
    · exact ⟨n - 1, mem_nats.2 (by omega), by omega⟩
    · exact ⟨0, mem_nats.2 (by omega), by omega⟩
  · intro hL
    have h1 := mem_nats.1 hL.fst
    have h2 := mem_nats.1 hL.snd
    obtain ⟨s, hs, h5⟩ := hL.mid
    obtain ⟨t, ht, h6⟩ := hL.out
    have h7 := mem_nats.1 ht
    unfold lineP
    omega
theorem erase_pair : ∀ {L : List (Int × Int)} (_ : L.Nodup) {j : Nat} (_ : j < L.length), L.eraseIdx j = L.erase (L.getD j (0, 0))
  | [], _, j, hj => by simp at hj
  | x :: S, h, 0, _ => by simp
  | x :: S, h, j + 1, hj => by
    have h1 := List.nodup_cons.1 h
    have hj' : j < S.length := by simpa using hj
    have hm : S.getD j (0, 0) ∈ S := by
      rw [List.getD_eq_getElem?_getD, List.getElem?_eq_getElem hj']
      exact List.getElem_mem hj'
    rw [List.eraseIdx_cons_succ, List.getD_cons_succ, List.erase_cons_tail, erase_pair h1.2 hj']
    simp only [beq_iff_eq]
    intro e
    rw [← e] at hm
    exact h1.1 hm
theorem pair_at {L : List (Int × Int)} {j : Nat} (hj : j < L.length) : L.getD j (0, 0) ∈ L := by
  rw [List.getD_eq_getElem?_getD, List.getElem?_eq_getElem hj]
  exact List.getElem_mem hj
theorem flipB_iff {n : Nat} {l : List (Int × Int)} (h : BrandL n l) {i : Nat} (hi : i < l.length) (a b : Nat) : flipB n l i a b = true ↔ Fit (natsI n) l (l.getD i (0, 0)) (a, b) := by
  have hs := h.size
  have he := erase_pair h.nodup hi
  unfold flipB
  rw [Bool.and_eq_true, fits_iff (by omega) (fun x hx => h.line x (List.mem_of_mem_eraseIdx hx)), he, lineP_iff (by omega)]
  constructor
  · rintro ⟨h1, h2, h3⟩
    refine ⟨h2, fun e => ?_, fun e => (h3 _ e).1 rfl, fun x hx => (h3 x hx).2⟩
    rw [← e] at h1
    simp at h1
  · intro f
    refine ⟨?_, f.line, fun x hx => ⟨fun e => f.new (by rw [e]; exact hx), f.free x hx⟩⟩
    have := f.ne
    rw [Bool.not_eq_true', Bool.and_eq_false_iff, decide_eq_false_iff_not, decide_eq_false_iff_not]
    by_cases e1 : (a : Int) = (l.getD i (0, 0)).1
    · right
      intro e2
      exact this (Prod.ext e1 e2)
    · exact .inl e1
theorem flip_is {n : Nat} {l : List (Int × Int)} (h : BrandL n l) {i : Nat} (hi : i < l.length) {p : Int × Int} (hp : Fit (natsI n) l (l.getD i (0, 0)) p) (hu : ∀ p', Fit (natsI n) l (l.getD i (0, 0)) p' → p' = p) :
    flipL n l i = some (sortL (l.eraseIdx i ++ [p])) := by
  have hL := (lineP_iff (by have := h.size; omega)).2 hp.line
  unfold lineP at hL
  obtain ⟨a, ha⟩ : ∃ a : Nat, p.1 = (a : Int) := ⟨p.1.toNat, by omega⟩
  obtain ⟨b, hb⟩ : ∃ b : Nat, p.2 = (b : Int) := ⟨p.2.toNat, by omega⟩
  have hpe : p = ((a : Int), (b : Int)) := Prod.ext ha hb
  rw [hpe] at hp hu ⊢
  have hT := (flipB_iff h hi a b).2 hp
  have hone : ∀ x, flipAt n (flipB n l i) n = some x → x = (a, b) := by
    intro x hx
    obtain ⟨j, hj, h1, _⟩ := firstV_some _ hx
    obtain ⟨k, hk, h2, _⟩ := firstV_some _ h1
    split at h2
    · rename_i h3
      cases h2
      have := hu _ ((flipB_iff h hi j k).1 h3.2)
      have e1 := congrArg Prod.fst this
      have e2 := congrArg Prod.snd this
      simp only at e1 e2
      exact Prod.ext (by simp only; omega) (by simp only; omega)
    · cases h2
  have hsome : flipAt n (flipB n l i) n ≠ none := by
    intro hno
    have h1 := firstV_all _ hno a (by omega)
    have h2 := firstV_all _ h1 b (by omega)
    rw [if_pos ⟨by omega, hT⟩] at h2
    cases h2
  obtain ⟨x, hx⟩ := Option.ne_none_iff_exists'.1 hsome
  have := hone x hx
  subst this
  unfold flipL
  rw [hx]
  rfl
/-- Flip gives a brand with one line different; Flip of the new line gives the brand back. -/
theorem flip_facts {n : Nat} {l : List (Int × Int)} (h : BrandL n l) {i : Nat} (hi : i < l.length) : ∃ p x, flipL n l i = some x ∧ BrandL n x ∧ x.length = l.length ∧ p ∈ x ∧ (∀ y, y ∈ x → y ≠ p → y ∈ l) ∧ p ∉ l ∧ l.getD i (0, 0) ∉ x ∧ x.Nodup ∧
    ∀ j, j < x.length → x.getD j (0, 0) = p → flipL n x j = some l := by
  have hs := h.size
  have hF := full_nats h
  have hg := pair_at hi
  have he := erase_pair h.nodup hi
  obtain ⟨p, hp, hu⟩ := flip_one _ rfl hF hg
  have hfl := flip_is h hi hp hu
  obtain ⟨g, hgd⟩ : ∃ g, g = l.getD i (0, 0) := ⟨_, rfl⟩
  rw [← hgd] at hp hu hg he ⊢
  rw [he] at hfl
  have hperm := sortL_perm (l.erase g ++ [p])
  have hP := hp.part hF.part
  have hFx : Full (natsI n) (p :: l.erase g) := ⟨hP, by
    have := hF.len
    have h1 := List.length_pos_of_mem hg
    rw [List.length_cons, List.length_erase_of_mem hg]
    omega⟩
  obtain ⟨x, hx⟩ : ∃ x, x = sortL (p :: l.erase g) := ⟨_, rfl⟩
  have hxx : x.Perm (p :: l.erase g) := by rw [hx]; exact sortL_perm _
  have hB : BrandL n x := by rw [hx]; exact brand_sort (by omega) (by omega) hFx
  have hsame : sortL (l.erase g ++ [p]) = x := sort_same hB ((List.perm_append_singleton p (l.erase g)).trans hxx.symm)
  rw [hsame] at hfl
  have hgn : g ∉ p :: l.erase g := by
    intro hm
    rcases List.mem_cons.1 hm with k | k
    · exact hp.ne k.symm
    · exact (h.nodup.mem_erase_iff.1 k).1 rfl
  have hpl : p ∉ l := fun k => hp.new ((List.mem_erase_of_ne hp.ne).2 k)
  refine ⟨p, x, hfl, hB, ?_, hxx.mem_iff.2 (by simp), fun y hy hne => ?_, hpl, fun k => hgn (hxx.mem_iff.1 k), hB.nodup, fun j hj hjp => ?_⟩
  · have := hB.size; omega
  · rcases List.mem_cons.1 (hxx.mem_iff.1 hy) with k | k
    · exact (hne k).elim
    · exact List.mem_of_mem_erase k
  · have hpx : p ∈ x := hxx.mem_iff.2 (by simp)
    have hex : (x.erase p).Perm (l.erase g) := by
      have := hxx.erase p
      rw [List.erase_cons_head] at this
      exact this
    have hfit : Fit (natsI n) x p g := by
      refine ⟨hF.part.line g hg, hp.ne.symm, fun k => ?_, fun y hy => ?_⟩
      · exact (h.nodup.mem_erase_iff.1 (hex.mem_iff.1 k)).1 rfl
      · exact hF.part.free g hg y (List.mem_of_mem_erase (hex.mem_iff.1 hy))
    obtain ⟨r, hr, hru⟩ := flip_one _ rfl (full_nats hB) hpx
    have hgr := hru g hfit
    subst hgr
    have := flip_is hB hj (by rw [hjp]; exact hfit) (by rw [hjp]; exact hru)
    rw [this, erase_pair hB.nodup hj, hjp]
    congr 1
    refine sort_same h ?_
    exact (List.perm_append_singleton _ _).trans ((hex.cons _).trans (List.perm_cons_erase hg).symm)
end Go.Proofs.Ytddcdopimpfhcaa
