/- Contracts: Of. -/
import Derived.Test.YtddcdopimpfhcaaBq
namespace Go.Proofs.Ytddcdopimpfhcaa
open Go.RowKit Go.Shelf

def prevN (k m : Nat) : Nat := (k + m - 1) % m
def nextN (k m : Nat) : Nat := (k + 1) % m
def decI (l : List Int) (a : Nat) : List Int := l.set a (l.getD a 0 - 1)
/-- A list without an ear at k, the neighbours' numbers lowered. -/
def cutAt (l : List Int) (k : Nat) : List Int := decI (decI l (prevN k l.length)) (nextN k l.length)
def lineAt (names : List Int) (k : Nat) : Int × Int := (min (names.getD (prevN k names.length) 0) (names.getD (nextN k names.length) 0), max (names.getD (prevN k names.length) 0) (names.getD (nextN k names.length) 0))
/-- Ear by ear, as Of does. -/
def ofRun : Nat → List Int → List Int → List (Int × Int) → Option (List (Int × Int))
  | 0, _, _, _ => none
  | f + 1, now, names, out =>
    if 3 < now.length then
      if idxI 1 now < now.length then
        if min ((cutAt now (idxI 1 now)).getD (prevN (idxI 1 now) now.length) 0) ((cutAt now (idxI 1 now)).getD (nextN (idxI 1 now) now.length) 0) < 1 then none
        else ofRun f ((cutAt now (idxI 1 now)).eraseIdx (idxI 1 now)) (names.eraseIdx (idxI 1 now)) (out ++ [lineAt names (idxI 1 now)])
      else none
    else if maxTo now (now.length - 1) = 1 then some out else none
def natsI (n : Nat) : List Int := (List.range n).map Int.ofNat
def ofL (l : List Int) : Option (List (Int × Int)) := (ofRun l.length l (natsI l.length) []).map sortL
theorem natsI_len (n : Nat) : (natsI n).length = n := by simp [natsI]
theorem natsI_succ (n : Nat) : natsI (n + 1) = natsI n ++ [(n : Int)] := by simp [natsI, List.range_succ]
theorem natsI_get (n j : Nat) (h : j < n) : (natsI n).getD j 0 = (j : Int) := by
  simp [natsI, List.getD_eq_getElem?_getD, h]
theorem decI_len (l : List Int) (a : Nat) : (decI l a).length = l.length := by simp [decI]
theorem cutAt_len (l : List Int) (k : Nat) : (cutAt l k).length = l.length := by simp [cutAt, decI_len]
theorem decI_get (l : List Int) (a j : Nat) : (decI l a).getD j 0 = l.getD j 0 - if j = a ∧ a < l.length then 1 else 0 := by
  rw [decI, List.getD_eq_getElem?_getD, List.getElem?_set, List.getD_eq_getElem?_getD, List.getD_eq_getElem?_getD]
  by_cases h : a = j
  · subst h
    by_cases h2 : a < l.length
    · simp [h2]
    · simp [h2]
  · rw [if_neg h, if_neg (by omega)]; simp
theorem cut_get (l : List Int) (a b j : Nat) (hab : a ≠ b) (ha : a < l.length) (hb : b < l.length) : (decI (decI l a) b).getD j 0 = l.getD j 0 - if j = a ∨ j = b then 1 else 0 := by
  rw [decI_get, decI_get, decI_len]
  by_cases h1 : j = a
  · rw [if_pos ⟨h1, ha⟩, if_neg (by omega), if_pos (.inl h1)]; omega
  · by_cases h2 : j = b
    · rw [if_neg (by omega), if_pos ⟨h2, hb⟩, if_pos (.inr h2)]; omega
    · rw [if_neg (by omega), if_neg (by omega), if_neg (by omega)]; omega
theorem prev_int (k m : Nat) (h : 0 < m) : ((k : Int) + (m : Int) - 1) % (m : Int) = (prevN k m : Int) := by
  rw [show (k : Int) + (m : Int) - 1 = ((k + m - 1 : Nat) : Int) by omega, prevN]
  exact (Int.natCast_emod _ _).symm
theorem next_int (k m : Nat) : ((k : Int) + 1) % (m : Int) = (nextN k m : Int) := by
  rw [show (k : Int) + 1 = ((k + 1 : Nat) : Int) by omega, nextN]
  exact (Int.natCast_emod _ _).symm
theorem prevN_lt {k m : Nat} (hm : 0 < m) : prevN k m < m := Nat.mod_lt _ hm
theorem nextN_lt {k m : Nat} (hm : 0 < m) : nextN k m < m := Nat.mod_lt _ hm
theorem prev_next {k m : Nat} (hk : k < m) (hm : 3 ≤ m) : prevN k m ≠ nextN k m ∧ prevN k m ≠ k ∧ nextN k m ≠ k := by
  have h1 : nextN k m = if k + 1 = m then 0 else k + 1 := by
    unfold nextN
    split
    · rename_i h; rw [h, Nat.mod_self]
    · exact Nat.mod_eq_of_lt (by omega)
  have h2 : prevN k m = if k = 0 then m - 1 else k - 1 := by
    unfold prevN
    split
    · rename_i h; subst h; rw [Nat.zero_add]; exact Nat.mod_eq_of_lt (by omega)
    · rw [show k + m - 1 = k - 1 + m by omega, Nat.add_mod_right]; exact Nat.mod_eq_of_lt (by omega)
  rw [h1, h2]
  split <;> split <;> omega
theorem getD_erase (l : List Int) (k j : Nat) : (l.eraseIdx k).getD j 0 = if j < k then l.getD j 0 else l.getD (j + 1) 0 := by
  rw [List.getD_eq_getElem?_getD, List.getElem?_eraseIdx]
  split <;> rw [List.getD_eq_getElem?_getD]
theorem irow_below {w w1 : World} {B base r n c : Nat} {xs : List Int} (h : IRow w base r n c xs) (hb : Below B w w1) (hr : r < B) : IRow w1 base r n c xs := by
  refine ⟨h.len, h.own.1, ?_⟩
  rcases h.own.2 with h' | ⟨g, cap, cur, e, hg, hh, q⟩
  · exact .inl h'
  · refine .inr ⟨g, cap, cur, e, hg, ?_, q⟩
    cases e
    rw [hb.block r hr]
    exact hh
theorem irow_keeps {w w1 : World} {base r q n c : Nat} {xs : List Int} (h : IRow w base r n c xs) (hk : Keeps q w w1) (hr : r ≠ q) : IRow w1 base r n c xs :=
  ⟨h.len, h.own.kept hk.out (.inr (by simpa [Value.ownBlock] using hr))⟩
theorem irow_mono {w : World} {base base' r n c : Nat} {xs : List Int} (h : IRow w base r n c xs) (hb : base' ≤ base) : IRow w base' r n c xs := by
  refine ⟨h.len, h.own.1, ?_⟩
  rcases h.own.2 with h' | ⟨g, cap, cur, e, hg, q⟩
  · exact .inl h'
  · exact .inr ⟨g, cap, cur, e, Nat.le_trans hb hg, q⟩
theorem own_row {w : World} {base : Nat} {v : Value} {xs : List Int} (h : Own w base v xs) (hn : 0 < xs.length) : ∃ r c, v = .slice (some ⟨r, 0, none⟩) xs.length c ∧ base ≤ r ∧ IRow w base r xs.length c xs ∧ xs.length ≤ c := by
  have h' := h.out
  rcases h.out.2 with ⟨rfl, h1⟩ | ⟨g, cap, cur, rfl, hb, _, hnc, _⟩
  · omega
  · exact ⟨g, cap, rfl, hb, ⟨rfl, h'⟩, hnc⟩
/-- A pair more in a list of pairs, at a step of a region that draws its order. -/
theorem step_pair {w : World} {ops : Array Oper} {o : Oper} {a : Act} {K : Act → World → Prop} {Q : Exit → Act → World → Prop} {E : Prop} (hgd : o.guard = none) (s x : Operand)
    (ho : o.op = .call { callee := .builtin .append, args := #[s, x], argTypes := #[22, 22] }) (base : Nat) (v : Value) (xs : List (Int × Int)) (i j : Int) (hO : OwnQ w base v xs) (hb : base ≤ w.heap.size) (h100 : xs.length ≤ 1000)
    (hs : a.eval s = v) (hx : a.eval x = .slice (some ⟨w.heap.size, 0, none⟩) 1 1)
    (h : ∀ v' w', OwnQ w' base v' (xs ++ [(i, j)]) → Below base w w' → K (a.put o.dst v') w') :
    if Region.wanted o (yielded ops a.tmps) = true then Oper.wp Try.prog o a (w.alloc (.cells #[.int .i64 i, .int .i64 j] 36)) K Q else E := by
  have hw : Region.wanted o (yielded ops a.tmps) = true := by simp [Region.wanted, hgd]
  rw [if_pos hw]
  obtain ⟨j0, hj, hy0, hy1, hy2⟩ := info_parts info36
  have c1 : ∀ k u, ([.int .i64 i, .int .i64 j] : List Value)[k]? = some u → (w.alloc (.cells #[.int .i64 i, .int .i64 j] 36)).cell? ((⟨w.heap.size, 0, none⟩ : Addr).add k) = some u := by
    intro k u hk
    match k, hk with
    | 0, hk => simp at hk; subst hk; simp [Addr.add_lit]
    | 1, hk => simp at hk; subst hk; simp [Addr.add_lit]
  have c2 : ∀ u ∈ ([.int .i64 i, .int .i64 j] : List Value), u.oneCell' = true := by intro u hu; simp at hu; rcases hu with rfl | rfl <;> rfl
  obtain ⟨v', w', hr, h2, h3, h4⟩ := run_append_own (P := Try.prog) _ base 22 o.type 36 j0 _ 2 16 Try.underlying22 hj hy0 hy1 hy2 rfl (by decide) v xs.length _ (hO.out.alloc _) ⟨w.heap.size, 0, none⟩ 1 1 _ rfl c1 c2 (by unfold maxLen; omega) (by omega) (by simp; omega)
  have hB : Below base w w' := ((Below.refl _ _).alloc hb _).grown h3 (by simp; omega) (fun k e => ownQ_base hO e)
  unfold Oper.wp execOp
  simp only [ho, resolve, invoke, builtin, Sem.run_bind, Sem.run_pure, Result.andThen_ok, List.map_toArray, List.map_cons, List.map_nil, hs, hx, hr]
  exact h v' w' ⟨by rw [List.length_append]; simpa [pairCells] using h2⟩ hB
theorem ownQ_drew {w : World} {base : Nat} {v : Value} {xs : List (Int × Int)} (h : OwnQ w base v xs) : OwnQ w.drew base v xs := ⟨h.out.drew⟩
theorem irow_drew {w : World} {base r n c : Nat} {xs : List Int} (h : IRow w base r n c xs) : IRow w.drew base r n c xs := ⟨h.len, h.own.drew⟩
set_option maxHeartbeats 1000000 in
theorem sorted_all (base : Nat) (v : Value) (xs : List (Int × Int)) (w : World) (h : OwnQ w base v xs) (hR : ∀ x, x ∈ xs → inR x) (hn : xs.length ≤ 12) :
    Calls Try.prog 56 #[v, .func (.func 57) #[] #[]] w fun e w' => e = .returned v ∧ OwnQ w' base v (sortL xs) ∧ (base ≤ w.heap.size → Below base w w') := by
  by_cases h0 : 0 < xs.length
  · exact sorted_any base v xs w h hR hn h0
  · obtain rfl : xs = [] := List.length_eq_zero_iff.1 (by omega)
    rcases h.out.2 with ⟨rfl, _⟩ | ⟨r, c, cur, rfl, hbr, _⟩
    · refine (sorted_nil w).mono ?_
      rintro e w' ⟨rfl, hb⟩
      exact ⟨rfl, ownQ_nil _ _, fun hle => hb.mono hle⟩
    · have hq : QRow w base r 0 c [] := ⟨rfl, h.out⟩
      have hB : Below w.heap.size w (w.alloc (.cells #[.func (.func 57) #[] #[]] 73)) := (Below.refl _ _).alloc (Nat.le_refl _) _
      have hb := block_new w (.cells #[.func (.func 57) #[] #[]] 73)
      have hlt := hq.lt
      have CS := Off.mk (sortFunc_any base r 0 c w.heap.size [] _ (hq.below hB) hR (by omega) (Nat.zero_le _) (one_facts hb).1 (by omega))
      clear h hq hR hB hb hlt
      go_enter Try.func56, Try.ntmps56
      go_wp2_with (go_at_call 79; refine (CS.out).mono ?_; rintro e w1 ⟨rfl, hq, hk⟩)
      go_ret
      refine ⟨rfl, ⟨hq.own⟩, fun hb => ?_⟩
      exact Keeps.below ((Below.refl _ _).alloc hb _) hk (by simp; omega) hbr
theorem ofRun_none {f : Nat} {now names : List Int} {out : List (Int × Int)} (h : 3 < now.length) (hi : ¬ idxI 1 now < now.length) : ofRun (f + 1) now names out = none := by
  rw [ofRun, if_pos h, if_neg hi]
theorem ofRun_low {f : Nat} {now names : List Int} {out : List (Int × Int)} (h : 3 < now.length) (hi : idxI 1 now < now.length) (hm : min ((cutAt now (idxI 1 now)).getD (prevN (idxI 1 now) now.length) 0) ((cutAt now (idxI 1 now)).getD (nextN (idxI 1 now) now.length) 0) < 1) : ofRun (f + 1) now names out = none := by
  rw [ofRun, if_pos h, if_pos hi, if_pos hm]
theorem ofRun_on {f : Nat} {now names : List Int} {out : List (Int × Int)} (h : 3 < now.length) (hi : idxI 1 now < now.length) (hm : ¬ min ((cutAt now (idxI 1 now)).getD (prevN (idxI 1 now) now.length) 0) ((cutAt now (idxI 1 now)).getD (nextN (idxI 1 now) now.length) 0) < 1) :
    ofRun (f + 1) now names out = ofRun f ((cutAt now (idxI 1 now)).eraseIdx (idxI 1 now)) (names.eraseIdx (idxI 1 now)) (out ++ [lineAt names (idxI 1 now)]) := by
  rw [ofRun, if_pos h, if_pos hi, if_neg hm]
theorem of_arg (l : List Int) (A : Option Addr) (c : Nat) (hv : roundB l = false) (w : World) (hl : IntsAt w A l) :
    Calls Try.prog 36 #[.slice A l.length c] w fun e w' => e = .returned (.tuple #[.slice none 0 0, .int .i64 2]) ∧ w' = w := by
  have CR := Off.mk (isRound_any l A c false hv w hl)
  clear hv hl
  go_enter Try.func36, Try.ntmps36
  go_wp2_with (go_at_call 63; refine CR.out.mono ?_; rintro e w1 ⟨rfl, hw⟩; subst w1)
  go_ret2
  exact ⟨rfl, rfl⟩
set_option linter.unusedSimpArgs false in
set_option maxHeartbeats 16000000 in
set_option maxRecDepth 100000 in
theorem of_any (l : List Int) (A : Option Addr) (c : Nat) (hv : roundB l = true) (w : World) (hl : IntsAt w A l) (hlc : l.length ≤ c) (hA : A = none → c = 0) :
    Calls Try.prog 36 #[.slice A l.length c] w fun e w' => FlipPost w (ofL l) e w' := by
  have CR := Off.mk (isRound_any l A c true hv w hl)
  obtain ⟨⟨h3, h12⟩, hrg⟩ := roundB_iff.1 hv
  have HRG := Off.mk hrg
  have HL := Off.mk hl
  have HOF : Off (ofL l = (ofRun l.length l (natsI l.length) []).map sortL) := ⟨rfl⟩
  have CC := Off.mk (cloneI_any l A c w hl hlc (by omega) hA)
  obtain ⟨N, hN⟩ : ∃ N, N = l.length := ⟨_, rfl⟩
  have HN := Off.mk hN
  rw [← hN] at h3 h12 CR CC HOF HRG hlc ⊢
  obtain ⟨R, hR⟩ : ∃ R, R = ofRun N l (natsI N) [] := ⟨_, rfl⟩
  rw [← hR] at HOF
  have HR := Off.mk hR
  clear hv hl hA hN hrg hR
  go_enter Try.func36, Try.ntmps36
  go_wp2_with fail
  refine CR.out.mono ?_
  rintro e w1 ⟨rfl, hw⟩
  subst w1
  go_wp2_with fail
  refine CC.out.mono ?_
  rintro e w2 ⟨v2, rfl, hO2, hb2⟩
  obtain ⟨r1, c1, rfl, hbr1, hI2, hnc1⟩ := own_row hO2 (by have := HN.out; omega)
  rw [← HN.out] at hI2 hnc1 ⊢
  have HB2 := Off.mk hb2
  have Hr1 := Off.mk hI2.lt
  have HI2 := Off.mk hI2
  have Hnc1 := Off.mk hnc1
  have HE3 : Off (Own (w2.alloc (.cells #[] 3)) w2.heap.size (.slice (some ⟨w2.heap.size, 0, none⟩) 0 0) (natsI 0)) := ⟨⟨empty_row w2 _ _ _ (Nat.le_refl _)⟩⟩
  have HB3 : Off (Below w2.heap.size w2 (w2.alloc (.cells #[] 3))) := ⟨(Below.refl _ _).alloc (Nat.le_refl _) _⟩
  clear hO2 hb2 hbr1 hI2 hnc1 CC CR
  go_wp2
  go_loopw [5, 20] (fun v iv wr => ∃ i : Nat, i ≤ N ∧ iv = .int .i64 i ∧ Off (Own wr w2.heap.size v (natsI i)) ∧ Off (Below w2.heap.size w2 wr)) (fun _ iv _ => N - (intOf iv).toNat)
  case atStart => exact ⟨0, by omega, rfl, HE3, HB3⟩
  case round =>
    clear HE3 HB3
    obtain ⟨i, hi, rfl, HO, HB⟩ := hrel
    by_cases hlt : i < N
    · have HS := Off.mk (natsI_succ i)
      have hil : (natsI i).length ≤ 3000 := by rw [natsI_len]; omega
      go_wp2_with (at_builtin; refine wpList_int rfl _ _ rfl w2.heap.size _ (natsI i) (i : Int) HO.out HB.out.size hil rfl rfl ?_)
      intro v5 w5 hO5 _ hb5
      have HO5 := Off.mk hO5
      have HB5 := Off.mk (HB.out.trans hb5)
      clear hO5 hb5 hil
      go_wp2
      go_roundw
      case rel => exact ⟨i + 1, by omega, by go_num, ⟨by rw [HS.out]; exact HO5.out⟩, HB5⟩
      case measure => simp only [intOf]; omega
    · obtain rfl : i = N := by omega
      obtain ⟨r2, c2, e5, hbr2, hI5, hnc2⟩ := own_row HO.out (by rw [natsI_len]; omega)
      subst e5
      rw [natsI_len] at hI5 hnc2 ⊢
      have h12' : r1 ≠ r2 := by have := Hr1.out; omega
      have HJ1 : Off (IRow wr w.heap.size r1 i c1 l) := ⟨irow_below HI2.out HB.out Hr1.out⟩
      have HJ2 : Off (IRow wr w.heap.size r2 i c2 (natsI i)) := ⟨irow_mono hI5 HB2.out.size⟩
      have Hr2 := Off.mk hI5.lt
      have HSz0 : Off (w2.heap.size ≤ wr.heap.size) := ⟨HB.out.size⟩
      have HBw := Off.mk (belowC HB2.out HB.out)
      have Hr1' : Off (r1 < wr.heap.size) := ⟨Nat.lt_of_lt_of_le Hr1.out HB.out.size⟩
      obtain ⟨w3, rfl⟩ : ∃ wo : World, wo = wr := ⟨_, rfl⟩
      have HNR : Off (∀ j, j < i → 0 ≤ (natsI i).getD j 0 ∧ (natsI i).getD j 0 < 12) := ⟨fun j hj => by rw [natsI_get i j hj]; omega⟩
      clear HI2 HO HB hI5 hbr2
      go_wp2
      go_loopw [4, 5, 7] (fun lv nv ov wr => ∃ (m : Nat) (now names : List Int) (os : List (Int × Int)), 3 ≤ m ∧ m ≤ i ∧ lv = .slice (some ⟨r1, 0, none⟩) m c1 ∧ nv = .slice (some ⟨r2, 0, none⟩) m c2 ∧ Off (R = ofRun m now names os) ∧ Off (IRow wr w.heap.size r1 m c1 now) ∧ Off (IRow wr w.heap.size r2 m c2 names) ∧ Off (OwnQ wr w3.heap.size ov os) ∧ Off (∀ j, j < m → 1 ≤ now.getD j 0 ∧ now.getD j 0 ≤ 12) ∧ Off (∀ j, j < m → 0 ≤ names.getD j 0 ∧ names.getD j 0 < 12) ∧ Off (os.length + m = i) ∧ Off (∀ x, x ∈ os → inR x) ∧ Off (Below w.heap.size w wr) ∧ Off (w3.heap.size ≤ wr.heap.size))
        (fun lv _ _ _ => match lv with | .slice _ m _ => m | _ => 0)
      case atStart => exact ⟨i, l, natsI i, [], h3, Nat.le_refl _, rfl, rfl, HR, HJ1, HJ2, ⟨ownQ_nil _ _⟩, HRG, HNR, ⟨by simp⟩, ⟨fun x hx => by simp at hx⟩, HBw, ⟨Nat.le_refl _⟩⟩
      case round =>
        clear HJ1 HJ2 HBw HNR HR HRG
        obtain ⟨m, now, names, os, hm3, hmi, rfl, rfl, HR, HJ1, HJ2, HQ, HG, HH, HLen, HIn, HB, HSz⟩ := hrel
        have Hl1 : Off (now.length = m) := ⟨HJ1.out.len⟩
        have Hl2 : Off (names.length = m) := ⟨HJ2.out.len⟩
        have hmc1 : m ≤ c1 := by have := Hnc1.out; omega
        have hmc2 : m ≤ c2 := by omega
        by_cases hm : 3 < m
        · have hmI : (3 : Int) < (m : Int) := by omega
          have HIA : Off (IntsAt wr (some ⟨r1, 0, none⟩) now) := ⟨⟨by rw [Hl1.out]; omega, fun j hj => ⟨_, rfl, by
            rw [Addr.add_lit, Nat.zero_add]
            exact HJ1.out.cell (by rw [Hl1.out] at hj; exact hj)⟩⟩⟩
          have CX : Off (Calls Try.prog 66 #[.slice (some ⟨r1, 0, none⟩) m c1, .int .i64 1] wr fun e w' => e = .returned (.int .i64 (indexI 1 now)) ∧ w' = wr) := ⟨by
            have := index_int 1 now (some ⟨r1, 0, none⟩) c1 wr HIA.out
            rw [Hl1.out] at this
            exact this⟩
          obtain ⟨f, hf⟩ : ∃ f, m = f + 1 := ⟨m - 1, by omega⟩
          by_cases hidx : idxI 1 now < m
          · obtain ⟨k, hk⟩ : ∃ k, k = idxI 1 now := ⟨_, rfl⟩
            have HX : Off (indexI 1 now = (k : Int)) := ⟨by rw [indexI, Hl1.out, if_pos hidx, hk]⟩
            rw [HX.out] at CX
            obtain ⟨a, ha⟩ : ∃ a, a = prevN k m := ⟨_, rfl⟩
            obtain ⟨b, hb⟩ : ∃ b, b = nextN k m := ⟨_, rfl⟩
            have hkm : k < m := by rw [hk]; exact hidx
            have ham : a < m := by rw [ha]; exact prevN_lt (by omega)
            have hbm : b < m := by rw [hb]; exact nextN_lt (by omega)
            obtain ⟨hab, hak, hbk⟩ := prev_next hkm (by omega)
            rw [← ha, ← hb] at hab
            rw [← ha] at hak
            rw [← hb] at hbk
            have HCut : Off (cutAt now k = decI (decI now a) b) := ⟨by rw [cutAt, Hl1.out, ← ha, ← hb]⟩
            have HLn : Off (lineAt names k = (min (names.getD a 0) (names.getD b 0), max (names.getD a 0) (names.getD b 0))) := ⟨by rw [lineAt, Hl2.out, ← ha, ← hb]⟩
            have Hlow : Off (min ((cutAt now k).getD a 0) ((cutAt now k).getD b 0) < 1 → R = none) := ⟨fun h => by
              rw [HR.out, hf]
              exact ofRun_low (by rw [Hl1.out]; omega) (by rw [Hl1.out]; exact hidx) (by rw [← hk, Hl1.out, ← ha, ← hb]; exact h)⟩
            have Hon : Off (¬ min ((cutAt now k).getD a 0) ((cutAt now k).getD b 0) < 1 → R = ofRun (m - 1) ((cutAt now k).eraseIdx k) (names.eraseIdx k) (os ++ [lineAt names k])) := ⟨fun h => by
              rw [HR.out, hf, Nat.add_sub_cancel]
              rw [ofRun_on (by rw [Hl1.out]; omega) (by rw [Hl1.out]; exact hidx) (by rw [← hk, Hl1.out, ← ha, ← hb]; exact h), ← hk]⟩
            have ga := HG.out a ham
            have gb := HG.out b hbm
            have na := HH.out a ham
            have nb := HH.out b hbm
            have HGa : Off ((cutAt now k).getD a 0 = now.getD a 0 - 1) := ⟨by rw [HCut.out, cut_get _ _ _ _ hab (by rw [Hl1.out]; exact ham) (by rw [Hl1.out]; exact hbm), if_pos (.inl rfl)]⟩
            have HGb : Off ((cutAt now k).getD b 0 = now.getD b 0 - 1) := ⟨by rw [HCut.out, cut_get _ _ _ _ hab (by rw [Hl1.out]; exact ham) (by rw [Hl1.out]; exact hbm), if_pos (.inr rfl)]⟩
            have HGo : Off (∀ j, j ≠ a → j ≠ b → (cutAt now k).getD j 0 = now.getD j 0) := ⟨fun j h1 h2 => by rw [HCut.out, cut_get _ _ _ _ hab (by rw [Hl1.out]; exact ham) (by rw [Hl1.out]; exact hbm), if_neg (by omega)]; omega⟩
            have HI0 := HJ1
            have HI1 := Off.mk ((HI0.out.stored a (now.getD a 0 - 1)).1)
            have HI2 := Off.mk ((HI1.out.stored b ((decI now a).getD b 0 - 1)).1)
            have HK1 := Off.mk ((HI0.out.stored a (now.getD a 0 - 1)).2)
            have HK2 := Off.mk ((HI1.out.stored b ((decI now a).getD b 0 - 1)).2)
            have hdb : (decI now a).getD b 0 = now.getD b 0 := by rw [decI_get, if_neg (by omega)]; omega
            rw [hdb] at HI2 HK2
            have ca := HJ1.out.cell ham
            have cb := HJ1.out.cell hbm
            have fa := HJ1.out.frozen a
            have fb := HJ1.out.frozen b
            have da := HJ2.out.cell ham
            have db := HJ2.out.cell hbm
            obtain ⟨x, hx⟩ : ∃ x, x = now.getD a 0 := ⟨_, rfl⟩
            obtain ⟨y, hy⟩ : ∃ y, y = now.getD b 0 := ⟨_, rfl⟩
            obtain ⟨p, hp⟩ : ∃ p, p = names.getD a 0 := ⟨_, rfl⟩
            obtain ⟨q, hq⟩ : ∃ q, q = names.getD b 0 := ⟨_, rfl⟩
            rw [← hx] at ga HGa HI1 HI2 HK1 HK2 ca
            rw [← hy] at gb HGb HI2 HK2 cb
            rw [← hp] at na HLn da
            rw [← hq] at nb HLn db
            have hi2 : (now.set a (x - 1)).set b (y - 1) = cutAt now k := by
              rw [HCut.out]
              show _ = (decI now a).set b ((decI now a).getD b 0 - 1)
              rw [hdb, ← hy, decI, ← hx]
            rw [hi2] at HI2
            clear hdb hi2
            have k0 : (0 : Int) ≤ (k : Int) := by omega
            have a0 : (0 : Int) ≤ (a : Int) := by omega
            have a1 : (a : Int) < (m : Int) := by omega
            have b0 : (0 : Int) ≤ (b : Int) := by omega
            have b1 : (b : Int) < (m : Int) := by omega
            have w1 : IntKind.i64.wrap ((k : Int) + (m : Int)) = (k : Int) + (m : Int) := by rw [IntKind.wrap_i64]; omega
            have w2' : IntKind.i64.wrap ((k : Int) + (m : Int) - 1) = (k : Int) + (m : Int) - 1 := by rw [IntKind.wrap_i64]; omega
            have w4 : IntKind.i64.wrap ((k : Int) + 1) = (k : Int) + 1 := by rw [IntKind.wrap_i64]; omega
            have hm0 : ¬ m = 0 := by omega
            have t1 : ((k : Int) + (m : Int) - 1).tmod (m : Int) = (a : Int) := by
              rw [Int.tmod_eq_emod_of_nonneg (by omega), ha]; exact prev_int k m (by omega)
            have t2 : ((k : Int) + 1).tmod (m : Int) = (b : Int) := by
              rw [Int.tmod_eq_emod_of_nonneg (by omega), hb]; exact next_int k m
            have t3 : IntKind.i64.wrap (((k : Int) + (m : Int) - 1).tmod (m : Int)) = (a : Int) := by rw [t1, IntKind.wrap_i64]; omega
            have t4 : IntKind.i64.wrap (((k : Int) + 1).tmod (m : Int)) = (b : Int) := by rw [t2, IntKind.wrap_i64]; omega
            have t5 : ((k : Int) + (m : Int) - 1) % (m : Int) = (a : Int) := by rw [ha]; exact prev_int k m (by omega)
            have t6 : ((k : Int) + 1) % (m : Int) = (b : Int) := by rw [hb]; exact next_int k m
            have HT := Off.mk (And.intro t1 (And.intro t2 (And.intro t5 t6)))
            have HHk := Off.mk hk
            have HHa := Off.mk ha
            have HHb := Off.mk hb
            have HHx := Off.mk hx
            have HHy := Off.mk hy
            have HHp := Off.mk hp
            have HHq := Off.mk hq
            have HHf := Off.mk hf
            have Hne := Off.mk (And.intro hab (And.intro hak hbk))
            have hab1 : ¬ a = b := hab
            have hab2 : ¬ b = a := fun e => hab e.symm
            clear hk ha hb hx hy hp hq hf hidx HX HR hab hak hbk
            go_wp2_with fail
            refine CX.out.mono ?_
            rintro e w6 ⟨rfl, hw⟩
            subst w6
            go_wp2
            refine wp_region_held_drew (S := (fun _ => True)) (by kernel_rfl) trivial (fun hHeld => ?_)
            refine wpAnyH_take (i := 0) (oi := ⟨some 37, _, _, _, _, _⟩) (v := ?_) rfl (by kernel_rfl) (by kernel_rfl) (by kernel_rfl) (fun _ _ _ h => h) (Or.inl ⟨by rfl, by intro w hSw; (try dsimp only at hSw); go_simp; try with_reducible rfl⟩) hHeld ?_
            try simp only [Act.put, List.setIfInBounds_toArray, List.set_cons_zero, List.set_cons_succ]
            refine wpAnyH_take (i := 1) (oi := ⟨some 38, _, _, _, _, _⟩) (v := ?_) rfl (by kernel_rfl) (by kernel_rfl) (by kernel_rfl) (fun _ _ _ h => h) (Or.inl ⟨by rfl, by intro w hSw; (try dsimp only at hSw); go_simp; try with_reducible rfl⟩) hHeld ?_
            try simp only [Act.put, List.setIfInBounds_toArray, List.set_cons_zero, List.set_cons_succ]
            refine wpAnyH_take (i := 2) (oi := ⟨some 39, _, _, _, _, _⟩) (v := ?_) rfl (by kernel_rfl) (by kernel_rfl) (by kernel_rfl) (fun _ _ _ h => h) (Or.inl ⟨by rfl, by intro w hSw; (try dsimp only at hSw); go_simp; try with_reducible rfl⟩) hHeld ?_
            try simp only [Act.put, List.setIfInBounds_toArray, List.set_cons_zero, List.set_cons_succ]
            refine wpAnyH_take (i := 3) (oi := ⟨some 40, _, _, _, _, _⟩) (v := ?_) rfl (by kernel_rfl) (by kernel_rfl) (by kernel_rfl) (fun _ _ _ h => h) (Or.inl ⟨by rfl, by intro w hSw; (try dsimp only at hSw); go_simp; try with_reducible rfl⟩) hHeld ?_
            try simp only [Act.put, List.setIfInBounds_toArray, List.set_cons_zero, List.set_cons_succ]
            refine wpAnyH_take (i := 4) (oi := ⟨some 41, _, _, _, _, _⟩) (v := ?_) rfl (by kernel_rfl) (by kernel_rfl) (by kernel_rfl) (fun _ _ _ h => h) (Or.inl ⟨by rfl, by intro w hSw; (try dsimp only at hSw); go_simp; try with_reducible rfl⟩) hHeld ?_
            try simp only [Act.put, List.setIfInBounds_toArray, List.set_cons_zero, List.set_cons_succ]
            refine wpAnyH_take (i := 5) (oi := ⟨some 42, _, _, _, _, _⟩) (v := ?_) rfl (by kernel_rfl) (by kernel_rfl) (by kernel_rfl) (fun _ _ _ h => h) (Or.inl ⟨by rfl, by intro w hSw; (try dsimp only at hSw); go_simp; try with_reducible rfl⟩) hHeld ?_
            try simp only [Act.put, List.setIfInBounds_toArray, List.set_cons_zero, List.set_cons_succ]
            refine wpAnyH_take (i := 6) (oi := ⟨some 43, _, _, _, _, _⟩) (v := ?_) rfl (by kernel_rfl) (by kernel_rfl) (by kernel_rfl) (fun _ _ _ h => h) (Or.inl ⟨by rfl, by intro w hSw; (try dsimp only at hSw); go_simp; try with_reducible rfl⟩) hHeld ?_
            try simp only [Act.put, List.setIfInBounds_toArray, List.set_cons_zero, List.set_cons_succ]
            refine wpAnyH_take (i := 7) (oi := ⟨some 44, _, _, _, _, _⟩) (v := ?_) rfl (by kernel_rfl) (by kernel_rfl) (by kernel_rfl) (fun _ _ _ h => h) (Or.inl ⟨by rfl, by intro w hSw; (try dsimp only at hSw); go_simp; try with_reducible rfl⟩) hHeld ?_
            try simp only [Act.put, List.setIfInBounds_toArray, List.set_cons_zero, List.set_cons_succ]
            refine wpAnyH_take (i := 8) (oi := ⟨some 45, _, _, _, _, _⟩) (v := ?_) rfl (by kernel_rfl) (by kernel_rfl) (by kernel_rfl) (fun _ _ _ h => h) (Or.inl ⟨by rfl, by intro w hSw; (try dsimp only at hSw); go_simp; try with_reducible rfl⟩) hHeld ?_
            try simp only [Act.put, List.setIfInBounds_toArray, List.set_cons_zero, List.set_cons_succ]
            refine wpAnyH_take (i := 9) (oi := ⟨some 46, _, _, _, _, _⟩) (v := ?_) rfl (by kernel_rfl) (by kernel_rfl) (by kernel_rfl) (fun _ _ _ h => h) (Or.inl ⟨by rfl, by intro w hSw; (try dsimp only at hSw); go_simp; try with_reducible rfl⟩) hHeld ?_
            try simp only [Act.put, List.setIfInBounds_toArray, List.set_cons_zero, List.set_cons_succ]
            refine wpAnyH_take (i := 10) (oi := ⟨some 10, _, _, _, _, _⟩) (v := ?_) rfl (by kernel_rfl) (by kernel_rfl) (by kernel_rfl) (fun _ _ _ h => h) (Or.inl ⟨by rfl, by intro w hSw; (try dsimp only at hSw); go_simp; try with_reducible rfl⟩) hHeld ?_
            try simp only [Act.put, List.setIfInBounds_toArray, List.set_cons_zero, List.set_cons_succ]
            refine wpAnyH_take (i := 11) (oi := ⟨some 11, _, _, _, _, _⟩) (v := ?_) rfl (by kernel_rfl) (by kernel_rfl) (by kernel_rfl) (fun _ _ _ h => h) (Or.inl ⟨by rfl, by intro w hSw; (try dsimp only at hSw); go_simp; try with_reducible rfl⟩) hHeld ?_
            try simp only [Act.put, List.setIfInBounds_toArray, List.set_cons_zero, List.set_cons_succ]
            refine wpAnyH_done (by kernel_rfl) ?_ _
            go_wp2
            clear HI0 ca cb fa fb w1 w2' w4 t1 t2 t3 t4 t5 t6 hab1 hab2 hHeld
            obtain ⟨w7, hw7⟩ : ∃ w7, w7 = (wr.setCell ⟨r1, a, none⟩ (.int .i64 (x - 1))).setCell ⟨r1, b, none⟩ (.int .i64 (y - 1)) := ⟨_, rfl⟩
            have HK7 : Off (Keeps r1 wr w7) := ⟨by rw [hw7]; exact HK1.out.trans HK2.out⟩
            have HI7 : Off (IRow w7 w.heap.size r1 m c1 (cutAt now k)) := ⟨by rw [hw7]; exact HI2.out⟩
            rw [← hw7]
            clear hw7 HI1 HK1 HI2 HK2
            have ca := HI7.out.cell ham
            have cb := HI7.out.cell hbm
            rw [HGa.out] at ca
            rw [HGb.out] at cb
            have HR12 := Off.mk h12'
            have HJ7 := Off.mk (irow_keeps HJ2.out HK7.out (Ne.symm h12'))
            have da := HJ7.out.cell ham
            have db := HJ7.out.cell hbm
            rw [← HHp.out] at da
            rw [← HHq.out] at db
            have HQ7 := Off.mk (ownQ_keeps2 HQ.out HK7.out (fun e => by have := ownQ_base HQ.out e; have := Hr1'.out; omega))
            have HB7 : Off (Below w.heap.size w w7) := ⟨Keeps.below HB.out HK7.out HB.out.size (own_base HI7.out.toOwn rfl)⟩
            have HSz7 : Off (w3.heap.size ≤ w7.heap.size) := ⟨Nat.le_trans HSz.out HK7.out.out.size⟩
            clear HK7
            obtain ⟨u, hu⟩ : ∃ u, u = min (x - 1) (y - 1) := ⟨_, rfl⟩
            have HU : Off ((if y < x then y - 1 else x - 1) = u) := ⟨by rw [hu]; split <;> omega⟩
            rw [HGa.out, HGb.out, ← hu] at Hlow Hon
            have hu1 : 1 ≤ u → 1 ≤ x - 1 ∧ 1 ≤ y - 1 := fun h => by omega
            have HU1 := Off.mk hu1
            obtain ⟨p1, hp1⟩ : ∃ p1, p1 = min p q := ⟨_, rfl⟩
            obtain ⟨p2, hp2⟩ : ∃ p2, p2 = max p q := ⟨_, rfl⟩
            have HP1 : Off ((if q < p then q else p) = p1) := ⟨by rw [hp1]; split <;> omega⟩
            have HP2 : Off ((if p < q then q else p) = p2) := ⟨by rw [hp2]; split <;> omega⟩
            have hp12 : (0 ≤ p1 ∧ p1 < 12) ∧ 0 ≤ p2 ∧ p2 < 12 := by omega
            rw [← hp1, ← hp2] at HLn
            have HP12 := Off.mk hp12
            clear hu hu1 hp1 hp2 hp12
            by_cases hlow : u < 1
            · have hl := decide_eq_true hlow
              have HRn := Off.mk (Hlow.out hlow)
              clear hlow Hlow Hon
              refine wp_region_held_drew (S := (fun w' => w'.cell? ⟨r1, a, none⟩ = some (.int .i64 (x - 1)) ∧ w'.cell? ⟨r1, b, none⟩ = some (.int .i64 (y - 1)))) (by kernel_rfl) ⟨ca, cb⟩ (fun hHeld => ?_)
              refine wpAnyH_take (i := 0) (oi := ⟨some 59, _, _, _, _, _⟩) (v := ?_) rfl (by kernel_rfl) (by kernel_rfl) (by kernel_rfl) (fun _ _ _ h => h) (Or.inl ⟨by rfl, by intro w hSw; (try dsimp only at hSw); go_simp; try with_reducible rfl⟩) hHeld ?_
              try simp only [Act.put, List.setIfInBounds_toArray, List.set_cons_zero, List.set_cons_succ]
              refine wpAnyH_take (i := 1) (oi := ⟨some 60, _, _, _, _, _⟩) (v := ?_) rfl (by kernel_rfl) (by kernel_rfl) (by kernel_rfl) (fun _ _ _ h => h) (Or.inl ⟨by rfl, by intro w hSw; (try dsimp only at hSw); go_simp; try with_reducible rfl⟩) hHeld ?_
              try simp only [Act.put, List.setIfInBounds_toArray, List.set_cons_zero, List.set_cons_succ]
              refine wpAnyH_take (i := 2) (oi := ⟨some 61, _, _, _, _, _⟩) (v := ?_) rfl (by kernel_rfl) (by kernel_rfl) (by kernel_rfl) (fun _ _ _ h => h) (Or.inl ⟨by rfl, by intro w hSw; (try dsimp only at hSw); go_simp; try with_reducible rfl⟩) hHeld ?_
              try simp only [Act.put, List.setIfInBounds_toArray, List.set_cons_zero, List.set_cons_succ]
              refine wpAnyH_take (i := 3) (oi := ⟨some 62, _, _, _, _, _⟩) (v := ?_) rfl (by kernel_rfl) (by kernel_rfl) (by kernel_rfl) (fun _ _ _ h => h) (Or.inl ⟨by rfl, by intro w hSw; (try dsimp only at hSw); go_simp; try with_reducible rfl⟩) hHeld ?_
              try simp only [Act.put, List.setIfInBounds_toArray, List.set_cons_zero, List.set_cons_succ]
              refine wpAnyH_take (i := 4) (oi := ⟨some 63, _, _, _, _, _⟩) (v := ?_) rfl (by kernel_rfl) (by kernel_rfl) (by kernel_rfl) (fun _ _ _ h => h) (Or.inl ⟨by rfl, by intro w hSw; (try dsimp only at hSw); go_simp; try with_reducible rfl⟩) hHeld ?_
              try simp only [Act.put, List.setIfInBounds_toArray, List.set_cons_zero, List.set_cons_succ]
              refine wpAnyH_take (i := 5) (oi := ⟨some 64, _, _, _, _, _⟩) (v := ?_) rfl (by kernel_rfl) (by kernel_rfl) (by kernel_rfl) (fun _ _ _ h => h) (Or.inl ⟨by rfl, by intro w hSw; (try dsimp only at hSw); go_simp; try with_reducible rfl⟩) hHeld ?_
              try simp only [Act.put, List.setIfInBounds_toArray, List.set_cons_zero, List.set_cons_succ]
              refine wpAnyH_take (i := 6) (oi := ⟨some 65, _, _, _, _, _⟩) (v := ?_) rfl (by kernel_rfl) (by kernel_rfl) (by kernel_rfl) (fun _ _ _ h => h) (Or.inl ⟨by rfl, by intro w hSw; (try dsimp only at hSw); go_simp; try with_reducible rfl⟩) hHeld ?_
              try simp only [Act.put, List.setIfInBounds_toArray, List.set_cons_zero, List.set_cons_succ]
              refine wpAnyH_take (i := 7) (oi := ⟨some 66, _, _, _, _, _⟩) (v := ?_) rfl (by kernel_rfl) (by kernel_rfl) (by kernel_rfl) (fun _ _ _ h => h) (Or.inl ⟨by rfl, by intro w hSw; (try dsimp only at hSw); go_simp; try with_reducible rfl⟩) hHeld ?_
              try simp only [Act.put, List.setIfInBounds_toArray, List.set_cons_zero, List.set_cons_succ]
              refine wpAnyH_take (i := 8) (oi := ⟨some 67, _, _, _, _, _⟩) (v := ?_) rfl (by kernel_rfl) (by kernel_rfl) (by kernel_rfl) (fun _ _ _ h => h) (Or.inl ⟨by rfl, by intro w hSw; (try dsimp only at hSw); go_simp; try with_reducible rfl⟩) hHeld ?_
              try simp only [Act.put, List.setIfInBounds_toArray, List.set_cons_zero, List.set_cons_succ]
              rw [HU.out]
              refine wpAnyH_take (i := 9) (oi := ⟨some 68, _, _, _, _, _⟩) (v := ?_) rfl (by kernel_rfl) (by kernel_rfl) (by kernel_rfl) (fun _ _ _ h => h) (Or.inl ⟨by rfl, by intro w hSw; (try dsimp only at hSw); go_simp; try with_reducible rfl⟩) hHeld ?_
              try simp only [Act.put, List.setIfInBounds_toArray, List.set_cons_zero, List.set_cons_succ]
              refine wpAnyH_done (by kernel_rfl) ?_ _
              go_wp2
              go_ret2
              rw [HOF.out, HRn.out]
              exact ⟨below_drew (below_drew HB7.out), rfl⟩
            · have hl := decide_eq_false hlow
              have HRn := Off.mk (Hon.out (by omega))
              have hxy2 := Off.mk (HU1.out (by omega))
              clear hlow Hlow Hon
              refine wp_region_held_drew (S := (fun w' => w'.cell? ⟨r1, a, none⟩ = some (.int .i64 (x - 1)) ∧ w'.cell? ⟨r1, b, none⟩ = some (.int .i64 (y - 1)))) (by kernel_rfl) ⟨ca, cb⟩ (fun hHeld => ?_)
              refine wpAnyH_take (i := 0) (oi := ⟨some 59, _, _, _, _, _⟩) (v := ?_) rfl (by kernel_rfl) (by kernel_rfl) (by kernel_rfl) (fun _ _ _ h => h) (Or.inl ⟨by rfl, by intro w hSw; (try dsimp only at hSw); go_simp; try with_reducible rfl⟩) hHeld ?_
              try simp only [Act.put, List.setIfInBounds_toArray, List.set_cons_zero, List.set_cons_succ]
              refine wpAnyH_take (i := 1) (oi := ⟨some 60, _, _, _, _, _⟩) (v := ?_) rfl (by kernel_rfl) (by kernel_rfl) (by kernel_rfl) (fun _ _ _ h => h) (Or.inl ⟨by rfl, by intro w hSw; (try dsimp only at hSw); go_simp; try with_reducible rfl⟩) hHeld ?_
              try simp only [Act.put, List.setIfInBounds_toArray, List.set_cons_zero, List.set_cons_succ]
              refine wpAnyH_take (i := 2) (oi := ⟨some 61, _, _, _, _, _⟩) (v := ?_) rfl (by kernel_rfl) (by kernel_rfl) (by kernel_rfl) (fun _ _ _ h => h) (Or.inl ⟨by rfl, by intro w hSw; (try dsimp only at hSw); go_simp; try with_reducible rfl⟩) hHeld ?_
              try simp only [Act.put, List.setIfInBounds_toArray, List.set_cons_zero, List.set_cons_succ]
              refine wpAnyH_take (i := 3) (oi := ⟨some 62, _, _, _, _, _⟩) (v := ?_) rfl (by kernel_rfl) (by kernel_rfl) (by kernel_rfl) (fun _ _ _ h => h) (Or.inl ⟨by rfl, by intro w hSw; (try dsimp only at hSw); go_simp; try with_reducible rfl⟩) hHeld ?_
              try simp only [Act.put, List.setIfInBounds_toArray, List.set_cons_zero, List.set_cons_succ]
              refine wpAnyH_take (i := 4) (oi := ⟨some 63, _, _, _, _, _⟩) (v := ?_) rfl (by kernel_rfl) (by kernel_rfl) (by kernel_rfl) (fun _ _ _ h => h) (Or.inl ⟨by rfl, by intro w hSw; (try dsimp only at hSw); go_simp; try with_reducible rfl⟩) hHeld ?_
              try simp only [Act.put, List.setIfInBounds_toArray, List.set_cons_zero, List.set_cons_succ]
              refine wpAnyH_take (i := 5) (oi := ⟨some 64, _, _, _, _, _⟩) (v := ?_) rfl (by kernel_rfl) (by kernel_rfl) (by kernel_rfl) (fun _ _ _ h => h) (Or.inl ⟨by rfl, by intro w hSw; (try dsimp only at hSw); go_simp; try with_reducible rfl⟩) hHeld ?_
              try simp only [Act.put, List.setIfInBounds_toArray, List.set_cons_zero, List.set_cons_succ]
              refine wpAnyH_take (i := 6) (oi := ⟨some 65, _, _, _, _, _⟩) (v := ?_) rfl (by kernel_rfl) (by kernel_rfl) (by kernel_rfl) (fun _ _ _ h => h) (Or.inl ⟨by rfl, by intro w hSw; (try dsimp only at hSw); go_simp; try with_reducible rfl⟩) hHeld ?_
              try simp only [Act.put, List.setIfInBounds_toArray, List.set_cons_zero, List.set_cons_succ]
              refine wpAnyH_take (i := 7) (oi := ⟨some 66, _, _, _, _, _⟩) (v := ?_) rfl (by kernel_rfl) (by kernel_rfl) (by kernel_rfl) (fun _ _ _ h => h) (Or.inl ⟨by rfl, by intro w hSw; (try dsimp only at hSw); go_simp; try with_reducible rfl⟩) hHeld ?_
              try simp only [Act.put, List.setIfInBounds_toArray, List.set_cons_zero, List.set_cons_succ]
              refine wpAnyH_take (i := 8) (oi := ⟨some 67, _, _, _, _, _⟩) (v := ?_) rfl (by kernel_rfl) (by kernel_rfl) (by kernel_rfl) (fun _ _ _ h => h) (Or.inl ⟨by rfl, by intro w hSw; (try dsimp only at hSw); go_simp; try with_reducible rfl⟩) hHeld ?_
              try simp only [Act.put, List.setIfInBounds_toArray, List.set_cons_zero, List.set_cons_succ]
              rw [HU.out]
              refine wpAnyH_take (i := 9) (oi := ⟨some 68, _, _, _, _, _⟩) (v := ?_) rfl (by kernel_rfl) (by kernel_rfl) (by kernel_rfl) (fun _ _ _ h => h) (Or.inl ⟨by rfl, by intro w hSw; (try dsimp only at hSw); go_simp; try with_reducible rfl⟩) hHeld ?_
              try simp only [Act.put, List.setIfInBounds_toArray, List.set_cons_zero, List.set_cons_succ]
              refine wpAnyH_done (by kernel_rfl) ?_ _
              go_wp2
              obtain ⟨w8, hw8⟩ : ∃ w8, w8 = w7.drew.drew := ⟨_, rfl⟩
              have HI8 : Off (IRow w8 w.heap.size r1 m c1 (cutAt now k)) := ⟨by rw [hw8]; exact irow_drew (irow_drew HI7.out)⟩
              have HJ8 : Off (IRow w8 w.heap.size r2 m c2 names) := ⟨by rw [hw8]; exact irow_drew (irow_drew HJ7.out)⟩
              have HQ8 : Off (OwnQ w8 w3.heap.size u7 os) := ⟨by rw [hw8]; exact ownQ_drew (ownQ_drew HQ7.out)⟩
              have HB8 : Off (Below w.heap.size w w8) := ⟨by rw [hw8]; exact below_drew (below_drew HB7.out)⟩
              have HSz8 : Off (w3.heap.size ≤ w8.heap.size) := ⟨by rw [hw8]; exact HSz7.out⟩
              have da : w8.cell? ⟨r2, a, none⟩ = some (.int .i64 p) := by rw [hw8]; exact da
              have db : w8.cell? ⟨r2, b, none⟩ = some (.int .i64 q) := by rw [hw8]; exact db
              rw [← hw8]
              clear hw8 HI7 HJ7 HQ7 HB7 HSz7 ca cb
              have hol : os.length ≤ 1000 := by have := HLen.out; omega
              have hbA : Below w8.drew.heap.size w8.drew (w8.drew.alloc (.cells #[.int .i64 p1, .int .i64 p2] 36)) := (Below.refl _ _).alloc (Nat.le_refl _) _
              refine wp_region_held_drew (S := (fun w' => w'.cell? ⟨r2, a, none⟩ = some (.int .i64 p) ∧ w'.cell? ⟨r2, b, none⟩ = some (.int .i64 q))) (by kernel_rfl) ⟨da, db⟩ (fun hHeld => ?_)
              refine wpAnyH_take (i := 0) (oi := ⟨some 69, _, _, _, _, _⟩) (v := ?_) rfl (by kernel_rfl) (by kernel_rfl) (by kernel_rfl) (fun _ _ _ h => h) (Or.inl ⟨by rfl, by intro w hSw; (try dsimp only at hSw); go_simp; try with_reducible rfl⟩) hHeld ?_
              try simp only [Act.put, List.setIfInBounds_toArray, List.set_cons_zero, List.set_cons_succ]
              refine wpAnyH_take (i := 1) (oi := ⟨some 70, _, _, _, _, _⟩) (v := ?_) rfl (by kernel_rfl) (by kernel_rfl) (by kernel_rfl) (fun _ _ _ h => h) (Or.inl ⟨by rfl, by intro w hSw; (try dsimp only at hSw); go_simp; try with_reducible rfl⟩) hHeld ?_
              try simp only [Act.put, List.setIfInBounds_toArray, List.set_cons_zero, List.set_cons_succ]
              refine wpAnyH_take (i := 2) (oi := ⟨some 71, _, _, _, _, _⟩) (v := ?_) rfl (by kernel_rfl) (by kernel_rfl) (by kernel_rfl) (fun _ _ _ h => h) (Or.inl ⟨by rfl, by intro w hSw; (try dsimp only at hSw); go_simp; try with_reducible rfl⟩) hHeld ?_
              try simp only [Act.put, List.setIfInBounds_toArray, List.set_cons_zero, List.set_cons_succ]
              refine wpAnyH_take (i := 3) (oi := ⟨some 72, _, _, _, _, _⟩) (v := ?_) rfl (by kernel_rfl) (by kernel_rfl) (by kernel_rfl) (fun _ _ _ h => h) (Or.inl ⟨by rfl, by intro w hSw; (try dsimp only at hSw); go_simp; try with_reducible rfl⟩) hHeld ?_
              try simp only [Act.put, List.setIfInBounds_toArray, List.set_cons_zero, List.set_cons_succ]
              refine wpAnyH_take (i := 4) (oi := ⟨some 73, _, _, _, _, _⟩) (v := ?_) rfl (by kernel_rfl) (by kernel_rfl) (by kernel_rfl) (fun _ _ _ h => h) (Or.inl ⟨by rfl, by intro w hSw; (try dsimp only at hSw); go_simp; try with_reducible rfl⟩) hHeld ?_
              try simp only [Act.put, List.setIfInBounds_toArray, List.set_cons_zero, List.set_cons_succ]
              refine wpAnyH_take (i := 5) (oi := ⟨some 74, _, _, _, _, _⟩) (v := ?_) rfl (by kernel_rfl) (by kernel_rfl) (by kernel_rfl) (fun _ _ _ h => h) (Or.inl ⟨by rfl, by intro w hSw; (try dsimp only at hSw); go_simp; try with_reducible rfl⟩) hHeld ?_
              try simp only [Act.put, List.setIfInBounds_toArray, List.set_cons_zero, List.set_cons_succ]
              refine wpAnyH_take (i := 6) (oi := ⟨some 75, _, _, _, _, _⟩) (v := ?_) rfl (by kernel_rfl) (by kernel_rfl) (by kernel_rfl) (fun _ _ _ h => h) (Or.inl ⟨by rfl, by intro w hSw; (try dsimp only at hSw); go_simp; try with_reducible rfl⟩) hHeld ?_
              try simp only [Act.put, List.setIfInBounds_toArray, List.set_cons_zero, List.set_cons_succ]
              refine wpAnyH_take (i := 7) (oi := ⟨some 76, _, _, _, _, _⟩) (v := ?_) rfl (by kernel_rfl) (by kernel_rfl) (by kernel_rfl) (fun _ _ _ h => h) (Or.inl ⟨by rfl, by intro w hSw; (try dsimp only at hSw); go_simp; try with_reducible rfl⟩) hHeld ?_
              try simp only [Act.put, List.setIfInBounds_toArray, List.set_cons_zero, List.set_cons_succ]
              refine wpAnyH_take (i := 8) (oi := ⟨some 77, _, _, _, _, _⟩) (v := ?_) rfl (by kernel_rfl) (by kernel_rfl) (by kernel_rfl) (fun _ _ _ h => h) (Or.inl ⟨by rfl, by intro w hSw; (try dsimp only at hSw); go_simp; try with_reducible rfl⟩) hHeld ?_
              try simp only [Act.put, List.setIfInBounds_toArray, List.set_cons_zero, List.set_cons_succ]
              refine wpAnyH_take (i := 9) (oi := ⟨some 78, _, _, _, _, _⟩) (v := ?_) rfl (by kernel_rfl) (by kernel_rfl) (by kernel_rfl) (fun _ _ _ h => h) (Or.inl ⟨by rfl, by intro w hSw; (try dsimp only at hSw); go_simp; try with_reducible rfl⟩) hHeld ?_
              try simp only [Act.put, List.setIfInBounds_toArray, List.set_cons_zero, List.set_cons_succ]
              rw [HP1.out]
              refine wpAnyH_take (i := 10) (oi := ⟨some 79, _, _, _, _, _⟩) (v := ?_) rfl (by kernel_rfl) (by kernel_rfl) (by kernel_rfl) (fun _ _ _ h => h) (Or.inl ⟨by rfl, by intro w hSw; (try dsimp only at hSw); go_simp; try with_reducible rfl⟩) hHeld ?_
              try simp only [Act.put, List.setIfInBounds_toArray, List.set_cons_zero, List.set_cons_succ]
              refine wpAnyH_take (i := 11) (oi := ⟨some 80, _, _, _, _, _⟩) (v := ?_) rfl (by kernel_rfl) (by kernel_rfl) (by kernel_rfl) (fun _ _ _ h => h) (Or.inl ⟨by rfl, by intro w hSw; (try dsimp only at hSw); go_simp; try with_reducible rfl⟩) hHeld ?_
              try simp only [Act.put, List.setIfInBounds_toArray, List.set_cons_zero, List.set_cons_succ]
              refine wpAnyH_take (i := 12) (oi := ⟨some 81, _, _, _, _, _⟩) (v := ?_) rfl (by kernel_rfl) (by kernel_rfl) (by kernel_rfl) (fun _ _ _ h => h) (Or.inl ⟨by rfl, by intro w hSw; (try dsimp only at hSw); go_simp; try with_reducible rfl⟩) hHeld ?_
              try simp only [Act.put, List.setIfInBounds_toArray, List.set_cons_zero, List.set_cons_succ]
              refine wpAnyH_take (i := 13) (oi := ⟨some 82, _, _, _, _, _⟩) (v := ?_) rfl (by kernel_rfl) (by kernel_rfl) (by kernel_rfl) (fun _ _ _ h => h) (Or.inl ⟨by rfl, by intro w hSw; (try dsimp only at hSw); go_simp; try with_reducible rfl⟩) hHeld ?_
              try simp only [Act.put, List.setIfInBounds_toArray, List.set_cons_zero, List.set_cons_succ]
              refine wpAnyH_take (i := 14) (oi := ⟨some 83, _, _, _, _, _⟩) (v := ?_) rfl (by kernel_rfl) (by kernel_rfl) (by kernel_rfl) (fun _ _ _ h => h) (Or.inl ⟨by rfl, by intro w hSw; (try dsimp only at hSw); go_simp; try with_reducible rfl⟩) hHeld ?_
              try simp only [Act.put, List.setIfInBounds_toArray, List.set_cons_zero, List.set_cons_succ]
              refine wpAnyH_take (i := 15) (oi := ⟨some 84, _, _, _, _, _⟩) (v := ?_) rfl (by kernel_rfl) (by kernel_rfl) (by kernel_rfl) (fun _ _ _ h => h) (Or.inl ⟨by rfl, by intro w hSw; (try dsimp only at hSw); go_simp; try with_reducible rfl⟩) hHeld ?_
              try simp only [Act.put, List.setIfInBounds_toArray, List.set_cons_zero, List.set_cons_succ]
              refine wpAnyH_take (i := 16) (oi := ⟨some 85, _, _, _, _, _⟩) (v := ?_) rfl (by kernel_rfl) (by kernel_rfl) (by kernel_rfl) (fun _ _ _ h => h) (Or.inl ⟨by rfl, by intro w hSw; (try dsimp only at hSw); go_simp; try with_reducible rfl⟩) hHeld ?_
              try simp only [Act.put, List.setIfInBounds_toArray, List.set_cons_zero, List.set_cons_succ]
              refine wpAnyH_take (i := 17) (oi := ⟨some 86, _, _, _, _, _⟩) (v := ?_) rfl (by kernel_rfl) (by kernel_rfl) (by kernel_rfl) (fun _ _ _ h => h) (Or.inl ⟨by rfl, by intro w hSw; (try dsimp only at hSw); go_simp; try with_reducible rfl⟩) hHeld ?_
              try simp only [Act.put, List.setIfInBounds_toArray, List.set_cons_zero, List.set_cons_succ]
              refine wpAnyH_take (i := 18) (oi := ⟨some 87, _, _, _, _, _⟩) (v := ?_) rfl (by kernel_rfl) (by kernel_rfl) (by kernel_rfl) (fun _ _ _ h => h) (Or.inl ⟨by rfl, by intro w hSw; (try dsimp only at hSw); go_simp; try with_reducible rfl⟩) hHeld ?_
              try simp only [Act.put, List.setIfInBounds_toArray, List.set_cons_zero, List.set_cons_succ]
              rw [HP2.out]
              refine wpAnyH_take (i := 19) (oi := ⟨some 88, _, _, _, _, _⟩) (v := ?_) rfl (by kernel_rfl) (by kernel_rfl) (by kernel_rfl) (fun _ _ _ h => h) (Or.inl ⟨by rfl, by intro w hSw; (try dsimp only at hSw); go_simp; try with_reducible rfl⟩) hHeld ?_
              try simp only [Act.put, List.setIfInBounds_toArray, List.set_cons_zero, List.set_cons_succ]
              refine wpAnyH_ready (rs := [20]) (by kernel_rfl) (by simp) ?_
              refine AllReadyH.cons (o := ⟨some 89, _, _, _, _, _⟩) rfl (fun K hK => ?_) AllReadyH.nil
              go_simp
              refine hK.out _ _ ⟨cellB hbA hHeld.1, cellB hbA hHeld.2⟩ (fun hHeld => ?_)
              clear hK K
              try simp only [Act.put, List.setIfInBounds_toArray, List.set_cons_zero, List.set_cons_succ]
              refine wpAnyH_ready (rs := [21]) (by kernel_rfl) (by simp) ?_
              refine AllReadyH.cons (o := ⟨some 90, _, _, _, _, _⟩) rfl (fun K hK => ?_) AllReadyH.nil
              refine step_pair rfl _ _ rfl w3.heap.size _ os p1 p2 (ownQ_drew HQ8.out) HSz8.out hol rfl rfl ?_
              intro v9 w9 hO9 hb9
              have HO9 := Off.mk hO9
              have HB9 := Off.mk hb9
              clear hO9 hb9
              refine hK.out _ _ ⟨(HB9.out.cell (p := ⟨r2, a, none⟩) Hr2.out).trans da, (HB9.out.cell (p := ⟨r2, b, none⟩) Hr2.out).trans db⟩ (fun hHeld => ?_)
              clear hK K
              try simp only [Act.put, List.setIfInBounds_toArray, List.set_cons_zero, List.set_cons_succ]
              refine wpAnyH_take (i := 22) (oi := ⟨some 7, _, _, _, _, _⟩) (v := ?_) rfl (by kernel_rfl) (by kernel_rfl) (by kernel_rfl) (fun _ _ _ h => h) (Or.inl ⟨by rfl, by intro w hSw; (try dsimp only at hSw); go_simp; try with_reducible rfl⟩) hHeld ?_
              try simp only [Act.put, List.setIfInBounds_toArray, List.set_cons_zero, List.set_cons_succ]
              refine wpAnyH_done (by kernel_rfl) ?_ _
              have HI9 := Off.mk (irow_below (irow_drew HI8.out) HB9.out Hr1'.out)
              have HJ9 := Off.mk (irow_below (irow_drew HJ8.out) HB9.out Hr2.out)
              have HBB9 : Off (Below w.heap.size w w9) := ⟨(below_drew HB8.out).trans (HB9.out.mono (Nat.le_trans HB2.out.size HSz0.out))⟩
              have HSz9 : Off (w3.heap.size ≤ w9.heap.size) := ⟨Nat.le_trans HSz8.out HB9.out.size⟩
              have CD1 := Off.mk (delI_any w.heap.size r1 m c1 k (cutAt now k) w9 HI9.out hkm (by omega) hmc1)
              clear da db HI8 HJ8 HQ8 HB8 HSz8 HB9 hHeld hbA hl
              go_wp2_with fail
              refine CD1.out.mono ?_
              rintro e w10 ⟨rfl, hI10, hK10⟩
              have HI10 := Off.mk hI10
              have HJ10 := Off.mk (irow_keeps HJ9.out hK10 (Ne.symm HR12.out))
              have HO10 := Off.mk (ownQ_keeps2 HO9.out hK10 (fun e => by have := ownQ_base HO9.out e; have := Hr1'.out; omega))
              have HB10 : Off (Below w.heap.size w w10) := ⟨Keeps.below HBB9.out hK10 HBB9.out.size (own_base HI9.out.toOwn rfl)⟩
              have HSz10 : Off (w3.heap.size ≤ w10.heap.size) := ⟨Nat.le_trans HSz9.out hK10.out.size⟩
              have CD2 := Off.mk (delI_any w.heap.size r2 m c2 k names w10 HJ10.out hkm (by omega) hmc2)
              clear hI10 hK10 HI9 HJ9 HO9 HBB9 HSz9 CD1
              go_wp2_with fail
              refine CD2.out.mono ?_
              rintro e w11 ⟨rfl, hJ11, hK11⟩
              have HJ11 := Off.mk hJ11
              have HI11 := Off.mk (irow_keeps HI10.out hK11 HR12.out)
              have HO11 := Off.mk (ownQ_keeps2 HO10.out hK11 (fun e => by have := ownQ_base HO10.out e; have := Hr2.out; omega))
              have HB11 : Off (Below w.heap.size w w11) := ⟨Keeps.below HB10.out hK11 HB10.out.size (own_base HJ10.out.toOwn rfl)⟩
              have HSz11 : Off (w3.heap.size ≤ w11.heap.size) := ⟨Nat.le_trans HSz10.out hK11.out.size⟩
              have HR11 : Off (R = ofRun (m - 1) ((cutAt now k).eraseIdx k) (names.eraseIdx k) (os ++ [(p1, p2)])) := ⟨by rw [HRn.out, HLn.out]⟩
              have HG11 : Off (∀ j, j < m - 1 → 1 ≤ ((cutAt now k).eraseIdx k).getD j 0 ∧ ((cutAt now k).eraseIdx k).getD j 0 ≤ 12) := ⟨fun j hj => by
                have key : ∀ i, i < m → 1 ≤ (cutAt now k).getD i 0 ∧ (cutAt now k).getD i 0 ≤ 12 := fun i hi => by
                  have h2 := hxy2.out
                  by_cases e1 : i = a
                  · rw [e1, HGa.out]; omega
                  · by_cases e2 : i = b
                    · rw [e2, HGb.out]; omega
                    · rw [HGo.out i e1 e2]; exact HG.out i hi
                rw [getD_erase]
                split
                · exact key j (by omega)
                · exact key (j + 1) (by omega)⟩
              have HH11 : Off (∀ j, j < m - 1 → 0 ≤ (names.eraseIdx k).getD j 0 ∧ (names.eraseIdx k).getD j 0 < 12) := ⟨fun j hj => by
                rw [getD_erase]
                split
                · exact HH.out j (by omega)
                · exact HH.out (j + 1) (by omega)⟩
              have HL11 : Off ((os ++ [(p1, p2)]).length + (m - 1) = i) := ⟨by rw [List.length_append]; have := HLen.out; simp; omega⟩
              have HIn11 : Off (∀ x, x ∈ os ++ [(p1, p2)] → inR x) := ⟨fun z hz => by
                rcases List.mem_append.1 hz with h | h
                · exact HIn.out z h
                · rw [List.mem_singleton] at h
                  subst h
                  exact HP12.out⟩
              clear hJ11 hK11 HI10 HJ10 HO10 HB10 HSz10 CD2
              go_wp2
              go_roundw
              case rel => exact ⟨m - 1, _, _, _, by omega, by omega, rfl, rfl, HR11, HI11, HJ11, HO11, HG11, HH11, HL11, HIn11, HB11, HSz11⟩
              case measure => simp; omega
          · have HX : Off (indexI 1 now = -1) := ⟨by rw [indexI, Hl1.out, if_neg hidx]⟩
            rw [HX.out] at CX
            have HRn : Off (R = none) := ⟨by rw [HR.out, hf]; exact ofRun_none (by rw [Hl1.out]; omega) (by rw [Hl1.out]; exact hidx)⟩
            clear hf hidx HX HR
            go_wp2_with fail
            refine CX.out.mono ?_
            rintro e w6 ⟨rfl, hw⟩
            subst w6
            go_wp2
            go_ret2
            rw [HOF.out, HRn.out]
            exact ⟨HB.out, rfl⟩
        · obtain rfl : m = 3 := by omega
          have HIA : Off (IntsAt wr (some ⟨r1, 0, none⟩) now) := ⟨⟨by rw [Hl1.out]; omega, fun j hj => ⟨_, rfl, by
            rw [Addr.add_lit, Nat.zero_add]
            exact HJ1.out.cell (by rw [Hl1.out] at hj; exact hj)⟩⟩⟩
          have CX : Off (Calls Try.prog 68 #[.slice (some ⟨r1, 0, none⟩) 3 c1] wr fun e w' => e = .returned (.int .i64 (maxTo now 2)) ∧ w' = wr) := ⟨by
            have := max_any now (some ⟨r1, 0, none⟩) c1 2 wr HIA.out Hl1.out
            rw [Hl1.out] at this
            exact this⟩
          have HRn : Off (R = if maxTo now 2 = 1 then some os else none) := ⟨by rw [HR.out, ofRun, if_neg (by rw [Hl1.out]; omega), Hl1.out]⟩
          obtain ⟨x, hx⟩ : ∃ x, x = maxTo now 2 := ⟨_, rfl⟩
          rw [← hx] at CX HRn
          clear hx HR
          by_cases hx1 : x = 1
          · subst hx1
            have HRs : Off (R = some os) := ⟨by rw [HRn.out, if_pos rfl]⟩
            have HO' := Off.mk (ownQ_mono HQ.out (Nat.le_trans HB2.out.size HSz0.out))
            have CS := Off.mk (sorted_all w.heap.size u7 os wr HO'.out HIn.out (by have := HLen.out; omega))
            have Hle : Off (w.heap.size ≤ wr.heap.size) := ⟨HB.out.size⟩
            go_wp2_with (first
              | (go_at_call 68; refine CX.out.mono ?_; rintro e w6 ⟨rfl, hw⟩; subst w6)
              | (go_at_call 56; refine CS.out.mono ?_; rintro e w7 ⟨rfl, hO7, hb7⟩))
            go_ret2
            rw [HOF.out, HRs.out]
            exact ⟨HB.out.trans (hb7 Hle.out), _, rfl, hO7⟩
          · have hb : (x != 1) = true := by rw [bne_iff_ne]; exact hx1
            have HRs : Off (R = none) := ⟨by rw [HRn.out, if_neg hx1]⟩
            clear hx1
            go_wp2_with (go_at_call 68; refine CX.out.mono ?_; rintro e w6 ⟨rfl, hw⟩; subst w6)
            go_ret2
            rw [HOF.out, HRs.out]
            exact ⟨HB.out, rfl⟩
end Go.Proofs.Ytddcdopimpfhcaa
