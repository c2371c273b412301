/- Contracts: the specification's Of. -/
import Derived.Test.YtddcdopimpfhcaaCn
namespace Go.Proofs.Ytddcdopimpfhcaa
open Go.RowKit Go.Shelf

theorem put_sort {os : List (Int × Int)} {x : Int × Int} (hR : ∀ y, y ∈ os → inR y) (hx : inR x) : rputL (sortL os) x = sortL (os ++ [x]) := by
  have h1 : ∀ y, y ∈ sortL os → inR y := fun y hy => hR y ((sortL_perm os).mem_iff.1 hy)
  refine srt_eq (rputL_srt (sortL_srt _) h1 hx) (sortL_srt _) ((rputL_perm _ _).trans (((sortL_perm os).append_right [x]).trans (sortL_perm _).symm)) fun y hy => ?_
  have := (rputL_perm _ _).mem_iff.1 hy
  rcases List.mem_append.1 this with e | e
  · exact h1 y e
  · rw [List.mem_singleton] at e; rw [e]; exact hx
theorem sortL_len' (os : List (Int × Int)) : (sortL os).length = os.length := (sortL_perm os).length_eq
/-- A number more in a list of numbers, and where the list lies then. -/
theorem wpList_intAt {w : World} {ops : Array Oper} {rest : List Oper} {o : Oper} {a : Act} {Q : Exit → Act → World → Prop} (hgd : o.guard = none) (s x : Operand)
    (ho : o.op = .call { callee := .builtin .append, args := #[s, x], argTypes := #[45, 45] }) (base : Nat) (v : Value) (xs : List Int) (i : Int) (hO : Own w base v xs) (hb : base ≤ w.heap.size) (h100 : xs.length ≤ 3000)
    (hs : a.eval s = v) (hx : a.eval x = .slice (some ⟨w.heap.size, 0, none⟩) 1 1)
    (h : ∀ v' w', Own w' base v' (xs ++ [i]) → w.grownBy w' v.ownBlock → (v'.ownBlock = v.ownBlock ∨ ∃ k, v'.ownBlock = some k ∧ w.heap.size ≤ k) → wpList Try.prog ops Q rest (a.put o.dst v') w') :
    wpList Try.prog ops Q (o :: rest) a (w.alloc (.cells #[.int .i64 i] 3)) := by
  refine wpList_plain hgd fun K hK => ?_
  have := step_intAt (ops := ops) (K := K) (Q := Q) (E := False) (a := a) (o := o) hgd s x ho base v xs i hO hb h100 hs hx (fun v' w' h1 h2 h3 => hK _ _ (h v' w' h1 h2 h3))
  have hw : Region.wanted o (yielded ops a.tmps) = true := by simp [Region.wanted, hgd]
  rw [if_pos hw] at this
  exact this
theorem erase_src {r n c k : Nat} {xs : List Int} (hk : k < n) (hl : xs.length = n) : ∃ A : Addr, (if c = k + 1 then some (⟨r, 0, none⟩ : Addr) else some ⟨r, k + 1, none⟩) = some A ∧
    Off (∀ W base, IRow W base r n c xs → n ≤ c → ∀ t u, ((nums xs).drop ((k + 1) * 1))[t]? = some u → W.cell? (A.add t) = some u) := by
  by_cases h1 : c = k + 1
  · refine ⟨⟨r, 0, none⟩, by simp [h1], ⟨fun W base h hc t u hu => ?_⟩⟩
    rw [List.drop_of_length_le (by rw [nums_length]; omega)] at hu
    simp at hu
  · refine ⟨⟨r, k + 1, none⟩, by simp [h1], ⟨fun W base h hc t u hu => ?_⟩⟩
    rw [List.getElem?_drop] at hu
    have hlt := (List.getElem?_eq_some_iff.1 hu).1
    rw [nums_length] at hlt
    have e1 : k + 1 + t = (k + 1) * 1 + t := by omega
    rw [Addr.add_lit, e1, h.own.cellAt ((k + 1) * 1 + t) (by omega)]
    exact hu
/-- 'append(s[:k], s[k+1:]...)' at a step of a region that draws its order. -/
theorem step_erase {w : World} {ops : Array Oper} {o : Oper} {a : Act} {K : Act → World → Prop} {Q : Exit → Act → World → Prop} {E : Prop} (hgd : o.guard = none) (s x : Operand)
    (ho : o.op = .call { callee := .builtin .append, args := #[s, x], argTypes := #[45, 45] }) (base r n c k : Nat) (xs : List Int) (h : IRow w base r n c xs) (hk : k < n) (hc : n ≤ c) (A : Addr)
    (hsrc : ∀ t u, ((nums xs).drop ((k + 1) * 1))[t]? = some u → w.cell? (A.add t) = some u) (hs : a.eval s = .slice (some ⟨r, 0, none⟩) k c) (hx : a.eval x = .slice (some A) (n - (k + 1)) (c - (k + 1)))
    (hK : ∀ w', IRow w' base r (n - 1) c (xs.eraseIdx k) → Keeps r w w' → K (a.put o.dst (.slice (some ⟨r, 0, none⟩) (n - 1) c)) w') :
    if Region.wanted o (yielded ops a.tmps) = true then Oper.wp Try.prog o a w K Q else E := by
  obtain ⟨i0, hi, hz0, hz1, hz2⟩ := info_parts info3
  have hxl := h.len
  refine step_append_fits hgd s x 45 ho base 3 i0 1 Try.underlying45 hi hz1 r k c _ hs (owns_take h.own k (by omega)) A (n - (k + 1)) (c - (k + 1)) ((nums xs).drop ((k + 1) * 1)) hx (by rw [List.length_drop, nums_length]; omega) hsrc
    (fun u hu => nums_one xs u (List.mem_of_mem_drop hu)) (by omega) (fun w' hO hg => ?_)
  rw [nums_erase] at hO
  have e : k + (n - (k + 1)) = n - 1 := by omega
  rw [e] at hO ⊢
  exact hK w' ⟨by rw [List.length_eraseIdx_of_lt (by omega), hxl], hO⟩ ⟨hg⟩
theorem rof_arg (l : List Int) (A : Option Addr) (c : Nat) (hv : roundB l = false) (w : World) (hl : IntsAt w A l) :
    Calls Try.prog 40 #[.slice A l.length c] w fun e w' => e = .returned (.tuple #[.slice none 0 0, .int .i64 2]) ∧ w' = w := by
  have CR := Off.mk (risRound_any l A c false hv w hl)
  clear hv hl
  go_enter Try.func40, Try.ntmps40
  go_wp2_with (go_at_call 35; refine CR.out.mono ?_; rintro e w1 ⟨rfl, hw⟩; subst w1)
  go_ret2
  exact ⟨rfl, rfl⟩
set_option linter.unusedSimpArgs false in
set_option maxHeartbeats 16000000 in
set_option maxRecDepth 100000 in
theorem rof_any (l : List Int) (A : Option Addr) (c : Nat) (hv : roundB l = true) (w : World) (hl : IntsAt w A l) :
    Calls Try.prog 40 #[.slice A l.length c] w fun e w' => FlipPost w (ofL l) e w' := by
  have CR := Off.mk (risRound_any l A c true hv w hl)
  obtain ⟨⟨h3, h12⟩, hrg⟩ := roundB_iff.1 hv
  have HRG := Off.mk hrg
  have HL := Off.mk hl
  have HOF : Off (ofL l = (ofRun l.length l (natsI l.length) []).map sortL) := ⟨rfl⟩
  obtain ⟨N, hN⟩ : ∃ N, N = l.length := ⟨_, rfl⟩
  have HN := Off.mk hN
  rw [← hN] at h3 h12 CR HOF HRG ⊢
  obtain ⟨R, hR⟩ : ∃ R, R = ofRun N l (natsI N) [] := ⟨_, rfl⟩
  rw [← hR] at HOF
  have HR := Off.mk hR
  have HB0 := Off.mk (Below.refl w.heap.size w)
  clear hv hl hN hrg hR
  go_enter Try.func40, Try.ntmps40
  go_wp2_with fail
  refine CR.out.mono ?_
  rintro e w1 ⟨rfl, hw⟩
  subst w1
  clear CR
  go_wp2
  go_loopw [4, 5, 6] (fun v1 v2 iv wr => ∃ i : Nat, i ≤ N ∧ iv = .int .i64 i ∧ Off (Own wr w.heap.size v1 (l.take i)) ∧ Off (Own wr w.heap.size v2 (natsI i)) ∧ Off (∀ k, v1.ownBlock = some k → v2.ownBlock ≠ some k) ∧ Off (Below w.heap.size w wr)) (fun _ _ iv _ => N - (intOf iv).toNat)
  case atStart => exact ⟨0, by omega, rfl, ⟨own_nil _ _⟩, ⟨own_nil _ _⟩, ⟨fun k h => by simp [Value.ownBlock] at h⟩, HB0⟩
  case round =>
    clear HB0
    obtain ⟨i, hi, rfl, HO1, HO2, HAp, HB⟩ := hrel
    obtain ⟨wa, rfl⟩ : ∃ wo : World, wo = wr := ⟨_, rfl⟩
    by_cases hlt : i < N
    · obtain ⟨ad, rfl, c0⟩ := (HL.out.below HB.out).cell i (by rw [← HN.out]; exact hlt)
      have HS := Off.mk (natsI_succ i)
      have HS1 : Off (l.take (i + 1) = l.take i ++ [l.getD i 0]) := ⟨by
        have hil : i < l.length := by rw [← HN.out]; exact hlt
        rw [List.take_succ_eq_append_getElem hil, List.getD_eq_getElem?_getD, List.getElem?_eq_getElem hil]
        rfl⟩
      have hil : (natsI i).length ≤ 3000 := by rw [natsI_len]; omega
      have hil1 : (l.take i).length ≤ 3000 := by rw [List.length_take]; omega
      have Hil := Off.mk (And.intro hil hil1)
      obtain ⟨x, hx⟩ : ∃ x, x = l.getD i 0 := ⟨_, rfl⟩
      rw [← hx] at c0 HS1
      have HSz : Off (w.heap.size ≤ wa.heap.size) := ⟨HB.out.size⟩
      clear hx hil hil1
      go_wp2_with (refine wpList_intAt rfl _ _ rfl w.heap.size _ (l.take i) x HO1.out HSz.out Hil.out.2 rfl rfl ?_)
      intro v4 w4 hO4 hg4 hat4
      rw [← HS1.out] at hO4
      have HO4 := Off.mk hO4
      have HO2' : Off (Own w4 w.heap.size u5 (natsI i)) := ⟨own_kept HO2.out hg4 (by
        cases e : u5.ownBlock with
        | none => exact .inl rfl
        | some k => exact .inr (fun e2 => HAp.out k e2.symm e))⟩
      have HAp' : Off (∀ k, v4.ownBlock = some k → u5.ownBlock ≠ some k) := ⟨fun k hk e => by
        rcases hat4 with e2 | ⟨q, e2, hq⟩
        · rw [e2] at hk; exact HAp.out k hk e
        · rw [hk] at e2; cases e2; have := (HO2.out.out.lt k e).2; omega⟩
      have HB4 : Off (Below w.heap.size w w4) := ⟨HB.out.grown hg4 HSz.out (fun k e => own_base HO1.out e)⟩
      have HSz4 : Off (w.heap.size ≤ w4.heap.size) := ⟨Nat.le_trans HSz.out hg4.size⟩
      clear hO4 hg4 hat4 HO1 HO2 HAp HB HSz c0
      go_wp2_with (refine wpList_intAt rfl _ _ rfl w.heap.size _ (natsI i) (i : Int) HO2'.out HSz4.out Hil.out.1 rfl rfl ?_)
      intro v5 w5 hO5 hg5 hat5
      rw [← HS.out] at hO5
      have HO5 := Off.mk hO5
      have HO4' : Off (Own w5 w.heap.size v4 (l.take (i + 1))) := ⟨own_kept HO4.out hg5 (by
        cases e : v4.ownBlock with
        | none => exact .inl rfl
        | some k => exact .inr (fun e2 => HAp'.out k e e2.symm))⟩
      have HAp5 : Off (∀ k, v4.ownBlock = some k → v5.ownBlock ≠ some k) := ⟨fun k hk e => by
        rcases hat5 with e2 | ⟨q, e2, hq⟩
        · rw [e2] at e; exact HAp'.out k hk e
        · rw [e] at e2; cases e2; have := (HO4.out.out.lt k hk).2; omega⟩
      have HB5 : Off (Below w.heap.size w w5) := ⟨HB4.out.grown hg5 HSz4.out (fun k e => own_base HO2'.out e)⟩
      clear hO5 hg5 hat5 HO4 HO2' HAp' HB4 HSz4
      go_wp2
      go_roundw
      case rel => exact ⟨i + 1, by omega, by go_num, HO4', HO5, HAp5, HB5⟩
      case measure => simp only [intOf]; omega
    · obtain rfl : i = N := by omega
      have HT : Off (l.take i = l) := ⟨List.take_of_length_le (by rw [← HN.out]; exact Nat.le_refl _)⟩
      rw [HT.out] at HO1
      obtain ⟨r1, c1, e4, hbr1, hI2, hnc1⟩ := own_row HO1.out (by rw [← HN.out]; omega)
      subst e4
      rw [← HN.out] at hI2 hnc1 ⊢
      obtain ⟨r2, c2, e5, hbr2, hI5, hnc2⟩ := own_row HO2.out (by rw [natsI_len]; omega)
      subst e5
      rw [natsI_len] at hI5 hnc2 ⊢
      have h12' : r1 ≠ r2 := fun e => HAp.out r1 rfl (by rw [e]; rfl)
      have HJ1 := Off.mk hI2
      have HJ2 := Off.mk hI5
      have Hr1' := Off.mk hI2.lt
      have Hr2 := Off.mk hI5.lt
      have Hnc1 := Off.mk hnc1
      have HBw := HB
      obtain ⟨w3, hw3⟩ : ∃ wo : World, wo = wa := ⟨_, rfl⟩
      have HSz3 : Off (w3.heap.size ≤ wa.heap.size ∧ w.heap.size ≤ w3.heap.size) := ⟨by rw [hw3]; exact ⟨Nat.le_refl _, HB.out.size⟩⟩
      rw [← hw3] at Hr1' Hr2
      clear hw3
      have HNR : Off (∀ j, j < i → 0 ≤ (natsI i).getD j 0 ∧ (natsI i).getD j 0 < 12) := ⟨fun j hj => by rw [natsI_get i j hj]; omega⟩
      clear HO1 HO2 HAp HT HB hI5 hI2 hbr1 hbr2
      go_wp2
      go_loopw [4, 5, 7] (fun lv nv ov wr => ∃ (m : Nat) (now names : List Int) (os : List (Int × Int)), 3 ≤ m ∧ m ≤ i ∧ lv = .slice (some ⟨r1, 0, none⟩) m c1 ∧ nv = .slice (some ⟨r2, 0, none⟩) m c2 ∧ Off (R = ofRun m now names os) ∧ Off (IRow wr w.heap.size r1 m c1 now) ∧ Off (IRow wr w.heap.size r2 m c2 names) ∧ Off (OwnQ wr w3.heap.size ov (sortL os)) ∧ Off (∀ j, j < m → 1 ≤ now.getD j 0 ∧ now.getD j 0 ≤ 12) ∧ Off (∀ j, j < m → 0 ≤ names.getD j 0 ∧ names.getD j 0 < 12) ∧ Off (os.length + m = i) ∧ Off (∀ x, x ∈ os → inR x) ∧ Off (Below w.heap.size w wr) ∧ Off (w3.heap.size ≤ wr.heap.size))
        (fun lv _ _ _ => match lv with | .slice _ m _ => m | _ => 0)
      case atStart => exact ⟨i, l, natsI i, [], h3, Nat.le_refl _, rfl, rfl, HR, HJ1, HJ2, ⟨ownQ_nil _ _⟩, HRG, HNR, ⟨by simp⟩, ⟨fun x hx => by simp at hx⟩, HBw, ⟨HSz3.out.1⟩⟩
      case round =>
        clear HJ1 HJ2 HBw HNR HR HRG
        obtain ⟨m, now, names, os, hm3, hmi, rfl, rfl, HR, HJ1, HJ2, HQ, HG, HH, HLen, HIn, HB, HSz⟩ := hrel
        obtain ⟨wb, rfl⟩ : ∃ wo : World, wo = wr := ⟨_, rfl⟩
        have Hl1 : Off (now.length = m) := ⟨HJ1.out.len⟩
        have Hl2 : Off (names.length = m) := ⟨HJ2.out.len⟩
        have hmc1 : m ≤ c1 := by have := Hnc1.out; omega
        have hmc2 : m ≤ c2 := by omega
        by_cases hm : 3 < m
        · have hmI : (3 : Int) < (m : Int) := by omega
          obtain ⟨f, hf⟩ : ∃ f, m = f + 1 := ⟨m - 1, by omega⟩
          have HHf := Off.mk hf
          clear hf
          go_wp2
          go_loop [8] (fun kv => ∃ k : Nat, k ≤ m ∧ kv = .int .i64 k ∧ Off (∀ j, j < k → now.getD j 0 ≠ 1)) (fun kv => m - (intOf kv).toNat)
          case atStart => exact ⟨0, by omega, rfl, ⟨fun j hj => by omega⟩⟩
          case round =>
            obtain ⟨k, hkl, rfl, HNo⟩ := hrel
            by_cases hkm : k < m
            · have ck := HJ1.out.cell hkm
              have hkmI : (k : Int) < (m : Int) := by omega
              obtain ⟨t, ht⟩ : ∃ t, t = now.getD k 0 := ⟨_, rfl⟩
              have Ht := Off.mk ht
              rw [← ht] at ck
              clear ht
              by_cases ht1 : t = 1
              · subst ht1
                have HX : Off (idxI 1 now = k) := ⟨idxI_eq 1 now k (by rw [Hl1.out]; exact hkm) Ht.out.symm HNo.out⟩
                obtain ⟨a, ha⟩ : ∃ a, a = prevN k m := ⟨_, rfl⟩
                obtain ⟨b, hb⟩ : ∃ b, b = nextN k m := ⟨_, rfl⟩
                have ham : a < m := by rw [ha]; exact prevN_lt (by omega)
                have hbm : b < m := by rw [hb]; exact nextN_lt (by omega)
                obtain ⟨hab, hak, hbk⟩ := prev_next hkm (by omega)
                rw [← ha, ← hb] at hab
                rw [← ha] at hak
                rw [← hb] at hbk
                have HCut : Off (cutAt now k = decI (decI now a) b) := ⟨by rw [cutAt, Hl1.out, ← ha, ← hb]⟩
                have HLn : Off (lineAt names k = (min (names.getD a 0) (names.getD b 0), max (names.getD a 0) (names.getD b 0))) := ⟨by rw [lineAt, Hl2.out, ← ha, ← hb]⟩
                have Hlow : Off (min ((cutAt now k).getD a 0) ((cutAt now k).getD b 0) < 1 → R = none) := ⟨fun h => by
                  rw [HR.out, HHf.out]
                  exact ofRun_low (by rw [Hl1.out]; omega) (by rw [HX.out, Hl1.out]; exact hkm) (by rw [HX.out, Hl1.out, ← ha, ← hb]; exact h)⟩
                have Hon : Off (¬ min ((cutAt now k).getD a 0) ((cutAt now k).getD b 0) < 1 → R = ofRun (m - 1) ((cutAt now k).eraseIdx k) (names.eraseIdx k) (os ++ [lineAt names k])) := ⟨fun h => by
                  rw [HR.out, HHf.out, Nat.add_sub_cancel]
                  rw [ofRun_on (by rw [Hl1.out]; omega) (by rw [HX.out, Hl1.out]; exact hkm) (by rw [HX.out, Hl1.out, ← ha, ← hb]; exact h), HX.out]⟩
                have ga := HG.out a ham
                have gb := HG.out b hbm
                have na := HH.out a ham
                have nb := HH.out b hbm
                have HGa : Off ((cutAt now k).getD a 0 = now.getD a 0 - 1) := ⟨by rw [HCut.out, cut_get _ _ _ _ hab (by rw [Hl1.out]; exact ham) (by rw [Hl1.out]; exact hbm), if_pos (.inl rfl)]⟩
                have HGb : Off ((cutAt now k).getD b 0 = now.getD b 0 - 1) := ⟨by rw [HCut.out, cut_get _ _ _ _ hab (by rw [Hl1.out]; exact ham) (by rw [Hl1.out]; exact hbm), if_pos (.inr rfl)]⟩
                have HGo : Off (∀ j, j ≠ a → j ≠ b → (cutAt now k).getD j 0 = now.getD j 0) := ⟨fun j h1 h2 => by rw [HCut.out, cut_get _ _ _ _ hab (by rw [Hl1.out]; exact ham) (by rw [Hl1.out]; exact hbm), if_neg (by omega)]; omega⟩
                have HI0 := HJ1
                have HI1 := Off.mk ((HI0.out.stored a (now.getD a 0 - 1)).1)
                have HI2 := Off.mk ((HI1.out.stored b ((decI now a).getD b 0 - 1)).1)
                have HK1 := Off.mk ((HI0.out.stored a (now.getD a 0 - 1)).2)
                have HK2 := Off.mk ((HI1.out.stored b ((decI now a).getD b 0 - 1)).2)
                have hdb : (decI now a).getD b 0 = now.getD b 0 := by rw [decI_get, if_neg (by omega)]; omega
                rw [hdb] at HI2 HK2
                have ca := HJ1.out.cell ham
                have cb := HJ1.out.cell hbm
                have fa := HJ1.out.frozen a
                have fb := HJ1.out.frozen b
                have da := HJ2.out.cell ham
                have db := HJ2.out.cell hbm
                obtain ⟨x, hx⟩ : ∃ x, x = now.getD a 0 := ⟨_, rfl⟩
                obtain ⟨y, hy⟩ : ∃ y, y = now.getD b 0 := ⟨_, rfl⟩
                obtain ⟨p, hp⟩ : ∃ p, p = names.getD a 0 := ⟨_, rfl⟩
                obtain ⟨q, hq⟩ : ∃ q, q = names.getD b 0 := ⟨_, rfl⟩
                rw [← hx] at ga HGa HI1 HI2 HK1 HK2 ca
                rw [← hy] at gb HGb HI2 HK2 cb
                rw [← hp] at na HLn da
                rw [← hq] at nb HLn db
                have hi2 : (now.set a (x - 1)).set b (y - 1) = cutAt now k := by
                  rw [HCut.out]
                  show _ = (decI now a).set b ((decI now a).getD b 0 - 1)
                  rw [hdb, ← hy, decI, ← hx]
                rw [hi2] at HI2
                clear hdb hi2
                have k0 : (0 : Int) ≤ (k : Int) := by omega
                have a0 : (0 : Int) ≤ (a : Int) := by omega
                have a1 : (a : Int) < (m : Int) := by omega
                have b0 : (0 : Int) ≤ (b : Int) := by omega
                have b1 : (b : Int) < (m : Int) := by omega
                have w1 : IntKind.i64.wrap ((k : Int) + (m : Int)) = (k : Int) + (m : Int) := by rw [IntKind.wrap_i64]; omega
                have w2' : IntKind.i64.wrap ((k : Int) + (m : Int) - 1) = (k : Int) + (m : Int) - 1 := by rw [IntKind.wrap_i64]; omega
                have w4 : IntKind.i64.wrap ((k : Int) + 1) = (k : Int) + 1 := by rw [IntKind.wrap_i64]; omega
                have hm0 : ¬ m = 0 := by omega
                have t1 : ((k : Int) + (m : Int) - 1).tmod (m : Int) = (a : Int) := by
                  rw [Int.tmod_eq_emod_of_nonneg (by omega), ha]; exact prev_int k m (by omega)
                have t2 : ((k : Int) + 1).tmod (m : Int) = (b : Int) := by
                  rw [Int.tmod_eq_emod_of_nonneg (by omega), hb]; exact next_int k m
                have t3 : IntKind.i64.wrap (((k : Int) + (m : Int) - 1).tmod (m : Int)) = (a : Int) := by rw [t1, IntKind.wrap_i64]; omega
                have t4 : IntKind.i64.wrap (((k : Int) + 1).tmod (m : Int)) = (b : Int) := by rw [t2, IntKind.wrap_i64]; omega
                have t5 : ((k : Int) + (m : Int) - 1) % (m : Int) = (a : Int) := by rw [ha]; exact prev_int k m (by omega)
                have t6 : ((k : Int) + 1) % (m : Int) = (b : Int) := by rw [hb]; exact next_int k m
                have HT := Off.mk (And.intro t1 (And.intro t2 (And.intro t5 t6)))
                have HHa := Off.mk ha
                have HHb := Off.mk hb
                have HHx := Off.mk hx
                have HHy := Off.mk hy
                have HHp := Off.mk hp
                have HHq := Off.mk hq
                have Hne := Off.mk (And.intro hab (And.intro hak hbk))
                have hab1 : ¬ a = b := hab
                have hab2 : ¬ b = a := fun e => hab e.symm
                clear ha hb hx hy hp hq HX HR hab hak hbk
                have hkb : ((k : Int) == (m : Int)) = false := by rw [beq_eq_false_iff_ne]; omega
                have hkn : ¬ (k : Int) = (m : Int) := by omega
                rw [HGa.out, HGb.out] at Hlow Hon
                go_wp2
                refine wp_region_held_drew (S := (fun _ => True)) (by kernel_rfl) trivial (fun hHeld => ?_)
                refine wpAnyH_take (i := 0) (oi := ⟨some 54, _, _, _, _, _⟩) (v := ?_) rfl (by kernel_rfl) (by kernel_rfl) (by kernel_rfl) (fun _ _ _ h => h) (Or.inl ⟨by rfl, by intro w hSw; (try dsimp only at hSw); go_simp; try with_reducible rfl⟩) hHeld ?_
                try simp only [Act.put, List.setIfInBounds_toArray, List.set_cons_zero, List.set_cons_succ]
                refine wpAnyH_take (i := 1) (oi := ⟨some 55, _, _, _, _, _⟩) (v := ?_) rfl (by kernel_rfl) (by kernel_rfl) (by kernel_rfl) (fun _ _ _ h => h) (Or.inl ⟨by rfl, by intro w hSw; (try dsimp only at hSw); go_simp; try with_reducible rfl⟩) hHeld ?_
                try simp only [Act.put, List.setIfInBounds_toArray, List.set_cons_zero, List.set_cons_succ]
                refine wpAnyH_take (i := 2) (oi := ⟨some 56, _, _, _, _, _⟩) (v := ?_) rfl (by kernel_rfl) (by kernel_rfl) (by kernel_rfl) (fun _ _ _ h => h) (Or.inl ⟨by rfl, by intro w hSw; (try dsimp only at hSw); go_simp; try with_reducible rfl⟩) hHeld ?_
                try simp only [Act.put, List.setIfInBounds_toArray, List.set_cons_zero, List.set_cons_succ]
                refine wpAnyH_take (i := 3) (oi := ⟨some 57, _, _, _, _, _⟩) (v := ?_) rfl (by kernel_rfl) (by kernel_rfl) (by kernel_rfl) (fun _ _ _ h => h) (Or.inl ⟨by rfl, by intro w hSw; (try dsimp only at hSw); go_simp; try with_reducible rfl⟩) hHeld ?_
                try simp only [Act.put, List.setIfInBounds_toArray, List.set_cons_zero, List.set_cons_succ]
                refine wpAnyH_take (i := 4) (oi := ⟨some 58, _, _, _, _, _⟩) (v := ?_) rfl (by kernel_rfl) (by kernel_rfl) (by kernel_rfl) (fun _ _ _ h => h) (Or.inl ⟨by rfl, by intro w hSw; (try dsimp only at hSw); go_simp; try with_reducible rfl⟩) hHeld ?_
                try simp only [Act.put, List.setIfInBounds_toArray, List.set_cons_zero, List.set_cons_succ]
                refine wpAnyH_take (i := 5) (oi := ⟨some 59, _, _, _, _, _⟩) (v := ?_) rfl (by kernel_rfl) (by kernel_rfl) (by kernel_rfl) (fun _ _ _ h => h) (Or.inl ⟨by rfl, by intro w hSw; (try dsimp only at hSw); go_simp; try with_reducible rfl⟩) hHeld ?_
                try simp only [Act.put, List.setIfInBounds_toArray, List.set_cons_zero, List.set_cons_succ]
                refine wpAnyH_take (i := 6) (oi := ⟨some 60, _, _, _, _, _⟩) (v := ?_) rfl (by kernel_rfl) (by kernel_rfl) (by kernel_rfl) (fun _ _ _ h => h) (Or.inl ⟨by rfl, by intro w hSw; (try dsimp only at hSw); go_simp; try with_reducible rfl⟩) hHeld ?_
                try simp only [Act.put, List.setIfInBounds_toArray, List.set_cons_zero, List.set_cons_succ]
                refine wpAnyH_take (i := 7) (oi := ⟨some 61, _, _, _, _, _⟩) (v := ?_) rfl (by kernel_rfl) (by kernel_rfl) (by kernel_rfl) (fun _ _ _ h => h) (Or.inl ⟨by rfl, by intro w hSw; (try dsimp only at hSw); go_simp; try with_reducible rfl⟩) hHeld ?_
                try simp only [Act.put, List.setIfInBounds_toArray, List.set_cons_zero, List.set_cons_succ]
                refine wpAnyH_take (i := 8) (oi := ⟨some 62, _, _, _, _, _⟩) (v := ?_) rfl (by kernel_rfl) (by kernel_rfl) (by kernel_rfl) (fun _ _ _ h => h) (Or.inl ⟨by rfl, by intro w hSw; (try dsimp only at hSw); go_simp; try with_reducible rfl⟩) hHeld ?_
                try simp only [Act.put, List.setIfInBounds_toArray, List.set_cons_zero, List.set_cons_succ]
                refine wpAnyH_take (i := 9) (oi := ⟨some 63, _, _, _, _, _⟩) (v := ?_) rfl (by kernel_rfl) (by kernel_rfl) (by kernel_rfl) (fun _ _ _ h => h) (Or.inl ⟨by rfl, by intro w hSw; (try dsimp only at hSw); go_simp; try with_reducible rfl⟩) hHeld ?_
                try simp only [Act.put, List.setIfInBounds_toArray, List.set_cons_zero, List.set_cons_succ]
                refine wpAnyH_take (i := 10) (oi := ⟨some 10, _, _, _, _, _⟩) (v := ?_) rfl (by kernel_rfl) (by kernel_rfl) (by kernel_rfl) (fun _ _ _ h => h) (Or.inl ⟨by rfl, by intro w hSw; (try dsimp only at hSw); go_simp; try with_reducible rfl⟩) hHeld ?_
                try simp only [Act.put, List.setIfInBounds_toArray, List.set_cons_zero, List.set_cons_succ]
                refine wpAnyH_take (i := 11) (oi := ⟨some 11, _, _, _, _, _⟩) (v := ?_) rfl (by kernel_rfl) (by kernel_rfl) (by kernel_rfl) (fun _ _ _ h => h) (Or.inl ⟨by rfl, by intro w hSw; (try dsimp only at hSw); go_simp; try with_reducible rfl⟩) hHeld ?_
                try simp only [Act.put, List.setIfInBounds_toArray, List.set_cons_zero, List.set_cons_succ]
                refine wpAnyH_done (by kernel_rfl) ?_ _
                by_cases hx1 : x = 1
                · have HRn := Off.mk (Hlow.out (by omega))
                  subst hx1
                  go_wp2
                  go_ret2
                  rw [HOF.out, HRn.out]
                  exact ⟨below_drew HB.out, rfl⟩
                · by_cases hy1 : y = 1
                  · have HRn := Off.mk (Hlow.out (by omega))
                    subst hy1
                    have hxb : (x == 1) = false := by rw [beq_eq_false_iff_ne]; exact hx1
                    go_wp2
                    go_ret2
                    rw [HOF.out, HRn.out]
                    exact ⟨below_drew HB.out, rfl⟩
                  · have HRn := Off.mk (Hon.out (by omega))
                    have hxy2 : Off (1 ≤ x - 1 ∧ 1 ≤ y - 1) := ⟨by omega⟩
                    have hxb : (x == 1) = false := by rw [beq_eq_false_iff_ne]; exact hx1
                    have hyb : (y == 1) = false := by rw [beq_eq_false_iff_ne]; exact hy1
                    clear Hlow Hon
                    go_wp2
                    obtain ⟨w7, hw7⟩ : ∃ w7, w7 = (wb.setCell ⟨r1, a, none⟩ (.int .i64 (x - 1))).setCell ⟨r1, b, none⟩ (.int .i64 (y - 1)) := ⟨_, rfl⟩
                    have HK7 : Off (Keeps r1 wb w7) := ⟨by rw [hw7]; exact HK1.out.trans HK2.out⟩
                    have HI7 : Off (IRow w7 w.heap.size r1 m c1 (cutAt now k)) := ⟨by rw [hw7]; exact HI2.out⟩
                    rw [← hw7]
                    clear hw7 HI1 HK1 HI2 HK2 HI0 ca cb fa fb w1 w2' w4 t1 t2 t3 t4 t5 t6 hab1 hab2 hHeld
                    have HR12 := Off.mk h12'
                    have HJ7 := Off.mk (irow_keeps HJ2.out HK7.out (Ne.symm h12'))
                    have da := HJ7.out.cell ham
                    have db := HJ7.out.cell hbm
                    rw [← HHp.out] at da
                    rw [← HHq.out] at db
                    have HQ7 := Off.mk (ownQ_keeps2 HQ.out HK7.out (fun e => by have := ownQ_base HQ.out e; have := Hr1'.out; omega))
                    have HB7 : Off (Below w.heap.size w w7) := ⟨Keeps.below HB.out HK7.out HB.out.size (own_base HI7.out.toOwn rfl)⟩
                    have HSz7 : Off (w3.heap.size ≤ w7.heap.size) := ⟨Nat.le_trans HSz.out HK7.out.out.size⟩
                    clear HK7
                    obtain ⟨p1, hp1⟩ : ∃ p1, p1 = min p q := ⟨_, rfl⟩
                    obtain ⟨p2, hp2⟩ : ∃ p2, p2 = max p q := ⟨_, rfl⟩
                    have HP1 : Off ((if q < p then q else p) = p1) := ⟨by rw [hp1]; split <;> omega⟩
                    have HP2 : Off ((if p < q then q else p) = p2) := ⟨by rw [hp2]; split <;> omega⟩
                    have hp12 : (0 ≤ p1 ∧ p1 < 12) ∧ 0 ≤ p2 ∧ p2 < 12 := by omega
                    rw [← hp1, ← hp2] at HLn
                    have HP12 := Off.mk hp12
                    clear hp1 hp2 hp12
                    obtain ⟨w8, hw8⟩ : ∃ w8, w8 = w7.drew.drew := ⟨_, rfl⟩
                    have HI8 : Off (IRow w8 w.heap.size r1 m c1 (cutAt now k)) := ⟨by rw [hw8]; exact irow_drew (irow_drew HI7.out)⟩
                    have HJ8 : Off (IRow w8 w.heap.size r2 m c2 names) := ⟨by rw [hw8]; exact irow_drew (irow_drew HJ7.out)⟩
                    have HQ8 : Off (OwnQ w8 w3.heap.size u7 (sortL os)) := ⟨by rw [hw8]; exact ownQ_drew (ownQ_drew HQ7.out)⟩
                    have HB8 : Off (Below w.heap.size w w8) := ⟨by rw [hw8]; exact below_drew (below_drew HB7.out)⟩
                    have HSz8 : Off (w3.heap.size ≤ w8.heap.size) := ⟨by rw [hw8]; exact HSz7.out⟩
                    have hw8c : ∀ ad v, w7.cell? ad = some v → w8.cell? ad = some v := fun ad v h => by rw [hw8]; exact h
                    have Hc := Off.mk (And.intro da db)
                    have HW8 := Off.mk hw8
                    have hol : (sortL os).length ≤ 60 := by rw [sortL_len']; have := HLen.out; omega
                    obtain ⟨A7, c7, hu7, hP7, hc7, hA7⟩ := ownQ_pairs HQ8.out (by omega)
                    subst hu7
                    have CP := Off.mk (rput_any (sortL os) A7 c7 p1 p2 w8 hP7 hc7 hA7 hol)
                    rw [put_sort HIn.out (x := (p1, p2)) HP12.out] at CP
                    rw [hw8] at CP
                    clear hw8 hw8c hP7 hc7 hA7 hol HI7 HJ7 HQ7 HB7 HSz7
                    go_wp2
                    refine wp_region_held_drew (S := (fun w' => w'.cell? ⟨r2, a, none⟩ = some (.int .i64 p) ∧ w'.cell? ⟨r2, b, none⟩ = some (.int .i64 q))) (by kernel_rfl) ⟨da, db⟩ (fun hHeld => ?_)
                    refine wpAnyH_take (i := 0) (oi := ⟨some 88, _, _, _, _, _⟩) (v := ?_) rfl (by kernel_rfl) (by kernel_rfl) (by kernel_rfl) (fun _ _ _ h => h) (Or.inl ⟨by rfl, by intro w hSw; (try dsimp only at hSw); go_simp; try with_reducible rfl⟩) hHeld ?_
                    try simp only [Act.put, List.setIfInBounds_toArray, List.set_cons_zero, List.set_cons_succ]
                    refine wpAnyH_take (i := 1) (oi := ⟨some 89, _, _, _, _, _⟩) (v := ?_) rfl (by kernel_rfl) (by kernel_rfl) (by kernel_rfl) (fun _ _ _ h => h) (Or.inl ⟨by rfl, by intro w hSw; (try dsimp only at hSw); go_simp; try with_reducible rfl⟩) hHeld ?_
                    try simp only [Act.put, List.setIfInBounds_toArray, List.set_cons_zero, List.set_cons_succ]
                    refine wpAnyH_take (i := 2) (oi := ⟨some 90, _, _, _, _, _⟩) (v := ?_) rfl (by kernel_rfl) (by kernel_rfl) (by kernel_rfl) (fun _ _ _ h => h) (Or.inl ⟨by rfl, by intro w hSw; (try dsimp only at hSw); go_simp; try with_reducible rfl⟩) hHeld ?_
                    try simp only [Act.put, List.setIfInBounds_toArray, List.set_cons_zero, List.set_cons_succ]
                    refine wpAnyH_take (i := 3) (oi := ⟨some 91, _, _, _, _, _⟩) (v := ?_) rfl (by kernel_rfl) (by kernel_rfl) (by kernel_rfl) (fun _ _ _ h => h) (Or.inl ⟨by rfl, by intro w hSw; (try dsimp only at hSw); go_simp; try with_reducible rfl⟩) hHeld ?_
                    try simp only [Act.put, List.setIfInBounds_toArray, List.set_cons_zero, List.set_cons_succ]
                    refine wpAnyH_take (i := 4) (oi := ⟨some 92, _, _, _, _, _⟩) (v := ?_) rfl (by kernel_rfl) (by kernel_rfl) (by kernel_rfl) (fun _ _ _ h => h) (Or.inl ⟨by rfl, by intro w hSw; (try dsimp only at hSw); go_simp; try with_reducible rfl⟩) hHeld ?_
                    try simp only [Act.put, List.setIfInBounds_toArray, List.set_cons_zero, List.set_cons_succ]
                    refine wpAnyH_take (i := 5) (oi := ⟨some 93, _, _, _, _, _⟩) (v := ?_) rfl (by kernel_rfl) (by kernel_rfl) (by kernel_rfl) (fun _ _ _ h => h) (Or.inl ⟨by rfl, by intro w hSw; (try dsimp only at hSw); go_simp; try with_reducible rfl⟩) hHeld ?_
                    try simp only [Act.put, List.setIfInBounds_toArray, List.set_cons_zero, List.set_cons_succ]
                    refine wpAnyH_take (i := 6) (oi := ⟨some 94, _, _, _, _, _⟩) (v := ?_) rfl (by kernel_rfl) (by kernel_rfl) (by kernel_rfl) (fun _ _ _ h => h) (Or.inl ⟨by rfl, by intro w hSw; (try dsimp only at hSw); go_simp; try with_reducible rfl⟩) hHeld ?_
                    try simp only [Act.put, List.setIfInBounds_toArray, List.set_cons_zero, List.set_cons_succ]
                    refine wpAnyH_take (i := 7) (oi := ⟨some 95, _, _, _, _, _⟩) (v := ?_) rfl (by kernel_rfl) (by kernel_rfl) (by kernel_rfl) (fun _ _ _ h => h) (Or.inl ⟨by rfl, by intro w hSw; (try dsimp only at hSw); go_simp; try with_reducible rfl⟩) hHeld ?_
                    try simp only [Act.put, List.setIfInBounds_toArray, List.set_cons_zero, List.set_cons_succ]
                    refine wpAnyH_take (i := 8) (oi := ⟨some 96, _, _, _, _, _⟩) (v := ?_) rfl (by kernel_rfl) (by kernel_rfl) (by kernel_rfl) (fun _ _ _ h => h) (Or.inl ⟨by rfl, by intro w hSw; (try dsimp only at hSw); go_simp; try with_reducible rfl⟩) hHeld ?_
                    try simp only [Act.put, List.setIfInBounds_toArray, List.set_cons_zero, List.set_cons_succ]
                    refine wpAnyH_take (i := 9) (oi := ⟨some 97, _, _, _, _, _⟩) (v := ?_) rfl (by kernel_rfl) (by kernel_rfl) (by kernel_rfl) (fun _ _ _ h => h) (Or.inl ⟨by rfl, by intro w hSw; (try dsimp only at hSw); go_simp; try with_reducible rfl⟩) hHeld ?_
                    try simp only [Act.put, List.setIfInBounds_toArray, List.set_cons_zero, List.set_cons_succ]
                    rw [HP1.out]
                    refine wpAnyH_take (i := 10) (oi := ⟨some 98, _, _, _, _, _⟩) (v := ?_) rfl (by kernel_rfl) (by kernel_rfl) (by kernel_rfl) (fun _ _ _ h => h) (Or.inl ⟨by rfl, by intro w hSw; (try dsimp only at hSw); go_simp; try with_reducible rfl⟩) hHeld ?_
                    try simp only [Act.put, List.setIfInBounds_toArray, List.set_cons_zero, List.set_cons_succ]
                    refine wpAnyH_take (i := 11) (oi := ⟨some 99, _, _, _, _, _⟩) (v := ?_) rfl (by kernel_rfl) (by kernel_rfl) (by kernel_rfl) (fun _ _ _ h => h) (Or.inl ⟨by rfl, by intro w hSw; (try dsimp only at hSw); go_simp; try with_reducible rfl⟩) hHeld ?_
                    try simp only [Act.put, List.setIfInBounds_toArray, List.set_cons_zero, List.set_cons_succ]
                    refine wpAnyH_take (i := 12) (oi := ⟨some 100, _, _, _, _, _⟩) (v := ?_) rfl (by kernel_rfl) (by kernel_rfl) (by kernel_rfl) (fun _ _ _ h => h) (Or.inl ⟨by rfl, by intro w hSw; (try dsimp only at hSw); go_simp; try with_reducible rfl⟩) hHeld ?_
                    try simp only [Act.put, List.setIfInBounds_toArray, List.set_cons_zero, List.set_cons_succ]
                    refine wpAnyH_take (i := 13) (oi := ⟨some 101, _, _, _, _, _⟩) (v := ?_) rfl (by kernel_rfl) (by kernel_rfl) (by kernel_rfl) (fun _ _ _ h => h) (Or.inl ⟨by rfl, by intro w hSw; (try dsimp only at hSw); go_simp; try with_reducible rfl⟩) hHeld ?_
                    try simp only [Act.put, List.setIfInBounds_toArray, List.set_cons_zero, List.set_cons_succ]
                    refine wpAnyH_take (i := 14) (oi := ⟨some 102, _, _, _, _, _⟩) (v := ?_) rfl (by kernel_rfl) (by kernel_rfl) (by kernel_rfl) (fun _ _ _ h => h) (Or.inl ⟨by rfl, by intro w hSw; (try dsimp only at hSw); go_simp; try with_reducible rfl⟩) hHeld ?_
                    try simp only [Act.put, List.setIfInBounds_toArray, List.set_cons_zero, List.set_cons_succ]
                    refine wpAnyH_take (i := 15) (oi := ⟨some 103, _, _, _, _, _⟩) (v := ?_) rfl (by kernel_rfl) (by kernel_rfl) (by kernel_rfl) (fun _ _ _ h => h) (Or.inl ⟨by rfl, by intro w hSw; (try dsimp only at hSw); go_simp; try with_reducible rfl⟩) hHeld ?_
                    try simp only [Act.put, List.setIfInBounds_toArray, List.set_cons_zero, List.set_cons_succ]
                    refine wpAnyH_take (i := 16) (oi := ⟨some 104, _, _, _, _, _⟩) (v := ?_) rfl (by kernel_rfl) (by kernel_rfl) (by kernel_rfl) (fun _ _ _ h => h) (Or.inl ⟨by rfl, by intro w hSw; (try dsimp only at hSw); go_simp; try with_reducible rfl⟩) hHeld ?_
                    try simp only [Act.put, List.setIfInBounds_toArray, List.set_cons_zero, List.set_cons_succ]
                    refine wpAnyH_take (i := 17) (oi := ⟨some 105, _, _, _, _, _⟩) (v := ?_) rfl (by kernel_rfl) (by kernel_rfl) (by kernel_rfl) (fun _ _ _ h => h) (Or.inl ⟨by rfl, by intro w hSw; (try dsimp only at hSw); go_simp; try with_reducible rfl⟩) hHeld ?_
                    try simp only [Act.put, List.setIfInBounds_toArray, List.set_cons_zero, List.set_cons_succ]
                    refine wpAnyH_take (i := 18) (oi := ⟨some 106, _, _, _, _, _⟩) (v := ?_) rfl (by kernel_rfl) (by kernel_rfl) (by kernel_rfl) (fun _ _ _ h => h) (Or.inl ⟨by rfl, by intro w hSw; (try dsimp only at hSw); go_simp; try with_reducible rfl⟩) hHeld ?_
                    try simp only [Act.put, List.setIfInBounds_toArray, List.set_cons_zero, List.set_cons_succ]
                    rw [HP2.out]
                    refine wpAnyH_take (i := 19) (oi := ⟨some 107, _, _, _, _, _⟩) (v := ?_) rfl (by kernel_rfl) (by kernel_rfl) (by kernel_rfl) (fun _ _ _ h => h) (Or.inl ⟨by rfl, by intro w hSw; (try dsimp only at hSw); go_simp; try with_reducible rfl⟩) hHeld ?_
                    try simp only [Act.put, List.setIfInBounds_toArray, List.set_cons_zero, List.set_cons_succ]
                    refine wpAnyH_ready (rs := [20]) (by kernel_rfl) (by simp) ?_
                    refine AllReadyH.cons (o := ⟨some 108, _, _, _, _, _⟩) rfl (fun K hK => ?_) AllReadyH.nil
                    go_simp
                    go_at_call 58
                    refine CP.out.mono ?_
                    rintro e w9 ⟨v9, rfl, hO9, hb9⟩
                    have HO9 := Off.mk hO9
                    have HB9 := Off.mk hb9
                    clear hO9
                    go_wp2_with fail
                    refine hK.out _ _ ⟨cellB hb9 hHeld.1, cellB hb9 hHeld.2⟩ (fun hHeld => ?_)
                    clear hK K
                    try simp only [Act.put, List.setIfInBounds_toArray, List.set_cons_zero, List.set_cons_succ]
                    refine wpAnyH_take (i := 21) (oi := ⟨some 7, _, _, _, _, _⟩) (v := ?_) rfl (by kernel_rfl) (by kernel_rfl) (by kernel_rfl) (fun _ _ _ h => h) (Or.inl ⟨by rfl, by intro w hSw; (try dsimp only at hSw); go_simp; try with_reducible rfl⟩) hHeld ?_
                    try simp only [Act.put, List.setIfInBounds_toArray, List.set_cons_zero, List.set_cons_succ]
                    refine wpAnyH_done (by kernel_rfl) ?_ _
                    have hb8 : Below w8.heap.size w8 w9 := by rw [HW8.out]; exact hb9
                    have hO9' : OwnQ w9 w8.heap.size v9 (sortL (os ++ [(p1, p2)])) := by rw [HW8.out]; exact HO9.out
                    have HI9 := Off.mk (HI8.out.below hb8)
                    have HJ9 := Off.mk (HJ8.out.below hb8)
                    have HBB9 := Off.mk (belowC HB8.out hb8)
                    have HSz9 : Off (w3.heap.size ≤ w9.heap.size) := ⟨Nat.le_trans HSz8.out hb8.size⟩
                    have HQ9 : Off (OwnQ w9 w3.heap.size v9 (sortL (os ++ [(p1, p2)]))) := ⟨ownQ_mono hO9' HSz8.out⟩
                    obtain ⟨E1, hE1, hs1⟩ := erase_src (r := r1) (c := c1) hkm HI9.out.len
                    obtain ⟨E2, hE2, hs2⟩ := erase_src (r := r2) (c := c2) hkm HJ9.out.len
                    clear HO9 hO9' hb9 hb8 hHeld HB9 HI8 HJ8 HB8 HSz8 HQ8 HW8 CP da db Hc HP1 HP2
                    have hk2 : (k : Int) + 1 ≤ (m : Int) := by omega
                    have hk3 : (k : Int) ≤ (c1 : Int) := by omega
                    have hk4 : (k : Int) ≤ (c2 : Int) := by omega
                    have hk6 : (k : Int) + 1 ≤ (c1 : Int) := by omega
                    have hk7 : (k : Int) + 1 ≤ (c2 : Int) := by omega
                    have hk5 : (0 : Int) ≤ (k : Int) + 1 := by omega
                    have hmk1 : (m : Int) ≤ (c1 : Int) := by omega
                    have hmk2 : (m : Int) ≤ (c2 : Int) := by omega
                    have w4 : IntKind.i64.wrap ((k : Int) + 1) = (k : Int) + 1 := by rw [IntKind.wrap_i64]; omega
                    go_wp2
                    refine wp_region_held_drew (S := (fun _ => True)) (by kernel_rfl) trivial (fun hHeld => ?_)
                    refine wpAnyH_take (i := 0) (oi := ⟨some 109, _, _, _, _, _⟩) (v := ?_) rfl (by kernel_rfl) (by kernel_rfl) (by kernel_rfl) (fun _ _ _ h => h) (Or.inl ⟨by rfl, by intro w hSw; (try dsimp only at hSw); go_simp; try with_reducible rfl⟩) hHeld ?_
                    try simp only [Act.put, List.setIfInBounds_toArray, List.set_cons_zero, List.set_cons_succ]
                    refine wpAnyH_take (i := 1) (oi := ⟨some 110, _, _, _, _, _⟩) (v := ?_) rfl (by kernel_rfl) (by kernel_rfl) (by kernel_rfl) (fun _ _ _ h => h) (Or.inl ⟨by rfl, by intro w hSw; (try dsimp only at hSw); go_simp; try with_reducible rfl⟩) hHeld ?_
                    try simp only [Act.put, List.setIfInBounds_toArray, List.set_cons_zero, List.set_cons_succ]
                    refine wpAnyH_take (i := 2) (oi := ⟨some 111, _, _, _, _, _⟩) (v := ?_) rfl (by kernel_rfl) (by kernel_rfl) (by kernel_rfl) (fun _ _ _ h => h) (Or.inl ⟨by rfl, by intro w hSw; (try dsimp only at hSw); go_simp; try with_reducible rfl⟩) hHeld ?_
                    try simp only [Act.put, List.setIfInBounds_toArray, List.set_cons_zero, List.set_cons_succ]
                    refine wpAnyH_take (i := 3) (oi := ⟨some 112, _, _, _, _, _⟩) (v := ?_) rfl (by kernel_rfl) (by kernel_rfl) (by kernel_rfl) (fun _ _ _ h => h) (Or.inl ⟨by rfl, by intro w hSw; (try dsimp only at hSw); go_simp; try with_reducible rfl⟩) hHeld ?_
                    try simp only [Act.put, List.setIfInBounds_toArray, List.set_cons_zero, List.set_cons_succ]
                    refine wpAnyH_take (i := 4) (oi := ⟨some 113, _, _, _, _, _⟩) (v := ?_) rfl (by kernel_rfl) (by kernel_rfl) (by kernel_rfl) (fun _ _ _ h => h) (Or.inl ⟨by rfl, by intro w hSw; (try dsimp only at hSw); go_simp; try with_reducible rfl⟩) hHeld ?_
                    try simp only [Act.put, List.setIfInBounds_toArray, List.set_cons_zero, List.set_cons_succ]
                    refine wpAnyH_take (i := 5) (oi := ⟨some 114, _, _, _, _, _⟩) (v := ?_) rfl (by kernel_rfl) (by kernel_rfl) (by kernel_rfl) (fun _ _ _ h => h) (Or.inl ⟨by rfl, by intro w hSw; (try dsimp only at hSw); go_simp; try with_reducible rfl⟩) hHeld ?_
                    try simp only [Act.put, List.setIfInBounds_toArray, List.set_cons_zero, List.set_cons_succ]
                    refine wpAnyH_take (i := 6) (oi := ⟨some 115, _, _, _, _, _⟩) (v := ?_) rfl (by kernel_rfl) (by kernel_rfl) (by kernel_rfl) (fun _ _ _ h => h) (Or.inl ⟨by rfl, by intro w hSw; (try dsimp only at hSw); go_simp; try with_reducible rfl⟩) hHeld ?_
                    try simp only [Act.put, List.setIfInBounds_toArray, List.set_cons_zero, List.set_cons_succ]
                    refine wpAnyH_ready (rs := [7]) (by kernel_rfl) (by simp) ?_
                    refine AllReadyH.cons (o := ⟨some 116, _, _, _, _, _⟩) rfl (fun K hK => ?_) AllReadyH.nil
                    refine step_erase rfl _ _ rfl w.heap.size r1 m c1 k (cutAt now k) (irow_drew HI9.out) hkm hmc1 E1 (hs1.out _ _ (irow_drew HI9.out) hmc1) rfl rfl ?_
                    intro w10 hI10 hK10
                    have HI10 := Off.mk hI10
                    have HK10 := Off.mk hK10
                    clear hI10 hK10
                    refine hK.out _ _ trivial (fun hHeld => ?_)
                    clear hK K
                    try simp only [Act.put, List.setIfInBounds_toArray, List.set_cons_zero, List.set_cons_succ]
                    refine wpAnyH_take (i := 8) (oi := ⟨some 4, _, _, _, _, _⟩) (v := ?_) rfl (by kernel_rfl) (by kernel_rfl) (by kernel_rfl) (fun _ _ _ h => h) (Or.inl ⟨by rfl, by intro w hSw; (try dsimp only at hSw); go_simp; try with_reducible rfl⟩) hHeld ?_
                    try simp only [Act.put, List.setIfInBounds_toArray, List.set_cons_zero, List.set_cons_succ]
                    refine wpAnyH_done (by kernel_rfl) ?_ _
                    have HJ10 := Off.mk (irow_keeps (irow_drew HJ9.out) HK10.out (Ne.symm HR12.out))
                    have HO10 := Off.mk (ownQ_keeps2 (ownQ_drew HQ9.out) HK10.out (fun e => by have := ownQ_base HQ9.out e; have := Hr1'.out; omega))
                    have HB10 : Off (Below w.heap.size w w10) := ⟨Keeps.below (below_drew HBB9.out) HK10.out HBB9.out.size (own_base HI10.out.toOwn rfl)⟩
                    have HSz10 : Off (w3.heap.size ≤ w10.heap.size) := ⟨Nat.le_trans HSz9.out HK10.out.out.size⟩
                    clear HK10 HI9 HJ9 HQ9 HBB9 HSz9 hs1 hE1
                    go_wp2
                    refine wp_region_held_drew (S := (fun _ => True)) (by kernel_rfl) trivial (fun hHeld => ?_)
                    refine wpAnyH_take (i := 0) (oi := ⟨some 117, _, _, _, _, _⟩) (v := ?_) rfl (by kernel_rfl) (by kernel_rfl) (by kernel_rfl) (fun _ _ _ h => h) (Or.inl ⟨by rfl, by intro w hSw; (try dsimp only at hSw); go_simp; try with_reducible rfl⟩) hHeld ?_
                    try simp only [Act.put, List.setIfInBounds_toArray, List.set_cons_zero, List.set_cons_succ]
                    refine wpAnyH_take (i := 1) (oi := ⟨some 118, _, _, _, _, _⟩) (v := ?_) rfl (by kernel_rfl) (by kernel_rfl) (by kernel_rfl) (fun _ _ _ h => h) (Or.inl ⟨by rfl, by intro w hSw; (try dsimp only at hSw); go_simp; try with_reducible rfl⟩) hHeld ?_
                    try simp only [Act.put, List.setIfInBounds_toArray, List.set_cons_zero, List.set_cons_succ]
                    refine wpAnyH_take (i := 2) (oi := ⟨some 119, _, _, _, _, _⟩) (v := ?_) rfl (by kernel_rfl) (by kernel_rfl) (by kernel_rfl) (fun _ _ _ h => h) (Or.inl ⟨by rfl, by intro w hSw; (try dsimp only at hSw); go_simp; try with_reducible rfl⟩) hHeld ?_
                    try simp only [Act.put, List.setIfInBounds_toArray, List.set_cons_zero, List.set_cons_succ]
                    refine wpAnyH_take (i := 3) (oi := ⟨some 120, _, _, _, _, _⟩) (v := ?_) rfl (by kernel_rfl) (by kernel_rfl) (by kernel_rfl) (fun _ _ _ h => h) (Or.inl ⟨by rfl, by intro w hSw; (try dsimp only at hSw); go_simp; try with_reducible rfl⟩) hHeld ?_
                    try simp only [Act.put, List.setIfInBounds_toArray, List.set_cons_zero, List.set_cons_succ]
                    refine wpAnyH_take (i := 4) (oi := ⟨some 121, _, _, _, _, _⟩) (v := ?_) rfl (by kernel_rfl) (by kernel_rfl) (by kernel_rfl) (fun _ _ _ h => h) (Or.inl ⟨by rfl, by intro w hSw; (try dsimp only at hSw); go_simp; try with_reducible rfl⟩) hHeld ?_
                    try simp only [Act.put, List.setIfInBounds_toArray, List.set_cons_zero, List.set_cons_succ]
                    refine wpAnyH_take (i := 5) (oi := ⟨some 122, _, _, _, _, _⟩) (v := ?_) rfl (by kernel_rfl) (by kernel_rfl) (by kernel_rfl) (fun _ _ _ h => h) (Or.inl ⟨by rfl, by intro w hSw; (try dsimp only at hSw); go_simp; try with_reducible rfl⟩) hHeld ?_
                    try simp only [Act.put, List.setIfInBounds_toArray, List.set_cons_zero, List.set_cons_succ]
                    refine wpAnyH_take (i := 6) (oi := ⟨some 123, _, _, _, _, _⟩) (v := ?_) rfl (by kernel_rfl) (by kernel_rfl) (by kernel_rfl) (fun _ _ _ h => h) (Or.inl ⟨by rfl, by intro w hSw; (try dsimp only at hSw); go_simp; try with_reducible rfl⟩) hHeld ?_
                    try simp only [Act.put, List.setIfInBounds_toArray, List.set_cons_zero, List.set_cons_succ]
                    refine wpAnyH_ready (rs := [7]) (by kernel_rfl) (by simp) ?_
                    refine AllReadyH.cons (o := ⟨some 124, _, _, _, _, _⟩) rfl (fun K hK => ?_) AllReadyH.nil
                    refine step_erase rfl _ _ rfl w.heap.size r2 m c2 k names (irow_drew HJ10.out) hkm hmc2 E2 (hs2.out _ _ (irow_drew HJ10.out) hmc2) rfl rfl ?_
                    intro w11 hJ11 hK11
                    have HJ11 := Off.mk hJ11
                    have HK11 := Off.mk hK11
                    clear hJ11 hK11
                    refine hK.out _ _ trivial (fun hHeld => ?_)
                    clear hK K
                    try simp only [Act.put, List.setIfInBounds_toArray, List.set_cons_zero, List.set_cons_succ]
                    refine wpAnyH_take (i := 8) (oi := ⟨some 5, _, _, _, _, _⟩) (v := ?_) rfl (by kernel_rfl) (by kernel_rfl) (by kernel_rfl) (fun _ _ _ h => h) (Or.inl ⟨by rfl, by intro w hSw; (try dsimp only at hSw); go_simp; try with_reducible rfl⟩) hHeld ?_
                    try simp only [Act.put, List.setIfInBounds_toArray, List.set_cons_zero, List.set_cons_succ]
                    refine wpAnyH_done (by kernel_rfl) ?_ _
                    have HI11 := Off.mk (irow_keeps (irow_drew HI10.out) HK11.out HR12.out)
                    have HO11 := Off.mk (ownQ_keeps2 (ownQ_drew HO10.out) HK11.out (fun e => by have := ownQ_base HO10.out e; have := Hr2.out; omega))
                    have HB11 : Off (Below w.heap.size w w11) := ⟨Keeps.below (below_drew HB10.out) HK11.out HB10.out.size (own_base HJ11.out.toOwn rfl)⟩
                    have HSz11 : Off (w3.heap.size ≤ w11.heap.size) := ⟨Nat.le_trans HSz10.out HK11.out.out.size⟩
                    clear HK11 HI10 HJ10 HO10 HB10 HSz10 hs2 hE2
                    have HR11 : Off (R = ofRun (m - 1) ((cutAt now k).eraseIdx k) (names.eraseIdx k) (os ++ [(p1, p2)])) := ⟨by rw [HRn.out, HLn.out]⟩
                    have HG11 : Off (∀ j, j < m - 1 → 1 ≤ ((cutAt now k).eraseIdx k).getD j 0 ∧ ((cutAt now k).eraseIdx k).getD j 0 ≤ 12) := ⟨fun j hj => by
                      have key : ∀ i, i < m → 1 ≤ (cutAt now k).getD i 0 ∧ (cutAt now k).getD i 0 ≤ 12 := fun i hi => by
                        have h2 := hxy2.out
                        by_cases e1 : i = a
                        · rw [e1, HGa.out]; omega
                        · by_cases e2 : i = b
                          · rw [e2, HGb.out]; omega
                          · rw [HGo.out i e1 e2]; exact HG.out i hi
                      rw [getD_erase]
                      split
                      · exact key j (by omega)
                      · exact key (j + 1) (by omega)⟩
                    have HH11 : Off (∀ j, j < m - 1 → 0 ≤ (names.eraseIdx k).getD j 0 ∧ (names.eraseIdx k).getD j 0 < 12) := ⟨fun j hj => by
                      rw [getD_erase]
                      split
                      · exact HH.out j (by omega)
                      · exact HH.out (j + 1) (by omega)⟩
                    have HL11 : Off ((os ++ [(p1, p2)]).length + (m - 1) = i) := ⟨by rw [List.length_append]; have := HLen.out; simp; omega⟩
                    have HIn11 : Off (∀ x, x ∈ os ++ [(p1, p2)] → inR x) := ⟨fun z hz => by
                      rcases List.mem_append.1 hz with h | h
                      · exact HIn.out z h
                      · rw [List.mem_singleton] at h
                        subst h
                        exact HP12.out⟩
                    go_wp2
                    go_roundw
                    case rel => exact ⟨m - 1, _, _, _, by omega, by omega, rfl, rfl, HR11, HI11, HJ11, HO11, HG11, HH11, HL11, HIn11, HB11, HSz11⟩
                    case measure => simp; omega
              · have hne : (t != 1) = true := by rw [bne_iff_ne]; exact ht1
                have HN' : Off (∀ j, j < k + 1 → now.getD j 0 ≠ 1) := ⟨fun j hj => by
                  by_cases e : j = k
                  · rw [e, ← Ht.out]; exact ht1
                  · exact HNo.out j (by omega)⟩
                clear HNo
                go_wp2
                go_round
                case rel => exact ⟨k + 1, by omega, by go_num, HN'⟩
                case measure => simp only [intOf]; omega
            · obtain rfl : k = m := by omega
              have hX : ¬ idxI 1 now < k := by rw [idxI_none 1 now (by rw [Hl1.out]; exact HNo.out), Hl1.out]; omega
              have HRn : Off (R = none) := ⟨by rw [HR.out, HHf.out]; exact ofRun_none (by rw [Hl1.out]; omega) (by rw [Hl1.out]; exact hX)⟩
              clear hX HR HNo
              go_wp2
              go_ret2
              rw [HOF.out, HRn.out]
              exact ⟨HB.out, rfl⟩
        · obtain rfl : m = 3 := by omega
          have x0 := HJ1.out.cell (i := 0) (by omega)
          have x1 := HJ1.out.cell (i := 1) (by omega)
          have x2 := HJ1.out.cell (i := 2) (by omega)
          have hg0 := HG.out 0 (by omega)
          have hg1 := HG.out 1 (by omega)
          have hg2 := HG.out 2 (by omega)
          have HRn : Off (R = if max (max (now.getD 0 0) (now.getD 1 0)) (now.getD 2 0) = 1 then some os else none) := ⟨by rw [HR.out, ofRun, if_neg (by rw [Hl1.out]; omega), Hl1.out]; rfl⟩
          obtain ⟨a0, ha0⟩ : ∃ x, x = now.getD 0 0 := ⟨_, rfl⟩
          obtain ⟨a1, ha1⟩ : ∃ x, x = now.getD 1 0 := ⟨_, rfl⟩
          obtain ⟨a2, ha2⟩ : ∃ x, x = now.getD 2 0 := ⟨_, rfl⟩
          rw [← ha0] at x0 hg0 HRn
          rw [← ha1] at x1 hg1 HRn
          rw [← ha2] at x2 hg2 HRn
          clear ha0 ha1 ha2 HR
          have HNo : Off (¬ (a0 = 1 ∧ a1 = 1 ∧ a2 = 1) → R = none) := ⟨fun h => by rw [HRn.out, if_neg (by omega)]⟩
          by_cases h0 : a0 = 1
          · subst h0
            by_cases h1 : a1 = 1
            · subst h1
              by_cases h2 : a2 = 1
              · subst h2
                have HRs : Off (R = some os) := ⟨by rw [HRn.out, if_pos (by omega)]⟩
                have HO' := Off.mk (ownQ_mono HQ.out HSz3.out.2)
                clear HRn HNo
                go_wp2
                go_ret2
                rw [HOF.out, HRs.out]
                exact ⟨HB.out, _, rfl, HO'.out⟩
              · have HRs := Off.mk (HNo.out (by omega))
                have hb : (a2 != 1) = true := by rw [bne_iff_ne]; exact h2
                clear HRn HNo
                go_wp2
                go_ret2
                rw [HOF.out, HRs.out]
                exact ⟨HB.out, rfl⟩
            · have HRs := Off.mk (HNo.out (by omega))
              have hb : (a1 != 1) = true := by rw [bne_iff_ne]; exact h1
              clear HRn HNo
              go_wp2
              go_ret2
              rw [HOF.out, HRs.out]
              exact ⟨HB.out, rfl⟩
          · have HRs := Off.mk (HNo.out (by omega))
            have hb : (a0 != 1) = true := by rw [bne_iff_ne]; exact h0
            clear HRn HNo
            go_wp2
            go_ret2
            rw [HOF.out, HRs.out]
            exact ⟨HB.out, rfl⟩
end Go.Proofs.Ytddcdopimpfhcaa
