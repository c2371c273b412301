/- Contracts: Of of a word, of the program and of the specification. -/
import Derived.Test.YtnhbkopgbibcgaaHj
namespace Go.Proofs.Ytnhbkopgbibcgaa
open Go.RowKit Go.Shelf

theorem word_letter {n m : Nat} {ws : List UInt8} (h : wordB n m ws = true) {k : Nat} (hk : k < ws.length) : ws.getD k 0 = 114 ∨ ws.getD k 0 = 117 := by
  have hh := of_decide_eq_true h
  by_cases h1 : ws.getD k 0 = 117
  · exact .inr h1
  · by_cases h2 : ws.getD k 0 = 114
    · exact .inl h2
    · have := count_other ws k hk h1 h2
      omega
theorem toNat_of (x c : UInt8) : ((x.toNat : Int) == (c.toNat : Int)) = decide (x = c) := by
  by_cases h : x = c
  · subst h; simp
  · rw [decide_eq_false h, beq_eq_false_iff_ne]
    intro e
    exact h (UInt8.toNat_inj.1 (by omega))

set_option maxHeartbeats 4000000 in
set_option maxRecDepth 100000 in
theorem Of_yes (n m : Nat) (s : ByteArray) (w : World) (h40 : s.size ≤ 40) (hf : fieldB n m = true) (hw : wordB n m s.data.toList = true) :
    Calls Try.prog 43 #[.int .i64 (n : Int), .int .i64 (m : Int), .string s] w fun e w' => OfPost n m s.data.toList w e w' := by
  have HE : Off (ofErr n m s.data.toList = 0) := ⟨by unfold ofErr; rw [hf, if_pos rfl, Int.toNat_natCast, Int.toNat_natCast, hw]; rfl⟩
  have CF := Off.mk (field_any n m w)
  rw [hf] at CF
  have hn := field_len hf
  have hd := of_decide_eq_true hw
  rw [word_len] at hd
  obtain ⟨h, h1, h2⟩ := hd
  have HWd := Off.mk hw
  have CU := Off.mk (fun W => shCount s 117 W)
  have CR := Off.mk (fun W => shCount s 114 W)
  rw [show Lib.countByte s.data.toList 117 = n from h1] at CU
  rw [show Lib.countByte s.data.toList 114 = m from h2] at CR
  obtain ⟨i0, hi, hz0, hz1, hz2⟩ := info_parts info3
  obtain ⟨ws, hws⟩ : ∃ ws, ws = s.data.toList := ⟨_, rfl⟩
  have HU : Off (∀ k, upsK ws k ≤ n) := ⟨fun k => by rw [← h1, ← hws]; exact ups_le ws k⟩
  have HBy : Off (∀ k (h : k < s.size), s[k] = ws.getD k 0) := ⟨fun k h => by rw [hws]; exact byte_at s k h⟩
  have HLw : Off (ws.length = s.size) := ⟨by rw [hws]; exact word_len s⟩
  rw [← hws] at HE HWd ⊢
  have g1 : ((s.size : Int) != (n : Int) + m) = false := by rw [bne_eq_false_iff_eq]; omega
  have g2 : ((n : Int) != (n : Int)) = false := by rw [bne_eq_false_iff_eq]
  have g3 : ((m : Int) != (m : Int)) = false := by rw [bne_eq_false_iff_eq]
  have HF : Off (ofP n ws = ofTo ws n s.size) := ⟨by unfold ofP; rw [HLw.out]⟩
  have Hsz := Off.mk h
  clear h h1 h2 hw hf hws
  go_enter Try.func43, Try.ntmps43
  go_wp2_with fail
  refine CF.out.mono ?_
  rintro e w1 ⟨rfl, hb1⟩
  have hb2 := belowA hb1 (.cells #[.int .i64 (n : Int), .int .i64 (m : Int)] 62)
  have hP := Off.mk (block_new w1 (.cells #[.int .i64 (n : Int), .int .i64 (m : Int)] 62))
  obtain ⟨⟨q0, q1⟩, _, _⟩ := two_facts hP.out
  have W1 : IntKind.i64.wrap ((n : Int) + m) = (n : Int) + m := by rw [IntKind.wrap_i64]; omega
  go_wp2_with fail
  go_quiet ((first | (go_at_call 74; first | (with_reducible exact Calls.quiet_of_same (CU.out _)) | (with_reducible exact Calls.quiet_of_same (CR.out _)))))
  go_wp2_with (first
    | (at_make; refine wpList_make_full _ rfl _ _ 32 rfl w.heap.size 3 i0 (.int .i64 0) 1 Try.underlying32 hi hz0 hz1 .i64 .i64 n n n rfl rfl rfl rfl (by rw [hz2]; omega) (by unfold maxLen; omega) (by have := hb1.size; simp; omega) ?_; intro w2 hown2 hg2; rw [made_ints] at hown2))
  have hbq : Below w.heap.size w ((w1.alloc (.cells #[.int .i64 (n : Int), .int .i64 (m : Int)] 62)).drewN nq) := below_drewN' hb2 _
  have hw2 : Below w.heap.size w w2 := hbq.grown hg2 hbq.size (fun _ e => by cases e)
  have hP2 : w2.heap[w1.heap.size]? = some (.cells #[.int .i64 (n : Int), .int .i64 (m : Int)] 62 (0, 0)) := (hg2.block w1.heap.size (by simp) (fun e => by cases e)).trans hP.out
  obtain ⟨⟨q0, q1⟩, _, _⟩ := two_facts hP2
  have hsz := hw2.size
  have hrw : w.heap.size ≤ w1.heap.size + 1 := by have := hb1.size; omega
  have hR2 : RowAt w2 w.heap.size (w1.heap.size + 1) n (List.replicate n 0) := ⟨by simp, by rw [nums_replicate]; simpa using hown2⟩
  obtain ⟨r, hr⟩ : ∃ r, r = w1.heap.size + 1 := ⟨_, rfl⟩
  rw [← hr] at hR2 hrw ⊢
  have HR2 : Off (RowAt w2 w.heap.size r n (ofTo ws n 0)) := ⟨hR2⟩
  obtain ⟨p, hp⟩ : ∃ p, p = w1.heap.size := ⟨_, rfl⟩
  rw [← hp] at q0 q1 ⊢
  have HW2 := Off.mk hw2
  have X0 : Off ((haveK ws 0 : Int) = 0) := ⟨rfl⟩
  have X1 : Off ((n : Int) - (upsK ws 0 : Nat) = n) := ⟨by show (n : Int) - (0 : Nat) = n; omega⟩
  clear hr hp hR2 hown2 hg2 hP2 hb2 hbq hw2
  go_quiet (fail)
  go_wp2
  go_loopw [11, 12, 51] (fun hv rv iv wr => ∃ k : Nat, k ≤ s.size ∧ iv = .int .i64 k ∧ hv = .int .i64 (haveK ws k : Nat) ∧ rv = .int .i64 ((n : Int) - (upsK ws k : Nat)) ∧ Off (RowAt wr w.heap.size r n (ofTo ws n k)) ∧ Keeps r w2 wr) (fun _ _ iv _ => s.size - (intOf iv).toNat)
  case atStart => exact ⟨0, by omega, rfl, by rw [X0.out], by rw [X1.out], ⟨HR2.out.drewN _⟩, (Keeps.refl _ _).drewN _⟩
  case round =>
    obtain ⟨k, hk, rfl, rfl, rfl, hR, hK⟩ := hrel
    obtain ⟨wq, rfl⟩ : ∃ wo : World, wo = wr := ⟨_, rfl⟩
    by_cases hkl : k < s.size
    · have hki : (k : Int) < (s.size : Int) := by omega
      have hk0 : (0 : Int) ≤ (k : Int) := by omega
      have hlt : k < ws.length := by rw [HLw.out]; exact hkl
      have hby := HBy.out k hkl
      have HH := Off.mk (have_succ ws k hlt)
      have HU1 := Off.mk (ups_succ ws k hlt)
      have HO : Off (ofTo ws n (k + 1) = if ws.getD k 0 = 117 then (ofTo ws n k).set (n - (upsK ws k + 1)) (haveK ws k) else ofTo ws n k) := ⟨rfl⟩
      have hhl := have_le ws k
      have hul := HU.out (k + 1)
      have hlet := word_letter HWd.out hlt
      rw [← hby] at HH HU1 HO hlet
      clear hby
      rcases hlet with e | e
      · have e1 : ((s[k].toNat : Int) == 114) = true := by rw [e]; rfl
        have H1 : Off (haveK ws (k + 1) = haveK ws k + 1) := ⟨by rw [HH.out, e]; rfl⟩
        have H2 : Off (upsK ws (k + 1) = upsK ws k) := ⟨by rw [HU1.out, e]; rfl⟩
        have H3 : Off (ofTo ws n (k + 1) = ofTo ws n k) := ⟨by rw [HO.out, e]; rfl⟩
        obtain ⟨h, hh⟩ : ∃ h, h = haveK ws k := ⟨_, rfl⟩
        rw [← hh] at H1 hhl ⊢
        clear hh e HH HU1 HO hul hlt
        go_wp2
        go_roundw
        case rel => exact ⟨k + 1, by omega, by go_num, by rw [H1.out]; go_num, by rw [H2.out], by rw [H3.out]; exact hR, hK⟩
        case measure => simp only [intOf]; omega
      · have e1 : ((s[k].toNat : Int) == 114) = false := by rw [e]; rfl
        have H1 : Off (haveK ws (k + 1) = haveK ws k) := ⟨by rw [HH.out, e]; rfl⟩
        have H2 : upsK ws (k + 1) = upsK ws k + 1 := by rw [HU1.out, e]; rfl
        have H3 : Off (ofTo ws n (k + 1) = (ofTo ws n k).set (n - (upsK ws k + 1)) (haveK ws k)) := ⟨by rw [HO.out, e]; rfl⟩
        have e2 : ((s[k].toNat : Int) == 117) = true := by rw [e]; rfl
        rw [H2] at hul
        have H2 := Off.mk H2
        obtain ⟨h, hh⟩ : ∃ h, h = haveK ws k := ⟨_, rfl⟩
        obtain ⟨u, hu⟩ : ∃ u, u = upsK ws k := ⟨_, rfl⟩
        rw [← hh] at H1 H3 hhl ⊢
        rw [← hu] at H2 H3 hul ⊢
        have hc := hR.out.cell (show n - (u + 1) < n by omega)
        have hf := hR.out.frozen (n - (u + 1))
        have W2 : ((n : Int) - (u : Int) - 1).toNat = n - (u + 1) := by omega
        have W3 : (0 : Int) ≤ (n : Int) - (u : Int) - 1 := by omega
        have W4 : (n : Int) - (u : Int) - 1 < (n : Int) := by omega
        have W5 : IntKind.i64.wrap ((n : Int) - (u : Int) - 1) = (n : Int) - (u : Int) - 1 := by rw [IntKind.wrap_i64]; omega
        clear hh hu e HH HU1 HO hlt
        go_wp2
        obtain ⟨hR', hK'⟩ := hR.out.stored (n - (u + 1)) (h : Int)
        have HR' : Off (RowAt (wq.setCell ⟨r, n - (u + 1), none⟩ (.int .i64 (h : Int))) w.heap.size r n (ofTo ws n (k + 1))) := ⟨by rw [H3.out]; exact hR'⟩
        have HK' := hK.trans hK'
        clear hR' hK' hR hK
        go_roundw
        case rel => exact ⟨k + 1, by omega, by go_num, by rw [H1.out], by rw [H2.out]; go_num, HR', HK'⟩
        case measure => simp only [intOf]; omega
    · obtain rfl : k = s.size := by omega
      go_wp2
      go_ret2
      exact ⟨_, by rw [HE.out]; rfl, by rw [HE.out, if_pos rfl, Int.toNat_natCast, HF.out]; exact hR.out.own_of, hK.below HW2.out hsz hrw⟩
theorem ups_all (ws : List UInt8) : upsK ws ws.length = ws.count 117 := by unfold upsK; rw [List.take_length]
theorem have_all (ws : List UInt8) : haveK ws ws.length = ws.count 114 := by unfold haveK; rw [List.take_length]

set_option maxHeartbeats 4000000 in
set_option maxRecDepth 100000 in
theorem rOf_field (n m : Nat) (s : ByteArray) (w : World) (h40 : s.size ≤ 40) (hf : fieldB n m = true) :
    Calls Try.prog 44 #[.int .i64 (n : Int), .int .i64 (m : Int), .string s] w fun e w' => OfPost n m s.data.toList w e w' := by
  have CP := Off.mk (pasture_any n m true hf w)
  have hn := field_len hf
  have HE0 : Off (wordB n m s.data.toList = true → ofErr n m s.data.toList = 0) := ⟨fun h => by unfold ofErr; rw [hf, if_pos rfl, Int.toNat_natCast, Int.toNat_natCast, h]; rfl⟩
  have HE5 : Off (wordB n m s.data.toList = false → ofErr n m s.data.toList = 5) := ⟨fun h => by unfold ofErr; rw [hf, if_pos rfl, Int.toNat_natCast, Int.toNat_natCast, h]; rfl⟩
  obtain ⟨i0, hi, hz0, hz1, hz2⟩ := info_parts info3
  obtain ⟨ws, hws⟩ : ∃ ws, ws = s.data.toList := ⟨_, rfl⟩
  have HBy : Off (∀ k (h : k < s.size), s[k] = ws.getD k 0) := ⟨fun k h => by rw [hws]; exact byte_at s k h⟩
  have HLw : Off (ws.length = s.size) := ⟨by rw [hws]; exact word_len s⟩
  rw [← hws] at HE0 HE5 ⊢
  clear hf hws
  by_cases hsz : s.size = n + m
  · have g1 : ((s.size : Int) != (n : Int) + m) = false := by rw [bne_eq_false_iff_eq]; omega
    have HF : Off (ofP n ws = ofTo ws n s.size) := ⟨by unfold ofP; rw [HLw.out]⟩
    have HSZ := Off.mk hsz
    have hr0 : w.heap.size ≤ w.heap.size := Nat.le_refl _
    clear hsz
    go_enter Try.func44, Try.ntmps44
    go_wp2_with (first
      | (go_at_call 45; refine CP.out.mono ?_; rintro e w1 ⟨rfl, hw⟩; subst w1)
      | (at_make; refine wpList_make_full _ rfl _ _ 32 rfl w.heap.size 3 i0 (.int .i64 0) 1 Try.underlying32 hi hz0 hz1 .i64 .i64 n n n rfl rfl rfl rfl (by rw [hz2]; omega) (by unfold maxLen; omega) (by simp) ?_; intro w2 hown2 hg2; rw [made_ints] at hown2))
    have hw2 : Below w.heap.size w w2 := (Below.refl _ _).grown hg2 (Nat.le_refl _) (fun _ e => by cases e)
    have hszw := hw2.size
    have hR2 : RowAt w2 w.heap.size w.heap.size n (List.replicate n 0) := ⟨by simp, by rw [nums_replicate]; simpa using hown2⟩
    obtain ⟨r, hr⟩ : ∃ r, r = w.heap.size := ⟨_, rfl⟩
    have hrw : w.heap.size ≤ r := by omega
    have HR2 : Off (RowAt w2 w.heap.size r n (ofTo ws n 0)) := ⟨by rw [hr]; exact hR2⟩
    rw [← hr]
    have HW2 := Off.mk hw2
    have X0 : Off ((haveK ws 0 : Int) = 0) := ⟨rfl⟩
    have X1 : Off ((n : Int) - 1 - (upsK ws 0 : Nat) = n - 1) := ⟨by show (n : Int) - 1 - (0 : Nat) = n - 1; omega⟩
    have X2 : Off (haveK ws 0 + upsK ws 0 = 0 ∧ upsK ws 0 ≤ n) := ⟨rfl, Nat.zero_le _⟩
    clear hr hR2 hown2 hg2 hw2 hr0
    go_wp2
    go_loopw [10, 11, 12] (fun rv hv iv wr => ∃ k : Nat, k ≤ s.size ∧ iv = .int .i64 k ∧ hv = .int .i64 (haveK ws k : Nat) ∧ rv = .int .i64 ((n : Int) - 1 - (upsK ws k : Nat)) ∧ Off (RowAt wr w.heap.size r n (ofTo ws n k)) ∧ Keeps r w2 wr ∧ Off (haveK ws k + upsK ws k = k ∧ upsK ws k ≤ n)) (fun _ _ iv _ => s.size - (intOf iv).toNat)
    case atStart => exact ⟨0, by omega, rfl, by rw [X0.out], by rw [X1.out], HR2, Keeps.refl _ _, X2⟩
    case round =>
      obtain ⟨k, hk, rfl, rfl, rfl, hR, hK, hX⟩ := hrel
      obtain ⟨wq, rfl⟩ : ∃ wo : World, wo = wr := ⟨_, rfl⟩
      have hB := hK.below HW2.out hszw hrw
      by_cases hkl : k < s.size
      · have hki : (k : Int) < (s.size : Int) := by omega
        have hk0 : (0 : Int) ≤ (k : Int) := by omega
        have hlt : k < ws.length := by rw [HLw.out]; exact hkl
        have hby := HBy.out k hkl
        have HH := Off.mk (have_succ ws k hlt)
        have HU1 := Off.mk (ups_succ ws k hlt)
        have HO : Off (ofTo ws n (k + 1) = if ws.getD k 0 = 117 then (ofTo ws n k).set (n - (upsK ws k + 1)) (haveK ws k) else ofTo ws n k) := ⟨rfl⟩
        have HCO := Off.mk (count_other ws k hlt)
        have HUL := Off.mk (ups_le ws (k + 1))
        have hhl := have_le ws k
        rw [← hby] at HH HU1 HO HCO
        clear hby
        by_cases c1 : s[k] = 114
        · have e1 : ((s[k].toNat : Int) == 114) = true := by rw [c1]; rfl
          have H1 : Off (haveK ws (k + 1) = haveK ws k + 1) := ⟨by rw [HH.out, c1]; rfl⟩
          have H2 : Off (upsK ws (k + 1) = upsK ws k) := ⟨by rw [HU1.out, c1]; rfl⟩
          have H3 : Off (ofTo ws n (k + 1) = ofTo ws n k) := ⟨by rw [HO.out, c1]; rfl⟩
          have HX : Off (haveK ws (k + 1) + upsK ws (k + 1) = k + 1 ∧ upsK ws (k + 1) ≤ n) := ⟨by have := hX.out; rw [H1.out, H2.out]; omega⟩
          obtain ⟨h, hh⟩ : ∃ h, h = haveK ws k := ⟨_, rfl⟩
          rw [← hh] at H1 hhl ⊢
          clear hh c1 HH HU1 HO hlt HCO HUL hX
          go_wp2
          go_roundw
          case rel => exact ⟨k + 1, by omega, by go_num, by rw [H1.out]; go_num, by rw [H2.out], by rw [H3.out]; exact hR, hK, HX⟩
          case measure => simp only [intOf]; omega
        · have e1 : ((s[k].toNat : Int) == 114) = false := by
            have := toNat_of s[k] 114
            rw [decide_eq_false c1] at this
            exact this
          by_cases c2 : s[k] = 117
          · have e2 : ((s[k].toNat : Int) == 117) = true := by rw [c2]; rfl
            have H2 : upsK ws (k + 1) = upsK ws k + 1 := by rw [HU1.out, c2]; rfl
            by_cases c3 : upsK ws k < n
            · have H1 : Off (haveK ws (k + 1) = haveK ws k) := ⟨by rw [HH.out, c2]; rfl⟩
              have H3 : Off (ofTo ws n (k + 1) = (ofTo ws n k).set (n - (upsK ws k + 1)) (haveK ws k)) := ⟨by rw [HO.out, c2]; rfl⟩
              have HX : Off (haveK ws (k + 1) + upsK ws (k + 1) = k + 1 ∧ upsK ws (k + 1) ≤ n) := ⟨by have := hX.out; rw [H1.out, H2]; omega⟩
              have H2 := Off.mk H2
              obtain ⟨h, hh⟩ : ∃ h, h = haveK ws k := ⟨_, rfl⟩
              obtain ⟨u, hu⟩ : ∃ u, u = upsK ws k := ⟨_, rfl⟩
              rw [← hh] at H1 H3 hhl ⊢
              rw [← hu] at H2 H3 c3 ⊢
              have hc := hR.out.cell (show n - (u + 1) < n by omega)
              have hf := hR.out.frozen (n - (u + 1))
              have W2 : ((n : Int) - 1 - (u : Int)).toNat = n - (u + 1) := by omega
              have W3 : (0 : Int) ≤ (n : Int) - 1 - (u : Int) := by omega
              have W4 : (n : Int) - 1 - (u : Int) < (n : Int) := by omega
              clear hh hu c1 c2 HH HU1 HO hlt HCO HUL hX
              go_wp2
              obtain ⟨hR', hK'⟩ := hR.out.stored (n - (u + 1)) (h : Int)
              have HR' : Off (RowAt (wq.setCell ⟨r, n - (u + 1), none⟩ (.int .i64 (h : Int))) w.heap.size r n (ofTo ws n (k + 1))) := ⟨by rw [H3.out]; exact hR'⟩
              have HK' := hK.trans hK'
              clear hR' hK' hR hK
              go_roundw
              case rel => exact ⟨k + 1, by omega, by go_num, by rw [H1.out], by rw [H2.out]; go_num, HR', HK', HX⟩
              case measure => simp only [intOf]; omega
            · have HE : Off (ofErr n m ws = 5) := ⟨HE5.out (decide_eq_false (fun hh => by have h1 := HUL.out; have h2 := hX.out; omega))⟩
              have hu0 : upsK ws k = n := by have := hX.out; omega
              rw [hu0]
              clear hlt HCO HUL hX c1 c2 c3 hu0 HH HU1 HO H2
              have W3 : ¬ (0 : Int) ≤ (n : Int) - 1 - (n : Int) := by omega
              go_wp2
              go_ret2
              exact ⟨_, by rw [HE.out]; rfl, by rw [HE.out]; exact ⟨World.ownsRow_nil _ _ _ _⟩, hB⟩
          · have e2 : ((s[k].toNat : Int) == 117) = false := by
              have := toNat_of s[k] 117
              rw [decide_eq_false c2] at this
              exact this
            have HE : Off (ofErr n m ws = 5) := ⟨HE5.out (decide_eq_false (fun hh => by have := HCO.out c2 c1; omega))⟩
            clear hlt HCO HUL hX c1 c2 HH HU1 HO
            go_wp2
            go_ret2
            exact ⟨_, by rw [HE.out]; rfl, by rw [HE.out]; exact ⟨World.ownsRow_nil _ _ _ _⟩, hB⟩
      · obtain rfl : k = s.size := by omega
        have hua : upsK ws s.size = ws.count 117 := by rw [← HLw.out]; exact ups_all ws
        have hha : haveK ws s.size = ws.count 114 := by rw [← HLw.out]; exact have_all ws
        have hx := hX.out
        have hsz := HSZ.out
        have hl := HLw.out
        by_cases c3 : upsK ws s.size < n
        · have HE : Off (ofErr n m ws = 5) := ⟨HE5.out (decide_eq_false (fun hh => by omega))⟩
          obtain ⟨u, hu⟩ : ∃ u, u = upsK ws s.size := ⟨_, rfl⟩
          rw [← hu] at c3 ⊢
          have W3 : (0 : Int) ≤ (n : Int) - 1 - (u : Int) := by omega
          clear hua hha hx hX hu hl hsz
          go_wp2
          go_ret2
          exact ⟨_, by rw [HE.out]; rfl, by rw [HE.out]; exact ⟨World.ownsRow_nil _ _ _ _⟩, hB⟩
        · have HE : Off (ofErr n m ws = 0) := ⟨HE0.out (decide_eq_true ⟨by omega, by omega, by omega⟩)⟩
          have hu0 : upsK ws s.size = n := by omega
          rw [hu0]
          have W3 : ¬ (0 : Int) ≤ (n : Int) - 1 - (n : Int) := by omega
          clear hua hha hx hX hu0 c3 hl hsz
          go_wp2
          go_ret2
          exact ⟨_, by rw [HE.out]; rfl, by rw [HE.out, if_pos rfl, Int.toNat_natCast, HF.out]; exact hR.out.own_of, hB⟩
  · have g1 : ((s.size : Int) != (n : Int) + m) = true := by rw [bne_iff_ne]; omega
    have HE : Off (ofErr n m ws = 5) := ⟨HE5.out (decide_eq_false (fun hh => hsz (by rw [← HLw.out]; exact hh.1)))⟩
    clear hsz
    go_enter Try.func44, Try.ntmps44
    go_wp2_with (go_at_call 45; refine CP.out.mono ?_; rintro e w1 ⟨rfl, hw⟩; subst w1)
    go_ret2
    exact ⟨_, by rw [HE.out]; rfl, by rw [HE.out]; exact ⟨World.ownsRow_nil _ _ _ _⟩, Below.refl _ _⟩

theorem field_nat {a b : Int} (h : fieldB a b = true) : ∃ n m : Nat, a = n ∧ b = m ∧ 1 ≤ n ∧ n ≤ 6 ∧ 1 ≤ m ∧ m ≤ 6 := by
  have := field_len h
  exact ⟨a.toNat, b.toNat, by omega, by omega, by omega, by omega, by omega, by omega⟩
theorem Of_any (a b : Int) (s : ByteArray) (w : World) (h40 : s.size ≤ 40) :
    Calls Try.prog 43 #[.int .i64 a, .int .i64 b, .string s] w fun e w' => OfPost a b s.data.toList w e w' := by
  cases hf : fieldB a b
  · exact Of_no a b s w hf
  · obtain ⟨n, m, rfl, rfl, _⟩ := field_nat hf
    cases hw : wordB n m s.data.toList
    · exact Of_form n m s w hf hw
    · exact Of_yes n m s w h40 hf hw
theorem rOf_any (a b : Int) (s : ByteArray) (w : World) (h40 : s.size ≤ 40) :
    Calls Try.prog 44 #[.int .i64 a, .int .i64 b, .string s] w fun e w' => OfPost a b s.data.toList w e w' := by
  cases hf : fieldB a b
  · exact rOf_no a b s w hf
  · obtain ⟨n, m, rfl, rfl, _⟩ := field_nat hf
    exact rOf_field n m s w h40 hf
end Go.Proofs.Ytnhbkopgbibcgaa
