/- Contracts: even, Trade. -/
import Derived.Test.YtdbleghnblohgaaVk
import Derived.Test.YtdbleghnblohgaaPn
namespace Go.Proofs.Ytdbleghnblohgaa
open Go.RowKit Go.Shelf

theorem or_any (x s : Int) (hx : 0 ≤ x) (hx' : x < 256) (hs : 0 ≤ s) (hs' : s < 256) : bits .or .i64 x s = orI x s := by
  obtain ⟨a, rfl⟩ := Int.eq_ofNat_of_zero_le hx
  obtain ⟨b, rfl⟩ := Int.eq_ofNat_of_zero_le hs
  exact (bits_nat .i64 8 (by decide) (fun n h0 h1 => by rw [IntKind.wrap_i64]; omega) a b (by omega) (by omega)).2
theorem andNot_nat : ∀ x : Fin 32, ∀ s : Fin 32, bits .andNot .i64 ((x.val : Nat) : Int) ((s.val : Nat) : Int) = ((x.val - (x.val &&& s.val) : Nat) : Int) := by decide +kernel
theorem andNot_any (x s : Int) (hx : 0 ≤ x) (hx' : x < 32) (hs : 0 ≤ s) (hs' : s < 32) : bits .andNot .i64 x s = andNotI x s := by
  obtain ⟨a, rfl⟩ := Int.eq_ofNat_of_zero_le hx
  obtain ⟨b, rfl⟩ := Int.eq_ofNat_of_zero_le hs
  exact andNot_nat ⟨a, by omega⟩ ⟨b, by omega⟩

set_option maxHeartbeats 1000000 in
theorem even_any (a b c d : Int) (ha : 0 ≤ a) (ha' : a < 256) (hb : 0 ≤ b) (hb' : b < 256) (hc : 0 ≤ c) (hc' : c < 256) (hd : 0 ≤ d) (hd' : d < 256) (w : World) :
    Calls Try.prog 61 #[.agg #[.int .i64 a, .int .i64 b, .int .i64 c, .int .i64 d]] w fun e w' => e = .returned (.bool (evenB a b c d)) ∧ Below w.heap.size w w' := by
  have h1 := and_any a b ha ha' hb hb'
  have h2 := and_any c d hc hc' hd hd'
  have h3 := or_any a b ha ha' hb hb'
  have h4 := or_any c d hc hc' hd hd'
  by_cases e1 : andI a b = andI c d
  · have e1' : (andI a b == andI c d) = true := beq_iff_eq.2 e1
    have HF : Off (evenB a b c d = (orI a b == orI c d)) := ⟨by rw [evenB, decide_eq_true e1, Bool.true_and]; rfl⟩
    clear e1
    go_enter Try.func61, Try.ntmps61
    go_wp2
    go_ret
    exact ⟨ret_bool HF.out.symm, (Below.refl _ _).alloc (Nat.le_refl _) _⟩
  · have e1' : (andI a b == andI c d) = false := beq_eq_false_iff_ne.2 e1
    have HF : Off (evenB a b c d = false) := ⟨by rw [evenB, decide_eq_false e1, Bool.false_and]⟩
    clear e1
    go_enter Try.func61, Try.ntmps61
    go_wp2
    go_ret
    exact ⟨ret_bool HF.out.symm, (Below.refl _ _).alloc (Nat.le_refl _) _⟩

def tradeVal (p : Int → Bool) (n : Nat) : Value := match tradeOf p n with
  | some (a, b, c) => .tuple #[.agg #[.int .i64 a, .int .i64 b, .int .i64 c, .int .i64 (fourth a b c)], .int .i64 0]
  | none => .tuple #[.agg #[.int .i64 0, .int .i64 0, .int .i64 0, .int .i64 0], .int .i64 10]

/-- A block of four numbers, whole. -/
theorem four_facts {w : World} {b : Nat} {v0 v1 v2 v3 : Value} {t : TypeId} (h : w.heap[b]? = some (.cells #[v0, v1, v2, v3] t (0, 0))) :
    (w.cell? ⟨b, 0, none⟩ = some v0 ∧ w.cell? ⟨b, 1, none⟩ = some v1 ∧ w.cell? ⟨b, 2, none⟩ = some v2 ∧ w.cell? ⟨b, 3, none⟩ = some v3) ∧
      w.frozen? ⟨b, 0, none⟩ = false ∧ w.frozen? ⟨b, 1, none⟩ = false ∧ w.frozen? ⟨b, 2, none⟩ = false ∧ w.frozen? ⟨b, 3, none⟩ = false := by
  simp [World.cell?, World.frozen?, h]
theorem block_new (w : World) (o : Obj) : (w.alloc o).heap[w.heap.size]? = some o := by
  show (w.heap.push o)[w.heap.size]? = some o
  simp

set_option maxHeartbeats 1000000 in
theorem Trade_no (n : Int) (l : List Int) (A : Option Addr) (c : Nat) (w : World) (hl : IntsAt w A l) (hlc : l.length ≤ c) (hr : isRule n l = false) :
    Calls Try.prog 29 #[.int .i64 n, .slice A l.length c] w fun e w' => e = .returned (.tuple #[.agg #[.int .i64 0, .int .i64 0, .int .i64 0, .int .i64 0], .int .i64 2]) ∧ Below w.heap.size w w' := by
  have HB : Off (∀ o, Below w.heap.size w (w.alloc o)) := ⟨fun o => (Below.refl _ _).alloc (Nat.le_refl _) _⟩
  go_enter Try.func29, Try.ntmps29
  go_wp2_with (go_at_call 54; refine (hr ▸ ruled_any n l A c _ (hl.below (HB.out _)) hlc).mono ?_; rintro e w1 ⟨rfl, hb1⟩; obtain ⟨⟨c0, c1, c2, c3⟩, f0, f1, f2, f3⟩ := four_facts ((hb1.block _ (by simp)).trans (block_new w _)))
  refine bodyPost_ret (v := .tuple #[.agg #[.int .i64 0, .int .i64 0, .int .i64 0, .int .i64 0], .int .i64 2]) ?_ rfl ⟨rfl, ?_⟩
  · simp [results, Try.results29, go_sem, c0, c1, c2, c3]
  · have h1 := (HB.out _).trans (hb1.mono (HB.out _).size)
    exact (((h1.setCell (by simp) _).setCell (by simp) _).setCell (by simp) _).setCell (by simp) _

theorem belowC {w0 a b : World} (h : Below w0.heap.size w0 a) (k : Below a.heap.size a b) : Below w0.heap.size w0 b := h.trans (k.mono h.size)
theorem belowA {w0 a : World} (h : Below w0.heap.size w0 a) (o : Obj) : Below w0.heap.size w0 (a.alloc o) := h.alloc h.size o

set_option maxHeartbeats 4000000 in
theorem Trade_yes (n : Nat) (l : List Int) (A : Option Addr) (cp : Nat) (w : World) (hl : IntsAt w A l) (hlc : l.length ≤ cp) (hr : isRule n l = true) :
    Calls Try.prog 29 #[.int .i64 n, .slice A l.length cp] w fun e w' => e = .returned (tradeVal (ruleB l) n) ∧ Below w.heap.size w w' := by
  obtain ⟨⟨m', e, hm1, hm⟩, _⟩ := isRule_range hr
  obtain rfl : n = m' := by omega
  have hsm := Off.mk (small_of hr)
  have HB : Off (∀ o, Below w.heap.size w (w.alloc o)) := ⟨fun o => (Below.refl _ _).alloc (Nat.le_refl _) _⟩
  have hp := pow_le n (by omega)
  have hp5 : (2 : Int) ^ n ≤ 32 := by
    have : ∀ m : Fin 6, (2 : Int) ^ m.val ≤ 32 := by decide
    exact this ⟨n, by omega⟩
  clear e
  obtain ⟨p, hpd⟩ : ∃ p, p = ruleB l := ⟨_, rfl⟩
  rw [← hpd]
  have HPD := Off.mk hpd
  clear hpd
  go_enter Try.func29, Try.ntmps29
  go_wp2_with (first
    | (go_at_call 54; refine (hr ▸ ruled_any n l A cp _ (hl.below (HB.out _)) hlc).mono ?_; rintro e w1 ⟨rfl, hb1⟩; have hx1 := (hb1.block _ (by simp)).trans (block_new w _))
    | (go_at_call 55; refine (rules_any A l.length cp _).mono ?_; rintro e w2 ⟨rfl, hc2, hb2⟩; have hx2 := (hb2.block _ (World.block_lt_of_cell? w1 ⟨w.heap.size, 0, none⟩ (four_facts hx1).1.1)).trans hx1))
  have hw1 : Below w.heap.size w w1 := (HB.out _).trans (hb1.mono (HB.out _).size)
  have hw2 : Below w.heap.size w w2 := hw1.trans (hb2.mono hw1.size)
  obtain ⟨Br, hBr⟩ : ∃ b, b = w1.heap.size := ⟨_, rfl⟩
  rw [← hBr] at hc2 ⊢
  have hask : Off (∀ wr s, Below w2.heap.size w2 wr → 0 ≤ s → s < 32 → Calls Try.prog 75 #[.int .i64 s, .pointer (some ⟨Br, 0, none⟩)] wr fun e w' => e = .returned (.bool (ruleB l s)) ∧ Below wr.heap.size wr w') :=
    ⟨fun wr s h h0 h1 => rules1_any s l A cp Br wr (hl.below (hw2.trans (h.mono hw2.size))) hsm h0 (by omega) (cellB h hc2)⟩
  have HX := Off.mk hx2
  have HW := Off.mk hw2
  have hlt2 : w.heap.size < w2.heap.size := World.block_lt_of_cell? w2 ⟨w.heap.size, 0, none⟩ (four_facts hx2).1.1
  rw [← HPD.out] at hask
  clear hx1 hx2 hb1 hb2 hw1 hw2 hc2 hBr hl hsm hr HPD
  go_loopw [21] (fun i wr => ∃ a : Nat, (a : Int) ≤ 2 ^ n ∧ i = .int .i64 a ∧ Off (Below w2.heap.size w2 wr) ∧ Off (firstTo (tradeA p n) a = none))
    (fun i _ => (2 ^ n - intOf i).toNat)
  case atStart => exact ⟨0, by simp only [Int.natCast_zero]; omega, rfl, ⟨Below.refl _ _⟩, ⟨rfl⟩⟩
  case round =>
    obtain ⟨a, ha, rfl, hb, hno⟩ := hrel
    obtain ⟨wo, rfl⟩ : ∃ wo : World, wo = wr := ⟨_, rfl⟩
    by_cases hlt : (a : Int) < 2 ^ n
    · have hpa := hask.out wo a hb.out (by omega) (by omega)
      go_wp2
      go_loopw [8] (fun i wr => ∃ b : Nat, a ≤ b ∧ (b : Int) ≤ 2 ^ n ∧ i = .int .i64 b ∧ Off (Below w2.heap.size w2 wr) ∧ Off (p a = true → firstTo (tradeBs p n a) b = none) ∧ (p a = false → b = a))
        (fun i _ => (2 ^ n - intOf i).toNat)
      case atStart => exact ⟨a, by omega, by omega, rfl, hb, ⟨fun _ => tradeBs_start p n a⟩, fun _ => rfl⟩
      case round =>
        clear hb
        obtain ⟨b, hab, hbn, rfl, hb, hnb, hpf⟩ := hrel
        obtain ⟨wp, rfl⟩ : ∃ wo : World, wo = wr := ⟨_, rfl⟩
        cases hpa : p a
        · have HS : Off (firstTo (tradeA p n) (a + 1) = none) := ⟨firstTo_miss hno.out (by simp [tradeA, hpa])⟩
          have hba := hpf hpa
          clear hpf
          go_wp2_with (go_at_call 75; refine (hask.out wp a hb.out (by omega) (by omega)).mono ?_; rintro e w3 ⟨rfl, hb3⟩)
          go_roundw
          case rel => exact ⟨a + 1, by omega, by go_num, ⟨hb.out.trans (hb3.mono hb.out.size)⟩, HS⟩
          case measure => simp only [intOf]; omega
        · clear hpf
          by_cases hbl : (b : Int) < 2 ^ n
          · go_wp2_with (go_at_call 75; refine (hask.out wp a hb.out (by omega) (by omega)).mono ?_; rintro e w3 ⟨rfl, hb3⟩)
            have hb3' : Off (Below w2.heap.size w2 w3) := ⟨hb.out.trans (hb3.mono hb.out.size)⟩
            clear hb hb3
            go_loopw [9] (fun i wr => ∃ c : Nat, (c : Int) ≤ 2 ^ n ∧ i = .int .i64 c ∧ Off (Below w2.heap.size w2 wr) ∧ Off (p b = true → firstTo (tradeC p a b) c = none))
              (fun i _ => (2 ^ n - intOf i).toNat)
            case atStart => exact ⟨0, by simp only [Int.natCast_zero]; omega, rfl, hb3', ⟨fun _ => rfl⟩⟩
            case round =>
              clear hb3'
              obtain ⟨c, hcn, rfl, hb, hnc⟩ := hrel
              obtain ⟨wq, rfl⟩ : ∃ wo : World, wo = wr := ⟨_, rfl⟩
              cases hpb : p b
              · have HS : Off (firstTo (tradeBs p n a) (b + 1) = none) := ⟨firstTo_miss (hnb.out hpa) (by simp [tradeBs, hpb])⟩
                go_wp2_with (go_at_call 75; refine (hask.out wq b hb.out (by omega) (by omega)).mono ?_; rintro e w4 ⟨rfl, hb4⟩)
                go_roundw
                case rel => exact ⟨b + 1, by omega, by omega, by go_num, ⟨hb.out.trans (hb4.mono hb.out.size)⟩, ⟨fun _ => HS.out⟩, (fun h => absurd h (by decide))⟩
                case measure => simp only [intOf]; omega
              · by_cases hcl : (c : Int) < 2 ^ n
                · have r1 := and_any a b (by omega) (by omega) (by omega) (by omega)
                  have r2 := or_any a b (by omega) (by omega) (by omega) (by omega)
                  have q1 := andI_range a b (by omega)
                  have q2 := orI_range a b (by omega) (by omega) (by omega) (by omega)
                  have r3 := andNot_any (orI a b) c (by omega) (by omega) (by omega) (by omega)
                  have q3 := andNotI_range (orI a b) c (by omega)
                  have r4 := or_any (andI a b) (andNotI (orI a b) c) (by omega) (by omega) (by omega) (by omega)
                  have q4 := fourth_range a b c (by omega) (by omega) (by omega) (by omega)
                  have HT : Off (tradeB p a b c = (decide ((c : Int) ≤ fourth a b c) && (evenB a b c (fourth a b c) && (!p c && !p (fourth a b c))))) := ⟨rfl⟩
                  obtain ⟨d, hd⟩ : ∃ d, d = fourth a b c := ⟨_, rfl⟩
                  rw [show orI (andI a b) (andNotI (orI a b) c) = d from hd.symm] at r4
                  rw [← hd] at HT q4
                  have HD := Off.mk hd
                  clear hd
                  have HMiss : Off (tradeB p a b c = false → firstTo (tradeC p a b) (c + 1) = none) := ⟨fun h => firstTo_miss (hnc.out hpb) (by simp [tradeC, h])⟩
                  by_cases hcd : (c : Int) ≤ d
                  · cases hev : evenB a b c d
                    · have HN : Off (firstTo (tradeC p a b) (c + 1) = none) := ⟨HMiss.out (by rw [HT.out, hev]; simp)⟩
                      clear HT HMiss
                      go_wp2_with (first | (go_at_call_of 75 (Value.int .i64 (b : Int)); refine (hask.out wq b hb.out (by omega) (by omega)).mono ?_; rintro e w4 ⟨rfl, hb4⟩) | (go_at_call 61; refine (even_any a b c d (by omega) (by omega) (by omega) (by omega) (by omega) (by omega) (by omega) (by omega) _).mono ?_; rintro e w5 ⟨rfl, hb5⟩; have hs5 := Off.mk ((hb5.block _ (by simp)).trans (block_new w4 _))))
                      have hB4 : Below w2.heap.size w2 w4 := hb.out.trans (hb4.mono hb.out.size)
                      have hB5 := belowC (belowA hB4 (Obj.cells #[.int .i64 (a : Int), .int .i64 (b : Int), .int .i64 (c : Int), .int .i64 d] 43)) hb5
                      go_roundw
                      case rel => exact ⟨c + 1, by omega, by go_num, ⟨hB5⟩, ⟨fun _ => HN.out⟩⟩
                      case measure => simp only [intOf]; omega
                    · cases hpc : p c
                      · cases hpd : p d
                        · have HIT : Off (tradeVal p n = .tuple #[.agg #[.int .i64 (a : Int), .int .i64 (b : Int), .int .i64 (c : Int), .int .i64 d], .int .i64 0]) := ⟨by
                            have h1 : tradeB p a b c = true := by rw [HT.out, hev, hpc, hpd, decide_eq_true hcd]; rfl
                            have h2 : firstTo (tradeC p a b) (2 ^ n) = some (a, b, c) := firstTo_hit (nat_lt_pow hcl) (hnc.out hpb) (by simp [tradeC, h1])
                            have h3 : firstTo (tradeBs p n a) (2 ^ n) = some (a, b, c) := firstTo_hit (nat_lt_pow hbl) (hnb.out hpa) (by simp [tradeBs, hpb, hab, h2])
                            have h4 : tradeOf p n = some (a, b, c) := firstTo_hit (nat_lt_pow hlt) hno.out (by simp [tradeA, hpa, h3])
                            rw [tradeVal, h4, HD.out]⟩
                          clear HT HMiss
                          go_wp2_with (first
                            | (go_at_call_of 75 (Value.int .i64 (b : Int)); refine (hask.out wq b hb.out (by omega) (by omega)).mono ?_; rintro e w4 ⟨rfl, hb4⟩)
                            | (go_at_call 61; refine (even_any a b c d (by omega) (by omega) (by omega) (by omega) (by omega) (by omega) (by omega) (by omega) _).mono ?_; rintro e w5 ⟨rfl, hb5⟩; have hs5 := Off.mk ((hb5.block _ (by simp)).trans (block_new w4 _)))
                            | (go_at_call_of 75 (Value.int .i64 (c : Int)); refine (hask.out w5 c (belowC (belowA (belowC hb.out hb4) _) hb5) (by omega) (by omega)).mono ?_; rintro e w6 ⟨rfl, hb6⟩)
                            | (go_at_call_of 75 (Value.int .i64 d); refine (hask.out w6 d (belowC (belowC (belowA (belowC hb.out hb4) _) hb5) hb6) (by omega) (by omega)).mono ?_; rintro e w7 ⟨rfl, hb7⟩; obtain ⟨⟨g0, g1, g2, g3⟩, _⟩ := four_facts ((hb7.block _ (Nat.lt_of_lt_of_le (Nat.lt_of_lt_of_le (by simp) hb5.size) hb6.size)).trans ((hb6.block _ (Nat.lt_of_lt_of_le (by simp) hb5.size)).trans hs5.out)); obtain ⟨⟨c0, c1, c2, c3⟩, f0, f1, f2, f3⟩ := four_facts (((belowC (belowC (belowC (belowA (belowC hb.out hb4) _) hb5) hb6) hb7).block _ hlt2).trans HX.out)))
                          have hB4 := belowC hb.out hb4
                          have hB5 := belowC (belowA hB4 (Obj.cells #[.int .i64 (a : Int), .int .i64 (b : Int), .int .i64 (c : Int), .int .i64 d] 43)) hb5
                          have hB7 := belowC (belowC hB5 hb6) hb7
                          refine bodyPost_ret (v := .tuple #[.agg #[.int .i64 (a : Int), .int .i64 (b : Int), .int .i64 (c : Int), .int .i64 d], .int .i64 0]) ?_ rfl ⟨by rw [HIT.out], ?_⟩
                          · simp [results, Try.results29, go_sem, c0, c1, c2, c3]
                          · have h1 := HW.out.trans (hB7.mono HW.out.size)
                            exact (((h1.setCell (by simp) _).setCell (by simp) _).setCell (by simp) _).setCell (by simp) _
                        · have HN : Off (firstTo (tradeC p a b) (c + 1) = none) := ⟨HMiss.out (by rw [HT.out, hpd]; simp)⟩
                          clear HT HMiss
                          go_wp2_with (first
                            | (go_at_call_of 75 (Value.int .i64 (b : Int)); refine (hask.out wq b hb.out (by omega) (by omega)).mono ?_; rintro e w4 ⟨rfl, hb4⟩)
                            | (go_at_call 61; refine (even_any a b c d (by omega) (by omega) (by omega) (by omega) (by omega) (by omega) (by omega) (by omega) _).mono ?_; rintro e w5 ⟨rfl, hb5⟩; have hs5 := Off.mk ((hb5.block _ (by simp)).trans (block_new w4 _)))
                            | (go_at_call_of 75 (Value.int .i64 (c : Int)); refine (hask.out w5 c (belowC (belowA (belowC hb.out hb4) _) hb5) (by omega) (by omega)).mono ?_; rintro e w6 ⟨rfl, hb6⟩)
                            | (go_at_call_of 75 (Value.int .i64 d); refine (hask.out w6 d ((belowC (belowA (belowC hb.out hb4) _) hb5).trans (hb6.mono (by have := hb.out.size; have := hb4.size; have := hb5.size; simp at *; omega))) (by omega) (by omega)).mono ?_; rintro e w7 ⟨rfl, hb7⟩))
                          have hB4 : Below w2.heap.size w2 w4 := hb.out.trans (hb4.mono hb.out.size)
                          have hB5 := belowC (belowA hB4 (Obj.cells #[.int .i64 (a : Int), .int .i64 (b : Int), .int .i64 (c : Int), .int .i64 d] 43)) hb5
                          have hB6 := hB5.trans (hb6.mono hB5.size)
                          have hB7 := hB6.trans (hb7.mono hB6.size)
                          go_roundw
                          case rel => exact ⟨c + 1, by omega, by go_num, ⟨hB7⟩, ⟨fun _ => HN.out⟩⟩
                          case measure => simp only [intOf]; omega
                      · have HN : Off (firstTo (tradeC p a b) (c + 1) = none) := ⟨HMiss.out (by rw [HT.out, hpc]; simp)⟩
                        clear HT HMiss
                        go_wp2_with (first
                          | (go_at_call_of 75 (Value.int .i64 (b : Int)); refine (hask.out wq b hb.out (by omega) (by omega)).mono ?_; rintro e w4 ⟨rfl, hb4⟩)
                          | (go_at_call 61; refine (even_any a b c d (by omega) (by omega) (by omega) (by omega) (by omega) (by omega) (by omega) (by omega) _).mono ?_; rintro e w5 ⟨rfl, hb5⟩; have hs5 := Off.mk ((hb5.block _ (by simp)).trans (block_new w4 _)))
                          | (go_at_call_of 75 (Value.int .i64 (c : Int)); refine (hask.out w5 c (belowC (belowA (belowC hb.out hb4) _) hb5) (by omega) (by omega)).mono ?_; rintro e w6 ⟨rfl, hb6⟩))
                        have hB4 : Below w2.heap.size w2 w4 := hb.out.trans (hb4.mono hb.out.size)
                        have hB5 := belowC (belowA hB4 (Obj.cells #[.int .i64 (a : Int), .int .i64 (b : Int), .int .i64 (c : Int), .int .i64 d] 43)) hb5
                        have hB6 := hB5.trans (hb6.mono hB5.size)
                        go_roundw
                        case rel => exact ⟨c + 1, by omega, by go_num, ⟨hB6⟩, ⟨fun _ => HN.out⟩⟩
                        case measure => simp only [intOf]; omega
                  · have HN : Off (firstTo (tradeC p a b) (c + 1) = none) := ⟨HMiss.out (by rw [HT.out, decide_eq_false hcd]; rfl)⟩
                    clear HT HMiss
                    go_wp2_with (go_at_call_of 75 (Value.int .i64 (b : Int)); refine (hask.out wq b hb.out (by omega) (by omega)).mono ?_; rintro e w4 ⟨rfl, hb4⟩)
                    have hB4 : Below w2.heap.size w2 w4 := hb.out.trans (hb4.mono hb.out.size)
                    have hB5 := hB4.alloc hB4.size (Obj.cells #[.int .i64 (a : Int), .int .i64 (b : Int), .int .i64 (c : Int), .int .i64 d] 43)
                    go_roundw
                    case rel => exact ⟨c + 1, by omega, by go_num, ⟨hB5⟩, ⟨fun _ => HN.out⟩⟩
                    case measure => simp only [intOf]; omega
                · have hce : c = 2 ^ n := by have := nat_pow n; omega
                  have HS : Off (firstTo (tradeBs p n a) (b + 1) = none) := ⟨firstTo_miss (hnb.out hpa) (by
                    have := hnc.out hpb
                    rw [hce] at this
                    simp [tradeBs, this])⟩
                  clear hce
                  go_wp2_with (go_at_call 75; refine (hask.out wq b hb.out (by omega) (by omega)).mono ?_; rintro e w4 ⟨rfl, hb4⟩)
                  go_roundw
                  case rel => exact ⟨b + 1, by omega, by omega, by go_num, ⟨hb.out.trans (hb4.mono hb.out.size)⟩, ⟨fun _ => HS.out⟩, (fun h => absurd h (by decide))⟩
                  case measure => simp only [intOf]; omega
          · have hbe : b = 2 ^ n := by have := nat_pow n; omega
            have HS : Off (firstTo (tradeA p n) (a + 1) = none) := ⟨firstTo_miss hno.out (by
              have := hnb.out hpa
              rw [hbe] at this
              simp [tradeA, this])⟩
            clear hbe
            go_wp2_with (go_at_call 75; refine (hask.out wp a hb.out (by omega) (by omega)).mono ?_; rintro e w3 ⟨rfl, hb3⟩)
            go_roundw
            case rel => exact ⟨a + 1, by omega, by go_num, ⟨hb.out.trans (hb3.mono hb.out.size)⟩, HS⟩
            case measure => simp only [intOf]; omega
    · have hae : a = 2 ^ n := by have := nat_pow n; omega
      have hT : Off (tradeVal p n = .tuple #[.agg #[.int .i64 0, .int .i64 0, .int .i64 0, .int .i64 0], .int .i64 10]) := ⟨by
        have := hno.out
        rw [hae] at this
        rw [tradeVal, tradeOf, this]⟩
      have hx3 := (hb.out.block _ hlt2).trans HX.out
      obtain ⟨⟨c0, c1, c2, c3⟩, f0, f1, f2, f3⟩ := four_facts hx3
      clear hx3
      go_wp2
      refine bodyPost_ret (v := .tuple #[.agg #[.int .i64 0, .int .i64 0, .int .i64 0, .int .i64 0], .int .i64 10]) ?_ rfl ⟨by rw [hT.out], ?_⟩
      · simp [results, Try.results29, go_sem, c0, c1, c2, c3]
      · have h1 := HW.out.trans (hb.out.mono HW.out.size)
        exact (((h1.setCell (by simp) _).setCell (by simp) _).setCell (by simp) _).setCell (by simp) _
end Go.Proofs.Ytdbleghnblohgaa
