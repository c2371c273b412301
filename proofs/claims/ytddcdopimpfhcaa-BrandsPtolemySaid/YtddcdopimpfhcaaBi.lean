/- Triples of numbers in memory; triangles. -/
import Derived.Test.YtddcdopimpfhcaaBh
namespace Go.Proofs.Ytddcdopimpfhcaa
open Go.RowKit Go.Shelf

abbrev Tri := Nat × Nat × Nat
/-- Triples of numbers lie in memory. -/
structure TrisI (w : World) (A : Option Addr) (xs : List Tri) : Prop where
  len : xs.length ≤ 140737488351232
  cell : ∀ j, j < xs.length → ∃ ad, A = some ad ∧ w.cell? (ad.add (j * 3)) = some (.int .i64 ((xs.getD j (0, 0, 0)).1 : Int)) ∧ w.cell? ⟨(ad.add (j * 3)).block, (ad.add (j * 3)).off + 1, none⟩ = some (.int .i64 ((xs.getD j (0, 0, 0)).2.1 : Int)) ∧
    w.cell? ⟨(ad.add (j * 3)).block, (ad.add (j * 3)).off + 2, none⟩ = some (.int .i64 ((xs.getD j (0, 0, 0)).2.2 : Int))
theorem TrisI.below {w w1 : World} {A : Option Addr} {xs : List Tri} (h : TrisI w A xs) (hb : Below w.heap.size w w1) : TrisI w1 A xs :=
  ⟨h.len, fun j hj => by obtain ⟨ad, e, h1, h2, h3⟩ := h.cell j hj; exact ⟨ad, e, cellB hb h1, cellB hb h2, cellB hb h3⟩⟩
theorem info44 : (Try.prog.info? 44).map (fun i => (i.zero, i.size, i.bytes)) = some (some (.agg #[.int .i64 0, .int .i64 0, .int .i64 0]), 3, 24) := by kernel_rfl
def triCells (xs : List Tri) : List Value := xs.flatMap fun x => [.int .i64 (x.1 : Int), .int .i64 (x.2.1 : Int), .int .i64 (x.2.2 : Int)]
/-- A row of triples of the call's own. -/
structure OwnT (w : World) (base : Nat) (v : Value) (xs : List Tri) : Prop where
  out : w.ownsRow base 44 3 v xs.length (triCells xs)
theorem ownT_below {w w1 : World} {base : Nat} {v : Value} {xs : List Tri} (h : OwnT w base v xs) (hb : Below w.heap.size w w1) : OwnT w1 base v xs :=
  ⟨h.out.kept (row := none) ⟨hb.os, hb.tape, hb.output, hb.size, fun i hi _ => hb.block i hi⟩ (by cases v.ownBlock <;> simp)⟩
theorem ownT_base {w : World} {base : Nat} {v : Value} {xs : List Tri} (h : OwnT w base v xs) {k : Nat} (hk : v.ownBlock = some k) : base ≤ k := by
  rcases h.out.2 with ⟨rfl, _⟩ | ⟨g, cap, cur, rfl, hb, _⟩
  · simp [Value.ownBlock] at hk
  · have : g = k := by simpa [Value.ownBlock] using hk
    omega
theorem triCells_len (xs : List Tri) : (triCells xs).length = xs.length * 3 := by
  induction xs with
  | nil => rfl
  | cons x xs ih => simp only [triCells, List.flatMap_cons, List.length_append, List.length_cons, List.length_nil] at *; omega
theorem triCells_at (xs : List Tri) : ∀ j, j < xs.length → (triCells xs)[j * 3]? = some (.int .i64 ((xs.getD j (0, 0, 0)).1 : Int)) ∧ (triCells xs)[j * 3 + 1]? = some (.int .i64 ((xs.getD j (0, 0, 0)).2.1 : Int)) ∧ (triCells xs)[j * 3 + 2]? = some (.int .i64 ((xs.getD j (0, 0, 0)).2.2 : Int)) := by
  induction xs with
  | nil => intro j hj; simp at hj
  | cons x xs ih =>
    intro j hj
    cases j with
    | zero => simp [triCells]
    | succ j =>
      have h := ih j (by simpa using hj)
      have e : (j + 1) * 3 = j * 3 + 3 := by omega
      rw [e]
      simpa [triCells] using h
theorem ownT_nil (w : World) (base : Nat) : OwnT w base (.slice none 0 0) [] := ⟨World.ownsRow_nil _ _ _ _⟩
theorem ownT_tris {w : World} {base : Nat} {v : Value} {xs : List Tri} (h : OwnT w base v xs) (hx : xs.length ≤ 140737488351232) : ∃ A c, v = .slice A xs.length c ∧ TrisI w A xs := by
  rcases h.out.2 with ⟨rfl, h1⟩ | ⟨g, cap, cur, rfl, hb, hh, hc, _⟩
  · obtain rfl : xs = [] := List.length_eq_zero_iff.1 h1
    exact ⟨none, 0, rfl, ⟨by simp, fun j hj => by simp at hj⟩⟩
  · refine ⟨_, cap, rfl, ⟨hx, fun j hj => ⟨⟨g, 0, none⟩, rfl, ?_, ?_, ?_⟩⟩⟩
    · have := h.out.cellAt (j * 3) (by omega)
      rw [Addr.add_lit, Nat.zero_add, this]
      exact (triCells_at xs j hj).1
    · have := h.out.cellAt (j * 3 + 1) (by omega)
      simp only [Addr.add_lit, Nat.zero_add]
      rw [this]
      exact (triCells_at xs j hj).2.1
    · have := h.out.cellAt (j * 3 + 2) (by omega)
      simp only [Addr.add_lit, Nat.zero_add]
      rw [this]
      exact (triCells_at xs j hj).2.2
/-- A triple more in a list of triples. -/
theorem wpList_tri {w : World} {ops : Array Oper} {rest : List Oper} {o : Oper} {a : Act} {Q : Exit → Act → World → Prop} (hgd : o.guard = none) (s x : Operand)
    (ho : o.op = .call { callee := .builtin .append, args := #[s, x], argTypes := #[41, 41] }) (base : Nat) (v : Value) (xs : List Tri) (i j k : Nat) (hO : OwnT w base v xs) (hb : base ≤ w.heap.size) (h100 : xs.length ≤ 3000)
    (hs : a.eval s = v) (hx : a.eval x = .slice (some ⟨w.heap.size, 0, none⟩) 1 1)
    (h : ∀ v' w', OwnT w' base v' (xs ++ [(i, j, k)]) → Below base w w' → wpList Try.prog ops Q rest (a.put o.dst v') w') :
    wpList Try.prog ops Q (o :: rest) a (w.alloc (.cells #[.int .i64 (i : Int), .int .i64 (j : Int), .int .i64 (k : Int)] 44)) := by
  obtain ⟨j0, hj, hy0, hy1, hy2⟩ := info_parts info44
  refine wpList_plain hgd fun K hK => ?_
  have c1 : ∀ q u, ([.int .i64 (i : Int), .int .i64 (j : Int), .int .i64 (k : Int)] : List Value)[q]? = some u → (w.alloc (.cells #[.int .i64 (i : Int), .int .i64 (j : Int), .int .i64 (k : Int)] 44)).cell? ((⟨w.heap.size, 0, none⟩ : Addr).add q) = some u := by
    intro q u hk
    match q, hk with
    | 0, hk => simp at hk; subst hk; simp [Addr.add_lit]
    | 1, hk => simp at hk; subst hk; simp [Addr.add_lit]
    | 2, hk => simp at hk; subst hk; simp [Addr.add_lit]
  have c2 : ∀ u ∈ ([.int .i64 (i : Int), .int .i64 (j : Int), .int .i64 (k : Int)] : List Value), u.oneCell' = true := by intro u hu; simp at hu; rcases hu with rfl | rfl | rfl <;> rfl
  obtain ⟨v', w', hr, h2, h3, h4⟩ := run_append_own (P := Try.prog) _ base 41 o.type 44 j0 _ 3 24 Try.underlying41 hj hy0 hy1 hy2 rfl (by decide) v xs.length _ (hO.out.alloc _) ⟨w.heap.size, 0, none⟩ 1 1 _ rfl c1 c2 (by unfold maxLen; omega) (by omega) (by simp; omega)
  have hB : Below base w w' := ((Below.refl _ _).alloc hb _).grown h3 (by simp; omega) (fun k e => ownT_base hO e)
  unfold Oper.wp execOp
  simp only [ho, resolve, invoke, builtin, Sem.run_bind, Sem.run_pure, Result.andThen_ok, List.map_toArray, List.map_cons, List.map_nil, hs, hx, hr]
  refine hK _ _ (h v' w' ⟨by rw [List.length_append]; simpa [triCells] using h2⟩ hB)

/-- The triangles a, b and a corner below c. -/
def triC (J : Nat → Nat → Bool) (a b : Nat) : Nat → List Tri
  | 0 => []
  | c + 1 => triC J a b c ++ if b < c ∧ J a b = true ∧ J b c = true ∧ J a c = true then [(a, b, c)] else []
def triB (J : Nat → Nat → Bool) (n a : Nat) : Nat → List Tri
  | 0 => []
  | b + 1 => triB J n a b ++ if a < b then triC J a b n else []
def triA (J : Nat → Nat → Bool) (n : Nat) : Nat → List Tri
  | 0 => []
  | a + 1 => triA J n a ++ triB J n a n
theorem triC_low (J : Nat → Nat → Bool) (a b : Nat) : ∀ c, c ≤ b + 1 → triC J a b c = []
  | 0, _ => rfl
  | c + 1, h => by rw [triC, triC_low J a b c (by omega), if_neg (by omega)]; rfl
theorem triB_low (J : Nat → Nat → Bool) (n a : Nat) : ∀ b, b ≤ a + 1 → triB J n a b = []
  | 0, _ => rfl
  | b + 1, h => by rw [triB, triB_low J n a b (by omega), if_neg (by omega)]; rfl
theorem triC_len (J : Nat → Nat → Bool) (a b : Nat) : ∀ c, (triC J a b c).length ≤ c
  | 0 => Nat.le_refl _
  | c + 1 => by
    have := triC_len J a b c
    rw [triC, List.length_append]
    split <;> simp <;> omega
theorem triB_len (J : Nat → Nat → Bool) (n a : Nat) : ∀ b, (triB J n a b).length ≤ b * n
  | 0 => by simp [triB]
  | b + 1 => by
    have := triB_len J n a b
    have h2 := triC_len J a b n
    rw [triB, List.length_append, Nat.succ_mul]
    split <;> simp <;> omega
theorem triA_len (J : Nat → Nat → Bool) (n : Nat) : ∀ a, (triA J n a).length ≤ a * (n * n)
  | 0 => by simp [triA]
  | a + 1 => by
    have := triA_len J n a
    have h2 := triB_len J n a n
    rw [triA, List.length_append, Nat.succ_mul]
    omega
/-- All triangles. -/
def trisOf (J : Nat → Nat → Bool) (n : Nat) : List Tri := triA J n n
def jn (n : Nat) (l : List (Int × Int)) (a b : Nat) : Bool := joinB n l a b

set_option maxHeartbeats 4000000 in
theorem triangles_any (n : Nat) (l : List (Int × Int)) (A : Option Addr) (c : Nat) (hn : 3 ≤ n ∧ n ≤ 12) (w : World) (hx : PairsI w A l) :
    Calls Try.prog 48 #[.int .i64 (n : Int), .slice A l.length c] w fun e w' => ∃ v, e = .returned v ∧ OwnT w' w.heap.size v (trisOf (jn n l) n) ∧ Below w.heap.size w w' := by
  obtain ⟨h3, h12⟩ := hn
  have CJ : Off (∀ W, Below w.heap.size w W → ∀ a b : Nat, a < n → b < n → ∀ v, jn n l a b = v → Calls Try.prog 74 #[.int .i64 (n : Int), .slice A l.length c, .int .i64 (a : Int), .int .i64 (b : Int)] W fun e w' => e = .returned (.bool v) ∧ Below W.heap.size W w') :=
    ⟨fun W hW a b ha hb v hv => joined_any n a b l A c v hv (by omega) (by omega) (by omega) W (hx.below hW)⟩
  have HT : Off (trisOf (jn n l) n = triA (jn n l) n n) := ⟨rfl⟩
  obtain ⟨J, hJ⟩ : ∃ J, J = jn n l := ⟨_, rfl⟩
  rw [← hJ] at CJ HT
  rw [show jn n l = J from hJ.symm]
  clear hJ hx
  have hlens : Off (∀ a b k : Nat, a < n → b ≤ n → k ≤ n → (triA J n a ++ (triB J n a b ++ triC J a b k)).length ≤ 2500) := ⟨fun a b k ha hb hk => by
    have h1 := triA_len J n a
    have h2 := triB_len J n a b
    have h3 := triC_len J a b k
    have e1 : n * n ≤ 12 * 12 := Nat.mul_le_mul h12 h12
    have e2 : a * (n * n) ≤ 11 * (12 * 12) := Nat.mul_le_mul (by omega) e1
    have e3 : b * n ≤ 12 * 12 := Nat.mul_le_mul (by omega) h12
    simp only [List.length_append]
    omega⟩
  go_enter Try.func48, Try.ntmps48
  go_wp2
  go_loopw [5, 10] (fun v av wr => ∃ a : Nat, a ≤ n ∧ av = .int .i64 a ∧ Off (OwnT wr w.heap.size v (triA J n a)) ∧ Off (Below w.heap.size w wr)) (fun _ av _ => n - (intOf av).toNat)
  case atStart => exact ⟨0, by omega, rfl, ⟨ownT_nil _ _⟩, ⟨Below.refl _ _⟩⟩
  case round =>
    obtain ⟨a, ha, rfl, HO, HB⟩ := hrel
    obtain ⟨wa, rfl⟩ : ∃ wo : World, wo = wr := ⟨_, rfl⟩
    by_cases han : a < n
    · have HO1 : Off (OwnT wa w.heap.size u5 (triA J n a ++ triB J n a (a + 1))) := ⟨by rw [triB_low J n a (a + 1) (by omega), List.append_nil]; exact HO.out⟩
      clear HO
      go_wp2
      go_loopw [5, 7] (fun v bv wr => ∃ b : Nat, a < b ∧ b ≤ n ∧ bv = .int .i64 b ∧ Off (OwnT wr w.heap.size v (triA J n a ++ triB J n a b)) ∧ Off (Below w.heap.size w wr)) (fun _ bv _ => n - (intOf bv).toNat)
      case atStart => exact ⟨a + 1, by omega, by omega, by go_num, HO1, HB⟩
      case round =>
        clear HO1 HB
        obtain ⟨b, hab, hb, rfl, HO, HB⟩ := hrel
        obtain ⟨wb, rfl⟩ : ∃ wo : World, wo = wr := ⟨_, rfl⟩
        by_cases hbn : b < n
        · have HO1 : Off (OwnT wb w.heap.size u5 (triA J n a ++ (triB J n a b ++ triC J a b (b + 1)))) := ⟨by rw [triC_low J a b (b + 1) (by omega), List.append_nil]; exact HO.out⟩
          have HE : Off (triA J n a ++ triB J n a (b + 1) = triA J n a ++ (triB J n a b ++ triC J a b n)) := ⟨by rw [triB, if_pos hab]⟩
          clear HO
          go_wp2
          go_loopw [5, 8] (fun v cv wr => ∃ k : Nat, b < k ∧ k ≤ n ∧ cv = .int .i64 k ∧ Off (OwnT wr w.heap.size v (triA J n a ++ (triB J n a b ++ triC J a b k))) ∧ Off (Below w.heap.size w wr)) (fun _ cv _ => n - (intOf cv).toNat)
          case atStart => exact ⟨b + 1, by omega, by omega, by go_num, HO1, HB⟩
          case round =>
            clear HO1 HB
            obtain ⟨k, hbk, hk, rfl, HO, HB⟩ := hrel
            obtain ⟨wc, rfl⟩ : ∃ wo : World, wo = wr := ⟨_, rfl⟩
            by_cases hkn : k < n
            · have C1 := Off.mk (fun W hW => CJ.out W hW a b han hbn)
              have C2 := Off.mk (fun W hW => CJ.out W hW b k hbn hkn)
              have C3 := Off.mk (fun W hW => CJ.out W hW a k han hkn)
              have HS : Off (triA J n a ++ (triB J n a b ++ triC J a b (k + 1)) = (triA J n a ++ (triB J n a b ++ triC J a b k)) ++ if b < k ∧ J a b = true ∧ J b k = true ∧ J a k = true then [(a, b, k)] else []) := ⟨by rw [triC]; simp only [List.append_assoc]⟩
              have hl := hlens.out a b k han hb hk
              obtain ⟨ys, hys⟩ : ∃ ys, ys = triA J n a ++ (triB J n a b ++ triC J a b k) := ⟨_, rfl⟩
              rw [← hys] at HS HO hl
              clear hys HE
              obtain ⟨j1, h1⟩ : ∃ x, J a b = x := ⟨_, rfl⟩
              obtain ⟨j2, h2⟩ : ∃ x, J b k = x := ⟨_, rfl⟩
              obtain ⟨j3, h3'⟩ : ∃ x, J a k = x := ⟨_, rfl⟩
              have D1 := Off.mk (fun W hW => C1.out W hW j1 h1)
              have D2 := Off.mk (fun W hW => C2.out W hW j2 h2)
              have D3 := Off.mk (fun W hW => C3.out W hW j3 h3')
              rw [h1, h2, h3'] at HS
              clear C1 C2 C3 h1 h2 h3'
              cases j1
              · have HN : Off (triA J n a ++ (triB J n a b ++ triC J a b (k + 1)) = ys) := ⟨by rw [HS.out]; simp⟩
                clear D2 D3 HS
                go_wp2_with (go_at_call 74; refine (D1.out _ HB.out).mono ?_; rintro e w1 ⟨rfl, hb1⟩)
                go_roundw
                case rel => exact ⟨k + 1, by omega, by omega, by go_num, ⟨by rw [HN.out]; exact ownT_below HO.out hb1⟩, ⟨belowC HB.out hb1⟩⟩
                case measure => simp only [intOf]; omega
              · cases j2
                · have HN : Off (triA J n a ++ (triB J n a b ++ triC J a b (k + 1)) = ys) := ⟨by rw [HS.out]; simp⟩
                  clear D3 HS
                  go_wp2_with fail
                  refine (D1.out _ HB.out).mono ?_
                  rintro e w1 ⟨rfl, hb1⟩
                  have HB1 := Off.mk (belowC HB.out hb1)
                  have HO1 := Off.mk (ownT_below HO.out hb1)
                  clear hb1 HB HO
                  go_wp2_with (go_at_call 74; refine (D2.out _ HB1.out).mono ?_; rintro e w2 ⟨rfl, hb2⟩)
                  go_roundw
                  case rel => exact ⟨k + 1, by omega, by omega, by go_num, ⟨by rw [HN.out]; exact ownT_below HO1.out hb2⟩, ⟨belowC HB1.out hb2⟩⟩
                  case measure => simp only [intOf]; omega
                · go_wp2_with fail
                  refine (D1.out _ HB.out).mono ?_
                  rintro e w1 ⟨rfl, hb1⟩
                  have HB1 := Off.mk (belowC HB.out hb1)
                  have HO1 := Off.mk (ownT_below HO.out hb1)
                  clear hb1 HB HO
                  go_wp2_with fail
                  refine (D2.out _ HB1.out).mono ?_
                  rintro e w2 ⟨rfl, hb2⟩
                  have HB2 := Off.mk (belowC HB1.out hb2)
                  have HO2 := Off.mk (ownT_below HO1.out hb2)
                  clear hb2 HB1 HO1
                  go_wp2_with fail
                  refine (D3.out _ HB2.out).mono ?_
                  rintro e w3 ⟨rfl, hb3⟩
                  have HB3 := Off.mk (belowC HB2.out hb3)
                  have HO3 := Off.mk (ownT_below HO2.out hb3)
                  clear hb3 HB2 HO2 D1 D2 D3
                  cases j3
                  · have HN : Off (triA J n a ++ (triB J n a b ++ triC J a b (k + 1)) = ys) := ⟨by rw [HS.out]; simp⟩
                    clear HS
                    go_wp2
                    go_roundw
                    case rel => exact ⟨k + 1, by omega, by omega, by go_num, ⟨by rw [HN.out]; exact HO3.out⟩, HB3⟩
                    case measure => simp only [intOf]; omega
                  · have HN : Off (triA J n a ++ (triB J n a b ++ triC J a b (k + 1)) = ys ++ [(a, b, k)]) := ⟨by rw [HS.out]; simp [hbk]⟩
                    clear HS
                    go_wp2_with (at_builtin; refine wpList_tri rfl _ _ rfl w.heap.size _ ys a b k HO3.out HB3.out.size (by omega) rfl rfl ?_)
                    intro v5 w5 hO5 hb5
                    have HO5 := Off.mk hO5
                    have HB5 := Off.mk (HB3.out.trans hb5)
                    clear hO5 hb5 HB3 HO3
                    go_wp2
                    go_roundw
                    case rel => exact ⟨k + 1, by omega, by omega, by go_num, ⟨by rw [HN.out]; exact HO5.out⟩, HB5⟩
                    case measure => simp only [intOf]; omega
            · obtain rfl : k = n := by omega
              go_wp2
              go_roundw
              case rel => exact ⟨b + 1, by omega, by omega, by go_num, ⟨by rw [HE.out]; exact HO.out⟩, HB⟩
              case measure => simp only [intOf]; omega
        · obtain rfl : b = n := by omega
          have HE : Off (triA J b (a + 1) = triA J b a ++ triB J b a b) := ⟨rfl⟩
          go_wp2
          go_roundw
          case rel => exact ⟨a + 1, by omega, by go_num, ⟨by rw [HE.out]; exact HO.out⟩, HB⟩
          case measure => simp only [intOf]; omega
    · obtain rfl : a = n := by omega
      go_wp2
      go_ret
      exact ⟨_, rfl, by rw [HT.out]; exact HO.out, HB.out⟩
end Go.Proofs.Ytddcdopimpfhcaa
