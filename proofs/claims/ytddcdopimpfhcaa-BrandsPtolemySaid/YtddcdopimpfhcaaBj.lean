/- Contracts: Triangles, Round. -/
import Derived.Test.YtddcdopimpfhcaaBi
namespace Go.Proofs.Ytddcdopimpfhcaa
open Go.RowKit Go.Shelf

theorem made_ints (n : Nat) : (madeCells (Value.int .i64 0).cells (n * 1)).toList = List.replicate n (.int .i64 0) := by
  rw [Nat.mul_one]
  exact toList_madeCells_one _ n
theorem nums_replicate (n : Nat) : nums (List.replicate n 0) = List.replicate n (.int .i64 0) := by simp [nums]
theorem nums_set (xs : List Int) (k : Nat) (v : Int) : nums (xs.set k v) = (nums xs).set k (.int .i64 v) := by simp [nums, List.map_set]
/-- A row of whole numbers at block r that the call owns. -/
structure IRow (w : World) (base r n c : Nat) (xs : List Int) : Prop where
  len : xs.length = n
  own : w.ownsRow base 3 1 (.slice (some ⟨r, 0, none⟩) n c) n (nums xs)
theorem IRow.cell {w : World} {base r n c : Nat} {xs : List Int} (h : IRow w base r n c xs) {i : Nat} (hi : i < n) : w.cell? ⟨r, i, none⟩ = some (.int .i64 (xs.getD i 0)) := by
  rw [h.own.cellAt i (by omega)]
  exact nums_at xs i (by rw [h.len]; exact hi)
theorem IRow.frozen {w : World} {base r n c : Nat} {xs : List Int} (h : IRow w base r n c xs) (i : Nat) : w.frozen? ⟨r, i, none⟩ = false := h.own.frozenAt i
theorem IRow.below {w w1 : World} {base r n c : Nat} {xs : List Int} (h : IRow w base r n c xs) (hb : Below w.heap.size w w1) : IRow w1 base r n c xs := ⟨h.len, owns_below h.own hb⟩
theorem IRow.stored {w : World} {base r n c : Nat} {xs : List Int} (h : IRow w base r n c xs) (i : Nat) (x : Int) : IRow (w.setCell ⟨r, i, none⟩ (.int .i64 x)) base r n c (xs.set i x) ∧ Keeps r w (w.setCell ⟨r, i, none⟩ (.int .i64 x)) := by
  obtain ⟨ho, hg⟩ := h.own.stored i (.int .i64 x)
  exact ⟨⟨by rw [List.length_set]; exact h.len, by rw [nums_set]; exact ho⟩, ⟨hg⟩⟩
theorem IRow.lt {w : World} {base r n c : Nat} {xs : List Int} (h : IRow w base r n c xs) : r < w.heap.size := owns_lt h.own
theorem IRow.toOwn {w : World} {base r n c : Nat} {xs : List Int} (h : IRow w base r n c xs) : Own w base (.slice (some ⟨r, 0, none⟩) n c) xs := ⟨by have := h.own; rw [← h.len] at this ⊢; exact this⟩

theorem Tri_no (n : Int) (l : List (Int × Int)) (A : Option Addr) (c : Nat) (hv : brandB n l = false) (w : World) (hx : PairsI w A l) (hlc : l.length ≤ c) :
    Calls Try.prog 28 #[.int .i64 n, .slice A l.length c] w fun e w' => e = .returned (.tuple #[.slice none 0 0, .int .i64 2]) ∧ Below w.heap.size w w' := by
  have CB := Off.mk (isBrand_any n l A c false hv w hx hlc)
  clear hx hv
  go_enter Try.func28, Try.ntmps28
  go_wp2_with (go_at_call 26; refine CB.out.mono ?_; rintro e w1 ⟨rfl, hb1⟩)
  go_ret2
  exact ⟨rfl, hb1⟩
theorem brand_range {n : Int} {l : List (Int × Int)} (h : brandB n l = true) : 3 ≤ n ∧ n ≤ 12 ∧ (l.length : Int) = n - 3 := by
  rw [brandB, Bool.and_eq_true] at h
  exact of_decide_eq_true h.1
theorem ownT_mono {w : World} {base base' : Nat} {v : Value} {xs : List Tri} (h : OwnT w base v xs) (hb : base' ≤ base) : OwnT w base' v xs := by
  refine ⟨h.out.1, ?_⟩
  rcases h.out.2 with h | ⟨g, cap, cur, e, hg, r⟩
  · exact .inl h
  · exact .inr ⟨g, cap, cur, e, Nat.le_trans hb hg, r⟩
theorem Tri_yes (n : Nat) (l : List (Int × Int)) (A : Option Addr) (c : Nat) (hv : brandB n l = true) (w : World) (hx : PairsI w A l) (hlc : l.length ≤ c) :
    Calls Try.prog 28 #[.int .i64 (n : Int), .slice A l.length c] w fun e w' => ∃ v, e = .returned (.tuple #[v, .int .i64 0]) ∧ OwnT w' w.heap.size v (trisOf (jn n l) n) ∧ Below w.heap.size w w' := by
  have hr := brand_range hv
  have CB := Off.mk (isBrand_any n l A c true hv w hx hlc)
  have CT := Off.mk (fun W (hW : Below w.heap.size w W) => triangles_any n l A c (by omega) W (hx.below hW))
  obtain ⟨ts, hts⟩ : ∃ ts, ts = trisOf (jn n l) n := ⟨_, rfl⟩
  rw [← hts] at CT ⊢
  clear hx hv hr hts
  go_enter Try.func28, Try.ntmps28
  go_wp2_with fail
  refine CB.out.mono ?_
  rintro e w1 ⟨rfl, hb1⟩
  have HB1 := Off.mk hb1
  clear hb1
  go_wp2_with (go_at_call 48; refine (CT.out _ HB1.out).mono ?_; rintro e w2 ⟨v2, rfl, hO2, hb2⟩)
  go_ret2
  exact ⟨v2, rfl, ownT_mono hO2 HB1.out.size, belowC HB1.out hb2⟩

theorem addr_block (ad : Addr) (n : Nat) : (ad.add n).block = ad.block := by unfold Addr.add; split <;> rfl
def bump (out : List Int) (k : Nat) : List Int := out.set k (out.getD k 0 + 1)
def bumps (out : List Int) (t : Tri) : Nat → List Int
  | 0 => out
  | 1 => bump out t.1
  | 2 => bump (bump out t.1) t.2.1
  | _ + 3 => bump (bump (bump out t.1) t.2.1) t.2.2
def roundTo (ts : List Tri) (n : Nat) : Nat → List Int
  | 0 => List.replicate n 0
  | k + 1 => bumps (roundTo ts n k) (ts.getD k (0, 0, 0)) 3
theorem bump_len (out : List Int) (k : Nat) : (bump out k).length = out.length := by rw [bump, List.length_set]
theorem bumps_len (out : List Int) (t : Tri) (k : Nat) : (bumps out t k).length = out.length := by
  rcases k with _ | _ | _ | k <;> simp [bumps, bump_len]
theorem roundTo_len (ts : List Tri) (n k : Nat) : (roundTo ts n k).length = n := by
  induction k with
  | zero => simp [roundTo]
  | succ k ih => rw [roundTo, bumps_len, ih]
theorem bump_get (out : List Int) (k i : Nat) : (bump out k).getD i 0 = out.getD i 0 + if i = k ∧ k < out.length then 1 else 0 := by
  rw [bump, List.getD_eq_getElem?_getD, List.getElem?_set, List.getD_eq_getElem?_getD, List.getD_eq_getElem?_getD]
  by_cases h : k = i
  · subst h
    by_cases h2 : k < out.length
    · simp [h2]
    · simp [h2]
  · rw [if_neg h, if_neg (by omega)]; simp
theorem bumps_range (out : List Int) (t : Tri) (b : Int) (h : ∀ i, 0 ≤ out.getD i 0 ∧ out.getD i 0 ≤ b) (k : Nat) (i : Nat) : 0 ≤ (bumps out t k).getD i 0 ∧ (bumps out t k).getD i 0 ≤ b + 3 := by
  have := h i
  rcases k with _ | _ | _ | k <;> simp only [bumps, bump_get] <;> (repeat' split) <;> omega
theorem roundTo_range (ts : List Tri) (n k i : Nat) : 0 ≤ (roundTo ts n k).getD i 0 ∧ (roundTo ts n k).getD i 0 ≤ 3 * (k : Int) := by
  induction k generalizing i with
  | zero =>
    have : (List.replicate n (0 : Int)).getD i 0 = 0 := by
      rw [List.getD_eq_getElem?_getD, List.getElem?_replicate]; split <;> rfl
    rw [roundTo, this]
    omega
  | succ k ih =>
    have := bumps_range (roundTo ts n k) (ts.getD k (0, 0, 0)) (3 * k) (fun i => ih i) 3 i
    rw [roundTo]
    omega
def triAt (t : Tri) : Nat → Nat
  | 0 => t.1
  | 1 => t.2.1
  | _ => t.2.2
theorem bumps_succ (out : List Int) (t : Tri) (k : Nat) (h : k < 3) : bumps out t (k + 1) = bump (bumps out t k) (triAt t k) := by
  rcases k with _ | _ | _ | k
  · rfl
  · rfl
  · rfl
  · omega
theorem triC_mem (J : Nat → Nat → Bool) (a b : Nat) : ∀ c t, t ∈ triC J a b c → t.1 = a ∧ t.2.1 = b ∧ t.2.2 < c ∧ b < t.2.2 ∧ J a b = true ∧ J b t.2.2 = true ∧ J a t.2.2 = true
  | 0, t, h => by simp [triC] at h
  | c + 1, t, h => by
    rw [triC, List.mem_append] at h
    rcases h with h | h
    · obtain ⟨h1, h2, h3, h4⟩ := triC_mem J a b c t h
      exact ⟨h1, h2, by omega, h4⟩
    · split at h
      · rename_i hc
        simp at h
        subst h
        exact ⟨rfl, rfl, Nat.lt_succ_self _, hc⟩
      · simp at h
theorem triB_mem (J : Nat → Nat → Bool) (n a : Nat) : ∀ b t, t ∈ triB J n a b → a < t.2.1 ∧ t.2.1 < b ∧ t.1 = a ∧ t.2.2 < n ∧ t.2.1 < t.2.2 ∧ J t.1 t.2.1 = true ∧ J t.2.1 t.2.2 = true ∧ J t.1 t.2.2 = true
  | 0, t, h => by simp [triB] at h
  | b + 1, t, h => by
    rw [triB, List.mem_append] at h
    rcases h with h | h
    · obtain ⟨h0, h1, h2⟩ := triB_mem J n a b t h
      exact ⟨h0, by omega, h2⟩
    · split at h
      · obtain ⟨h1, h2, h3, h4, h5, h6, h7⟩ := triC_mem J a b n t h
        rw [h1, h2]
        exact ⟨by omega, by omega, rfl, h3, h4, h5, h6, h7⟩
      · simp at h
theorem triA_mem (J : Nat → Nat → Bool) (n : Nat) : ∀ a t, t ∈ triA J n a → t.1 < a ∧ t.1 < t.2.1 ∧ t.2.1 < t.2.2 ∧ t.2.2 < n ∧ J t.1 t.2.1 = true ∧ J t.2.1 t.2.2 = true ∧ J t.1 t.2.2 = true
  | 0, t, h => by simp [triA] at h
  | a + 1, t, h => by
    rw [triA, List.mem_append] at h
    rcases h with h | h
    · obtain ⟨h1, h2⟩ := triA_mem J n a t h
      exact ⟨by omega, h2⟩
    · obtain ⟨h1, h2, h3, h4, h5, h6⟩ := triB_mem J n a n t h
      exact ⟨by omega, by omega, h5, h4, h6⟩
theorem trisOf_range (J : Nat → Nat → Bool) (n : Nat) {t : Tri} (h : t ∈ trisOf J n) : t.1 < n ∧ t.2.1 < n ∧ t.2.2 < n := by
  have := triA_mem J n n t h
  omega
theorem trisOf_len (J : Nat → Nat → Bool) (n : Nat) (h : n ≤ 12) : (trisOf J n).length ≤ 1728 := by
  have h1 := triA_len J n n
  have e1 : n * n ≤ 12 * 12 := Nat.mul_le_mul h h
  have e2 : n * (n * n) ≤ 12 * (12 * 12) := Nat.mul_le_mul h e1
  unfold trisOf
  omega
/-- How many triangles have each corner. -/
def roundOf (n : Nat) (l : List (Int × Int)) : List Int := roundTo (trisOf (jn n l) n) n (trisOf (jn n l) n).length

theorem Round_no (n : Int) (l : List (Int × Int)) (A : Option Addr) (c : Nat) (hv : brandB n l = false) (w : World) (hx : PairsI w A l) (hlc : l.length ≤ c) :
    Calls Try.prog 30 #[.int .i64 n, .slice A l.length c] w fun e w' => e = .returned (.tuple #[.slice none 0 0, .int .i64 2]) ∧ Below w.heap.size w w' := by
  have CB := Off.mk (isBrand_any n l A c false hv w hx hlc)
  clear hx hv
  go_enter Try.func30, Try.ntmps30
  go_wp2_with (go_at_call 26; refine CB.out.mono ?_; rintro e w1 ⟨rfl, hb1⟩)
  go_ret2
  exact ⟨rfl, hb1⟩
set_option maxHeartbeats 4000000 in
theorem Round_yes (n : Nat) (l : List (Int × Int)) (A : Option Addr) (c : Nat) (hv : brandB n l = true) (w : World) (hx : PairsI w A l) (hlc : l.length ≤ c) :
    Calls Try.prog 30 #[.int .i64 (n : Int), .slice A l.length c] w fun e w' => ∃ v, e = .returned (.tuple #[v, .int .i64 0]) ∧ Own w' w.heap.size v (roundOf n l) ∧ Below w.heap.size w w' := by
  have hr := brand_range hv
  have CB := Off.mk (isBrand_any n l A c true hv w hx hlc)
  have CT := Off.mk (fun W (hW : Below w.heap.size w W) => triangles_any n l A c (by omega) W (hx.below hW))
  obtain ⟨i0, hi, hz0, hz1, hz2⟩ := info_parts info3
  have hl12 := trisOf_len (jn n l) n (by omega)
  have HR : Off (∀ t, t ∈ trisOf (jn n l) n → t.1 < n ∧ t.2.1 < n ∧ t.2.2 < n) := ⟨fun t h => trisOf_range _ _ h⟩
  have HD : Off (roundOf n l = roundTo (trisOf (jn n l) n) n (trisOf (jn n l) n).length) := ⟨rfl⟩
  have hn12 : n ≤ 12 := by omega
  obtain ⟨ts, hts⟩ : ∃ ts, ts = trisOf (jn n l) n := ⟨_, rfl⟩
  rw [← hts] at CT hl12 HR HD
  clear hx hv hr hts
  go_enter Try.func30, Try.ntmps30
  go_wp2_with fail
  refine CB.out.mono ?_
  rintro e w1 ⟨rfl, hb1⟩
  have HB1 := Off.mk hb1
  clear hb1 CB
  go_wp2_with (at_make; refine wpList_make_full _ rfl _ _ 45 rfl w.heap.size 3 i0 (.int .i64 0) 1 Try.underlying45 hi hz0 hz1 .i64 .i64 n n n rfl rfl rfl rfl (by rw [hz2]; omega) (by unfold maxLen; omega) HB1.out.size ?_; intro w2 hown2 hg2; rw [made_ints] at hown2)
  have hR2 : IRow w2 w.heap.size w1.heap.size n n (roundTo ts n 0) := ⟨roundTo_len _ _ _, by rw [roundTo, nums_replicate]; exact hown2⟩
  have HB2 := Off.mk (HB1.out.grown hg2 HB1.out.size (fun _ e => by cases e))
  obtain ⟨r, hr⟩ : ∃ r, r = w1.heap.size := ⟨_, rfl⟩
  have HR2 := Off.mk hR2
  rw [← hr] at HR2 ⊢
  have Hr : Off (w.heap.size ≤ r) := ⟨by rw [hr]; exact HB1.out.size⟩
  clear hown2 hg2 hr hR2
  go_wp2_with fail
  refine (CT.out _ HB2.out).mono ?_
  rintro e w3 ⟨v3, rfl, hO3, hb3⟩
  obtain ⟨A3, c3, rfl, hT3⟩ := ownT_tris hO3 (by omega)
  have HT3 := Off.mk hT3
  have HB3 := Off.mk (belowC HB2.out hb3)
  have HR3 := Off.mk (HR2.out.below hb3)
  have Hr3 : Off (r < w2.heap.size) := ⟨HR2.out.lt⟩
  have HN : Off (∀ j, j < ts.length → ∀ ad, A3 = some ad → ad.block ≠ r) := ⟨fun j hj ad e => by
    subst e
    have := ownT_base hO3 (k := ad.block) (by rcases hO3.out.2 with ⟨e, _⟩ | ⟨g, cap, cur, e, _⟩ <;> simp at e <;> simp [Value.ownBlock, e])
    have := Hr3.out
    omega⟩
  clear hO3 hT3 hb3 HB2 HR2 CT
  go_wp2
  have hz8 : ∀ x : Nat, x < n → (0 : Int) ≤ (x : Int) ∧ (x : Int) < (n : Int) := fun x hx => by omega
  have HZ8 := Off.mk hz8
  clear hz8
  go_loopw [21] (fun kv wr => ∃ k : Nat, k ≤ ts.length ∧ kv = .int .i64 k ∧ Off (IRow wr w.heap.size r n n (roundTo ts n k)) ∧ Off (Keeps r w3 wr)) (fun kv _ => ts.length - (intOf kv).toNat)
  case atStart => exact ⟨0, by omega, rfl, HR3, ⟨Keeps.refl _ _⟩⟩
  case round =>
    clear HR3
    obtain ⟨k, hk, rfl, HI, HK⟩ := hrel
    by_cases hkt : k < ts.length
    · obtain ⟨ad, rfl, c0, c1, c2⟩ := HT3.out.cell k hkt
      have hne := HN.out k hkt ad rfl
      have c0 := HK.out.cell c0 (by rw [addr_block]; exact hne)
      have c1 := HK.out.cell c1 (by show (ad.add (k * 3)).block ≠ r; rw [addr_block]; exact hne)
      have c2 := HK.out.cell c2 (by show (ad.add (k * 3)).block ≠ r; rw [addr_block]; exact hne)
      have ht : ts.getD k (0, 0, 0) ∈ ts := by rw [List.getD_eq_getElem?_getD, List.getElem?_eq_getElem hkt]; exact List.getElem_mem hkt
      have hrt := HR.out _ ht
      have HE : Off (roundTo ts n (k + 1) = bumps (roundTo ts n k) (ts.getD k (0, 0, 0)) 3) := ⟨rfl⟩
      obtain ⟨t, htt⟩ : ∃ t, t = ts.getD k (0, 0, 0) := ⟨_, rfl⟩
      rw [← htt] at c0 c1 c2 hrt HE
      have hrg := roundTo_range ts n k
      have hrlen := roundTo_len ts n k
      obtain ⟨o, ho⟩ : ∃ o, o = roundTo ts n k := ⟨_, rfl⟩
      rw [← ho] at hrg HE HI hrlen
      have HG : Off (∀ j i, 0 ≤ (bumps o t j).getD i 0 ∧ (bumps o t j).getD i 0 ≤ 10000) := ⟨fun j i => by
        have := bumps_range o t (3 * k) hrg j i
        omega⟩
      have HL : Off (o.length = n) := ⟨hrlen⟩
      have hkI : (k : Int) < (ts.length : Int) := by omega
      have HI0 : Off (IRow (wr.alloc (.cells #[.int .i64 (t.1 : Int), .int .i64 (t.2.1 : Int), .int .i64 (t.2.2 : Int)] 44)) w.heap.size r n n (bumps o t 0)) := ⟨HI.out.below ((Below.refl _ _).alloc (Nat.le_refl _) _)⟩
      have HK0 : Off (Keeps r w3 (wr.alloc (.cells #[.int .i64 (t.1 : Int), .int .i64 (t.2.1 : Int), .int .i64 (t.2.2 : Int)] 44))) := ⟨HK.out.trans (Keeps.of_below ((Below.refl _ _).alloc (Nat.le_refl _) _))⟩
      have HTA : Off (t.1 < n ∧ t.2.1 < n ∧ t.2.2 < n) := ⟨hrt⟩
      have i0 : ∀ W, (Instr.index 44 (.agg #[.int .i64 (t.1 : Int), .int .i64 (t.2.1 : Int), .int .i64 (t.2.2 : Int)]) (.int .i64 0)).run Try.prog W = .ok (.int .i64 (t.1 : Int)) W := fun _ => by kernel_rfl
      have i1 : ∀ W, (Instr.index 44 (.agg #[.int .i64 (t.1 : Int), .int .i64 (t.2.1 : Int), .int .i64 (t.2.2 : Int)]) (.int .i64 1)).run Try.prog W = .ok (.int .i64 (t.2.1 : Int)) W := fun _ => by kernel_rfl
      have i2 : ∀ W, (Instr.index 44 (.agg #[.int .i64 (t.1 : Int), .int .i64 (t.2.1 : Int), .int .i64 (t.2.2 : Int)]) (.int .i64 2)).run Try.prog W = .ok (.int .i64 (t.2.2 : Int)) W := fun _ => by kernel_rfl
      clear htt ho hrg hrlen ht hrt HI HK
      go_wp2
      go_loopw [26] (fun jv wr => ∃ j : Nat, j ≤ 3 ∧ jv = .int .i64 j ∧ Off (IRow wr w.heap.size r n n (bumps o t j)) ∧ Off (Keeps r w3 wr)) (fun jv _ => 3 - (intOf jv).toNat)
      case atStart => exact ⟨0, by omega, rfl, HI0, HK0⟩
      case round =>
        clear HI0 HK0 c0 c1 c2
        obtain ⟨j, hj, rfl, HI, HK⟩ := hrel
        by_cases hj3 : j < 3
        · have HS := Off.mk (bumps_succ o t j hj3)
          have ha : triAt t j < n := by have := HTA.out; rcases j with _ | _ | _ | j <;> simp only [triAt] <;> omega
          have hx := HI.out.cell ha
          have hf := HI.out.frozen (triAt t j)
          have hg := HG.out j (triAt t j)
          have HB' : Off (bumps o t (j + 1) = (bumps o t j).set (triAt t j) ((bumps o t j).getD (triAt t j) 0 + 1)) := HS
          obtain ⟨x, hxx⟩ : ∃ x, x = (bumps o t j).getD (triAt t j) 0 := ⟨_, rfl⟩
          rw [← hxx] at hx hg HB'
          have ha2 := HZ8.out _ ha
          have ha0 := ha2.1
          have ha1 := ha2.2
          have HI2 := Off.mk (HI.out.stored (triAt t j) (x + 1))
          clear hxx HS ha2
          obtain rfl | rfl | rfl : j = 0 ∨ j = 1 ∨ j = 2 := by omega
          · simp only [triAt] at hx hf ha0 ha1 ha HI2 HB' hg
            go_wp2
            go_roundw
            case rel => exact ⟨1, by omega, by go_num, ⟨by rw [HB'.out]; exact HI2.out.1⟩, ⟨HK.out.trans HI2.out.2⟩⟩
            case measure => simp only [intOf]; omega
          · simp only [triAt] at hx hf ha0 ha1 ha HI2 HB' hg
            go_wp2
            go_roundw
            case rel => exact ⟨2, by omega, by go_num, ⟨by rw [HB'.out]; exact HI2.out.1⟩, ⟨HK.out.trans HI2.out.2⟩⟩
            case measure => simp only [intOf]; omega
          · simp only [triAt] at hx hf ha0 ha1 ha HI2 HB' hg
            go_wp2
            go_roundw
            case rel => exact ⟨3, by omega, by go_num, ⟨by rw [HB'.out]; exact HI2.out.1⟩, ⟨HK.out.trans HI2.out.2⟩⟩
            case measure => simp only [intOf]; omega
        · obtain rfl : j = 3 := by omega
          go_wp2
          go_roundw
          case rel => exact ⟨k + 1, by omega, by go_num, ⟨by rw [HE.out]; exact HI.out⟩, HK⟩
          case measure => simp only [intOf]; omega
    · obtain rfl : k = ts.length := by omega
      have HF : Off (Below w.heap.size w wr) := ⟨Keeps.below HB3.out HK.out HB3.out.size Hr.out⟩
      go_wp2
      go_ret2
      exact ⟨_, rfl, by rw [HD.out]; exact HI.out.toOwn, HF.out⟩
end Go.Proofs.Ytddcdopimpfhcaa
