/- Contracts: Ends of the program, Ends and Back of the specification. -/
import Derived.Test.YtnhbkopgbibcgaaHd
namespace Go.Proofs.Ytnhbkopgbibcgaa
open Go.RowKit Go.Shelf

/-- What Ends hands back. -/
def EndsPost (a b : Int) (l : List Int) (w : World) (e : Ending) (w' : World) : Prop :=
  ∃ v1 v2, e = .returned (.tuple #[v1, v2, .int .i64 (if askedB a b l then 0 else 2)]) ∧ OwnP w' w.heap.size v1 (if askedB a b l then endPlots b.toNat l else []) ∧ OwnP w' w.heap.size v2 (if askedB a b l then nextPlots b.toNat l else []) ∧ Below w.heap.size w w'
theorem ownP_nil (w : World) (base : Nat) : OwnP w base (.slice none 0 0) [] := ⟨World.ownsRow_nil _ _ _ _⟩

set_option maxHeartbeats 4000000 in
set_option maxRecDepth 100000 in
theorem Ends_any (a b : Int) (l : List Int) (A : Option Addr) (c : Nat) (w : World) (hl : IntsAt w A l) (hlc : l.length ≤ c) (hA : A = none → c = 0) :
    Calls Try.prog 37 #[.int .i64 a, .int .i64 b, .slice A l.length c] w fun e w' => EndsPost a b l w e w' := by
  have CR := Off.mk (read_any a b l A c w hl hlc hA)
  clear hl
  cases hk : askedB a b l
  · have HK := Off.mk hk
    clear hk
    go_enter Try.func37, Try.ntmps37
    go_wp2_with fail
    refine CR.out.mono ?_
    rintro e w1 ⟨v1, rfl, _, hv, hb1⟩
    obtain rfl := hv HK.out
    rw [HK.out]
    go_wp2
    refine bodyPost_ret (v := .tuple #[.slice none 0 0, .slice none 0 0, .int .i64 2]) (by simp [results, Try.results37, go_sem]) rfl ⟨_, _, by rw [HK.out]; rfl, by rw [HK.out]; exact ownP_nil _ _, by rw [HK.out]; exact ownP_nil _ _, belowA hb1 _⟩
  · have HK := Off.mk hk
    obtain ⟨n, m, rfl, rfl, hn, hn1, hn6, hm1, hm6, hs⟩ := asked_nat hk
    have HN := Off.mk hn
    have CE : Off (∀ W r c, IntsAt W (some ⟨r, 0, none⟩) l → Calls Try.prog 68 #[.slice (some ⟨r, 0, none⟩) n c, .int .i64 (m : Int), .func (.func 69) #[] #[]] W fun e w' => ∃ v, e = .returned v ∧ OwnP w' W.heap.size v (endPlots m l) ∧ Below W.heap.size W w') := ⟨fun W r c hI => by
      have := plots_any 69 _ l _ c m W hI (by omega) hm6 ⟨end_plots _ l c m hm6⟩
      rw [hn] at this
      unfold endPlots
      rw [hn]
      exact this⟩
    have CN : Off (∀ W r c, IntsAt W (some ⟨r, 0, none⟩) l → Calls Try.prog 68 #[.slice (some ⟨r, 0, none⟩) n c, .int .i64 (m : Int), .func (.func 70) #[] #[]] W fun e w' => ∃ v, e = .returned v ∧ OwnP w' W.heap.size v (nextPlots m l) ∧ Below W.heap.size W w') := ⟨fun W r c hI => by
      have := plots_any 70 _ l _ c m W hI (by omega) hm6 ⟨next_plots _ l c m⟩
      rw [hn] at this
      unfold nextPlots
      rw [hn]
      exact this⟩
    have hcf : ∀ (args : Array Value) (w : World), (callFunc 68 args).run Try.prog w = .ok (.enter 68 args) w := enters_of Try.func68 (by kernel_rfl) rfl
    clear hk hs hn
    go_enter Try.func37, Try.ntmps37
    go_wp2_with fail
    refine CR.out.mono ?_
    rintro e w1 ⟨v1, rfl, hO, _, hb1⟩
    have hO1 := own_below (hO HK.out) ((Below.refl _ _).alloc (Nat.le_refl _) (.cells #[.int .i64 (n : Int), .int .i64 (m : Int)] 62))
    rw [HK.out]
    obtain ⟨r, c1, rfl, hr0, hR1⟩ := own_row hO1 (by rw [HN.out]; omega)
    obtain ⟨⟨q0, q1⟩, _, _⟩ := two_facts (block_new w1 (.cells #[.int .i64 (n : Int), .int .i64 (m : Int)] 62))
    have hb2 := belowA hb1 (.cells #[.int .i64 (n : Int), .int .i64 (m : Int)] 62)
    have hI2 := hR1.ints (by rw [HN.out]; omega)
    rw [HN.out]
    obtain ⟨w2, hw2⟩ : ∃ w2, w2 = w1.alloc (.cells #[.int .i64 (n : Int), .int .i64 (m : Int)] 62) := ⟨_, rfl⟩
    rw [← hw2] at hb2 q0 q1 hI2
    clear hO hO1 hR1
    obtain ⟨p, hp⟩ : ∃ p, p = w1.heap.size := ⟨_, rfl⟩
    rw [← hp] at q0 q1
    have hsz2 := hb2.size
    go_wp2_with fail
    rw [← hw2, ← hp]
    clear hw2 hp hb1
    go_region_held3 (fun w' => w'.cell? ⟨p, 0, none⟩ = some (.int .i64 (n : Int)) ∧ w'.cell? ⟨p, 1, none⟩ = some (.int .i64 (m : Int)))
      (first | go_keep | exact ⟨q0, q1⟩)
      (first
        | (go_at_fn 68; refine (CN.out _ _ _ (hI2.below hB3)).mono ?_; rintro e w4 ⟨v4, rfl, hO4, hb4⟩; have q0 := cellB hb4 q0; have q1 := cellB hb4 q1; have hB4 := belowC hB3 hb4)
        | (go_at_fn 68; refine (CE.out _ _ _ (hI2.below (Below.refl _ _).drew)).mono ?_; rintro e w3 ⟨v3, rfl, hO3, hb3⟩; have q0 := cellB hb3 q0; have q1 := cellB hb3 q1; have hB3 := belowC (Below.refl _ _).drew hb3))
    have hB := belowC hb2 hB4
    have hO3' := ownP_below hO3 hb4
    have hsz3 := hB3.size
    go_wp2
    refine bodyPost_ret (v := .tuple #[v3, v4, .int .i64 0]) (by simp [results, Try.results37, go_sem]) rfl ⟨_, _, by rw [HK.out]; rfl, by rw [HK.out]; exact ownP_mono hO3' hsz2, by rw [HK.out]; exact ownP_mono hO4 (Nat.le_trans hsz2 hsz3), hB⟩

/-- Two rows do not share a block. -/
def Apart (v u : Value) : Prop := v.ownBlock = none ∨ v.ownBlock ≠ u.ownBlock
/-- append goes on in its own block or in a new one. -/
theorem append_block {w : World} (base : Nat) (t ty e : TypeId) (i : TypeInfo) (z : Value) (size bytes : Nat) (ht : Try.prog.underlying t = some (.slice e)) (hi : Try.prog.info? e = some i) (hz : i.zero = some z)
    (hsize : i.size = size) (hby : i.bytes = bytes) (v : Value) (n : Nat) (xs : List Value) (hown : w.ownsRow base e size v n xs)
    (a : Addr) (m c : Nat) (news : List Value) (hl : news.length = m * size) (hnews : ∀ j u, news[j]? = some u → w.cell? (a.add j) = some u) (h1 : ∀ u ∈ news, u.oneCell' = true)
    (hm : 0 < m) (h63 : n + m ≤ maxLen) (hbytes : (n + m) * bytes ≤ 140737488355328) {v' : Value} {w' : World}
    (hr : (Builtin.append_ #[t, t] ty #[v, .slice (some a) m c]).run Try.prog w = .ok v' w') : v'.ownBlock = v.ownBlock ∨ v'.ownBlock = some w.heap.size := by
  subst hsize hby
  unfold maxLen at h63
  rcases hown.2 with ⟨rfl, rfl⟩ | ⟨g, cap, cur, rfl, hbg, hg, hnc, hcm, hcs, htake⟩
  · rw [run_append_nil (P := Try.prog) w t ty e i z ht hi hz a m c news hl hnews hm (by omega) (by rw [Nat.zero_add] at hbytes; omega)] at hr
    cases hr
    exact .inr rfl
  · by_cases hroom : n + m ≤ cap
    · have hfit : n * i.size + news.length ≤ cur.size := by rw [hl, hcs, ← Nat.add_mul]; exact Nat.mul_le_mul_right _ hroom
      rw [run_append_room (P := Try.prog) w t ty e i ht hi g n cap cur hg a m c news hl hnews h1 hroom hfit] at hr
      cases hr
      exact .inl rfl
    · rw [run_append_grow (P := Try.prog) w t ty e i z ht hi hz ⟨g, 0, none⟩ n cap xs hown.1 (hown.cells (g := g) rfl) a m c news hl hnews (by omega) (by omega) (growslice_fits (by omega) hbytes)] at hr
      cases hr
      exact .inr rfl
/-- A plot more in a list of plots. -/
theorem wpList_plot {w : World} {ops : Array Oper} {rest : List Oper} {o : Oper} {a : Act} {Q : Exit → Act → World → Prop} (hgd : o.guard = none) (s x : Operand)
    (ho : o.op = .call { callee := .builtin .append, args := #[s, x], argTypes := #[41, 41] }) (base : Nat) (v : Value) (xs : List (Nat × Nat)) (i j : Nat) (hO : OwnP w base v xs) (hb : base ≤ w.heap.size) (h100 : xs.length ≤ 1000)
    (hs : a.eval s = v) (hx : a.eval x = .slice (some ⟨w.heap.size, 0, none⟩) 1 1)
    (h : ∀ v' w', OwnP w' base v' (xs ++ [(i, j)]) → Below base w w' → (∀ u ys, OwnP w base u ys → Apart v u → OwnP w' base u ys ∧ Apart v' u) → wpList Try.prog ops Q rest (a.put o.dst v') w') :
    wpList Try.prog ops Q (o :: rest) a (w.alloc (.cells #[.int .i64 (i : Int), .int .i64 (j : Int)] 43)) := by
  obtain ⟨j0, hj, hy0, hy1, hy2⟩ := info_parts info43
  refine wpList_plain hgd fun K hK => ?_
  have hW : Below w.heap.size w (w.alloc (.cells #[.int .i64 (i : Int), .int .i64 (j : Int)] 43)) := (Below.refl _ _).alloc (Nat.le_refl _) _
  have c1 : ∀ k u, ([.int .i64 (i : Int), .int .i64 (j : Int)] : List Value)[k]? = some u → (w.alloc (.cells #[.int .i64 (i : Int), .int .i64 (j : Int)] 43)).cell? ((⟨w.heap.size, 0, none⟩ : Addr).add k) = some u := by
    intro k u hk
    match k, hk with
    | 0, hk => simp at hk; subst hk; simp [Addr.add_lit]
    | 1, hk => simp at hk; subst hk; simp [Addr.add_lit]
  have c2 : ∀ u ∈ ([.int .i64 (i : Int), .int .i64 (j : Int)] : List Value), u.oneCell' = true := by intro u hu; simp at hu; rcases hu with rfl | rfl <;> rfl
  obtain ⟨v', w', hr, h2, h3, h4⟩ := run_append_own (P := Try.prog) _ base 41 o.type 43 j0 _ 2 16 Try.underlying41 hj hy0 hy1 hy2 rfl (by decide) v xs.length _ (hO.out.alloc _) ⟨w.heap.size, 0, none⟩ 1 1 _ rfl c1 c2 (by unfold maxLen; omega) (by omega) (by simp; omega)
  have hblk := append_block base 41 o.type 43 j0 _ 2 16 Try.underlying41 hj hy0 hy1 hy2 v xs.length _ (hO.out.alloc _) ⟨w.heap.size, 0, none⟩ 1 1 _ rfl c1 c2 (by omega) (by unfold maxLen; omega) (by omega) hr
  have hB : Below base w w' := ((Below.refl _ _).alloc hb _).grown h3 (by simp; omega) (fun k e => ownP_base hO e)
  unfold Oper.wp execOp
  simp only [ho, resolve, invoke, builtin, Sem.run_bind, Sem.run_pure, Result.andThen_ok, List.map_toArray, List.map_cons, List.map_nil, hs, hx, hr]
  refine hK _ _ (h v' w' ⟨by rw [List.length_append]; simpa [pairCells] using h2⟩ hB fun u ys hu hap => ?_)
  have hu' := hu.out.alloc (.cells #[.int .i64 (i : Int), .int .i64 (j : Int)] 43)
  refine ⟨⟨hu'.kept h3 ?_⟩, ?_⟩
  · rcases hap with e | e
    · rcases hvu : u.ownBlock with _ | g
      · exact .inl rfl
      · right; rw [e]; exact fun x => by cases x
    · rcases hvu : u.ownBlock with _ | g
      · exact .inl rfl
      · right; rw [← hvu]; exact fun x => e x.symm
  · rcases hblk with e | e
    · rcases hap with f | f
      · exact .inl (e.trans f)
      · exact .inr (by rw [e]; exact f)
    · right
      rw [e]
      intro f
      have h5 := (hu.out.lt _ f.symm).2
      rw [World.size_alloc] at h5
      omega

set_option maxHeartbeats 4000000 in
set_option maxRecDepth 100000 in
theorem rEnds_any (a b : Int) (l : List Int) (A : Option Addr) (c : Nat) (w : World) (hl : IntsAt w A l) :
    Calls Try.prog 38 #[.int .i64 a, .int .i64 b, .slice A l.length c] w fun e w' => EndsPost a b l w e w' := by
  cases hk : askedB a b l
  · have CA := Off.mk (asked_any a b l A c false hk w hl)
    have HK := Off.mk hk
    clear hk
    go_enter Try.func38, Try.ntmps38
    go_wp2_with (go_at_call 58; refine CA.out.mono ?_; rintro e w1 ⟨rfl, hb⟩; simp only [askedErr])
    refine bodyPost_ret (v := .tuple #[.slice none 0 0, .slice none 0 0, .int .i64 2]) (by simp [results, Try.results38, go_sem]) rfl ⟨_, _, by rw [HK.out]; rfl, by rw [HK.out]; exact ownP_nil _ _, by rw [HK.out]; exact ownP_nil _ _, hb⟩
  · have CA := Off.mk (asked_any a b l A c true hk w hl)
    have HK := Off.mk hk
    obtain ⟨n, m, rfl, rfl, hn, hn1, hn6, hm1, hm6, hs⟩ := asked_nat hk
    obtain ⟨j0, hj, hy0, hy1, hy2⟩ := info_parts info43
    have HFe : Off (endPlots m l = rowsTo (fun i j => endB l i (j : Nat)) m n) := ⟨by unfold endPlots; rw [hn]⟩
    have HFn : Off (nextPlots m l = rowsTo (fun i j => nextB l i (j : Nat)) m n) := ⟨by unfold nextPlots; rw [hn]⟩
    obtain ⟨p, hp⟩ : ∃ p : Nat → Nat → Bool, p = fun (i j : Nat) => endB l i j := ⟨_, rfl⟩
    obtain ⟨q, hq⟩ : ∃ q : Nat → Nat → Bool, q = fun (i j : Nat) => nextB l i j := ⟨_, rfl⟩
    have C1 : Off (∀ W, Below w.heap.size w W → ∀ i j : Nat, i < n → j < m → Calls Try.prog 61 #[.slice A n c, .int .i64 (i : Int), .int .i64 (j : Int)] W fun e w' => e = .returned (.bool (p i j)) ∧ w' = W) := ⟨fun W hW i j hi hj => by
      have := rend_any l A c i j W (hl.below hW) (by omega) (by omega) (by omega)
      rw [hn] at this
      rw [hp]; exact this⟩
    have C2 : Off (∀ W, Below w.heap.size w W → ∀ i j : Nat, i < n → j < m → Calls Try.prog 71 #[.slice A n c, .int .i64 (i : Int), .int .i64 (j : Int)] W fun e w' => e = .returned (.bool (q i j)) ∧ w' = W) := ⟨fun W hW i j hi hj => by
      have := rnext_any l A c i j W (hl.below hW) (by omega)
      rw [hn] at this
      rw [hq]; exact this⟩
    rw [← hp] at HFe
    rw [← hq] at HFn
    rw [hn] at CA ⊢
    clear hk hs hn hl hp hq
    go_enter Try.func38, Try.ntmps38
    go_wp2_with fail
    refine CA.out.mono ?_
    rintro e w1 ⟨rfl, hb⟩
    simp only [askedErr]
    have hO0 : ∀ W base, OwnP W base (.slice none 0 0) (rowsTo p m 0) ∧ OwnP W base (.slice none 0 0) (rowsTo q m 0) ∧ Apart (.slice none 0 0) (.slice none 0 0) ∧ Apart (.slice none 0 0) (.slice none 0 0) := fun W base => ⟨ownP_nil _ _, ownP_nil _ _, .inl rfl, .inl rfl⟩
    have hO1 := hO0 w1 w.heap.size
    clear hO0 CA
    go_wp2
    go_loopw [10, 11, 12] (fun v u iv wr => ∃ i : Nat, i ≤ n ∧ iv = .int .i64 i ∧ (OwnP wr w.heap.size v (rowsTo p m i) ∧ OwnP wr w.heap.size u (rowsTo q m i) ∧ Apart v u ∧ Apart u v) ∧ Below w.heap.size w wr) (fun _ _ iv _ => n - (intOf iv).toNat)
    case atStart => exact ⟨0, by omega, rfl, hO1, hb⟩
    case round =>
      clear hO1 hb
      obtain ⟨i, hi, rfl, hO, hb⟩ := hrel
      obtain ⟨wo, rfl⟩ : ∃ wo : World, wo = wr := ⟨_, rfl⟩
      have hrm : i * m ≤ 36 := Nat.mul_le_mul (show i ≤ 6 by omega) hm6
      have hrl : Off ((rowsTo p m i).length ≤ 36 ∧ (rowsTo q m i).length ≤ 36) := ⟨by
        have h1 := rowsTo_len p m i
        have h2 := rowsTo_len q m i
        omega⟩
      by_cases hin : i < n
      · have hO0 : OwnP wo w.heap.size u10 (rowsTo p m i ++ rowIn p i 0) ∧ OwnP wo w.heap.size u11 (rowsTo q m i ++ rowIn q i 0) ∧ Apart u10 u11 ∧ Apart u11 u10 := by
          simpa [rowIn] using hO
        clear hO
        go_wp2
        go_loopw [10, 11, 13] (fun v u jv wr => ∃ j : Nat, j ≤ m ∧ jv = .int .i64 j ∧ (OwnP wr w.heap.size v (rowsTo p m i ++ rowIn p i j) ∧ OwnP wr w.heap.size u (rowsTo q m i ++ rowIn q i j) ∧ Apart v u ∧ Apart u v) ∧ Below w.heap.size w wr) (fun _ _ jv _ => m - (intOf jv).toNat)
        case atStart => exact ⟨0, by omega, rfl, hO0, hb⟩
        case round =>
          clear hO0 hb
          obtain ⟨j, hjm, rfl, ⟨hOp, hOq, hA1, hA2⟩, hb⟩ := hrel
          obtain ⟨wq, rfl⟩ : ∃ wo : World, wo = wr := ⟨_, rfl⟩
          by_cases hjl : j < m
          · have hlp : (rowsTo p m i ++ rowIn p i j).length ≤ 100 := by rw [List.length_append]; have := rowIn_len p i j; have := hrl.out; omega
            have hlq : (rowsTo q m i ++ rowIn q i j).length ≤ 100 := by rw [List.length_append]; have := rowIn_len q i j; have := hrl.out; omega
            have HSp : Off (rowsTo p m i ++ rowIn p i (j + 1) = (rowsTo p m i ++ rowIn p i j) ++ if p i j then [(i, j)] else []) := ⟨by rw [rowIn, List.append_assoc]⟩
            have HSq : Off (rowsTo q m i ++ rowIn q i (j + 1) = (rowsTo q m i ++ rowIn q i j) ++ if q i j then [(i, j)] else []) := ⟨by rw [rowIn, List.append_assoc]⟩
            obtain ⟨xs, hxs⟩ : ∃ xs, xs = rowsTo p m i ++ rowIn p i j := ⟨_, rfl⟩
            obtain ⟨ys, hys⟩ : ∃ ys, ys = rowsTo q m i ++ rowIn q i j := ⟨_, rfl⟩
            rw [← hxs] at hlp HSp hOp
            rw [← hys] at hlq HSq hOq
            have HOp := Off.mk hOp
            have HOq := Off.mk hOq
            have D1 : Off (∀ W, Below w.heap.size w W → Calls Try.prog 61 #[.slice A n c, .int .i64 (i : Int), .int .i64 (j : Int)] W fun e w' => e = .returned (.bool (p i j)) ∧ w' = W) := ⟨fun W hW => C1.out W hW i j hin hjl⟩
            have D2 : Off (∀ W, Below w.heap.size w W → Calls Try.prog 71 #[.slice A n c, .int .i64 (i : Int), .int .i64 (j : Int)] W fun e w' => e = .returned (.bool (q i j)) ∧ w' = W) := ⟨fun W hW => C2.out W hW i j hin hjl⟩
            clear hxs hys hOp hOq
            cases hpij : p i j
            · rw [hpij] at D1 HSp
              rw [if_neg (by decide), List.append_nil] at HSp
              clear hpij
              go_wp2_with (go_at_call 61; refine (D1.out _ hb).mono ?_; rintro e w3 ⟨rfl, hw⟩; subst w3)
              cases hqij : q i j
              · rw [hqij] at D2 HSq
                rw [if_neg (by decide), List.append_nil] at HSq
                clear hqij
                refine (D2.out _ hb).mono ?_
                rintro e w3 ⟨rfl, hw⟩
                subst w3
                go_wp2
                go_roundw
                case rel => exact ⟨j + 1, by omega, by go_num, by rw [HSp.out, HSq.out]; exact ⟨HOp.out, HOq.out, hA1, hA2⟩, hb⟩
                case measure => simp only [intOf]; omega
              · rw [hqij] at D2 HSq
                rw [if_pos rfl] at HSq
                clear hqij
                refine (D2.out _ hb).mono ?_
                rintro e w3 ⟨rfl, hw⟩
                subst w3
                go_wp2_with (at_builtin; refine wpList_plot rfl _ _ rfl w.heap.size _ ys i j HOq.out hb.size (by omega) rfl rfl ?_)
                intro v5 w5 hO5 hb5 hot5
                have HO5 := Off.mk hO5
                obtain ⟨h6, h7⟩ := hot5 _ _ HOp.out hA2
                have HO6 := Off.mk h6
                have hb6 := hb.trans hb5
                have h8 : Apart u10 v5 := by
                  rcases h7 with e | e
                  · rcases hvv : (u10).ownBlock with _ | g
                    · exact .inl hvv
                    · exact .inr (by rw [e, hvv]; exact fun x => by cases x)
                  · exact .inr (fun x => e x.symm)
                clear hO5 h6 hot5
                go_wp2
                go_roundw
                case rel => exact ⟨j + 1, by omega, by go_num, by rw [HSp.out, HSq.out]; exact ⟨HO6.out, HO5.out, h8, h7⟩, hb6⟩
                case measure => simp only [intOf]; omega
            · rw [hpij] at D1 HSp
              rw [if_pos rfl] at HSp
              clear hpij
              go_wp2_with fail
              refine (D1.out _ hb).mono ?_
              rintro e w3 ⟨rfl, hw⟩
              subst w3
              go_wp2_with (at_builtin; refine wpList_plot rfl _ _ rfl w.heap.size _ xs i j HOp.out hb.size (by omega) rfl rfl ?_)
              intro v4 w4 hO4 hb4 hot4
              have HO4 := Off.mk hO4
              obtain ⟨h6, h7⟩ := hot4 _ _ HOq.out hA1
              have HOq4 := Off.mk h6
              have hb44 := hb.trans hb4
              have h8 : Apart u11 v4 := by
                rcases h7 with e | e
                · rcases hvv : (u11).ownBlock with _ | g
                  · exact .inl hvv
                  · exact .inr (by rw [e, hvv]; exact fun x => by cases x)
                · exact .inr (fun x => e x.symm)
              clear hO4 h6 hot4 hb4 hb
              go_wp2_with fail
              cases hqij : q i j
              · rw [hqij] at D2 HSq
                rw [if_neg (by decide), List.append_nil] at HSq
                clear hqij
                refine (D2.out _ hb44).mono ?_
                rintro e w3 ⟨rfl, hw⟩
                subst w3
                go_wp2
                go_roundw
                case rel => exact ⟨j + 1, by omega, by go_num, by rw [HSp.out, HSq.out]; exact ⟨HO4.out, HOq4.out, h7, h8⟩, hb44⟩
                case measure => simp only [intOf]; omega
              · rw [hqij] at D2 HSq
                rw [if_pos rfl] at HSq
                clear hqij
                refine (D2.out _ hb44).mono ?_
                rintro e w3 ⟨rfl, hw⟩
                subst w3
                go_wp2_with (at_builtin; refine wpList_plot rfl _ _ rfl w.heap.size _ ys i j HOq4.out hb44.size (by omega) rfl rfl ?_)
                intro v5 w5 hO5 hb5 hot5
                have HO5 := Off.mk hO5
                obtain ⟨h6, h7⟩ := hot5 _ _ HO4.out h8
                have HO6 := Off.mk h6
                have hb6 := hb44.trans hb5
                have h8 : Apart v4 v5 := by
                  rcases h7 with e | e
                  · rcases hvv : (v4).ownBlock with _ | g
                    · exact .inl hvv
                    · exact .inr (by rw [e, hvv]; exact fun x => by cases x)
                  · exact .inr (fun x => e x.symm)
                clear hO5 h6 hot5
                go_wp2
                go_roundw
                case rel => exact ⟨j + 1, by omega, by go_num, by rw [HSp.out, HSq.out]; exact ⟨HO6.out, HO5.out, h8, h7⟩, hb6⟩
                case measure => simp only [intOf]; omega
          · obtain rfl : j = m := by omega
            go_wp2
            go_roundw
            case rel => exact ⟨i + 1, by omega, by go_num, ⟨hOp, hOq, hA1, hA2⟩, hb⟩
            case measure => simp only [intOf]; omega
      · obtain rfl : i = n := by omega
        go_wp2
        refine bodyPost_ret (v := .tuple #[u10, u11, .int .i64 0]) (by simp [results, Try.results38, go_sem]) rfl ⟨_, _, by rw [HK.out]; rfl, by rw [HK.out, if_pos rfl, Int.toNat_natCast, HFe.out]; exact hO.1, by rw [HK.out, if_pos rfl, Int.toNat_natCast, HFn.out]; exact hO.2.1, hb⟩

/-- The least column ahead of which a plot of row k is asked for. -/
def rbCol (p : Nat → Nat → Bool) (k : Nat) : Nat → Int → Int
  | 0, x => x
  | j + 1, x => if p k j then min (rbCol p k j x) j else rbCol p k j x
def rbRow (p : Nat → Nat → Bool) (b : Nat) : Nat → Int → Int
  | 0, x => x
  | k + 1, x => rbCol p k b (rbRow p b k x)
def rbTo (p : Nat → Nat → Bool) (b : Nat) : Nat → List Int
  | 0 => []
  | i + 1 => rbTo p b i ++ [rbRow p b (i + 1) b]
/-- The state ahead of a day, as the specification has it. -/
def rback (b : Nat) (l : List Int) : List Int := rbTo (fun i j => endB l i (j : Nat)) b l.length
theorem rbTo_length (p : Nat → Nat → Bool) (b i : Nat) : (rbTo p b i).length = i := by
  induction i with
  | zero => rfl
  | succ i ih => rw [rbTo, List.length_append, ih]; rfl

set_option maxHeartbeats 4000000 in
set_option maxRecDepth 100000 in
theorem rBack_any (a b : Int) (l : List Int) (A : Option Addr) (c : Nat) (w : World) (hl : IntsAt w A l) :
    Calls Try.prog 26 #[.int .i64 a, .int .i64 b, .slice A l.length c] w fun e w' => MovedPost a b l (rback b.toNat l) w e w' := by
  cases hk : askedB a b l
  · have CA := Off.mk (asked_any a b l A c false hk w hl)
    have HK := Off.mk hk
    clear hk
    go_enter Try.func26, Try.ntmps26
    go_wp2_with (go_at_call 58; refine CA.out.mono ?_; rintro e w1 ⟨rfl, hb⟩; simp only [askedErr])
    go_ret2
    exact ⟨_, by rw [HK.out]; rfl, by rw [HK.out]; exact ⟨World.ownsRow_nil _ _ _ _⟩, hb⟩
  · have CA := Off.mk (asked_any a b l A c true hk w hl)
    have HK := Off.mk hk
    obtain ⟨n, m, rfl, rfl, hn, hn1, hn6, hm1, hm6, hs⟩ := asked_nat hk
    obtain ⟨i0, hi, hz0, hz1, hz2⟩ := info_parts info3
    have HF : Off (rback m l = rbTo (fun i j => endB l i (j : Nat)) m n) := ⟨by unfold rback; rw [hn]⟩
    obtain ⟨p, hp⟩ : ∃ p : Nat → Nat → Bool, p = fun (i j : Nat) => endB l i j := ⟨_, rfl⟩
    have C1 : Off (∀ W, Below w.heap.size w W → ∀ i j : Nat, i < n → j < m → Calls Try.prog 61 #[.slice A n c, .int .i64 (i : Int), .int .i64 (j : Int)] W fun e w' => e = .returned (.bool (p i j)) ∧ w' = W) := ⟨fun W hW i j hi hj => by
      have := rend_any l A c i j W (hl.below hW) (by omega) (by omega) (by omega)
      rw [hn] at this
      rw [hp]; exact this⟩
    rw [← hp] at HF
    rw [hn] at CA ⊢
    clear hk hs hn hl hp
    go_enter Try.func26, Try.ntmps26
    go_wp2_with fail
    refine CA.out.mono ?_
    rintro e w1 ⟨rfl, hb⟩
    simp only [askedErr]
    have hO1 : Own w1 w.heap.size (.slice none 0 0) (rbTo p m 0) := ⟨World.ownsRow_nil _ _ _ _⟩
    clear CA
    go_wp2
    go_loopw [9, 10] (fun v iv wr => ∃ i : Nat, i ≤ n ∧ iv = .int .i64 i ∧ Own wr w.heap.size v (rbTo p m i) ∧ Below w.heap.size w wr) (fun _ iv _ => n - (intOf iv).toNat)
    case atStart => exact ⟨0, by omega, rfl, hO1, hb⟩
    case round =>
      clear hO1 hb
      obtain ⟨i, hi1, rfl, hO, hb⟩ := hrel
      obtain ⟨wo, rfl⟩ : ∃ wo : World, wo = wr := ⟨_, rfl⟩
      by_cases hin : i < n
      · have HS : Off (rbTo p m (i + 1) = rbTo p m i ++ [rbRow p m (i + 1) m]) := ⟨rfl⟩
        have hlen := rbTo_length p m i
        have h60 : (rbTo p m i).length ≤ 60 := by omega
        clear hlen
        obtain ⟨xs, hxs⟩ : ∃ xs, xs = rbTo p m i := ⟨_, rfl⟩
        rw [← hxs] at HS hO h60
        have HO := Off.mk hO
        clear hxs hO
        go_wp2_with fail
        go_loop [11, 12] (fun x kv => ∃ k : Nat, k ≤ i + 1 ∧ kv = .int .i64 k ∧ x = .int .i64 (rbRow p m k m)) (fun _ kv => i + 1 - (intOf kv).toNat)
        case atStart => exact ⟨0, by omega, rfl, rfl⟩
        case round =>
          obtain ⟨k, hk1, rfl, rfl⟩ := hrel
          by_cases hki : k ≤ i
          · have HR : Off (rbRow p m (k + 1) m = rbCol p k m (rbRow p m k m)) := ⟨rfl⟩
            obtain ⟨x, hx⟩ : ∃ x, x = rbRow p m k m := ⟨_, rfl⟩
            rw [← hx] at HR ⊢
            clear hx
            go_wp2_with fail
            go_loop [11, 13] (fun y jv => ∃ j : Nat, j ≤ m ∧ jv = .int .i64 j ∧ y = .int .i64 (rbCol p k j x)) (fun _ jv => m - (intOf jv).toNat)
            case atStart => exact ⟨0, by omega, rfl, rfl⟩
            case round =>
              obtain ⟨j, hj1, rfl, rfl⟩ := hrel
              by_cases hjm : j < m
              · have HC : Off (rbCol p k (j + 1) x = if p k j then min (rbCol p k j x) j else rbCol p k j x) := ⟨rfl⟩
                obtain ⟨y, hy⟩ : ∃ y, y = rbCol p k j x := ⟨_, rfl⟩
                rw [← hy] at HC ⊢
                have D1 : Off (Calls Try.prog 61 #[.slice A n c, .int .i64 (k : Int), .int .i64 (j : Int)] wo fun e w' => e = .returned (.bool (p k j)) ∧ w' = wo) := ⟨C1.out wo hb k j (by omega) hjm⟩
                clear hy
                cases hpkj : p k j
                · rw [hpkj] at D1 HC
                  rw [if_neg (by decide)] at HC
                  clear hpkj
                  go_wp2_with (go_at_call 61; refine D1.out.mono ?_; rintro e w3 ⟨rfl, hw⟩; subst w3)
                  go_round
                  case rel => exact ⟨j + 1, by omega, by go_num, by rw [HC.out]⟩
                  case measure => simp only [intOf]; omega
                · rw [hpkj] at D1 HC
                  rw [if_pos rfl] at HC
                  clear hpkj
                  have HC' : Off (rbCol p k (j + 1) x = if (j : Int) < y then (j : Int) else y) := ⟨by rw [HC.out]; split <;> omega⟩
                  clear HC
                  go_wp2_with (go_at_call 61; refine D1.out.mono ?_; rintro e w3 ⟨rfl, hw⟩; subst w3)
                  go_round
                  case rel => exact ⟨j + 1, by omega, by go_num, by rw [HC'.out]⟩
                  case measure => simp only [intOf]; omega
              · obtain rfl : j = m := by omega
                go_wp2
                go_round
                case rel => exact ⟨k + 1, by omega, by go_num, by rw [HR.out]⟩
                case measure => simp only [intOf]; omega
          · obtain rfl : k = i + 1 := by omega
            obtain ⟨x, hx⟩ : ∃ x, x = rbRow p m (i + 1) m := ⟨_, rfl⟩
            rw [← hx] at HS ⊢
            clear hx
            go_wp2_with (at_builtin; refine wpList_append_own _ rfl _ _ 32 rfl w.heap.size 3 i0 _ 1 8 Try.underlying32 hi hz0 hz1 hz2 rfl (by decide) _ _ _ rfl (HO.out.out.alloc _) ⟨wo.heap.size, 0, none⟩ 1 1 [.int .i64 x] rfl rfl ?c1 ?c2 ?c3 ?c4 ?c5 ?_)
            case c2 => rfl
            case c3 => unfold maxLen; omega
            case c4 => omega
            case c5 => have := hb.size; simp; omega
            intro v4 w4 hown' hgrow _
            have hb4 : Below w.heap.size w w4 := (hb.alloc hb.size _).grown hgrow (by have := hb.size; simp; omega) (fun k e => own_base HO.out e)
            have HO4 : Off (Own w4 w.heap.size v4 (rbTo p m (i + 1))) := ⟨⟨by rw [HS.out, List.length_append]; simpa [nums] using hown'⟩⟩
            clear hown' hgrow hb
            go_wp2
            go_roundw
            case rel => exact ⟨i + 1, by omega, by go_num, HO4.out, hb4⟩
            case measure => simp only [intOf]; omega
      · obtain rfl : i = n := by omega
        go_wp2
        go_ret2
        exact ⟨_, by rw [HK.out]; rfl, by rw [HK.out, if_pos rfl, Int.toNat_natCast, HF.out]; exact hO, hb⟩
end Go.Proofs.Ytnhbkopgbibcgaa
