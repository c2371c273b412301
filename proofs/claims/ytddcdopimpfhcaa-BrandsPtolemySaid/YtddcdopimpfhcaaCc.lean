/- Contracts: the specification's Near, triangles. -/
import Derived.Test.YtddcdopimpfhcaaCb
namespace Go.Proofs.Ytddcdopimpfhcaa
open Go.RowKit Go.Shelf

def rnearB (n : Nat) (l : List (Int × Int)) (i k : Nat) : Bool := decide ((i + 1) % n = k) || decide ((k + 1) % n = i) || l.contains ((min (i : Int) (k : Int)), (max (i : Int) (k : Int)))
set_option maxHeartbeats 4000000 in
set_option maxRecDepth 100000 in
theorem near_any (n i k : Nat) (l : List (Int × Int)) (A : Option Addr) (c : Nat) (v : Bool) (hv : rnearB n l i k = v) (hn : 3 ≤ n ∧ n ≤ 12) (hi : i < n) (hk : k < n) (w : World) (hx : PairsI w A l) :
    Calls Try.prog 34 #[.int .i64 (n : Int), .slice A l.length c, .int .i64 (i : Int), .int .i64 (k : Int)] w fun e w' => e = .returned (.bool v) ∧ w' = w := by
  have hlen := hx.len
  have hn0 : ¬ n = 0 := by omega
  obtain ⟨i1, hi1⟩ : ∃ i1, i1 = (i + 1) % n := ⟨_, rfl⟩
  obtain ⟨k1, hk1⟩ : ∃ k1, k1 = (k + 1) % n := ⟨_, rfl⟩
  have t1 : ((i : Int) + 1) % (n : Int) = (i1 : Int) := by rw [hi1, show (i : Int) + 1 = ((i + 1 : Nat) : Int) by omega]; exact (Int.natCast_emod _ _).symm
  have t2 : ((k : Int) + 1) % (n : Int) = (k1 : Int) := by rw [hk1, show (k : Int) + 1 = ((k + 1 : Nat) : Int) by omega]; exact (Int.natCast_emod _ _).symm
  have t3 : ((i : Int) + 1).tmod (n : Int) = (i1 : Int) := by rw [Int.tmod_eq_emod_of_nonneg (by omega)]; exact t1
  have t4 : ((k : Int) + 1).tmod (n : Int) = (k1 : Int) := by rw [Int.tmod_eq_emod_of_nonneg (by omega)]; exact t2
  have HV : Off ((decide (i1 = k) || decide (k1 = i) || l.contains ((min (i : Int) (k : Int)), (max (i : Int) (k : Int)))) = v) := ⟨by rw [hi1, hk1]; exact hv⟩
  have hiI : (i : Int) < (n : Int) := by omega
  have hkI : (k : Int) < (n : Int) := by omega
  clear hv hi1 hk1
  by_cases h1 : i1 = k
  · have HV' : Off (v = true) := ⟨by rw [← HV.out, decide_eq_true h1]; simp⟩
    have hb : ((i1 : Int) == (k : Int)) = true := by rw [h1]; simp
    clear h1
    go_enter Try.func34, Try.ntmps34
    go_wp2
    go_ret
    exact ⟨ret_bool HV'.out.symm, rfl⟩
  · have hb : ((i1 : Int) == (k : Int)) = false := by rw [beq_eq_false_iff_ne]; omega
    by_cases h2 : k1 = i
    · have HV' : Off (v = true) := ⟨by rw [← HV.out, decide_eq_true h2]; simp⟩
      have hb2 : ((k1 : Int) == (i : Int)) = true := by rw [h2]; simp
      clear h2 h1
      go_enter Try.func34, Try.ntmps34
      go_wp2
      go_ret
      exact ⟨ret_bool HV'.out.symm, rfl⟩
    · have hb2 : ((k1 : Int) == (i : Int)) = false := by rw [beq_eq_false_iff_ne]; omega
      have HV2 : Off (l.contains (min (i : Int) (k : Int), max (i : Int) (k : Int)) = v) := ⟨by rw [← HV.out, decide_eq_false h1, decide_eq_false h2]; rfl⟩
      clear h1 h2 HV
      by_cases hlt : (i : Int) < (k : Int)
      · have hge : ¬ (k : Int) < (i : Int) := by omega
        have HV' : Off (l.contains ((i : Int), (k : Int)) = v) := ⟨by rw [← HV2.out, Int.min_eq_left (by omega), Int.max_eq_right (by omega)]⟩
        clear HV2
        go_enter Try.func34, Try.ntmps34
        go_wp2
        go_loop [9] (fun jv => ∃ j : Nat, j ≤ l.length ∧ jv = .int .i64 j ∧ Off (∀ q, q < j → l.getD q (0, 0) ≠ ((i : Int), (k : Int)))) (fun jv => l.length - (intOf jv).toNat)
        case atStart => exact ⟨0, by omega, rfl, ⟨fun j hj => by omega⟩⟩
        case round =>
          obtain ⟨j, hj, rfl, HE⟩ := hrel
          by_cases hjl : j < l.length
          · have hjI : (j : Int) < (l.length : Int) := by omega
            obtain ⟨ad, rfl, c0, c1⟩ := hx.cell j hjl
            have HH : Off (l.getD j (0, 0) = ((i : Int), (k : Int)) → true = v) := ⟨fun hv => by
              rw [← HV'.out]
              symm
              rw [List.contains_iff_mem, ← hv, List.getD_eq_getElem?_getD, List.getElem?_eq_getElem hjl]
              exact List.getElem_mem hjl⟩
            have HN : Off (l.getD j (0, 0) ≠ ((i : Int), (k : Int)) → ∀ q, q < j + 1 → l.getD q (0, 0) ≠ ((i : Int), (k : Int))) := ⟨fun h q hq => by
              by_cases e : q = j
              · rw [e]; exact h
              · exact HE.out q (by omega)⟩
            obtain ⟨x, hx'⟩ : ∃ x, x = l.getD j (0, 0) := ⟨_, rfl⟩
            rw [← hx'] at c0 c1 HH HN
            clear hx' hx HE
            by_cases e0 : x.1 = (i : Int)
            · have b0 : (x.1 == (i : Int)) = true := by rw [e0]; simp
              by_cases e1 : x.2 = (k : Int)
              · have b1 : (x.2 == (k : Int)) = true := by rw [e1]; simp
                have HO := Off.mk (HH.out (Prod.ext e0 e1))
                clear HH HN e0 e1
                go_wp2
                go_ret
                exact ⟨ret_bool HO.out, rfl⟩
              · have b1 : (x.2 == (k : Int)) = false := by rw [beq_eq_false_iff_ne]; exact e1
                have HO := Off.mk (HN.out (by rintro rfl; exact e1 rfl))
                clear HH HN e0 e1
                go_wp2
                go_round
                case rel => exact ⟨j + 1, by omega, by go_num, HO⟩
                case measure => simp only [intOf]; omega
            · have b0 : (x.1 == (i : Int)) = false := by rw [beq_eq_false_iff_ne]; exact e0
              have HO := Off.mk (HN.out (by rintro rfl; exact e0 rfl))
              clear HH HN e0
              go_wp2
              go_round
              case rel => exact ⟨j + 1, by omega, by go_num, HO⟩
              case measure => simp only [intOf]; omega
          · obtain rfl : j = l.length := by omega
            have HO : Off (false = v) := ⟨by
              rw [← HV'.out]
              symm
              rw [Bool.eq_false_iff, ne_eq, List.contains_iff_mem]
              intro hm
              obtain ⟨q, hq, e⟩ := List.getElem_of_mem hm
              refine HE.out q hq ?_
              rw [List.getD_eq_getElem?_getD, List.getElem?_eq_getElem hq]
              exact e⟩
            go_wp2
            go_ret
            exact ⟨ret_bool HO.out, rfl⟩
      · by_cases hgt : (k : Int) < (i : Int)
        · have HV' : Off (l.contains ((k : Int), (i : Int)) = v) := ⟨by rw [← HV2.out, Int.min_eq_right (by omega), Int.max_eq_left (by omega)]⟩
          clear HV2
          go_enter Try.func34, Try.ntmps34
          go_wp2
          go_loop [9] (fun jv => ∃ j : Nat, j ≤ l.length ∧ jv = .int .i64 j ∧ Off (∀ q, q < j → l.getD q (0, 0) ≠ ((k : Int), (i : Int)))) (fun jv => l.length - (intOf jv).toNat)
          case atStart => exact ⟨0, by omega, rfl, ⟨fun j hj => by omega⟩⟩
          case round =>
            obtain ⟨j, hj, rfl, HE⟩ := hrel
            by_cases hjl : j < l.length
            · have hjI : (j : Int) < (l.length : Int) := by omega
              obtain ⟨ad, rfl, c0, c1⟩ := hx.cell j hjl
              have HH : Off (l.getD j (0, 0) = ((k : Int), (i : Int)) → true = v) := ⟨fun hv => by
                rw [← HV'.out]
                symm
                rw [List.contains_iff_mem, ← hv, List.getD_eq_getElem?_getD, List.getElem?_eq_getElem hjl]
                exact List.getElem_mem hjl⟩
              have HN : Off (l.getD j (0, 0) ≠ ((k : Int), (i : Int)) → ∀ q, q < j + 1 → l.getD q (0, 0) ≠ ((k : Int), (i : Int))) := ⟨fun h q hq => by
                by_cases e : q = j
                · rw [e]; exact h
                · exact HE.out q (by omega)⟩
              obtain ⟨x, hx'⟩ : ∃ x, x = l.getD j (0, 0) := ⟨_, rfl⟩
              rw [← hx'] at c0 c1 HH HN
              clear hx' hx HE
              by_cases e0 : x.1 = (k : Int)
              · have b0 : (x.1 == (k : Int)) = true := by rw [e0]; simp
                by_cases e1 : x.2 = (i : Int)
                · have b1 : (x.2 == (i : Int)) = true := by rw [e1]; simp
                  have HO := Off.mk (HH.out (Prod.ext e0 e1))
                  clear HH HN e0 e1
                  go_wp2
                  go_ret
                  exact ⟨ret_bool HO.out, rfl⟩
                · have b1 : (x.2 == (i : Int)) = false := by rw [beq_eq_false_iff_ne]; exact e1
                  have HO := Off.mk (HN.out (by rintro rfl; exact e1 rfl))
                  clear HH HN e0 e1
                  go_wp2
                  go_round
                  case rel => exact ⟨j + 1, by omega, by go_num, HO⟩
                  case measure => simp only [intOf]; omega
              · have b0 : (x.1 == (k : Int)) = false := by rw [beq_eq_false_iff_ne]; exact e0
                have HO := Off.mk (HN.out (by rintro rfl; exact e0 rfl))
                clear HH HN e0
                go_wp2
                go_round
                case rel => exact ⟨j + 1, by omega, by go_num, HO⟩
                case measure => simp only [intOf]; omega
            · obtain rfl : j = l.length := by omega
              have HO : Off (false = v) := ⟨by
                rw [← HV'.out]
                symm
                rw [Bool.eq_false_iff, ne_eq, List.contains_iff_mem]
                intro hm
                obtain ⟨q, hq, e⟩ := List.getElem_of_mem hm
                refine HE.out q hq ?_
                rw [List.getD_eq_getElem?_getD, List.getElem?_eq_getElem hq]
                exact e⟩
              go_wp2
              go_ret
              exact ⟨ret_bool HO.out, rfl⟩
        · obtain rfl : i = k := by omega
          have HV' : Off (l.contains ((i : Int), (i : Int)) = v) := ⟨by rw [← HV2.out, Int.min_eq_left (by omega), Int.max_eq_left (by omega)]⟩
          clear HV2
          go_enter Try.func34, Try.ntmps34
          go_wp2
          go_loop [9] (fun jv => ∃ j : Nat, j ≤ l.length ∧ jv = .int .i64 j ∧ Off (∀ q, q < j → l.getD q (0, 0) ≠ ((i : Int), (i : Int)))) (fun jv => l.length - (intOf jv).toNat)
          case atStart => exact ⟨0, by omega, rfl, ⟨fun j hj => by omega⟩⟩
          case round =>
            obtain ⟨j, hj, rfl, HE⟩ := hrel
            by_cases hjl : j < l.length
            · have hjI : (j : Int) < (l.length : Int) := by omega
              obtain ⟨ad, rfl, c0, c1⟩ := hx.cell j hjl
              have HH : Off (l.getD j (0, 0) = ((i : Int), (i : Int)) → true = v) := ⟨fun hv => by
                rw [← HV'.out]
                symm
                rw [List.contains_iff_mem, ← hv, List.getD_eq_getElem?_getD, List.getElem?_eq_getElem hjl]
                exact List.getElem_mem hjl⟩
              have HN : Off (l.getD j (0, 0) ≠ ((i : Int), (i : Int)) → ∀ q, q < j + 1 → l.getD q (0, 0) ≠ ((i : Int), (i : Int))) := ⟨fun h q hq => by
                by_cases e : q = j
                · rw [e]; exact h
                · exact HE.out q (by omega)⟩
              obtain ⟨x, hx'⟩ : ∃ x, x = l.getD j (0, 0) := ⟨_, rfl⟩
              rw [← hx'] at c0 c1 HH HN
              clear hx' hx HE
              by_cases e0 : x.1 = (i : Int)
              · have b0 : (x.1 == (i : Int)) = true := by rw [e0]; simp
                by_cases e1 : x.2 = (i : Int)
                · have b1 : (x.2 == (i : Int)) = true := by rw [e1]; simp
                  have HO := Off.mk (HH.out (Prod.ext e0 e1))
                  clear HH HN e0 e1
                  go_wp2
                  go_ret
                  exact ⟨ret_bool HO.out, rfl⟩
                · have b1 : (x.2 == (i : Int)) = false := by rw [beq_eq_false_iff_ne]; exact e1
                  have HO := Off.mk (HN.out (by rintro rfl; exact e1 rfl))
                  clear HH HN e0 e1
                  go_wp2
                  go_round
                  case rel => exact ⟨j + 1, by omega, by go_num, HO⟩
                  case measure => simp only [intOf]; omega
              · have b0 : (x.1 == (i : Int)) = false := by rw [beq_eq_false_iff_ne]; exact e0
                have HO := Off.mk (HN.out (by rintro rfl; exact e0 rfl))
                clear HH HN e0
                go_wp2
                go_round
                case rel => exact ⟨j + 1, by omega, by go_num, HO⟩
                case measure => simp only [intOf]; omega
            · obtain rfl : j = l.length := by omega
              have HO : Off (false = v) := ⟨by
                rw [← HV'.out]
                symm
                rw [Bool.eq_false_iff, ne_eq, List.contains_iff_mem]
                intro hm
                obtain ⟨q, hq, e⟩ := List.getElem_of_mem hm
                refine HE.out q hq ?_
                rw [List.getD_eq_getElem?_getD, List.getElem?_eq_getElem hq]
                exact e⟩
              go_wp2
              go_ret
              exact ⟨ret_bool HO.out, rfl⟩
end Go.Proofs.Ytddcdopimpfhcaa
