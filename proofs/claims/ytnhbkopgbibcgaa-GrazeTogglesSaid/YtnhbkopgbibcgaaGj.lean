/- Contracts: slices.Backward. -/
import Derived.Test.YtnhbkopgbibcgaaGi
import Derived.Test.YtnhbkopgbibcgaaGr
namespace Go.Proofs.Ytnhbkopgbibcgaa
open Go.RowKit Go.Shelf
attribute [local go_sem] Oper.semAt_some

/-- What Backward yields in round k. -/
def backAt (zs : List Int) (k : Nat) : Array Value := #[.int .i64 ((zs.length - 1 - k : Nat) : Int), .int .i64 (zs.getD (zs.length - 1 - k) 0)]

set_option maxHeartbeats 1000000 in
theorem backward_any (A : Option Addr) (len cap : Nat) (w : World) :
    Calls Try.prog 52 #[.slice A len cap] w fun e w' => e = .returned (.func (.func 78) #[] #[.pointer (some ⟨w.heap.size, 0, none⟩)]) ∧ w' = w.alloc (.cells #[.slice A len cap] 67) := by
  go_enter Try.func52, Try.ntmps52
  go_wp2
  go_ret
  exact ⟨rfl, rfl⟩

set_option maxRecDepth 100000 in
set_option maxHeartbeats 2000000 in
theorem back_yields (F : Fence) (n : Nat) (h78 : F.fn 78) (hro : F.round = none) (hn : 1 ≤ n) (Bs g cap : Nat) (zs : List Int) (cur : Array Value) (w : World) (h60 : zs.length ≤ 60)
    (hBs : w.heap[Bs]? = some (.cells #[.slice (some ⟨g, 0, none⟩) zs.length cap] 67 (0, 0))) (hg : w.heap[g]? = some (.cells cur 3 (0, 0))) (hc : ∀ j, j < zs.length → cur[j]? = some (.int .i64 (zs.getD j 0))) :
    Yields F n Try.prog 78 #[.pointer (some ⟨Bs, 0, none⟩)] (backAt zs) zs.length (Kb [Bs, g]) w := by
  intro l J W hW hY h0
  have hBs1 := blockB hW hBs
  have hg1 := blockB hW hg
  clear hBs hg hW
  refine callsIn_of_wp Try.func78 rfl h78 ?_ hro
  simp only [Try.ntmps78, List.size_toArray, List.length_cons, List.length_nil, Nat.reduceAdd, Nat.reduceSub, Array.replicate_succ, Array.replicate_zero, List.push_toArray, List.append_toArray, List.nil_append, List.cons_append]
  obtain ⟨len, hlen⟩ : ∃ len, len = zs.length := ⟨_, rfl⟩
  have HL := Off.mk hlen
  rw [← hlen] at hBs1 h60
  have hc' : Off (∀ j, j < len → cur[j]? = some (.int .i64 (zs.getD j 0))) := ⟨by rw [HL.out]; exact hc⟩
  have hY' : Off (∀ k j W1, k + j + 1 = len → J k W1 → YieldAt F (n - 1) Try.prog l #[.int .i64 (j : Int), .int .i64 (zs.getD j 0)] W1 fun e W' => e = .returned (.bool true) ∧ J (k + 1) W' ∧ Kb [Bs, g] W1 W') := ⟨fun k j W1 hk hJ => by
    have := hY k W1 (by have := HL.out; omega) hJ
    rw [show backAt zs k = #[.int .i64 (j : Int), .int .i64 (zs.getD j 0)] by unfold backAt; rw [show zs.length - 1 - k = j by have := HL.out; omega]] at this
    exact this⟩
  rw [← hlen]
  clear hlen hc hY
  obtain ⟨c0, f0⟩ := one_facts hBs1
  have HBs := Off.mk hBs1
  have HG := Off.mk hg1
  clear hBs1 hg1
  gi_wp2
  gi_loopw [3] (fun i wr => ∃ k : Nat, k ≤ len ∧ ((∃ j : Nat, k + j + 1 = len ∧ i = .int .i64 (j : Int)) ∨ (k = len ∧ i = .int .i64 (-1))) ∧ J k wr ∧ Kb [Bs, g] W wr) (fun i _ => (intOf i + 1).toNat)
  case atStart =>
    refine ⟨0, by omega, ?_, h0, Kb.refl _ _⟩
    rcases Nat.eq_zero_or_pos len with e | e
    · exact .inr ⟨e.symm, by subst e; rfl⟩
    · exact .inl ⟨len - 1, by omega, by congr 1; omega⟩
  case round =>
    obtain ⟨k, hk, hij, hJ, hK⟩ := hrel
    have hb := hK Bs (by simp) _ _ (by decide) HBs.out
    have hgr := hK g (by simp) _ _ (by decide) HG.out
    obtain ⟨c1, f1⟩ := one_facts hb
    rcases hij with ⟨j, hkj, rfl⟩ | ⟨rfl, rfl⟩
    · have hcx : wr.cell? ⟨g, j, none⟩ = some (.int .i64 (zs.getD j 0)) := by
        have h1 := hc'.out j (by omega)
        have h2 := (Array.getElem?_eq_some_iff.1 h1).1
        simp [World.cell?, hgr, h1]
      obtain ⟨fn, tmps, assign, body, hy, hR⟩ := hY'.out k j wr hkj hJ
      obtain ⟨z, hz⟩ : ∃ z, z = zs.getD j 0 := ⟨_, rfl⟩
      rw [← hz] at hcx hy
      have hj0 : (0 : Int) ≤ (j : Int) := by omega
      have hj1 : (j : Int) < (len : Int) := by omega
      clear hz hb hgr
      gi_wp2
      refine hR.mono ?_
      rintro e W3 ⟨rfl, hJ3, hk3⟩
      gi_wp2
      go_roundw
      case rel =>
        refine ⟨k + 1, by omega, ?_, hJ3, hK.trans hk3⟩
        rcases Nat.eq_zero_or_pos j with e | e
        · exact .inr ⟨by omega, by subst e; rfl⟩
        · exact .inl ⟨j - 1, by omega, by congr 1; omega⟩
      case measure => simp only [intOf]; omega
    · gi_wp2
      go_end0
      exact ⟨⟨_, rfl⟩, hJ⟩
end Go.Proofs.Ytnhbkopgbibcgaa
