/- The law BrandsPtolemy: its walk. -/
import Derived.Test.YtddcdopimpfhcaaGcA
import Derived.Test.YtddcdopimpfhcaaGcB
import Derived.Test.YtddcdopimpfhcaaGcC
namespace Go.Proofs.Ytddcdopimpfhcaa
open Go.RowKit Go.Shelf

theorem ptolemy_walk (n : Int) (l : List (Int × Int)) (A : Option Addr) (c : Nat) (x : Int) (w : World) (hx : l.length ≤ 140737488351232 → PairsI w A l) (hlc : l.length ≤ c) (_ : A = none → c = 0) (h1 : 0 ≤ x ∧ x < 65536) :
    Calls Try.prog 10 #[.int .i64 n, .slice A l.length c, .int .u16 x] w fun e w' => e = .returned (.bool true) ∧ Below w.heap.size w w' := by
  by_cases h60 : l.length ≤ 60
  · cases hv : brandB n l with
    | false => exact ptolemy_no n l A c x w h60 (by rw [← brand_eq]; exact hv) (hx (by omega))
    | true =>
      have hr := brand_range hv
      obtain ⟨m, rfl⟩ : ∃ m : Nat, n = (m : Int) := ⟨n.toNat, by omega⟩
      obtain ⟨h, rfl⟩ : ∃ h : Nat, x = (h : Int) := ⟨x.toNat, by omega⟩
      rcases Nat.lt_trichotomy (h % m) (h / 16 % m) with e | e | e
      · exact ptolemy_up m l A c h w hv (hx (by omega)) hlc (by omega) e
      · exact ptolemy_eq m l A c h w hv (hx (by omega)) hlc (by omega) e
      · exact ptolemy_down m l A c h w hv (hx (by omega)) hlc (by omega) e
  · exact ptolemy_many n l A c x w (by omega)
end Go.Proofs.Ytddcdopimpfhcaa
