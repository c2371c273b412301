/- Four numbers against four numbers. -/
import Derived.Test.YtdbleghnblohgaaVv
import Derived.ChangeKeysEq
namespace Go.Proofs.Ytdbleghnblohgaa
open Go.RowKit Go.Shelf

theorem eq_four (x y z u : Int) (w : World) : Sem.run Try.prog (Op.equalIn 10000 43 (.agg #[.int .i64 x, .int .i64 y, .int .i64 z, .int .i64 u]) (.agg #[.int .i64 x, .int .i64 y, .int .i64 z, .int .i64 u])) w = .ok true w := by
  obtain ⟨i0, hi, _⟩ := info_parts info3
  have hc : Try.prog.cellsOf 3 = 1 := by kernel_rfl
  refine (run_equalIn_array (P := Try.prog) w 9999 (t := 43) (e := 3) (n := 4) (i := i0) _ _ Try.underlying43 hi).trans ?_
  rw [hc, show List.range 4 = [0, 1, 2, 3] from rfl]
  have he : Try.prog.plainKey 3 = true := by kernel_rfl
  have h0 : (part 3 #[.int .i64 x, .int .i64 y, .int .i64 z, .int .i64 u] 0).run Try.prog w = .ok (.int .i64 x) w := run_part_plain w he rfl
  have h1 : (part 3 #[.int .i64 x, .int .i64 y, .int .i64 z, .int .i64 u] 1).run Try.prog w = .ok (.int .i64 y) w := run_part_plain w he rfl
  have h2 : (part 3 #[.int .i64 x, .int .i64 y, .int .i64 z, .int .i64 u] 2).run Try.prog w = .ok (.int .i64 z) w := run_part_plain w he rfl
  have h3 : (part 3 #[.int .i64 x, .int .i64 y, .int .i64 z, .int .i64 u] 3).run Try.prog w = .ok (.int .i64 u) w := run_part_plain w he rfl
  have hq : ∀ v : Int, (Op.equalIn 9999 3 (.int .i64 v) (.int .i64 v)).run Try.prog w = .ok true w := fun v => (run_equalIn_int w 9998 3 .i64 .i64 v v Try.underlying3).trans (by simp)
  simp [Op.eqItems, Sem.run_bind, h0, h1, h2, h3, hq]
end Go.Proofs.Ytdbleghnblohgaa
