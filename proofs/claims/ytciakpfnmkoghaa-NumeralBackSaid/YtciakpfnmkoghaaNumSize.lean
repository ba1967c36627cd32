/- Walk of numeral.Size. -/
import Derived.Test.YtciakpfnmkoghaaNumPrint
namespace Go.Proofs.Ytciakpfnmkoghaa
open Go.RowKit

theorem size_any (n : Int) (w : World) (h0 : -9223372036854775808 ≤ n) (h1 : n ≤ 9223372036854775807) :
    Calls Try.prog 12 #[.int .i64 n] w fun e w' => e = .returned (.int .i64 ((Num.print n).length : Nat)) ∧ Below w.heap.size w w' := by
  go_enter Try.func12, Try.ntmps12
  go_wp2_with fail
  refine Calls.mono (print_any n _ h0 h1) ?_
  rintro e w1 ⟨rfl, hb⟩
  have hsz := str_size (Num.print n)
  go_wp2
  go_ret
  exact ⟨rfl, hb⟩
end Go.Proofs.Ytciakpfnmkoghaa
