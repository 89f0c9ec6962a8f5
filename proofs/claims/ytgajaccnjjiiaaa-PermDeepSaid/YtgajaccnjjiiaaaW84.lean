/- PermDeep: every int, simple or not. -/
import Derived.Test.YtgajaccnjjiiaaaW82
import Derived.Test.YtgajaccnjjiiaaaW83
namespace Go.Proofs.Ytgajaccnjjiiaaa
open Go.RowKit

theorem PermDeep_any (n : Int) (s : Bool) (w : World) : Calls Try.prog 9 #[.int .i64 n, .bool s] w fun e w' => e = .returned (.bool true) ∧ Below w.heap.size w w' := by
  have hk := kidx_lt n (n := 8) (by omega)
  exact PermDeep_walk n s w (kidx n 8 + 56) (by omega) (by omega) rfl (deep_narrow s _ (by omega) (by omega)) (deep_out s _ (by omega) (by omega)) (deep_in s _ (by omega) (by omega))
end Go.Proofs.Ytgajaccnjjiiaaa
