/- PermChecks: all ways. -/
import Derived.Test.YtgajaccnjjiiaaaW51
namespace Go.Proofs.Ytgajaccnjjiiaaa
open Go.RowKit

theorem PermChecks_any (v u : Value) (l m : List Int) (w : World) (hv : Ints w v l) (hu : Ints w u m) (hnv : ∀ n c, v = .slice none n c → c = 0) (hnu : ∀ n c, u = .slice none n c → c = 0) :
    Calls Try.prog 13 #[v, u] w fun e w' => e = .returned (.bool true) ∧ Below w.heap.size w w' := by
  rcases checkM_or (rawM l 61) with hp | hp
  · rcases checkM_or (rawM m 61) with hq | hq
    · by_cases h6 : 6 < (rawM m 61).length
      · by_cases hl : (rawM l 61).length = (rawM m 61).length
        · exact Checks_eq6 v u l m w hv hu hnv hnu hp hq hl h6
        · exact Checks_ne6 v u l m w hv hu hnv hnu hp hq hl h6
      · by_cases hl : (rawM l 61).length = (rawM m 61).length
        · exact Checks_eq v u l m w hv hu hnv hnu hp hq hl h6
        · exact Checks_ne v u l m w hv hu hnv hnu hp hq hl h6
    · exact Checks_q20 v u l m w hv hu hnv hnu hp hq
  · exact Checks_bad v u l m w hv hu hnv hnu hp
end Go.Proofs.Ytgajaccnjjiiaaa
