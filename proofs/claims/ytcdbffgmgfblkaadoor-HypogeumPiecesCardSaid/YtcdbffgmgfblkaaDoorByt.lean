/- Sums of bytes. -/
import Derived.Test.YtcdbffgmgfblkaaDoorPolRa
import Derived.Test.YtcdbffgmgfblkaaDoorRollA
import Derived.Test.YtcdbffgmgfblkaaDoorBts
namespace Go.Proofs.YtcdbffgmgfblkaaDoor
set_option linter.unusedVariables false
set_option linter.unusedSimpArgs false
open Go.RowKit

theorem roll_le {m : Nat} (hm : m ≤ 18446744073709551615) (hm0 : m ≠ 0) (l : List Nat) : Pol.roll m 0 l ≤ 18446744073709551615 := by
  have h1 := Pol.roll_len m hm0 l 0 (by rw [Pol.len_zero]; exact Pol.len_pos.2 hm0)
  have h2 := Pol.len_le64 hm
  have h3 := Pol.len_le.1 (show Pol.len (Pol.roll m 0 l) ≤ 64 by omega)
  omega

end Go.Proofs.YtcdbffgmgfblkaaDoor
