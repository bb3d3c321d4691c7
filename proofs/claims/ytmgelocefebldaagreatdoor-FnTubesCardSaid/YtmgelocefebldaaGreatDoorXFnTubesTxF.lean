/- impl.Decimal. -/
import Derived.Test.YtmgelocefebldaaGreatDoorXFnTubesO
import Derived.Test.YtmgelocefebldaaGreatDoorRvTx
namespace Go.Proofs.YtmgelocefebldaaGreatDoor.R
open Go.Rv Go.Rv.Tx
theorem fmt_eq (k : Nat) (n : Int) (h0 : -9223372036854775808 ≤ n) (h1 : n ≤ 9223372036854775807) : impl_Decimal.f k n = some (bs (Lib.itoa n)) := by
  unfold impl_Decimal.f strconv_FormatInt.f T.fmtF
  rw [if_pos rfl, if_pos ⟨h0, h1⟩]
  rfl
end Go.Proofs.YtmgelocefebldaaGreatDoor.R
