/- All closed facts of FnTraceDate. -/
import Derived.Test.YtpdmeafoofkpaaaGreatDoorRc
set_option linter.unusedVariables false
set_option linter.unusedSimpArgs false

namespace Go.Proofs.YtpdmeafoofkpaaaGreatDoor
open Go Go.Iv
theorem closed8 : joinedFacts Tryz.pinned.checked.prog 8 Tryz.f8 Rows.fnTraceDateSpec Rows.fnTraceDateRow = true := by
  unfold joinedFacts
  rw [enterT, finalT, heardT, makeT, inPlace8, unfollowed8, recurses8, named8]
  kernel_rfl
end Go.Proofs.YtpdmeafoofkpaaaGreatDoor
