/- Closed facts on FnTraceDate. -/
import Derived.Test.YtpdmeafoofkpaaaGreatDoorRb
set_option linter.unusedVariables false
set_option linter.unusedSimpArgs false

namespace Go.Proofs.YtpdmeafoofkpaaaGreatDoor
open Go Go.Iv
theorem inPlace8 : Tryz.pinned.checked.prog.inPlace 8 = Rows.fnTraceDateRow.inPlace := by kernel_rfl
theorem unfollowed8 : Tryz.pinned.checked.prog.unfollowed 8 = true := by kernel_rfl
theorem recurses8 : Tryz.pinned.checked.prog.recurses 8 = true := by kernel_rfl
theorem named8 : Tryz.pinned.checked.prog.varsNamed 8 = Rows.fnTraceDateRow.named := by kernel_rfl
end Go.Proofs.YtpdmeafoofkpaaaGreatDoor
