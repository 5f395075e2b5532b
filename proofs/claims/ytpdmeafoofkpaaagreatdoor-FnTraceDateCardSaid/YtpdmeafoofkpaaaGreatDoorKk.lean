/- The contracts, closed. -/
import Derived.Test.YtpdmeafoofkpaaaGreatDoorKj
import Derived.Test.YtpdmeafoofkpaaaGreatDoorKi
set_option linter.unusedVariables false
set_option linter.unusedSimpArgs false

namespace Go.Proofs.YtpdmeafoofkpaaaGreatDoor
open Go Go.Iv
theorem ok28 : CallOk P D.tab call28 := (((((((ok_none.add C37 ent37).add C40 ent40).add C93 ent93).add C94 ent94).add C95 ent95).add C96 ent96).addB C97 ent97)
theorem C28 : ∀ avs res, (m28 avs).val = some res → Con P D.tab 28 avs res := con28 ok28 pl28
theorem ok29 : CallOk P D.tab call29 := ((((((ok_none.add C45 ent45).add C98 ent98).add C99 ent99).add C100 ent100).add C101 ent101).add C102 ent102)
theorem C29 : ∀ avs res, (m29 avs).val = some res → Con P D.tab 29 avs res := con29 ok29 pl29
theorem ok8 : CallOk P D.tab call8 := ((((((ok_none.add C27 ent27).add C28 ent28).add C29 ent29).add C30 ent30).add C37 ent37).add C38 ent38)
theorem C8 : ∀ avs res, (m8 avs).val = some res → Con P D.tab 8 avs res := con8 ok8 pl8
end Go.Proofs.YtpdmeafoofkpaaaGreatDoor
