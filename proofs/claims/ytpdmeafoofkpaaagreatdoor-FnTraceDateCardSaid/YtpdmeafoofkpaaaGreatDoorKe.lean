/- The contracts, closed. -/
import Derived.Test.YtpdmeafoofkpaaaGreatDoorKd
import Derived.Test.YtpdmeafoofkpaaaGreatDoorKc
set_option linter.unusedVariables false
set_option linter.unusedSimpArgs false

namespace Go.Proofs.YtpdmeafoofkpaaaGreatDoor
open Go Go.Iv
theorem ok275 : CallOk P D.tab call275 := ok_none
theorem C275 : ∀ avs res, (m275 avs).val = some res → Con P D.tab 275 avs res := con275 ok275 pl275
theorem ok192 : CallOk P D.tab call192 := (ok_none.add C275 ent275)
theorem C192 : ∀ avs res, (m192 avs).val = some res → Con P D.tab 192 avs res := con192 ok192 pl192
theorem ok215 : CallOk P D.tab call215 := (ok_none.add C134 ent134)
theorem C215 : ∀ avs res, (m215 avs).val = some res → Con P D.tab 215 avs res := con215 ok215 pl215
theorem ok128 : CallOk P D.tab call128 := (((ok_none.add C99 ent99).add C215 ent215).add C216 ent216)
theorem C128 : ∀ avs res, (m128 avs).val = some res → Con P D.tab 128 avs res := con128 ok128 pl128
theorem ok146 : CallOk P D.tab call146 := (((ok_none.add C128 ent128).add C144 ent144).add C156 ent156)
theorem C146 : ∀ avs res, (m146 avs).val = some res → Con P D.tab 146 avs res := con146 ok146 pl146
theorem ok171 : CallOk P D.tab call171 := (ok_none.add C146 ent146)
theorem C171 : ∀ avs res, (m171 avs).val = some res → Con P D.tab 171 avs res := con171 ok171 pl171
theorem ok196 : CallOk P D.tab call196 := ((ok_none.add C134 ent134).add C171 ent171)
theorem C196 : ∀ avs res, (m196 avs).val = some res → Con P D.tab 196 avs res := con196 ok196 pl196
theorem ok98 : CallOk P D.tab call98 := (ok_none.add C196 ent196)
theorem C98 : ∀ avs res, (m98 avs).val = some res → Con P D.tab 98 avs res := con98 ok98 pl98
theorem ok111 : CallOk P D.tab call111 := (((ok_none.add C131v2 ent131).add C203 ent203).add C205 ent205)
theorem C111 : ∀ avs res, (m111 avs).val = some res → Con P D.tab 111 avs res := con111 ok111 pl111
theorem ok40 : CallOk P D.tab call40 := (ok_none.add C111 ent111)
theorem C40 : ∀ avs res, (m40 avs).val = some res → Con P D.tab 40 avs res := con40 ok40 pl40
theorem ok96 : CallOk P D.tab call96 := (ok_none.add C193 ent193)
theorem C96 : ∀ avs res, (m96 avs).val = some res → Con P D.tab 96 avs res := con96 ok96 pl96
theorem ok102 : CallOk P D.tab call102 := ok_none
theorem C102 : ∀ avs res, (m102 avs).val = some res → Con P D.tab 102 avs res := con102 ok102 pl102
theorem ok103 : CallOk P D.tab call103 := ok_none
theorem C103 : ∀ avs res, (m103 avs).val = some res → Con P D.tab 103 avs res := con103 ok103 pl103
theorem ok38 : CallOk P D.tab call38 := ok_none
theorem C38 : ∀ avs res, (m38 avs).val = some res → Con P D.tab 38 avs res := con38 ok38 pl38
theorem ok30 : CallOk P D.tab call30 := (ok_none.add C103 ent103)
theorem C30 : ∀ avs res, (m30 avs).val = some res → Con P D.tab 30 avs res := con30 ok30 pl30
theorem ok200 : CallOk P D.tab call200 := (ok_none.add C278 ent278)
theorem C200 : ∀ avs res, (m200 avs).val = some res → Con P D.tab 200 avs res := con200 ok200 pl200
theorem ok101 : CallOk P D.tab call101 := (ok_none.add C200 ent200)
theorem C101 : ∀ avs res, (m101 avs).val = some res → Con P D.tab 101 avs res := con101 ok101 pl101
theorem ok95 : CallOk P D.tab call95 := ((ok_none.add C154 ent154).add C192 ent192)
theorem C95 : ∀ avs res, (m95 avs).val = some res → Con P D.tab 95 avs res := con95 ok95 pl95
theorem ok39 : CallOk P D.tab call39 := ((ok_none.add C40 ent40).add C95 ent95)
theorem C39 : ∀ avs res, (m39 avs).val = some res → Con P D.tab 39 avs res := con39 ok39 pl39
end Go.Proofs.YtpdmeafoofkpaaaGreatDoor
