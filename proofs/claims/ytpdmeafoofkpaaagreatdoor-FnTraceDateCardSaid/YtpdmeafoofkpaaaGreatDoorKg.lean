/- The contracts, closed. -/
import Derived.Test.YtpdmeafoofkpaaaGreatDoorKf
import Derived.Test.YtpdmeafoofkpaaaGreatDoorKe
set_option linter.unusedVariables false
set_option linter.unusedSimpArgs false

namespace Go.Proofs.YtpdmeafoofkpaaaGreatDoor
open Go Go.Iv
theorem ok186 : CallOk P D.tab call186 := ok_none
theorem C186 : ∀ avs res, (m186 avs).val = some res → Con P D.tab 186 avs res := con186 ok186 pl186
theorem ok187 : CallOk P D.tab call187 := ok_none
theorem C187 : ∀ avs res, (m187 avs).val = some res → Con P D.tab 187 avs res := con187 ok187 pl187
theorem ok188 : CallOk P D.tab call188 := (ok_none.add C186 ent186)
theorem C188 : ∀ avs res, (m188 avs).val = some res → Con P D.tab 188 avs res := con188 ok188 pl188
theorem ok261 : CallOk P D.tab call261 := ok_none
theorem C261 : ∀ avs res, (m261 avs).val = some res → Con P D.tab 261 avs res := con261 ok261 pl261
theorem ok277 : CallOk P D.tab call277 := ok_none
theorem C277 : ∀ avs res, (m277 avs).val = some res → Con P D.tab 277 avs res := con277 ok277 pl277
theorem ok262 : CallOk P D.tab call262 := (ok_none.add C277 ent277)
theorem C262 : ∀ avs res, (m262 avs).val = some res → Con P D.tab 262 avs res := con262 ok262 pl262
theorem ok202 : CallOk P D.tab call202 := (ok_none.add C187 ent187)
theorem C202 : ∀ avs res, (m202 avs).val = some res → Con P D.tab 202 avs res := con202 ok202 pl202
theorem ok198 : CallOk P D.tab call198 := ((ok_none.add C261 ent261).add C262 ent262)
theorem C198 : ∀ avs res, (m198 avs).val = some res → Con P D.tab 198 avs res := con198 ok198 pl198
theorem ok199 : CallOk P D.tab call199 := ((ok_none.add C262 ent262).add C277 ent277)
theorem C199 : ∀ avs res, (m199 avs).val = some res → Con P D.tab 199 avs res := con199 ok199 pl199
theorem ok189 : CallOk P D.tab call189 := (ok_none.add C202 ent202)
theorem C189 : ∀ avs res, (m189 avs).val = some res → Con P D.tab 189 avs res := con189 ok189 pl189
theorem ok93 : CallOk P D.tab call93 := ((((ok_none.add C186 ent186).add C187 ent187).add C188 ent188).add C189 ent189)
theorem C93 : ∀ avs res, (m93 avs).val = some res → Con P D.tab 93 avs res := con93 ok93 pl93
theorem ok100 : CallOk P D.tab call100 := ((ok_none.add C198 ent198).add C199 ent199)
theorem C100 : ∀ avs res, (m100 avs).val = some res → Con P D.tab 100 avs res := con100 ok100 pl100
theorem ok109 : CallOk P D.tab call109 := ((ok_none.add C93 ent93).add C202 ent202)
theorem C109 : ∀ avs res, (m109 avs).val = some res → Con P D.tab 109 avs res := con109 ok109 pl109
theorem ok120 : CallOk P D.tab call120 := ((ok_none.add C100 ent100).add C199 ent199)
theorem C120 : ∀ avs res, (m120 avs).val = some res → Con P D.tab 120 avs res := con120 ok120 pl120
theorem ok110 : CallOk P D.tab call110 := ok_none
theorem C110 : ∀ avs res, (m110 avs).val = some res → Con P D.tab 110 avs res := con110 ok110 pl110
theorem ok121 : CallOk P D.tab call121 := ok_none
theorem C121 : ∀ avs res, (m121 avs).val = some res → Con P D.tab 121 avs res := con121 ok121 pl121
theorem ok122 : CallOk P D.tab call122 := ok_none
theorem C122 : ∀ avs res, (m122 avs).val = some res → Con P D.tab 122 avs res := con122 ok122 pl122
theorem ok123 : CallOk P D.tab call123 := (ok_none.add C121 ent121)
theorem C123 : ∀ avs res, (m123 avs).val = some res → Con P D.tab 123 avs res := con123 ok123 pl123
theorem ok37 : CallOk P D.tab call37 := (((ok_none.add C93 ent93).add C109 ent109).add C110 ent110)
theorem C37 : ∀ avs res, (m37 avs).val = some res → Con P D.tab 37 avs res := con37 ok37 pl37
theorem ok45 : CallOk P D.tab call45 := (((((ok_none.add C100 ent100).add C120 ent120).add C121 ent121).add C122 ent122).add C123 ent123)
theorem C45 : ∀ avs res, (m45 avs).val = some res → Con P D.tab 45 avs res := con45 ok45 pl45
end Go.Proofs.YtpdmeafoofkpaaaGreatDoor
