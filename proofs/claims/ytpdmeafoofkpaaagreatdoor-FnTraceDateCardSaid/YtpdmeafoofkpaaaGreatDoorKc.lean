/- The contracts, closed. -/
import Derived.Test.YtpdmeafoofkpaaaGreatDoorKa
import Derived.Test.YtpdmeafoofkpaaaGreatDoorKb
set_option linter.unusedVariables false
set_option linter.unusedSimpArgs false

namespace Go.Proofs.YtpdmeafoofkpaaaGreatDoor
open Go Go.Iv
theorem C80 : ∀ avs res, (m80 avs).val = some res → Con P D.tab 80 avs res := con80
theorem C153 : ∀ avs res, (m153 avs).val = some res → Con P D.tab 153 avs res := con153
theorem C193 : ∀ avs res, (m193 avs).val = some res → Con P D.tab 193 avs res := con193
theorem C97 : ∀ xs avs ys, m97.f xs avs = some ys → ConB P D.tab 97 m97 xs avs ys := con97
theorem ok133 : CallOk P D.tab call133 := ok_none
theorem C133 : ∀ avs res, (m133 avs).val = some res → Con P D.tab 133 avs res := con133 ok133 pl133
theorem ok134 : CallOk P D.tab call134 := ok_none
theorem C134 : ∀ avs res, (m134 avs).val = some res → Con P D.tab 134 avs res := con134 ok134 pl134
theorem ok280 : CallOk P D.tab call280 := ok_none
theorem C280 : ∀ avs res, (m280 avs).val = some res → Con P D.tab 280 avs res := con280 ok280 pl280
theorem ok274 : CallOk P D.tab call274 := ok_none
theorem C274 : ∀ avs res, (m274 avs).val = some res → Con P D.tab 274 avs res := con274 ok274 pl274
theorem ok229 : CallOk P D.tab call229 := ((ok_none.add C274 ent274).add C280 ent280)
theorem C229 : ∀ avs res, (m229 avs).val = some res → Con P D.tab 229 avs res := con229 ok229 pl229
theorem ok197 : CallOk P D.tab call197 := ok_none
theorem C197 : ∀ avs res, (m197 avs).val = some res → Con P D.tab 197 avs res := con197 ok197 pl197
theorem ok273 : CallOk P D.tab call273 := (ok_none.add C274 ent274)
theorem C273 : ∀ avs res, (m273 avs).val = some res → Con P D.tab 273 avs res := con273 ok273 pl273
theorem ok272v0 : CallOk P D.tab call272v0 := (ok_none.add C229 ent229)
theorem C272v0 : ∀ avs res, (m272v0 avs).val = some res → Con P D.tab 272 avs res := con272v0 ok272v0 pl272v0
theorem ok272v1 : CallOk P D.tab call272v1 := (ok_none.add C274 ent274)
theorem C272v1 : ∀ avs res, (m272v1 avs).val = some res → Con P D.tab 272 avs res := con272v1 ok272v1 pl272v1
theorem ok272v2 : CallOk P D.tab call272v2 := (ok_none.add C273 ent273)
theorem C272v2 : ∀ avs res, (m272v2 avs).val = some res → Con P D.tab 272 avs res := con272v2 ok272v2 pl272v2
theorem ok232 : CallOk P D.tab call232 := (ok_none.add C197 ent197)
theorem C232 : ∀ avs res, (m232 avs).val = some res → Con P D.tab 232 avs res := con232 ok232 pl232
theorem ok233 : CallOk P D.tab call233 := (ok_none.add C272v0 ent272)
theorem C233 : ∀ avs res, (m233 avs).val = some res → Con P D.tab 233 avs res := con233 ok233 pl233
theorem ok285 : CallOk P D.tab call285 := (ok_none.add C232 ent232)
theorem C285 : ∀ avs res, (m285 avs).val = some res → Con P D.tab 285 avs res := con285 ok285 pl285
theorem ok154 : CallOk P D.tab call154 := ok_none
theorem C154 : ∀ avs res, (m154 avs).val = some res → Con P D.tab 154 avs res := con154 ok154 pl154
theorem ok156 : CallOk P D.tab call156 := ok_none
theorem C156 : ∀ avs res, (m156 avs).val = some res → Con P D.tab 156 avs res := con156 ok156 pl156
theorem ok278 : CallOk P D.tab call278 := (ok_none.add C156 ent156)
theorem C278 : ∀ avs res, (m278 avs).val = some res → Con P D.tab 278 avs res := con278 ok278 pl278
theorem ok83 : CallOk P D.tab call83 := ok_none
theorem C83 : ∀ avs res, (m83 avs).val = some res → Con P D.tab 83 avs res := con83 ok83 pl83
theorem ok191 : CallOk P D.tab call191 := (ok_none.add C272v2 ent272)
theorem C191 : ∀ avs res, (m191 avs).val = some res → Con P D.tab 191 avs res := con191 ok191 pl191
theorem ok190 : CallOk P D.tab call190 := (ok_none.add C191 ent191)
theorem C190 : ∀ avs res, (m190 avs).val = some res → Con P D.tab 190 avs res := con190 ok190 pl190
theorem ok243 : CallOk P D.tab call243 := (ok_none.add C233 ent233)
theorem C243 : ∀ avs res, (m243 avs).val = some res → Con P D.tab 243 avs res := con243 ok243 pl243
theorem ok279 : CallOk P D.tab call279 := (ok_none.add C133 ent133)
theorem C279 : ∀ avs res, (m279 avs).val = some res → Con P D.tab 279 avs res := con279 ok279 pl279
theorem ok218v0 : CallOk P D.tab call218v0 := (ok_none.add C190 ent190)
theorem C218v0 : ∀ avs res, (m218v0 avs).val = some res → Con P D.tab 218 avs res := con218v0 ok218v0 pl218v0
theorem ok131v0 : CallOk P D.tab call131v0 := (ok_none.add C218v0 ent218)
theorem C131v0 : ∀ avs res, (m131v0 avs).val = some res → Con P D.tab 131 avs res := con131v0 ok131v0 pl131v0
theorem ok94 : CallOk P D.tab call94 := ((ok_none.add C80 ent80).add C131v0 ent131)
theorem C94 : ∀ avs res, (m94 avs).val = some res → Con P D.tab 94 avs res := con94 ok94 pl94
theorem ok218v1 : CallOk P D.tab call218v1 := (ok_none.add C243 ent243)
theorem C218v1 : ∀ avs res, (m218v1 avs).val = some res → Con P D.tab 218 avs res := con218v1 ok218v1 pl218v1
theorem ok131v1 : CallOk P D.tab call131v1 := (ok_none.add C218v1 ent218)
theorem C131v1 : ∀ avs res, (m131v1 avs).val = some res → Con P D.tab 131 avs res := con131v1 ok131v1 pl131v1
theorem ok166 : CallOk P D.tab call166 := ((ok_none.add C80 ent80).add C131v1 ent131)
theorem C166 : ∀ avs res, (m166 avs).val = some res → Con P D.tab 166 avs res := con166 ok166 pl166
theorem ok71 : CallOk P D.tab call71 := (((ok_none.add C94 ent94).add C153 ent153).add C166 ent166)
theorem C71 : ∀ avs res, (m71 avs).val = some res → Con P D.tab 71 avs res := con71 ok71 pl71
theorem ok203 : CallOk P D.tab call203 := (ok_none.add C71 ent71)
theorem C203 : ∀ avs res, (m203 avs).val = some res → Con P D.tab 203 avs res := con203 ok203 pl203
theorem ok204 : CallOk P D.tab call204 := (ok_none.add C71 ent71)
theorem C204 : ∀ avs res, (m204 avs).val = some res → Con P D.tab 204 avs res := con204 ok204 pl204
theorem ok218v2 : CallOk P D.tab call218v2 := (ok_none.add C204 ent204)
theorem C218v2 : ∀ avs res, (m218v2 avs).val = some res → Con P D.tab 218 avs res := con218v2 ok218v2 pl218v2
theorem ok218v3 : CallOk P D.tab call218v3 := (ok_none.add C279 ent279)
theorem C218v3 : ∀ avs res, (m218v3 avs).val = some res → Con P D.tab 218 avs res := con218v3 ok218v3 pl218v3
theorem ok131v2 : CallOk P D.tab call131v2 := (ok_none.add C218v2 ent218)
theorem C131v2 : ∀ avs res, (m131v2 avs).val = some res → Con P D.tab 131 avs res := con131v2 ok131v2 pl131v2
theorem ok131v3 : CallOk P D.tab call131v3 := (ok_none.add C218v3 ent218)
theorem C131v3 : ∀ avs res, (m131v3 avs).val = some res → Con P D.tab 131 avs res := con131v3 ok131v3 pl131v3
theorem ok99 : CallOk P D.tab call99 := ((ok_none.add C83 ent83).add C197 ent197)
theorem C99 : ∀ avs res, (m99 avs).val = some res → Con P D.tab 99 avs res := con99 ok99 pl99
theorem ok216 : CallOk P D.tab call216 := ((ok_none.add C83 ent83).add C285 ent285)
theorem C216 : ∀ avs res, (m216 avs).val = some res → Con P D.tab 216 avs res := con216 ok216 pl216
theorem ok205 : CallOk P D.tab call205 := (ok_none.add C131v3 ent131)
theorem C205 : ∀ avs res, (m205 avs).val = some res → Con P D.tab 205 avs res := con205 ok205 pl205
theorem ok231 : CallOk P D.tab call231 := ok_none
theorem C231 : ∀ avs res, (m231 avs).val = some res → Con P D.tab 231 avs res := con231 ok231 pl231
theorem ok144 : CallOk P D.tab call144 := (ok_none.add C231 ent231)
theorem C144 : ∀ avs res, (m144 avs).val = some res → Con P D.tab 144 avs res := con144 ok144 pl144
end Go.Proofs.YtpdmeafoofkpaaaGreatDoor
