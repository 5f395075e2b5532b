/- The contracts, closed. -/
import Derived.Test.YtpdmeafoofkpaaaGreatDoorKh
import Derived.Test.YtpdmeafoofkpaaaGreatDoorKg
set_option linter.unusedVariables false
set_option linter.unusedSimpArgs false

namespace Go.Proofs.YtpdmeafoofkpaaaGreatDoor
open Go Go.Iv
theorem ok86 : CallOk P D.tab call86 := ok_none
theorem C86 : ∀ ins avs res out, (m86 ins avs).val = some (res, out) → ConP P D.tab 86 ins avs res out := con86 ok86 pl86
theorem ok85 : CallOk P D.tab call85 := (ok_none.addP C86 ent86)
theorem C85 : ∀ ins avs res out, (m85 ins avs).val = some (res, out) → ConP P D.tab 85 ins avs res out := con85 ok85 pl85
theorem ok68 : CallOk P D.tab call68 := (ok_none.addP C86 ent86)
theorem C68 : ∀ ins avs res out, (m68 ins avs).val = some (res, out) → ConP P D.tab 68 ins avs res out := con68 ok68 pl68
theorem ok65 : CallOk P D.tab call65 := ok_none
theorem C65 : ∀ avs fs, m65 avs = some fs → ConN P D.tab 65 avs fs := con65 ok65 pl65
theorem ok88 : CallOk P D.tab call88 := (((ok_none.addP C68 ent68).addP C85 ent85).addP C86 ent86)
theorem C88 : ∀ ins avs res out, (m88 ins avs).val = some (res, out) → ConP P D.tab 88 ins avs res out := con88 ok88 pl88
theorem ok90 : CallOk P D.tab call90 := (((ok_none.addP C68 ent68).addP C86 ent86).add C102 ent102)
theorem C90 : ∀ ins avs res out, (m90 ins avs).val = some (res, out) → ConP P D.tab 90 ins avs res out := con90 ok90 pl90
theorem ok181 : CallOk P D.tab call181 := ((ok_none.add C261 ent261).add C262 ent262)
theorem C181 : ∀ avs res, (m181 avs).val = some res → Con P D.tab 181 avs res := con181 ok181 pl181
theorem ok92 : CallOk P D.tab call92 := (((ok_none.addP C85 ent85).addP C86 ent86).add C181 ent181)
theorem C92 : ∀ ins avs res out, (m92 ins avs).val = some (res, out) → ConP P D.tab 92 ins avs res out := con92 ok92 pl92
theorem ok91 : CallOk P D.tab call91 := ((ok_none.addP C85 ent85).addP C86 ent86)
theorem C91 : ∀ ins avs res out, (m91 ins avs).val = some (res, out) → ConP P D.tab 91 ins avs res out := con91 ok91 pl91
theorem ok27 : CallOk P D.tab call27 := (((((((ok_none.addN C65 ent65).addP C68 ent68).addP C85 ent85).addP C88 ent88).addP C90 ent90).addP C91 ent91).addP C92 ent92)
theorem C27 : ∀ avs res, (m27 avs).val = some res → Con P D.tab 27 avs res := con27 ok27 pl27
end Go.Proofs.YtpdmeafoofkpaaaGreatDoor
