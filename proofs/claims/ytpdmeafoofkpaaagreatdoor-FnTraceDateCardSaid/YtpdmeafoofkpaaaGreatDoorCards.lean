/-
  DERIVED. GIVEN WITH THE SEED: THE CARDS: each row of YtpdmeafoofkpaaaGreatDoorRows.lean that lists a variable, with what it lists TIED to the program's text (the seventh form; the later family's looks); each row that meets fmt, with fmt's text TOLD by the authors' own Lean function (tested against real Go, not proved from fmt's source: count such statements apart). THE CARD IS WHAT COUNTS. Prove the row's statement (the work); the ties are given (YtpdmeafoofkpaaaGreatDoorTie.lean); close each card by the builder's one call (the guide's Derived/Test/ToyasCard.lean, 'card_holds'). Laid BY PROGRAM, IN A SANDBOX (cutbox-door.mjs). By AI agents, Wed Nov 11 2026. No macro, syntax, notation, axiom, sorry.
-/
import Derived.Test.YtpdmeafoofkpaaaGreatDoorRows
import GoSem.ClaimSeven
namespace Go.Proofs.YtpdmeafoofkpaaaGreatDoor
namespace Rows

/-- THE TIED CARD OF 'laws.FnScriptBox'. -/
def fnScriptBoxCard : Claim7 := { stood := { row := fnScriptBoxRow, standIns := [], harness := (true, "62fd58e03111b2c7e8e1fd4a05245bca8da682c075016dac7d80fd52b441987b"), looks := false }, kinds := [], alts := [], laidByText := true, laidKinds := [.data, .widerDeep, .pinned], laidTests := true, laidLooks := .later }
def FnScriptBoxCardSaid : Prop := Claim7.holds Tryz.pinned (.plain (OpenSpec.ofChange fnScriptBoxSpec)) fnScriptBoxCard

/-- THE TIED CARD OF 'laws.FnExactRunScript'. -/
def fnExactRunScriptCard : Claim7 := { stood := { row := fnExactRunScriptRow, standIns := [], harness := (true, "62fd58e03111b2c7e8e1fd4a05245bca8da682c075016dac7d80fd52b441987b"), looks := false }, kinds := [], alts := [], laidByText := true, laidKinds := [.data, .widerDeep, .pinned], laidTests := true, laidLooks := .later }
def FnExactRunScriptCardSaid : Prop := Claim7.holds Tryz.pinned (.plain (OpenSpec.ofChange fnExactRunScriptSpec)) fnExactRunScriptCard

/-- THE TIED CARD OF 'laws.FnScriptPrefix'. -/
def fnScriptPrefixCard : Claim7 := { stood := { row := fnScriptPrefixRow, standIns := [], harness := (true, "62fd58e03111b2c7e8e1fd4a05245bca8da682c075016dac7d80fd52b441987b"), looks := false }, kinds := [], alts := [], laidByText := true, laidKinds := [.data, .widerDeep, .pinned], laidTests := true, laidLooks := .later }
def FnScriptPrefixCardSaid : Prop := Claim7.holds Tryz.pinned (.plain (OpenSpec.ofChange fnScriptPrefixSpec)) fnScriptPrefixCard

/-- THE TIED CARD OF 'laws.FnHopsTrace'. -/
def fnHopsTraceCard : Claim7 := { stood := { row := fnHopsTraceRow, standIns := [], harness := (true, "62fd58e03111b2c7e8e1fd4a05245bca8da682c075016dac7d80fd52b441987b"), looks := false }, kinds := [], alts := [], laidByText := true, laidKinds := [.data, .widerDeep, .pinned], laidTests := true, laidLooks := .later }
def FnHopsTraceCardSaid : Prop := Claim7.holds Tryz.pinned (.plain (OpenSpec.ofChange fnHopsTraceSpec)) fnHopsTraceCard

/-- THE TIED CARD OF 'laws.FnExactTraceMail'. -/
def fnExactTraceMailCard : Claim7 := { stood := { row := fnExactTraceMailRow, standIns := [], harness := (true, "62fd58e03111b2c7e8e1fd4a05245bca8da682c075016dac7d80fd52b441987b"), looks := false }, kinds := [], alts := [], laidByText := true, laidKinds := [.data, .widerDeep, .pinned], laidTests := true, laidLooks := .later }
def FnExactTraceMailCardSaid : Prop := Claim7.holds Tryz.pinned (.plain (OpenSpec.ofChange fnExactTraceMailSpec)) fnExactTraceMailCard

/-- THE TIED CARD OF 'laws.FnTraceDate'. -/
def fnTraceDateCard : Claim7 := { stood := { row := fnTraceDateRow, standIns := [], harness := (true, "62fd58e03111b2c7e8e1fd4a05245bca8da682c075016dac7d80fd52b441987b"), looks := false }, kinds := [], alts := [], laidByText := true, laidKinds := [.data, .widerDeep, .pinned], laidTests := true, laidLooks := .later }
def FnTraceDateCardSaid : Prop := Claim7.holds Tryz.pinned (.plain (OpenSpec.ofChange fnTraceDateSpec)) fnTraceDateCard

/-- THE TIED CARD OF 'laws.FnTraceMail'. -/
def fnTraceMailCard : Claim7 := { stood := { row := fnTraceMailRow, standIns := [], harness := (true, "62fd58e03111b2c7e8e1fd4a05245bca8da682c075016dac7d80fd52b441987b"), looks := false }, kinds := [], alts := [], laidByText := true, laidKinds := [.data, .widerDeep, .pinned], laidTests := true, laidLooks := .later }
def FnTraceMailCardSaid : Prop := Claim7.holds Tryz.pinned (.plain (OpenSpec.ofChange fnTraceMailSpec)) fnTraceMailCard

/-- THE TIED CARD OF 'laws.FnScriptName'. -/
def fnScriptNameCard : Claim7 := { stood := { row := fnScriptNameRow, standIns := [], harness := (true, "62fd58e03111b2c7e8e1fd4a05245bca8da682c075016dac7d80fd52b441987b"), looks := false }, kinds := [], alts := [], laidByText := true, laidKinds := [.data, .widerDeep, .pinned], laidTests := true, laidLooks := .later }
def FnScriptNameCardSaid : Prop := Claim7.holds Tryz.pinned (.plain (OpenSpec.ofChange fnScriptNameSpec)) fnScriptNameCard

/-- THE TIED CARD OF 'laws.FnScriptClear'. -/
def fnScriptClearCard : Claim7 := { stood := { row := fnScriptClearRow, standIns := [], harness := (true, "62fd58e03111b2c7e8e1fd4a05245bca8da682c075016dac7d80fd52b441987b"), looks := false }, kinds := [], alts := [], laidByText := true, laidKinds := [.data, .widerDeep, .pinned], laidTests := true, laidLooks := .later }
def FnScriptClearCardSaid : Prop := Claim7.holds Tryz.pinned (.plain (OpenSpec.ofChange fnScriptClearSpec)) fnScriptClearCard

/-- THE TIED CARD OF 'laws.FnScriptDate'. -/
def fnScriptDateCard : Claim7 := { stood := { row := fnScriptDateRow, standIns := [], harness := (true, "62fd58e03111b2c7e8e1fd4a05245bca8da682c075016dac7d80fd52b441987b"), looks := false }, kinds := [], alts := [], laidByText := true, laidKinds := [.data, .widerDeep, .pinned], laidTests := true, laidLooks := .later }
def FnScriptDateCardSaid : Prop := Claim7.holds Tryz.pinned (.plain (OpenSpec.ofChange fnScriptDateSpec)) fnScriptDateCard

/-- THE TIED CARD OF 'laws.FnScriptTrace'. -/
def fnScriptTraceCard : Claim7 := { stood := { row := fnScriptTraceRow, standIns := [], harness := (true, "62fd58e03111b2c7e8e1fd4a05245bca8da682c075016dac7d80fd52b441987b"), looks := false }, kinds := [], alts := [], laidByText := true, laidKinds := [.data, .widerDeep, .pinned], laidTests := true, laidLooks := .later }
def FnScriptTraceCardSaid : Prop := Claim7.holds Tryz.pinned (.plain (OpenSpec.ofChange fnScriptTraceSpec)) fnScriptTraceCard

/-- THE TIED CARD OF 'laws.FnScriptList'. -/
def fnScriptListCard : Claim7 := { stood := { row := fnScriptListRow, standIns := [], harness := (true, "62fd58e03111b2c7e8e1fd4a05245bca8da682c075016dac7d80fd52b441987b"), looks := false }, kinds := [], alts := [], laidByText := true, laidKinds := [.data, .widerDeep, .pinned], laidTests := true, laidLooks := .later }
def FnScriptListCardSaid : Prop := Claim7.holds Tryz.pinned (.plain (OpenSpec.ofChange fnScriptListSpec)) fnScriptListCard

/-- THE TIED CARD OF 'laws.FnScriptReturn'. -/
def fnScriptReturnCard : Claim7 := { stood := { row := fnScriptReturnRow, standIns := [], harness := (true, "62fd58e03111b2c7e8e1fd4a05245bca8da682c075016dac7d80fd52b441987b"), looks := false }, kinds := [], alts := [], laidByText := true, laidKinds := [.data, .widerDeep, .pinned], laidTests := true, laidLooks := .later }
def FnScriptReturnCardSaid : Prop := Claim7.holds Tryz.pinned (.plain (OpenSpec.ofChange fnScriptReturnSpec)) fnScriptReturnCard

/-- THE TIED CARD OF 'laws.FnScriptSay'. -/
def fnScriptSayCard : Claim7 := { stood := { row := fnScriptSayRow, standIns := [], harness := (true, "62fd58e03111b2c7e8e1fd4a05245bca8da682c075016dac7d80fd52b441987b"), looks := false }, kinds := [], alts := [], laidByText := true, laidKinds := [.data, .widerDeep, .pinned], laidTests := true, laidLooks := .later }
def FnScriptSayCardSaid : Prop := Claim7.holds Tryz.pinned (.plain (OpenSpec.ofChange fnScriptSaySpec)) fnScriptSayCard

/-- THE TIED CARD OF 'laws.FnScriptAddress'. -/
def fnScriptAddressCard : Claim7 := { stood := { row := fnScriptAddressRow, standIns := [], harness := (true, "62fd58e03111b2c7e8e1fd4a05245bca8da682c075016dac7d80fd52b441987b"), looks := false }, kinds := [], alts := [], laidByText := true, laidKinds := [.data, .widerDeep, .pinned], laidTests := true, laidLooks := .later }
def FnScriptAddressCardSaid : Prop := Claim7.holds Tryz.pinned (.plain (OpenSpec.ofChange fnScriptAddressSpec)) fnScriptAddressCard

/-- THE TIED CARD OF 'laws.FnScriptMail'. -/
def fnScriptMailCard : Claim7 := { stood := { row := fnScriptMailRow, standIns := [], harness := (true, "62fd58e03111b2c7e8e1fd4a05245bca8da682c075016dac7d80fd52b441987b"), looks := false }, kinds := [], alts := [], laidByText := true, laidKinds := [.data, .widerDeep, .pinned], laidTests := true, laidLooks := .later }
def FnScriptMailCardSaid : Prop := Claim7.holds Tryz.pinned (.plain (OpenSpec.ofChange fnScriptMailSpec)) fnScriptMailCard

/-- THE TIED CARD OF 'laws.FnScriptKind'. -/
def fnScriptKindCard : Claim7 := { stood := { row := fnScriptKindRow, standIns := [], harness := (true, "62fd58e03111b2c7e8e1fd4a05245bca8da682c075016dac7d80fd52b441987b"), looks := false }, kinds := [], alts := [], laidByText := true, laidKinds := [.data, .widerDeep, .pinned], laidTests := true, laidLooks := .later }
def FnScriptKindCardSaid : Prop := Claim7.holds Tryz.pinned (.plain (OpenSpec.ofChange fnScriptKindSpec)) fnScriptKindCard

/-- THE SECOND FORM's CARD OF 'laws.FnScriptBox'. -/
def fnScriptBoxUptoCard : Claim7 := { stood := { row := fnScriptBoxUptoRow, standIns := [], harness := (true, "62fd58e03111b2c7e8e1fd4a05245bca8da682c075016dac7d80fd52b441987b"), looks := false }, kinds := [], alts := [], laidByText := true, laidKinds := [.data, .widerDeep, .pinned], laidTests := true, laidLooks := .later }
def FnScriptBoxUptoCardSaid : Prop := Claim7.holds Tryz.pinned (.plain (OpenSpec.upto fnScriptBoxSpec)) fnScriptBoxUptoCard

/-- THE SECOND FORM's CARD OF 'laws.FnExactRunScript'. -/
def fnExactRunScriptUptoCard : Claim7 := { stood := { row := fnExactRunScriptUptoRow, standIns := [], harness := (true, "62fd58e03111b2c7e8e1fd4a05245bca8da682c075016dac7d80fd52b441987b"), looks := false }, kinds := [], alts := [], laidByText := true, laidKinds := [.data, .widerDeep, .pinned], laidTests := true, laidLooks := .later }
def FnExactRunScriptUptoCardSaid : Prop := Claim7.holds Tryz.pinned (.plain (OpenSpec.upto fnExactRunScriptSpec)) fnExactRunScriptUptoCard

/-- THE SECOND FORM's CARD OF 'laws.FnScriptPrefix'. -/
def fnScriptPrefixUptoCard : Claim7 := { stood := { row := fnScriptPrefixUptoRow, standIns := [], harness := (true, "62fd58e03111b2c7e8e1fd4a05245bca8da682c075016dac7d80fd52b441987b"), looks := false }, kinds := [], alts := [], laidByText := true, laidKinds := [.data, .widerDeep, .pinned], laidTests := true, laidLooks := .later }
def FnScriptPrefixUptoCardSaid : Prop := Claim7.holds Tryz.pinned (.plain (OpenSpec.upto fnScriptPrefixSpec)) fnScriptPrefixUptoCard

/-- THE SECOND FORM's CARD OF 'laws.FnHopsTrace'. -/
def fnHopsTraceUptoCard : Claim7 := { stood := { row := fnHopsTraceUptoRow, standIns := [], harness := (true, "62fd58e03111b2c7e8e1fd4a05245bca8da682c075016dac7d80fd52b441987b"), looks := false }, kinds := [], alts := [], laidByText := true, laidKinds := [.data, .widerDeep, .pinned], laidTests := true, laidLooks := .later }
def FnHopsTraceUptoCardSaid : Prop := Claim7.holds Tryz.pinned (.plain (OpenSpec.upto fnHopsTraceSpec)) fnHopsTraceUptoCard

/-- THE SECOND FORM's CARD OF 'laws.FnExactTraceMail'. -/
def fnExactTraceMailUptoCard : Claim7 := { stood := { row := fnExactTraceMailUptoRow, standIns := [], harness := (true, "62fd58e03111b2c7e8e1fd4a05245bca8da682c075016dac7d80fd52b441987b"), looks := false }, kinds := [], alts := [], laidByText := true, laidKinds := [.data, .widerDeep, .pinned], laidTests := true, laidLooks := .later }
def FnExactTraceMailUptoCardSaid : Prop := Claim7.holds Tryz.pinned (.plain (OpenSpec.upto fnExactTraceMailSpec)) fnExactTraceMailUptoCard

/-- THE SECOND FORM's CARD OF 'laws.FnTraceDate'. -/
def fnTraceDateUptoCard : Claim7 := { stood := { row := fnTraceDateUptoRow, standIns := [], harness := (true, "62fd58e03111b2c7e8e1fd4a05245bca8da682c075016dac7d80fd52b441987b"), looks := false }, kinds := [], alts := [], laidByText := true, laidKinds := [.data, .widerDeep, .pinned], laidTests := true, laidLooks := .later }
def FnTraceDateUptoCardSaid : Prop := Claim7.holds Tryz.pinned (.plain (OpenSpec.upto fnTraceDateSpec)) fnTraceDateUptoCard

/-- THE SECOND FORM's CARD OF 'laws.FnTraceMail'. -/
def fnTraceMailUptoCard : Claim7 := { stood := { row := fnTraceMailUptoRow, standIns := [], harness := (true, "62fd58e03111b2c7e8e1fd4a05245bca8da682c075016dac7d80fd52b441987b"), looks := false }, kinds := [], alts := [], laidByText := true, laidKinds := [.data, .widerDeep, .pinned], laidTests := true, laidLooks := .later }
def FnTraceMailUptoCardSaid : Prop := Claim7.holds Tryz.pinned (.plain (OpenSpec.upto fnTraceMailSpec)) fnTraceMailUptoCard

/-- THE SECOND FORM's CARD OF 'laws.FnScriptName'. -/
def fnScriptNameUptoCard : Claim7 := { stood := { row := fnScriptNameUptoRow, standIns := [], harness := (true, "62fd58e03111b2c7e8e1fd4a05245bca8da682c075016dac7d80fd52b441987b"), looks := false }, kinds := [], alts := [], laidByText := true, laidKinds := [.data, .widerDeep, .pinned], laidTests := true, laidLooks := .later }
def FnScriptNameUptoCardSaid : Prop := Claim7.holds Tryz.pinned (.plain (OpenSpec.upto fnScriptNameSpec)) fnScriptNameUptoCard

/-- THE SECOND FORM's CARD OF 'laws.FnScriptClear'. -/
def fnScriptClearUptoCard : Claim7 := { stood := { row := fnScriptClearUptoRow, standIns := [], harness := (true, "62fd58e03111b2c7e8e1fd4a05245bca8da682c075016dac7d80fd52b441987b"), looks := false }, kinds := [], alts := [], laidByText := true, laidKinds := [.data, .widerDeep, .pinned], laidTests := true, laidLooks := .later }
def FnScriptClearUptoCardSaid : Prop := Claim7.holds Tryz.pinned (.plain (OpenSpec.upto fnScriptClearSpec)) fnScriptClearUptoCard

/-- THE SECOND FORM's CARD OF 'laws.FnScriptDate'. -/
def fnScriptDateUptoCard : Claim7 := { stood := { row := fnScriptDateUptoRow, standIns := [], harness := (true, "62fd58e03111b2c7e8e1fd4a05245bca8da682c075016dac7d80fd52b441987b"), looks := false }, kinds := [], alts := [], laidByText := true, laidKinds := [.data, .widerDeep, .pinned], laidTests := true, laidLooks := .later }
def FnScriptDateUptoCardSaid : Prop := Claim7.holds Tryz.pinned (.plain (OpenSpec.upto fnScriptDateSpec)) fnScriptDateUptoCard

/-- THE SECOND FORM's CARD OF 'laws.FnScriptTrace'. -/
def fnScriptTraceUptoCard : Claim7 := { stood := { row := fnScriptTraceUptoRow, standIns := [], harness := (true, "62fd58e03111b2c7e8e1fd4a05245bca8da682c075016dac7d80fd52b441987b"), looks := false }, kinds := [], alts := [], laidByText := true, laidKinds := [.data, .widerDeep, .pinned], laidTests := true, laidLooks := .later }
def FnScriptTraceUptoCardSaid : Prop := Claim7.holds Tryz.pinned (.plain (OpenSpec.upto fnScriptTraceSpec)) fnScriptTraceUptoCard

/-- THE SECOND FORM's CARD OF 'laws.FnScriptList'. -/
def fnScriptListUptoCard : Claim7 := { stood := { row := fnScriptListUptoRow, standIns := [], harness := (true, "62fd58e03111b2c7e8e1fd4a05245bca8da682c075016dac7d80fd52b441987b"), looks := false }, kinds := [], alts := [], laidByText := true, laidKinds := [.data, .widerDeep, .pinned], laidTests := true, laidLooks := .later }
def FnScriptListUptoCardSaid : Prop := Claim7.holds Tryz.pinned (.plain (OpenSpec.upto fnScriptListSpec)) fnScriptListUptoCard

/-- THE SECOND FORM's CARD OF 'laws.FnScriptReturn'. -/
def fnScriptReturnUptoCard : Claim7 := { stood := { row := fnScriptReturnUptoRow, standIns := [], harness := (true, "62fd58e03111b2c7e8e1fd4a05245bca8da682c075016dac7d80fd52b441987b"), looks := false }, kinds := [], alts := [], laidByText := true, laidKinds := [.data, .widerDeep, .pinned], laidTests := true, laidLooks := .later }
def FnScriptReturnUptoCardSaid : Prop := Claim7.holds Tryz.pinned (.plain (OpenSpec.upto fnScriptReturnSpec)) fnScriptReturnUptoCard

/-- THE SECOND FORM's CARD OF 'laws.FnScriptSay'. -/
def fnScriptSayUptoCard : Claim7 := { stood := { row := fnScriptSayUptoRow, standIns := [], harness := (true, "62fd58e03111b2c7e8e1fd4a05245bca8da682c075016dac7d80fd52b441987b"), looks := false }, kinds := [], alts := [], laidByText := true, laidKinds := [.data, .widerDeep, .pinned], laidTests := true, laidLooks := .later }
def FnScriptSayUptoCardSaid : Prop := Claim7.holds Tryz.pinned (.plain (OpenSpec.upto fnScriptSaySpec)) fnScriptSayUptoCard

/-- THE SECOND FORM's CARD OF 'laws.FnScriptAddress'. -/
def fnScriptAddressUptoCard : Claim7 := { stood := { row := fnScriptAddressUptoRow, standIns := [], harness := (true, "62fd58e03111b2c7e8e1fd4a05245bca8da682c075016dac7d80fd52b441987b"), looks := false }, kinds := [], alts := [], laidByText := true, laidKinds := [.data, .widerDeep, .pinned], laidTests := true, laidLooks := .later }
def FnScriptAddressUptoCardSaid : Prop := Claim7.holds Tryz.pinned (.plain (OpenSpec.upto fnScriptAddressSpec)) fnScriptAddressUptoCard

/-- THE SECOND FORM's CARD OF 'laws.FnScriptMail'. -/
def fnScriptMailUptoCard : Claim7 := { stood := { row := fnScriptMailUptoRow, standIns := [], harness := (true, "62fd58e03111b2c7e8e1fd4a05245bca8da682c075016dac7d80fd52b441987b"), looks := false }, kinds := [], alts := [], laidByText := true, laidKinds := [.data, .widerDeep, .pinned], laidTests := true, laidLooks := .later }
def FnScriptMailUptoCardSaid : Prop := Claim7.holds Tryz.pinned (.plain (OpenSpec.upto fnScriptMailSpec)) fnScriptMailUptoCard

/-- THE SECOND FORM's CARD OF 'laws.FnScriptKind'. -/
def fnScriptKindUptoCard : Claim7 := { stood := { row := fnScriptKindUptoRow, standIns := [], harness := (true, "62fd58e03111b2c7e8e1fd4a05245bca8da682c075016dac7d80fd52b441987b"), looks := false }, kinds := [], alts := [], laidByText := true, laidKinds := [.data, .widerDeep, .pinned], laidTests := true, laidLooks := .later }
def FnScriptKindUptoCardSaid : Prop := Claim7.holds Tryz.pinned (.plain (OpenSpec.upto fnScriptKindSpec)) fnScriptKindUptoCard
end Rows
end Go.Proofs.YtpdmeafoofkpaaaGreatDoor
