/- FnTraceDate returns true for every input, and the input reads behind the call as it read before: the tied card of the row, with no condition beside those that the row itself lays. -/
import Derived.Test.YtpdmeafoofkpaaaGreatDoorRd
import Derived.Test.YtpdmeafoofkpaaaGreatDoorRe
set_option linter.unusedVariables false
set_option linter.unusedSimpArgs false

namespace Go.Proofs.YtpdmeafoofkpaaaGreatDoor
open Go Go.Iv
theorem mainT : Tryz.pinned.checked.prog.mainIs = some (true, "62fd58e03111b2c7e8e1fd4a05245bca8da682c075016dac7d80fd52b441987b".toList) := by kernel_rfl
theorem looksT : false = Tryz.pinned.checked.prog.looks [] := by kernel_rfl
theorem goes8 : false = Rows.fnTraceDateRow.goesBy Tryz.pinned.checked.prog := by kernel_rfl
theorem wft8 : Rows.fnTraceDateRow.wfByText (OpenSpec.ofChange Rows.fnTraceDateSpec) = true := by kernel_rfl
theorem fnm8 : Tryz.pinned.checked.prog.funcNamed Rows.fnTraceDateRow.func = some 8 := by kernel_rfl
theorem inst8 : Tryz.f8.isInstance Tryz.pinned.checked.prog Rows.fnTraceDateRow.origin Rows.fnTraceDateRow.targs := of_decide_eq_true (by kernel_rfl)
theorem wrap8 : Tryz.f8.isWrapper Tryz.pinned.checked.prog Rows.fnTraceDateRow.wrapper Rows.fnTraceDateRow.mainSum := by unfold Func.isWrapper; rw [if_neg (of_decide_eq_false (by kernel_rfl))]; exact ⟨rfl, rfl⟩
theorem holds8 : Rows.FnTraceDateSaid :=
  OpenClaim.holds_of_wide 8 Tryz.f8 rfl rfl rfl rfl rfl rfl rfl ⟨rfl, rfl, rfl, rfl, rfl⟩ rfl rfl rfl rfl rfl fnm8 fn8 closed8 inst8 wrap8
    (fun os started H enc _ => lifted8 os started H enc)
theorem wants22 : Tryz.pinned.checked.prog.wantsStandIn 22 = false := by kernel_rfl
theorem fnTraceDate_card_holds : Rows.FnTraceDateCardSaid :=
  Claim7.holds_tied_plain_at .later [] [.data, .widerDeep, .pinned] true (true, "62fd58e03111b2c7e8e1fd4a05245bca8da682c075016dac7d80fd52b441987b") false holds8 (fun _ h => by cases h) wft8 (fun _ h => by cases h) fnTraceDate_row_tie rfl ⟨rfl, rfl⟩ mainT rfl
    (fun f fn hf hfn => by
      obtain rfl : f = 8 := Option.some.inj (fnm8.symm.trans hf) |>.symm
      obtain rfl : fn = Tryz.f8 := (Option.some.inj (fn8.symm.trans hfn)).symm
      refine ⟨looksT, fun j t ht => ?_⟩
      rw [p8] at ht
      have hm : t = 22 := by
        rcases j with _ | j
        · exact (Option.some.inj ht).symm
        · cases ht
      rw [hm]; exact wants22)
    goes8
#print axioms fnTraceDate_card_holds
end Go.Proofs.YtpdmeafoofkpaaaGreatDoor
