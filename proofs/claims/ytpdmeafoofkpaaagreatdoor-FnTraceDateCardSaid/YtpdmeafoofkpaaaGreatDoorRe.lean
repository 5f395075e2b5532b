/- The statement FnTraceDate. -/
import Derived.Test.YtpdmeafoofkpaaaGreatDoorRa
import Derived.Test.YtpdmeafoofkpaaaGreatDoorTie
import Derived.Test.YtpdmeafoofkpaaaGreatDoorCards
import Derived.SevenTiedAt
set_option linter.unusedVariables false
set_option linter.unusedSimpArgs false

namespace Go.Proofs.YtpdmeafoofkpaaaGreatDoor
open Go Go.Iv Go.ChangeShapes Go.WideShapes Go.ChangeAt Go.RowKit
theorem con_code8 (xs : List Int) (hx : u8s xs = true) : Con P D.tab 8 [.one (.list (.int .u8) xs)] (.one (.one (.fc (.sc (.bool true))))) :=
  C8 _ _ (by show (bif u8s xs then some _ else none) = _; rw [hx]; rfl)
theorem p8 : Tryz.f8.params = #[22] := by kernel_rfl
theorem fn8 : Tryz.prog.funcs[8]? = some Tryz.f8 := by kernel_rfl
set_option maxRecDepth 100000 in
theorem lifted8 (os : Os) (started : os.Started) (H : Type) (enc : TypeId × Value → H) :
    ReturnsInHanded {} Tryz.checked os 8 .any (fun w args => (Rows.fnTraceDateSpec.pre enc Tryz.prog Tryz.f8 Rows.fnTraceDateRow.domain false w args ∧ laidMetH Tryz.prog laid3 w) ∧ sizedMet enc Tryz.prog Tryz.f8 (OpenSpec.ofChange Rows.fnTraceDateSpec) false w args)
      (Rows.fnTraceDateSpec.post enc Tryz.prog Tryz.f8 false true false false) := by
  refine wrap_both (C := Tryz.checked) (X := fun w _ => laidMetH Tryz.prog laid3 w) (fun _ _ _ hh h => h.of_heap hh) knob started (by kernel_rfl) fn8
    (ChangeSpec.witness_shaped (enc := enc) (C := Tryz.checked) (os := os) (X := fun w _ => laidMetH Tryz.prog laid3 w) false (World.laidAll Tryz.prog os laid3) #[.slice none 0 0] 8 (World.laidAll_os _ _ _)
      (World.shaped_of_ZipB (by kernel_rfl) (by kernel_rfl)) (by kernel_rfl) (by kernel_rfl) (by kernel_rfl)
      (by rw [MakeChecks.laidMetH_plain _ _ _ (by kernel_rfl)]; exact laidMet_laidAll _ (by kernel_rfl) (by kernel_rfl))) ?_
  intro W base args ds gs before hval0 hW hL hs
  have hval : ∀ (j : Nat) t v, Tryz.f8.params[j]? = some t → args[j]? = some v → Value.okWide Tryz.prog W .any base t v := hval0
  have hW' := hW
  obtain ⟨p, q, hA0, hV0, rfl, _, _⟩ := hW
  have hA : DataW.TrodAll enc Tryz.prog W 0 (fun _ => true) true Tryz.f8.params.toList args.toList ds p := hA0
  have hV : DataW.TrodVars enc Tryz.prog W (fun _ => true) ["loop.example/mailwire/impl.monthNames"] gs q := hV0
  rw [p8] at hA hval
  obtain ⟨v0, d0, rfl, rfl, h0⟩ := trodAll_one hA
  obtain ⟨g, t, cs, fuel, dm, pm, rfl, hg, ht, hv, hd, rfl⟩ := trodVars_one hV
  obtain ⟨xs, hx, hr⟩ := open_code h0 (hval 0 22 v0 rfl rfl)
  refine (code_calls con_code8 hx hr (globW0 hL hs)).mono fun e W' ⟨he, hb⟩ => ?_
  subst he
  refine ⟨_, rfl, _, _, _, [] ++ [], p, MemPlace.row ⟨g, 0, none⟩ cs.size ++ pm, hW', trodAll_mk1 (shut_bool u4 true), ?_, ?_, hb.frame _, fun h => by cases h⟩
  · exact trodAll_mk1 (Below.trod laidOutT (by kernel_rfl) (of_decide_eq_true (by kernel_rfl)) h0 hb (fun x hx => by simpa using hW'.lt x (by simp [hx])))
  · exact months_stay hb hg ht hv hd (fun x hx => by simpa using hW'.lt x (by simp [hx]))

end Go.Proofs.YtpdmeafoofkpaaaGreatDoor
