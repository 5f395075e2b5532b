/- Texts of this proof, joined: Rw1 Rw2. -/
import Derived.Test.YtpdmeafoofkpaaaGreatDoorKk
import Derived.Test.YtpdmeafoofkpaaaGreatDoorRows
import Derived.ProofKit
import Derived.OpenShut
import Derived.LaidMore
import Derived.Lay
import Derived.Shelf.Vars
import Derived.Stop.Joined
set_option linter.unusedVariables false
set_option linter.unusedSimpArgs false
/- From the contracts to the rows: what the listed variables hold, how an argument is opened, what the call leaves. -/
namespace Go.Proofs.YtpdmeafoofkpaaaGreatDoor
open Go Go.Iv Go.ChangeShapes Go.WideShapes Go.ChangeAt Go.RowKit
def laid3 : List (String × DataW Unit) := [("unicode/utf8.acceptRanges", Rows.laid_unicode_utf8_acceptRanges), ("loop.example/mailwire/impl.monthNames", Rows.laid_loop_example_mailwire_impl_monthNames), ("unicode/utf8.first", Rows.laid_unicode_utf8_first)]
theorem knob : ownKnob Tryz.prog.godebug = none := by kernel_rfl
theorem laidOutT : laidOutB Tryz.prog = true := by kernel_rfl
theorem gMonths : Tryz.prog.globalNamed "loop.example/mailwire/impl.monthNames" = some 0 := by kernel_rfl
theorem tMonths : (Tryz.prog.globals[0]?).map (·.type) = some 124 := by kernel_rfl
theorem u124 : Tryz.prog.underlying 124 = some (.array 12 9) := by kernel_rfl
theorem u9 : Tryz.prog.underlying 9 = some .string := by kernel_rfl
theorem u22 : Tryz.prog.underlying 22 = some (.slice 5) := by kernel_rfl
theorem u5 : Tryz.prog.underlying 5 = some (.int .u8) := by kernel_rfl
theorem u4 : Tryz.prog.underlying 4 = some .bool := by kernel_rfl
theorem c5 : Tryz.prog.cellsOf 5 = 1 := by kernel_rfl
theorem c9 : Tryz.prog.cellsOf 9 = 1 := by kernel_rfl

theorem wrap_both {H : Type} {enc : TypeId × Value → H} {a : Assume} {C : Checked} {os : Os} {f : FuncId} {fn : Func} {s : ChangeSpec} {conds : List PathCond} {apart fresh handsOn again : Bool} {X : World → Array Value → Prop}
    (hX : ∀ (w w' : World) (args : Array Value), w.heap = w'.heap → X w args → X w' args)
    (own : ownKnob C.prog.godebug = none) (started : os.Started) (noInit : C.prog.inits.idxOf? f = none) (hfn : C.prog.funcs[f]? = some fn)
    (witness : ∃ (w : World) (tape : Tape) (i : Input), w.os = os ∧ (w.forCall tape i).Shaped C.prog ∧ i.vars = [] ∧ Input.okWide C.prog (w.forCall tape i) .any w.heap.size f i ∧
      ((s.pre enc C.prog fn conds apart (w.forCall tape i).memory i.args ∧ X (w.forCall tape i).memory i.args) ∧ sizedMet enc C.prog fn (OpenSpec.ofChange s) apart (w.forCall tape i).memory i.args) ∧ a.holds C.prog (lone (Frame.enter C.prog f i.args .normal) [] (w.forCall tape i)))
    (contract : ∀ (W : World) (base : Nat) (args : Array Value) (ds gs : List (DataW H)) (before : List MemPlace),
      (∀ (j : Nat) t v, fn.params[j]? = some t → args[j]? = some v → Value.okWide C.prog W .any base t v) →
      DataW.Whole enc C.prog fn.params.toList s.vars apart W args.toList ds gs before → X W args → W.ShapedOpen C.prog →
      Calls C.prog f args W fun e W' => ∃ v, e = .returned v ∧ s.post enc C.prog fn apart fresh handsOn again W args v W') :
    ReturnsInHanded a C os f .any (fun w args => (s.pre enc C.prog fn conds apart w args ∧ X w args) ∧ sizedMet enc C.prog fn (OpenSpec.ofChange s) apart w args) (s.post enc C.prog fn apart fresh handsOn again) := by
  refine returnsInHanded_of_calls own started noInit witness ?_
  intro w tape i _ shape _ hok hpre _
  obtain ⟨_, _, _, fn', hfn', _, _, _, _, hval⟩ := hok
  obtain rfl : fn' = fn := Option.some.inj (hfn'.symm.trans hfn)
  obtain ⟨⟨⟨ds, gs, before, hw, _⟩, hx⟩, _⟩ := hpre
  refine (contract (w.forCall tape i) w.heap.size i.args ds gs before hval (DataW.Whole.of_heap (w' := w.forCall tape i) (by rfl) hw) (hX _ _ _ (by rfl) hx) shape).mono fun e W' ⟨v, he, hp⟩ => ?_
  subst he
  exact ChangeSpec.post_blind hp

theorem month_cell {W : World} (h : laidMetH Tryz.prog laid3 W) (j : Nat) (hj : j < 12) : W.cell? ⟨0, j, none⟩ = some (.string (months.getD j ⟨#[]⟩)) := by
  rw [MakeChecks.laidMetH_plain _ _ _ (by kernel_rfl)] at h
  obtain ⟨ps, ⟨_, _, _, _, _, _, _, _, _, _, ⟨g, t, cs, fuel, p, q, hg, ht, hv, hd, _, _⟩, _⟩, _, _⟩ := h
  obtain rfl := Option.some.inj (gMonths.symm.trans hg)
  obtain rfl := Option.some.inj (tMonths.symm.trans ht)
  obtain ⟨xs, m, _, ex, _, hl, hel⟩ := DataW.trod_array u124 hd
  have hE := hel j hj
  rw [c9, Nat.mul_one, List.getElem?_eq_getElem (by omega)] at hE
  obtain ⟨z, e1, e2, _⟩ := DataW.trod_string u9 hE
  have e3 : (xs.map (·.1)) = [.lit (.string [74, 97, 110]), .lit (.string [70, 101, 98]), .lit (.string [77, 97, 114]), .lit (.string [65, 112, 114]), .lit (.string [77, 97, 121]), .lit (.string [74, 117, 110]), .lit (.string [74, 117, 108]), .lit (.string [65, 117, 103]), .lit (.string [83, 101, 112]), .lit (.string [79, 99, 116]), .lit (.string [78, 111, 118]), .lit (.string [68, 101, 99])] := (DataW.agg.inj (Prod.mk.inj ex).1).symm
  have e4 : (xs.map (·.1))[j]? = (months.map fun s => (DataW.lit (.string s.data.toList) : DataW Unit))[j]? := by rw [e3]; rfl
  have hml : months.length = 12 := rfl
  rw [List.getElem?_map, List.getElem?_map, List.getElem?_eq_getElem (by omega : j < xs.length), List.getElem?_eq_getElem (by omega : j < months.length), e2] at e4
  have hz : z = months.getD j ⟨#[]⟩ := by
    simp only [Option.map_some, Option.some.injEq, DataW.lit.injEq, Lit.string.injEq] at e4
    rw [List.getD_eq_getElem?_getD, List.getElem?_eq_getElem (by omega : j < months.length)]
    show z = months[j]
    have e5 : z.data = months[j].data := Array.toList_inj.1 e4
    cases z; simp_all
  rw [World.var?_cell hg hv j, ← hz]
  have : cs.toList[j]? = some (.string z) := by
    have h0 : ((cs.toList.drop j).take 1)[0]? = some (.string z) := by rw [e1]; rfl
    simpa using h0
  simpa using this
end Go.Proofs.YtpdmeafoofkpaaaGreatDoor

/- From the contracts to the rows: a law that is handed bytes. -/
namespace Go.Proofs.YtpdmeafoofkpaaaGreatDoor
open Go Go.Iv Go.ChangeShapes Go.WideShapes Go.ChangeAt Go.RowKit
theorem maxLen_cell {W : World} (h : W.ShapedOpen Tryz.prog) : ∃ m, W.cell? ⟨1, 0, none⟩ = some (.int .i64 m) :=
  Go.Proofs.cell_of_shapedOpen_int (t := 3) (zero := #[.int .i64 0]) h (of_decide_eq_true (by kernel_rfl)) (by kernel_rfl) (by kernel_rfl) (by kernel_rfl) (by kernel_rfl) (by kernel_rfl)
theorem globW0 {W : World} (h : laidMetH Tryz.prog laid3 W) (hs : W.ShapedOpen Tryz.prog) : GlobW D.tab (fun _ => False) W := by
  constructor
  · intro g hg
    have hg' : g ∈ [1] := hg
    obtain rfl := List.mem_singleton.1 hg'
    exact ⟨fun h => h, maxLen_cell hs⟩
  · intro g cs hg
    have hc : g = 0 ∧ cs = months.map fun s => FC.sc (.string s) := by
      rcases g with _ | g
      · exact ⟨rfl, (Option.some.inj hg).symm⟩
      · cases hg
    obtain ⟨rfl, rfl⟩ := hc
    refine ⟨months.map .string, ?_, fun j u hu => ⟨fun h => h, ?_⟩⟩
    · refine ⟨by simp, fun j c u hc hu => ?_⟩
      rw [List.getElem?_map] at hc hu
      cases hm : months[j]? with
      | none => rw [hm] at hu; cases hu
      | some s =>
        rw [hm] at hc hu
        cases hc; cases hu
        exact rfl
    · rw [List.getElem?_map] at hu
      cases hm : months[j]? with
      | none => rw [hm] at hu; cases hu
      | some s =>
        rw [hm] at hu
        have hj : j < 12 := (List.getElem?_eq_some_iff.1 hm).1
        have := month_cell h j hj
        rw [List.getD_eq_getElem?_getD, hm] at this
        rw [this]; exact hu
set_option maxRecDepth 100000 in
/-- What an argument of bytes reads as. -/
theorem open_code {H : Type} {enc : TypeId × Value → H} {W : World} {v : Value} {d : DataW H} {p : List MemPlace} (h : DataW.Trod enc Tryz.prog W 0 (fun _ => true) true 22 v d p) (hv : Value.okWide Tryz.prog W .any 0 22 v) :
    ∃ xs : List Int, u8s xs = true ∧ RepA W (fun _ => False) (.one (.list (.int .u8) xs)) v := by
  obtain ⟨fuel, hf⟩ := h
  obtain ⟨a0, len0, cap0, rfl⟩ := okWide_slice u22 hv
  rcases open_ints u22 u5 c5 hf with ⟨hcs, _⟩ | ⟨a, len, cap, zs, hcs, _, hl, _, hz, _, hcell, hwz⟩
  · simp [Value.cells] at hcs
    obtain ⟨rfl, rfl, rfl⟩ := hcs
    exact ⟨[], rfl, none, 0, rfl, Nat.le_refl _, fun i x hx => by cases hx⟩
  · simp [Value.cells] at hcs
    obtain ⟨rfl, rfl, rfl⟩ := hcs
    have hz' : zs.length = cap0 := hz
    have hlen : (zs.take len0).length = len0 := by rw [List.length_take]; omega
    refine ⟨zs.take len0, ?_, some a, cap0, by rw [hlen], by rw [hlen]; exact hl, fun i x hx => ?_⟩
    · refine u8s_take ?_ _
      unfold u8s
      rw [List.all_eq_true]
      intro n hn
      have h1 := hwz n hn
      have h2 : IntKind.u8.min ≤ n ∧ n ≤ IntKind.u8.max := by simpa [Lit.wf] using h1
      have h3 : (0 : Int) ≤ n ∧ n ≤ 255 := h2
      simp only [Bool.and_eq_true, decide_eq_true_eq]; exact h3
    · have hi : i < len0 := by rw [← hlen]; exact (List.getElem?_eq_some_iff.1 hx).1
      have h0 := hcell 0 (by omega)
      have hsp : a.spot = none := by
        unfold World.cell? at h0
        split at h0
        · split at h0
          · cases h0
          · rename_i hn; simpa [Addr.add] using hn
        · cases h0
      have ha : a = ⟨a.block, a.off, none⟩ := by cases a; simp_all
      have hxi : zs.getD i 0 = x := by
        rw [List.getElem?_take_of_lt hi] at hx
        rw [List.getD_eq_getElem?_getD, hx]; rfl
      refine ⟨a.block, a.off, [.int .u8 x], congrArg some ha, fun h => h, rfl, fun j u hu => ?_, rfl⟩
      rcases j with _ | j
      · cases hu
        have h1 := hcell i (by omega)
        rw [hxi] at h1
        have h2 : a.add i = ⟨a.block, a.off + (i * 1 + 0), none⟩ := by
          unfold Addr.add
          by_cases hi0 : i = 0
          · rw [if_pos hi0, hi0]; exact ha
          · rw [if_neg hi0, Nat.mul_one]; rfl
        rw [← h2]; exact h1
      · cases hu
theorem code_calls {f : FuncId} (hC : ∀ xs, u8s xs = true → Con P D.tab f [.one (.list (.int .u8) xs)] (.one (.one (.fc (.sc (.bool true)))))) {W : World} {v : Value} {xs : List Int} (hx : u8s xs = true)
    (hr : RepA W (fun _ => False) (.one (.list (.int .u8) xs)) v) (hg : GlobW D.tab (fun _ => False) W) :
    Calls Tryz.prog f #[v] W fun e W' => e = .returned (.bool true) ∧ Below W.heap.size W W' := by
  refine (hC xs hx W (fun _ => False) [v] (fun _ h => h.elim) hg rfl (fun j a u ha hu => ?_)).mono fun e W' ⟨r, us, he, hb, hs, hp⟩ => ?_
  · rcases j with _ | j
    · cases ha; cases hu; exact hr
    · cases ha
  · have hus : us = [r] := hs
    subst hus
    have hr : r = .bool true := hp.rep 0 (.fc (.sc (.bool true))) r rfl rfl
    subst hr
    exact ⟨he, hb⟩

/-- The month names read behind the call as they did. -/
theorem months_stay {H : Type} {enc : TypeId × Value → H} {W W' : World} {g : Nat} {t : TypeId} {cs : Array Value} {fuel : Nat} {d : DataW H} {p : List MemPlace} (hb : Below W.heap.size W W')
    (hg : Tryz.prog.globalNamed "loop.example/mailwire/impl.monthNames" = some g) (ht : (Tryz.prog.globals[g]?).map (·.type) = some t) (hv : W.var? Tryz.prog "loop.example/mailwire/impl.monthNames" = some cs)
    (hd : DataW.trod enc Tryz.prog W 0 (fun _ => true) true fuel t cs.toList = some (d, p)) (hlt : ∀ x ∈ p, x.block < W.heap.size) :
    DataW.TrodVars enc Tryz.prog W' (fun b => decide (b < W.heap.size)) ["loop.example/mailwire/impl.monthNames"] [d] (MemPlace.row ⟨g, 0, none⟩ cs.size ++ p) := by
  obtain rfl := Option.some.inj (gMonths.symm.trans hg)
  obtain rfl := Option.some.inj (tMonths.symm.trans ht)
  have hr : Tryz.prog.readableRec 124 = true := by kernel_rfl
  refine trodVars_mk1 hg ht ?_ (DataW.trod_stays (kids_book laidOutT hr) (book_sized hr) (fun h => by cases h) ⟨of_decide_eq_true (by kernel_rfl), book_self 124⟩ hd (fun x hx => hb.same (hlt x hx)) (fun x hx => by simpa using hlt x hx))
  simp only [World.var?, hg, Option.bind_some] at hv ⊢
  by_cases h0 : 0 < W.heap.size
  · rw [hb.block 0 h0]; exact hv
  · rw [Array.getElem?_eq_none (by omega)] at hv; cases hv
end Go.Proofs.YtpdmeafoofkpaaaGreatDoor
