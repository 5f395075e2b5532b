/- Texts of this proof, joined: Iv25 Iv26. -/
import Derived.Test.YtpdmeafoofkpaaaGreatDoorGg
import Derived.IntWalk
set_option linter.unusedVariables false
set_option linter.unusedSimpArgs false
/- The contract of a function that is handed a pointer, or hands back one, out of the evaluator. -/
namespace Go.Iv
open Go.RowKit

def packP (T : Tab) (fn : Func) (pt : TypeId) (σ : St) : Option (RV × List RC) :=
  match get σ.ob 900 with
  | some (.cells cs) => match packCs σ.ob [] (T.parm pt) cs with
    | some (outs, used) => match packL T σ used fn.resultTypes.toList fn.results.toList with
      | some [x] => some (.one x, outs)
      | some xs => some (.multi xs, outs)
      | none => none
    | none => none
  | _ => none

def st0P (fn : Func) (ins : List RC) (args : List AV) : St :=
  { sl := .v (.one (.ptr 900 0)) :: (args.map AV.iv ++ List.replicate (fn.ntmps - (args.length + 1)) botI), ob := (900, .cells (unCs 900 0 ins)) :: obs 900 0 ins }

/-- What a function comes to that is handed a pointer to a variable of type pt. -/
def evFP (T : Tab) (call : CallT) (F : FnK (RV × List RC)) (fn : Func) (pt : TypeId) (ins : List RC) (args : List AV) : Option (RV × List RC) :=
  match fn.body with
  | none => none
  | some c => bif nrB c then evC T call F 0 c (st0P fn ins args) fun e σ => match e with
    | .normal => packP T fn pt σ
    | .ret => packP T fn pt σ
    | _ => none
    else none

theorem con_of_evP {P : Program} {T : Tab} (hT : TabOk P T) {call : CallT} (hC : CallOk P T call) {f : FuncId} {fn : Func} (hf : P.funcs[f]? = some fn) (F : FnK (RV × List RC)) {pt : TypeId}
    {ins : List RC} {avs : List AV} {res : RV} {out : List RC}
    (hL : ∀ c, fn.body = some c → ∀ p ∈ loopsOf 0 c, LoopOk T call F p) (hsz : avs.length + 1 ≤ fn.ntmps) (hev : evFP T call F fn pt ins avs = some (res, out)) : ConP P T f ins avs res out := by
  intro w N pb arr ty vs hN hNpb hheap hpre hglob hlen hrep
  unfold evFP at hev
  split at hev
  · cases hev
  rename_i c hb
  obtain ⟨hnr, hev⟩ := bif_some hev
  let C : Ctx := ⟨P, T, N, Mp pb ins arr.toList, w, some pb⟩
  let γ0 : Nat → Value := fun n => if n = 900 then .pointer (some ⟨pb, 0, none⟩) else if ofCall 900 n = true then arr.toList.getD (n / 1000 - 1) undef else undef
  let ob0 : List (Nat × Ob) := (900, .cells (unCs 900 0 ins)) :: obs 900 0 ins
  have hγ9 : γ0 900 = .pointer (some ⟨pb, 0, none⟩) := by simp [γ0]
  have hne9 : ∀ k, nm 900 k ≠ 900 := fun k => by unfold nm; omega
  have hγk : ∀ k, γ0 (nm 900 k) = arr.toList.getD k undef := fun k => by
    simp only [γ0]
    rw [if_neg (hne9 k), if_pos (ofCall_nm 900 k (by omega))]
    congr 1; unfold nm; omega
  have hγu : ∀ (k : Nat) (u : Value), arr.toList[k]? = some u → γ0 (nm 900 k) = u := fun k u hk => by rw [hγk, List.getD_eq_getElem?_getD, hk]; rfl
  have hobs : ∀ m o, get ob0 m = some o → (m = 900 ∧ o = .cells (unCs 900 0 ins)) ∨ ∃ k t e xs u, m = nm 900 k ∧ ins[k]? = some (.buf t e xs) ∧ o = .rows t e xs ∧ arr.toList[k]? = some u ∧ γ0 m = u := by
    intro m o hm
    simp only [ob0, get] at hm
    split at hm
    · rename_i h; cases hm; exact .inl ⟨h.symm, rfl⟩
    · obtain ⟨k, t, e, xs, h1, h2, h3⟩ := get_obs 900 ins 0 m o hm
      rw [Nat.zero_add] at h1
      have hk : k < arr.toList.length := by rw [← hpre.len]; exact (List.getElem?_eq_some_iff.1 h2).1
      exact .inr ⟨k, t, e, xs, arr.toList[k], h1, h2, h3, List.getElem?_eq_getElem hk, by rw [h1]; exact hγu k _ (List.getElem?_eq_getElem hk)⟩
  have hF : ∀ b, FF γ0 ob0 N b → N b ∨ Mp pb ins arr.toList b := by
    intro b hb
    rcases hb with hb | ⟨m, o, hm, hb⟩
    · exact .inl hb
    · rcases hobs m o hm with ⟨rfl, _⟩ | ⟨k, t, e, xs, u, rfl, h2, _, h4, h5⟩
      · rw [hγ9] at hb; cases hb; exact .inr (.inl rfl)
      · rw [h5] at hb; exact .inr (.inr ⟨k, _, u, h2, rfl, h4, hb⟩)
  have hpblt : pb < w.heap.size := by
    rw [Array.getElem?_eq_some_iff] at hheap; exact hheap.1
  have hlowM : ∀ b, Mp pb ins arr.toList b → b < w.heap.size := by
    intro b hb
    rcases hb with rfl | ⟨j, c, u, hc, hbuf, hu, hbl⟩
    · exact hpblt
    · cases c with
      | fc c => cases hbuf
      | buf t e xs =>
        have := hpre.rep j _ u hc hu
        exact blk_lt (γ := fun _ => u) (ob := []) (n := 0) (o := .rows t e xs) this hbl
  have hG : GlobOk C := ⟨fun g cs hg => hglob.2 g cs hg, fun g hg => hglob.1 g hg, hN, hlowM⟩
  have hst : Stay (fun b => N b ∨ Mp pb ins arr.toList b) w (FF γ0 ob0 N) w := Stay.less fun b _ hb => hF b hb
  have hI : Inv C γ0 (st0P fn ins avs) { tmps := (Value.pointer (some ⟨pb, 0, none⟩) :: vs).toArray ++ Array.replicate (fn.ntmps - (Value.pointer (some ⟨pb, 0, none⟩) :: vs).toArray.size) undef, defers := [] } w := by
    refine ⟨by simp [st0P, hlen]; omega, rfl, fun t => ?_, fun n o ho => ?_, fun n n' o o' b ho ho' hb hb' => ?_, fun n o b ho hb => ?_, Since.refl _ _ _, fun b hb => by cases hb; exact hγ9⟩
    · match t with
      | 0 =>
        have e2 : ((Value.pointer (some ⟨pb, 0, none⟩) :: vs).toArray ++ Array.replicate (fn.ntmps - (Value.pointer (some ⟨pb, 0, none⟩) :: vs).toArray.size) undef).getD 0 undef = Value.pointer (some ⟨pb, 0, none⟩) := by
          rw [Array.getD_eq_getD_getElem?, Array.getElem?_append_left (by simp)]; simp
        rw [e2]
        exact ⟨_, pb, by show get ob0 900 = _; simp only [ob0, get, if_true]; rfl, rfl, hγ9, rfl⟩
      | t + 1 =>
        by_cases ht : t < avs.length
        · have e1 : (st0P fn ins avs).sl.getD (t + 1) botI = AV.iv avs[t] := by
            unfold st0P
            rw [List.getD_eq_getElem?_getD, List.getElem?_cons_succ, List.getElem?_append_left (by simpa using ht), List.getElem?_map, List.getElem?_eq_getElem ht]; rfl
          have e2 : ((Value.pointer (some ⟨pb, 0, none⟩) :: vs).toArray ++ Array.replicate (fn.ntmps - (Value.pointer (some ⟨pb, 0, none⟩) :: vs).toArray.size) undef).getD (t + 1) undef = vs[t]'(by omega) := by
            rw [Array.getD_eq_getD_getElem?, Array.getElem?_append_left (by simp; omega)]; simp [hlen, ht]
          rw [e1, e2]
          have hr := hrep t avs[t] (vs[t]'(by omega)) (List.getElem?_eq_getElem ht) (List.getElem?_eq_getElem (by omega))
          cases hav : avs[t] with
          | one c => rw [hav] at hr; exact RepFC.stay hst hr
          | agg cs =>
            rw [hav] at hr
            obtain ⟨arr, hv, hr⟩ := hr
            exact ⟨arr, hv, fc_cells (hr.stay hst)⟩
        · have e1 : (st0P fn ins avs).sl.getD (t + 1) botI = botI := by
            unfold st0P
            rw [List.getD_eq_getElem?_getD, List.getElem?_cons_succ, List.getElem?_append_right (by simpa using Nat.le_of_not_lt ht)]
            cases hx : (List.replicate (fn.ntmps - (avs.length + 1)) botI)[t - (avs.map AV.iv).length]? with
            | none => rfl
            | some x => rw [List.getElem?_replicate] at hx; split at hx <;> cases hx; rfl
          rw [e1]; trivial
    · rcases hobs n o ho with ⟨rfl, rfl⟩ | ⟨k, t, e, xs, u, rfl, h2, rfl, h4, h5⟩
      · refine ⟨pb, arr, ty, hγ9, hheap, unCs_rep 900 ins 0 arr.toList hpre.len fun k c u hc hk => ?_⟩
        rw [Nat.zero_add]
        have hr := hpre.rep k c u hc hk
        cases c with
        | fc c => exact RepFC.stay hst hr
        | buf t e xs =>
          refine ⟨(hγu k u hk).symm, .rows t e xs, ?_, rfl⟩
          show get ob0 _ = _
          have := get_obs_at 900 ins 0 k t e xs hc
          rw [Nat.zero_add] at this
          simp only [ob0, get]
          rw [if_neg (Ne.symm (hne9 k))]; exact this
      · obtain ⟨fl, f1, f2, f3⟩ := hpre.rep k _ u h2 h4
        exact ⟨fl, by rw [h5]; exact f1, f2, fun i x hi => (f3 i x hi).stay hst⟩
    · rcases hobs n o ho with ⟨rfl, rfl⟩ | ⟨k, t, e, xs, u, rfl, h2, rfl, h4, h5⟩ <;> rcases hobs n' o' ho' with ⟨rfl, rfl⟩ | ⟨k', t', e', xs', u', rfl, h2', rfl, h4', h5'⟩
      · rfl
      · rw [hγ9] at hb; cases hb
        rw [h5'] at hb'
        exact absurd rfl (hpre.sep k' _ u' _ h2' rfl h4' hb').1
      · rw [hγ9] at hb'; cases hb'
        rw [h5] at hb
        exact absurd rfl (hpre.sep k _ u _ h2 rfl h4 hb).1
      · rw [h5] at hb; rw [h5'] at hb'
        rw [hpre.inj k k' _ _ u u' b h2 rfl h4 hb h2' rfl h4' hb']
    · rcases hobs n o ho with ⟨rfl, rfl⟩ | ⟨k, t, e, xs, u, rfl, h2, rfl, h4, h5⟩
      · rw [hγ9] at hb; cases hb; exact ⟨hNpb, .inr (.inl rfl)⟩
      · rw [h5] at hb; exact ⟨(hpre.sep k _ u b h2 rfl h4 hb).2, .inr (.inr ⟨k, _, u, h2, rfl, h4, hb⟩)⟩
  refine calls_of_wp hf hb (code_sound (C := C) hT hG hC F c (nrC_of c hnr) 0 (hL c hb) _ _ _ _ _ w hev hI fun e γ' σ' a' w' h' hk => ?_)
  have hfin : packP T fn pt σ' = some (res, out) → ∃ v, (results fn a'.tmps).run P w' = .ok v w' ∧ ∃ u us arr' ty', Ending.returned v = Ending.returned u ∧ Since (Mp pb ins arr.toList) w.heap.size w w' ∧ ShV res u us ∧
      w'.heap[pb]? = some (.cells arr' ty' (0, 0)) ∧ out.length = arr'.toList.length ∧ PostP N (Mp pb ins arr.toList) pb w.heap.size w' (out ++ res.flat) (arr'.toList ++ us) := by
    intro hp
    unfold packP at hp
    split at hp
    · rename_i cs hcs
      split at hp
      · rename_i outs used hpk
        obtain ⟨b, arr', ty', hg, hh, hcells⟩ := h'.objs 900 _ hcs
        have hbe : b = pb := by
          have := h'.root pb rfl
          rw [this] at hg; cases hg; rfl
        subst hbe
        have p1 := packCs_rep h' (F := FF γ' σ'.ob N) cs (T.parm pt) [] used outs arr'.toList hpk hcells
        have hmain : ∀ xs, packL T σ' used fn.resultTypes.toList fn.results.toList = some xs → ∀ res', (match xs with | [x] => res' = RV.one x | _ => res' = RV.multi xs) →
            ∃ v us used', (results fn a'.tmps).run P w' = .ok v w' ∧ ShV res' v us ∧ PK γ' σ'.ob w' (FF γ' σ'.ob N) used used' res'.flat us := by
          intro xs hx res' hres'
          have hmap : ∀ us, (fn.results.toList.mapM (resRun a'.tmps)).run P w' = .ok us w' → (results fn a'.tmps).run P w' = .ok (if h : us.toArray.size = 1 then us.toArray[0] else .tuple us.toArray) w' := by
            intro us hu
            rw [results_eq, Array.mapM_eq_mapM_toList]
            simp [hu]
          obtain ⟨us, vs', used', hrun, hl, hs, p⟩ := packL_rep (C := C) hT h' _ _ used xs hx
          match xs, hl with
          | [x], hl =>
            subst hres'
            match us, hl with
            | [u], _ =>
              obtain ⟨v1, v2, rfl, h1, h2⟩ := hs
              have h3 : v2 = [] := h2
              subst h3
              refine ⟨u, v1, used', hmap [u] hrun, h1, ?_⟩
              simpa [flat, RV.flat] using p
          | [], hl =>
            subst hres'
            have hn : ¬ us.toArray.size = 1 := by rw [List.size_toArray, hl]; simp
            exact ⟨.tuple us.toArray, vs', used', by rw [hmap us hrun, dif_neg hn], ⟨us.toArray, rfl, hs⟩, p⟩
          | _ :: _ :: _, hl =>
            subst hres'
            have hn : ¬ us.toArray.size = 1 := by rw [List.size_toArray, hl]; simp
            exact ⟨.tuple us.toArray, vs', used', by rw [hmap us hrun, dif_neg hn], ⟨us.toArray, rfl, hs⟩, p⟩
        have hx : ∃ v us used', (results fn a'.tmps).run P w' = .ok v w' ∧ ShV res v us ∧ PK γ' σ'.ob w' (FF γ' σ'.ob N) used used' res.flat us ∧ outs = out := by
          split at hp
          · rename_i x hx
            cases hp
            obtain ⟨v, us, used', h1, h2, h3⟩ := hmain _ hx (.one x) rfl
            exact ⟨v, us, used', h1, h2, h3, rfl⟩
          · rename_i xs hne hx
            cases hp
            obtain ⟨v, us, used', h1, h2, h3⟩ := hmain _ hx (.multi xs) (by
              split
              · exact absurd rfl (hne _)
              · rfl)
            exact ⟨v, us, used', h1, h2, h3, rfl⟩
          · cases hp
        obtain ⟨v, us, used', hrun, hsh, p2, rfl⟩ := hx
        have p := p1.append h' p2
        refine ⟨v, hrun, v, us, arr', ty', rfl, h'.since, hsh, hh, p1.len, ⟨p.len, fun j c u hc hu => ?_, fun j c u b' hc hb' hu hbl => ?_, p.inj⟩⟩
        · have hq := p.rep j c u hc hu
          have hle : ∀ k, (FR N (outs ++ res.flat) (arr'.toList ++ us) k ∨ k = b) → FF γ' σ'.ob N k := by
            intro k hk
            rcases hk with (hk | ⟨k', c', u', k1, k2, k3, k4⟩) | rfl
            · exact .inl hk
            · obtain ⟨n, o, _, _, m3, m4⟩ := p.nms k' c' u' k k1 k2 k3 k4; exact .inr ⟨n, o, m3, m4⟩
            · exact .inr ⟨900, _, hcs, by rw [hg]; rfl⟩
          cases c with
          | fc c => exact RepFC.stay (Stay.less fun k _ hk => hle k hk) hq
          | buf t e xs =>
            rcases hq with ⟨rfl, rfl⟩ | ⟨n, hg, rfl⟩
            · exact ⟨[], World.ownsRow_nil w' 0 e t.size, fun u hu => by simp at hu, fun i x hi => by simp at hi⟩
            · obtain ⟨fl, f1, f2, f3⟩ := h'.objs n _ hg
              exact ⟨fl, f1, f2, fun i x hi => (f3 i x hi).stay (Stay.less fun k _ hk => hle k hk)⟩
        · obtain ⟨n, o, _, _, m3, m4⟩ := p.nms j c u b' hc hb' hu hbl
          rcases (h'.own n o b' m3 m4).2 with h1 | h1
          · exact .inl h1
          · refine .inr ⟨h1, fun e => ?_⟩
            subst e
            have e9 := h'.inj n 900 o _ b' m3 hcs m4 (by rw [hg]; rfl)
            subst e9
            -- a row is no variable
            have hq := p.rep j c u hc hu
            cases c with
            | fc c => cases hb'
            | buf t e xs =>
              rcases hq with ⟨rfl, _⟩ | ⟨n, hgn, rfl⟩
              · cases hbl
              · have e3 := h'.inj n 900 _ _ b' hgn hcs hbl (by rw [hg]; rfl)
                subst e3
                rw [hcs] at hgn; cases hgn
      · cases hp
    · cases hp
  cases e with
  | normal =>
    obtain ⟨v, hrun, u, us, arr', ty', h1, h2, h3, h4, h5, h6⟩ := hfin hk
    exact ⟨h'.defers, v, hrun, u, us, arr', ty', h1, h2, h3, h4, h5, h6⟩
  | ret =>
    obtain ⟨v, hrun, u, us, arr', ty', h1, h2, h3, h4, h5, h6⟩ := hfin hk
    exact ⟨h'.defers, v, hrun, u, us, arr', ty', h1, h2, h3, h4, h5, h6⟩
  | exit id => cases hk
  | goto l => cases hk
  | panic ch => cases hk
  | outgrown => cases hk


/-- What a function comes to that hands back a pointer to a new variable. -/
def evFN (T : Tab) (call : CallT) (F : FnK (List FC)) (fn : Func) (args : List AV) : Option (List FC) :=
  match fn.body with
  | none => none
  | some c => evC T call F 0 c { sl := args.map AV.iv ++ List.replicate (fn.ntmps - args.length) botI, ob := [] } fun e σ => match e with
    | .normal => packN T fn σ
    | .ret => packN T fn σ
    | _ => none
where packN (T : Tab) (fn : Func) (σ : St) : Option (List FC) :=
  match fn.results.toList with
  | [r] => match resV T σ r with
    | some (.one (.ptr n 0)) => match get σ.ob n with
      | some (.cells cs) => fcs cs
      | _ => none
    | _ => none
  | _ => none

theorem fcs_all : ∀ (cs : List Cell) (fs : List FC), fcs cs = some fs → cs = fs.map .fc
  | [], fs, h => by cases h; rfl
  | .fc c :: cs, fs, h => by
    rw [fcs] at h
    split at h
    · rename_i l hl; cases h; rw [fcs_all cs l hl]; rfl
    · cases h
  | .bot :: cs, fs, h => by simp [fcs] at h
  | .hdr _ :: cs, fs, h => by simp [fcs] at h
  | .ptr _ _ :: cs, fs, h => by simp [fcs] at h
  | .ep _ _ _ :: cs, fs, h => by simp [fcs] at h
  | .lp _ _ :: cs, fs, h => by simp [fcs] at h

theorem con_of_evN {P : Program} {T : Tab} (hT : TabOk P T) {call : CallT} (hC : CallOk P T call) {f : FuncId} {fn : Func} (hf : P.funcs[f]? = some fn) (F : FnK (List FC)) {avs : List AV} {fs : List FC}
    (hL : ∀ c, fn.body = some c → ∀ p ∈ loopsOf 0 c, LoopOk T call F p) (hsz : avs.length ≤ fn.ntmps) (hev : evFN T call F fn avs = some fs) : ConN P T f avs fs := by
  intro w N vs hN hglob hlen hrep
  unfold evFN at hev
  split at hev
  · cases hev
  rename_i c hb
  let C : Ctx := ⟨P, T, N, fun _ => False, w, none⟩
  have hG : GlobOk C := ⟨fun g cs hg => by
    obtain ⟨vs, h1, h2⟩ := hglob.2 g cs hg
    exact ⟨vs, h1.stay (Stay.less fun b _ hb => hb.resolve_right fun h => h), fun j u hu => ⟨fun hb => (h2 j u hu).1 (hb.resolve_right fun h => h), (h2 j u hu).2⟩⟩, fun g hg => ⟨fun hb => (hglob.1 g hg).1 (hb.resolve_right fun h => h), (hglob.1 g hg).2⟩, hN, fun _ h => h.elim⟩
  have hF : ∀ b, FF (fun _ => undef) [] N b → N b := by
    intro b hb
    rcases hb with hb | ⟨n, o, ho, _⟩
    · exact hb
    · cases ho
  have hI : Inv C (fun _ => undef) { sl := avs.map AV.iv ++ List.replicate (fn.ntmps - avs.length) botI, ob := [] } { tmps := vs.toArray ++ Array.replicate (fn.ntmps - vs.toArray.size) undef, defers := [] } w := by
    refine ⟨by simp [hlen], rfl, fun t => ?_, (fun n o ho => by cases ho), (fun n n' o o' b ho => by cases ho), (fun n o b ho => by cases ho), Since.refl _ _ _, (fun b hb => by cases hb)⟩
    by_cases ht : t < avs.length
    · have e1 : (avs.map AV.iv ++ List.replicate (fn.ntmps - avs.length) botI).getD t botI = AV.iv avs[t] := by
        rw [List.getD_eq_getElem?_getD, List.getElem?_append_left (by simpa using ht), List.getElem?_map, List.getElem?_eq_getElem ht]; rfl
      have e2 : (vs.toArray ++ Array.replicate (fn.ntmps - vs.toArray.size) undef).getD t undef = vs[t]'(by omega) := by
        rw [Array.getD_eq_getD_getElem?, Array.getElem?_append_left (by simp; omega)]; simp [hlen, ht]
      show RepI _ [] w _ ((avs.map AV.iv ++ List.replicate (fn.ntmps - avs.length) botI).getD t botI) _
      rw [e1, e2]
      have hr := hrep t avs[t] (vs[t]'(by omega)) (List.getElem?_eq_getElem ht) (List.getElem?_eq_getElem (by omega))
      have hst : Stay N w (FF (fun _ => undef) [] N) w := Stay.less fun b _ hb => hF b hb
      cases hav : avs[t] with
      | one c => rw [hav] at hr; exact RepFC.stay hst hr
      | agg cs =>
        rw [hav] at hr
        obtain ⟨arr, hv, hr⟩ := hr
        exact ⟨arr, hv, fc_cells (hr.stay hst)⟩
    · have e1 : (avs.map AV.iv ++ List.replicate (fn.ntmps - avs.length) botI).getD t botI = botI := by
        rw [List.getD_eq_getElem?_getD, List.getElem?_append_right (by simpa using Nat.le_of_not_lt ht)]
        cases hx : (List.replicate (fn.ntmps - avs.length) botI)[t - (avs.map AV.iv).length]? with
        | none => rfl
        | some x => rw [List.getElem?_replicate] at hx; split at hx <;> cases hx; rfl
      show RepI _ [] w _ ((avs.map AV.iv ++ List.replicate (fn.ntmps - avs.length) botI).getD t botI) _
      rw [e1]; trivial
  refine calls_of_wp hf hb (code_sound (C := C) hT hG hC F c (nrC_none rfl c) 0 (hL c hb) _ _ _ _ _ w hev hI fun e γ' σ' a' w' h' hk => ?_)
  have hfin : evFN.packN T fn σ' = some fs → ∃ v, (results fn a'.tmps).run P w' = .ok v w' ∧ ∃ b arr ty, Ending.returned v = .returned (.pointer (some ⟨b, 0, none⟩)) ∧ Below w.heap.size w w' ∧ w.heap.size ≤ b ∧
      w'.heap[b]? = some (.cells arr ty (0, 0)) ∧ RepFCs w' (fun k => N k ∨ k = b) fs arr.toList := by
    intro hp
    unfold evFN.packN at hp
    split at hp
    · rename_i r hr
      split at hp
      · rename_i n hx
        split at hp
        · rename_i cs hcs
          obtain ⟨v, hrun, hrep⟩ := resV_rep (C := C) hT h' hx
          obtain ⟨o, b, ho, hs, hg, hv⟩ := hrep
          obtain ⟨b', arr, ty, hg', hh, hcells⟩ := h'.objs n _ hcs
          have e1 : b' = b := by rw [hg] at hg'; cases hg'; rfl
          subst e1
          have e2 := fcs_all cs fs hp
          subst e2
          refine ⟨v, ?_, b', arr, ty, by rw [hv], ⟨h'.since.os, h'.since.tape, h'.since.output, h'.since.size, fun k hk => h'.since.block k hk fun hf => hf⟩, ?_, hh, ?_⟩
          · rw [results_eq, Array.mapM_eq_mapM_toList, hr]
            have hrun' : (resRun a'.tmps r).run P w' = .ok v w' := hrun
            simp [hrun']
          · exact (h'.own n _ b' hcs (by rw [hg]; rfl)).2.resolve_right fun h => h
          · refine ⟨by simpa using hcells.1, fun j c u hc hu => ?_⟩
            have := hcells.2 j (.fc c) u (by rw [List.getElem?_map, hc]; rfl) hu
            refine RepFC.stay (Stay.less fun k _ hk => ?_) this
            rcases hk with hk | rfl
            · exact .inl hk
            · exact .inr ⟨n, _, hcs, by rw [hg]; rfl⟩
        · cases hp
      · cases hp
    · cases hp
  cases e with
  | normal => obtain ⟨v, hrun, h⟩ := hfin hk; exact ⟨h'.defers, v, hrun, h⟩
  | ret => obtain ⟨v, hrun, h⟩ := hfin hk; exact ⟨h'.defers, v, hrun, h⟩
  | exit id => cases hk
  | goto l => cases hk
  | panic ch => cases hk
  | outgrown => cases hk

end Go.Iv

/- Tables of contracts; small things for printed texts. -/
namespace Go.Iv

def noCall : CallT := { c := fun _ _ => .no, p := fun _ _ _ => .no, n := fun _ => none, b := fun _ => none }
def CallT.add (t : CallT) (g : FuncId) (m : List AV → CT) : CallT := { c := fun g' avs => bif Nat.beq g' g then m avs else t.c g' avs, p := t.p, n := t.n, b := t.b }
def CallT.addP (t : CallT) (g : FuncId) (m : List RC → List AV → CTP) : CallT := { c := t.c, p := fun g' ins avs => bif Nat.beq g' g then m ins avs else t.p g' ins avs, n := t.n, b := t.b }
def CallT.addN (t : CallT) (g : FuncId) (m : List AV → Option (List FC)) : CallT := { c := t.c, p := t.p, n := fun g' => bif Nat.beq g' g then some m else t.n g', b := t.b }
def CallT.addB (t : CallT) (g : FuncId) (m : BufF) : CallT := { c := t.c, p := t.p, n := t.n, b := fun g' => bif Nat.beq g' g then some m else t.b g' }

section
variable {P : Program} {T : Tab} {t : CallT} {g : FuncId}
theorem ok_none : CallOk P T noCall := by
  refine ⟨fun _ _ _ h => ?_, fun _ _ _ h => ?_, fun _ _ _ _ _ h => ?_, fun _ _ _ _ _ h => ?_, fun _ _ _ _ h => ?_, fun _ _ _ _ h => ?_, fun _ _ _ _ _ h => ?_, fun _ _ _ _ _ h => ?_⟩ <;> cases h

theorem CallOk.add (h : CallOk P T t) {m : List AV → CT} (hc : ∀ avs res, (m avs).val = some res → Con P T g avs res) (he : Enters P g) : CallOk P T (t.add g m) := by
  refine ⟨fun g' avs res hr => ?_, fun g' avs res hr => ?_, h.conP, h.entersP, h.conN, h.entersN, h.conB, h.entersB⟩
  · unfold CallT.add at hr
    dsimp only at hr
    cases hg : Nat.beq g' g with
    | true => rw [hg] at hr; have := Nat.eq_of_beq_eq_true hg; subst this; exact hc avs res hr
    | false => rw [hg] at hr; exact h.con g' avs res hr
  · unfold CallT.add at hr
    dsimp only at hr
    cases hg : Nat.beq g' g with
    | true => have := Nat.eq_of_beq_eq_true hg; subst this; exact he
    | false => rw [hg] at hr; exact h.enters g' avs res hr

theorem CallOk.addP (h : CallOk P T t) {m : List RC → List AV → CTP} (hc : ∀ ins avs res out, (m ins avs).val = some (res, out) → ConP P T g ins avs res out) (he : Enters P g) : CallOk P T (t.addP g m) := by
  refine ⟨h.con, h.enters, fun g' ins avs res out hr => ?_, fun g' ins avs res out hr => ?_, h.conN, h.entersN, h.conB, h.entersB⟩
  · unfold CallT.addP at hr
    dsimp only at hr
    cases hg : Nat.beq g' g with
    | true => rw [hg] at hr; have := Nat.eq_of_beq_eq_true hg; subst this; exact hc ins avs res out hr
    | false => rw [hg] at hr; exact h.conP g' ins avs res out hr
  · unfold CallT.addP at hr
    dsimp only at hr
    cases hg : Nat.beq g' g with
    | true => have := Nat.eq_of_beq_eq_true hg; subst this; exact he
    | false => rw [hg] at hr; exact h.entersP g' ins avs res out hr

theorem CallOk.addN (h : CallOk P T t) {m : List AV → Option (List FC)} (hc : ∀ avs fs, m avs = some fs → ConN P T g avs fs) (he : Enters P g) : CallOk P T (t.addN g m) := by
  refine ⟨h.con, h.enters, h.conP, h.entersP, fun g' f avs fs hf hr => ?_, fun g' f avs fs hf hr => ?_, h.conB, h.entersB⟩
  · unfold CallT.addN at hf
    dsimp only at hf
    cases hg : Nat.beq g' g with
    | true => rw [hg] at hf; have := Nat.eq_of_beq_eq_true hg; subst this; cases hf; exact hc avs fs hr
    | false => rw [hg] at hf; exact h.conN g' f avs fs hf hr
  · unfold CallT.addN at hf
    dsimp only at hf
    cases hg : Nat.beq g' g with
    | true => have := Nat.eq_of_beq_eq_true hg; subst this; exact he
    | false => rw [hg] at hf; exact h.entersN g' f avs fs hf hr
end

theorem CallOk.addB {P : Program} {T : Tab} {t : CallT} {g : FuncId} (h : CallOk P T t) {B : BufF} (hc : ∀ xs avs ys, B.f xs avs = some ys → ConB P T g B xs avs ys) (he : Enters P g) : CallOk P T (t.addB g B) := by
  refine ⟨h.con, h.enters, h.conP, h.entersP, h.conN, h.entersN, fun g' B' xs avs ys hf hr => ?_, fun g' B' xs avs ys hf hr => ?_⟩
  · unfold CallT.addB at hf
    dsimp only at hf
    cases hg : Nat.beq g' g with
    | true => rw [hg] at hf; have := Nat.eq_of_beq_eq_true hg; subst this; cases hf; exact hc xs avs ys hr
    | false => rw [hg] at hf; exact h.conB g' B' xs avs ys hf hr
  · unfold CallT.addB at hf
    dsimp only at hf
    cases hg : Nat.beq g' g with
    | true => have := Nat.eq_of_beq_eq_true hg; subst this; exact he
    | false => rw [hg] at hf; exact h.entersB g' B' xs avs ys hf hr

def bodyOf (fn : Func) : Code := match fn.body with
  | some c => c
  | none => .skip
def loopAt (fn : Func) (i : Nat) : Nat × Code := (loopsOf 0 (bodyOf fn)).getD i (0, .skip)

theorem lo_dead {R : Type} (T : Tab) (call : CallT) {F : FnK R} {p : Nat × Code} (h : F.lk p.1 = none) : LoopOk T call F p := by
  intro L hL
  rw [h] at hL; cases hL

theorem wrap_id {i : Int} (h0 : -9223372036854775808 ≤ i) (h1 : i < 9223372036854775808) : IntKind.i64.wrap i = i := IntWalk.i64_in i (by omega)

end Go.Iv
namespace Go.Iv
/-- Function values without what they hold. -/
def funE (a b : Array Value) (t : CT) : CT := bif Nat.beq a.size 0 && Nat.beq b.size 0 then t else .no
theorem funE_val {a b : Array Value} {t : CT} {res : RV} (h : (funE a b t).val = some res) : a = #[] ∧ b = #[] := by
  unfold funE at h
  cases ha : Nat.beq a.size 0 with
  | false => rw [ha] at h; cases h
  | true => cases hb : Nat.beq b.size 0 with
    | false => rw [ha, hb] at h; cases h
    | true => exact ⟨Array.eq_empty_of_size_eq_zero (Nat.eq_of_beq_eq_true ha), Array.eq_empty_of_size_eq_zero (Nat.eq_of_beq_eq_true hb)⟩
def funO {R : Type} (a b : Array Value) (t : Option R) : Option R := bif Nat.beq a.size 0 && Nat.beq b.size 0 then t else none
theorem funO_some {R : Type} {a b : Array Value} {t : Option R} {r : R} (h : funO a b t = some r) : a = #[] ∧ b = #[] ∧ t = some r := by
  unfold funO at h
  cases ha : Nat.beq a.size 0 with
  | false => rw [ha] at h; cases h
  | true => cases hb : Nat.beq b.size 0 with
    | false => rw [ha, hb] at h; cases h
    | true => rw [ha, hb] at h; exact ⟨Array.eq_empty_of_size_eq_zero (Nat.eq_of_beq_eq_true ha), Array.eq_empty_of_size_eq_zero (Nat.eq_of_beq_eq_true hb), h⟩
end Go.Iv
namespace Go.Iv
/-- Two contracts of one function. -/
def CT.orE : CT → CT → CT
  | .no, b => b
  | a, _ => a
def orM (f h : List AV → CT) (avs : List AV) : CT := (f avs).orE (h avs)
theorem orM_con {Q : List AV → RV → Prop} {f h : List AV → CT} (hf : ∀ avs res, (f avs).val = some res → Q avs res) (hh : ∀ avs res, (h avs).val = some res → Q avs res) : ∀ avs res, (orM f h avs).val = some res → Q avs res := by
  intro avs res hv
  unfold orM at hv
  cases hq : f avs with
  | no => rw [hq] at hv; exact hh avs res hv
  | ret x => rw [hq] at hv; exact hf avs res (by rw [hq]; exact hv)
  | br c a b => rw [hq] at hv; exact hf avs res (by rw [hq]; exact hv)
  | opt o g => rw [hq] at hv; exact hf avs res (by rw [hq]; exact hv)
end Go.Iv
