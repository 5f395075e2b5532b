/- Texts of this proof, joined: Iv20 Iv21 Iv22 Iv23. -/
import Derived.Test.YtpdmeafoofkpaaaGreatDoorGd
set_option linter.unusedVariables false
set_option linter.unusedSimpArgs false
/- What one operation of the evaluator looks at, and what it changes: calls, rows, stores; all together. -/
namespace Go.Iv

section
variable {T : Tab} {call : CallT} {o : Oper} {σ : St} {R : Type} {r : R} {K : St → Option R}

theorem tn_of {n : Nat} (h : n ∈ nmsOps T σ o.op.operands.toList) : n ∈ tn T o σ := List.mem_append_left _ h

theorem l_evCall (f : Operand) (g : FuncId) (args : Array Operand) (tys : Array TypeId) (ho : o.op = .call { callee := .value f, args := args, argTypes := tys })
    (hev : evCall T call σ o.dst g tys.toList args.toList K = some r)
    (hred : ∀ σ', Agree T o σ σ' → Fr o σ' → ∀ (R : Type) (K : St → Option R), evCore T call o σ' K = evCall T call σ' o.dst g tys.toList args.toList K) : ∃ e, Local T call o σ e := by
  have hma : ∀ x ∈ args.toList, x ∈ o.op.operands := fun x hx => by rw [ho]; simp only [Op.operands, Call.operands]; simp at hx ⊢; exact .inr hx
  have hrd : reads o = true := by simp [reads, ho]
  have hwn : ∀ n ∈ hdrsOps T σ args.toList, n ∈ wn T o σ := fun n hn => by simp only [wn, ho]; exact List.mem_append_left _ hn
  have htn : ∀ n, n ∈ nmsOps T σ args.toList → n ∈ tn T o σ := by
    intro n hn
    refine tn_of ?_
    rw [ho]; simp only [Op.operands, Call.operands]
    simp only [List.cons_append, List.nil_append, Array.toList_append, nmsOps, List.mem_append]
    exact .inr hn
  unfold evCall at hev
  split at hev
  · cases hev
  rename_i avs hav
  have hv : ∀ σ', Agree T o σ σ' → viewsI T σ' tys.toList args.toList = some avs := fun σ' ha => by
    rw [viewsI_par tys.toList args.toList (fun x hx => ha.op x (hma x hx)) fun n hn => ha.ob hrd n (htn n hn)]; exact hav
  have hh : ∀ σ', Agree T o σ σ' → hdrsOps T σ' args.toList = hdrsOps T σ args.toList := fun σ' ha => hdrsOps_par _ fun x hx => ha.op x (hma x hx)
  have hfr : ∃ F up, (∀ c, (∀ n ∈ nmsC c, n ∉ hdrsOps T σ args.toList) → F c = c) ∧ (∀ m, up m = none ∨ (up m = some none ∧ m ∈ hdrsOps T σ args.toList)) ∧
      ∀ (b : Bool) σ', Agree T o σ σ' → Ch (if b = true then F else fun c => c) (if b = true then up else fun _ => none) σ' (bif b then frzAll (hdrsOps T σ args.toList) σ' else σ') := by
    obtain ⟨F, up, h1, h2, h3⟩ := frzAll_par (hdrsOps T σ args.toList) σ
    refine ⟨F, up, h1, h2, fun b σ' ha => ?_⟩
    cases b with
    | true => exact h3 σ' fun n hn => ha.ob hrd n (htn n (hdrsOps_sub hn))
    | false => exact Ch.refl σ'
  obtain ⟨F, up, h1, h2, h3⟩ := hfr
  rw [CT.run_val] at hev
  split at hev
  · cases hev
  rename_i res hres
  split at hev
  · rename_i hdst
    refine ⟨⟨botI, if res.flat.any RC.hl = true then F else fun c => c, if res.flat.any RC.hl = true then up else fun _ => none⟩, ⟨fun c hc => ?_, fun n hn => ?_⟩, fun σ' ha hf' => ?_⟩
    · show (if _ then F else _) c = c
      split
      · exact h1 c fun n hn hl => hc n hn (hwn n hl)
      · rfl
    · show n ∈ _ ∨ _
      change (if res.flat.any RC.hl = true then up else fun _ => none) n ≠ none at hn
      split at hn
      · rcases h2 n with h | ⟨_, h⟩
        · exact absurd h hn
        · exact .inl (hwn _ h)
      · exact absurd rfl hn
    · have hc := h3 (res.flat.any RC.hl) σ' ha
      refine ⟨_, ⟨by rw [hdst]; exact hc.sl, hc.ob⟩, fun R K => ?_⟩
      rw [hred σ' ha hf']; simp only [evCall, hv σ' ha, CT.run_val, hres, hdst, hh σ' ha]
  · rename_i d hdst
    dsimp only at hev
    obtain ⟨hd, hev⟩ := bif_par hev
    have hd' : d < 1000 := by simpa using hd
    refine ⟨⟨res.un d, if res.flat.any RC.hl = true then F else fun c => c, fun n => match get (obs d 0 res.flat) n with
      | some ob => some (some ob)
      | none => (if res.flat.any RC.hl = true then up else fun _ => none) n⟩, ⟨fun c hc => ?_, fun n hn => ?_⟩, fun σ' ha hf' => ?_⟩
    · show (if _ then F else _) c = c
      split
      · exact h1 c fun n hn hl => hc n hn (hwn n hl)
      · rfl
    · cases hob : get (obs d 0 res.flat) n with
      | some ob => exact .inr ⟨d, hdst, obs_of hd' hob⟩
      | none =>
        simp only [hob] at hn
        split at hn
        · rcases h2 n with h | ⟨_, h⟩
          · exact absurd h hn
          · exact .inl (hwn _ h)
        · exact absurd rfl hn
    · have hc := h3 (res.flat.any RC.hl) σ' ha
      have h0 : hasOf d σ'.ob = false := hasOf_no fun n hn => hf'.get hdst hn
      refine ⟨{ sl := (bif res.flat.any RC.hl then frzAll (hdrsOps T σ args.toList) σ' else σ').sl.set d (res.un d), ob := (bif res.flat.any RC.hl then frzAll (hdrsOps T σ args.toList) σ' else σ').ob ++ obs d 0 res.flat }, ⟨?_, fun n => ?_⟩, fun R K => ?_⟩
      · rw [hdst]; show List.set _ _ _ = List.set _ _ _; rw [hc.sl]
      · show get (_ ++ _) n = _
        rw [get_append, hc.ob]
        cases hob : get (obs d 0 res.flat) n with
        | some ob =>
          have h4 := hf'.get hdst (obs_of hd' hob)
          have h5 : (if res.flat.any RC.hl = true then up else fun _ => none) n = none ∨ (if res.flat.any RC.hl = true then up else fun _ => none) n = some none := by
            split
            · rcases h2 n with h | ⟨h, _⟩
              · exact .inl h
              · exact .inr h
            · exact .inl rfl
          rw [h4]
          dsimp only
          rw [hob]
          rcases h5 with h5 | h5 <;> rw [h5] <;> rfl
        | none => dsimp only; rw [hob]; simp only [Option.or_none]
      · rw [hred σ' ha hf']; simp only [evCall, hv σ' ha, CT.run_val, hres, hdst, hh σ' ha, h0, cond_false, hd, cond_true]


theorem l_evCallN (f : Operand) (g : FuncId) (args : Array Operand) (tys : Array TypeId) (ho : o.op = .call { callee := .value f, args := args, argTypes := tys }) {d : Nat} (hd : o.dst = some d)
    {F : List AV → Option (List FC)} (hev : evCallN T σ d F tys.toList args.toList K = some r)
    (hred : ∀ σ', Agree T o σ σ' → Fr o σ' → ∀ (R : Type) (K : St → Option R), evCore T call o σ' K = evCallN T σ' d F tys.toList args.toList K) : ∃ e, Local T call o σ e := by
  have hma : ∀ x ∈ args.toList, x ∈ o.op.operands := fun x hx => by rw [ho]; simp only [Op.operands, Call.operands]; simp at hx ⊢; exact .inr hx
  have hrd : reads o = true := by simp [reads, ho]
  have hwn : ∀ n ∈ hdrsOps T σ args.toList, n ∈ wn T o σ := fun n hn => by simp only [wn, ho]; exact List.mem_append_left _ hn
  have htn : ∀ n, n ∈ nmsOps T σ args.toList → n ∈ tn T o σ := by
    intro n hn
    refine tn_of ?_
    rw [ho]; simp only [Op.operands, Call.operands]
    simp only [List.cons_append, List.nil_append, Array.toList_append, nmsOps, List.mem_append]
    exact .inr hn
  unfold evCallN at hev
  split at hev
  · cases hev
  rename_i avs hav
  split at hev
  · cases hev
  rename_i fs hfs
  have hv : ∀ σ', Agree T o σ σ' → viewsI T σ' tys.toList args.toList = some avs := fun σ' ha => by
    rw [viewsI_par tys.toList args.toList (fun x hx => ha.op x (hma x hx)) fun n hn => ha.ob hrd n (htn n hn)]; exact hav
  have hh : ∀ σ', Agree T o σ σ' → hdrsOps T σ' args.toList = hdrsOps T σ args.toList := fun σ' ha => hdrsOps_par _ fun x hx => ha.op x (hma x hx)
  obtain ⟨F1, up, h1, h2, h3⟩ := frzAll_par (hdrsOps T σ args.toList) σ
  refine ⟨⟨.v (.one (.ptr d 0)), F1, fun n => if n = d then some (some (.cells (fs.map .fc))) else up n⟩, ⟨fun c hc => h1 c fun n hn hl => hc n hn (hwn n hl), fun n hn => ?_⟩, fun σ' ha hf' => ?_⟩
  · by_cases hnd : n = d
    · exact .inr ⟨d, hd, by rw [hnd]; exact ofD_self d⟩
    · simp only [if_neg hnd] at hn
      rcases h2 n with h | ⟨_, h⟩
      · exact absurd h hn
      · exact .inl (hwn n h)
  · have hc := h3 σ' fun n hn => ha.ob hrd n (htn n (hdrsOps_sub hn))
    have hno : get (frzAll (hdrsOps T σ args.toList) σ').ob d = none := by
      rw [hc.ob, hf'.get hd (ofD_self d)]
      rcases h2 d with h | ⟨h, _⟩ <;> rw [h] <;> rfl
    refine ⟨_, hd ▸ does_new hc (.v (.one (.ptr d 0))) (.cells (fs.map .fc)) hno, fun R K => ?_⟩
    rw [hred σ' ha hf']
    simp only [evCallN, hv σ' ha, hfs, hh σ' ha]

theorem ptrC_par {ob ob' : List (Nat × Ob)} : ∀ {cs : List Cell}, (∀ n ∈ hdrs cs, get ob' n = get ob n) → ptrC ob' cs = ptrC ob cs
  | [], _ => rfl
  | .fc f :: cs, h => by simp only [ptrC]; rw [ptrC_par (cs := cs) h]
  | .hdr m :: cs, h => by simp only [ptrC]; rw [ptrC_par (cs := cs) fun n hn => h n (by simp [hdrs, hn]), h m (by simp [hdrs])]
  | .bot :: cs, h => rfl
  | .ptr _ _ :: cs, h => rfl
  | .ep _ _ _ :: cs, h => rfl
  | .lp _ _ :: cs, h => rfl

theorem scC_off {p : Nat → Bool} {c : Cell} (h : ∀ n ∈ nmsC c, p n = false) : scC p c = c := by
  cases c <;> simp only [scC] <;> simp [nmsC] at h <;> simp [h]

theorem preD_fr (hF : Fr o σ) {d : Nat} (hd : o.dst = some d) : preD d σ = σ := by
  unfold preD
  rw [hasOf_no fun n hn => hF.get hd hn]; rfl

theorem l_evCallP (f : Operand) (g : FuncId) (args : Array Operand) (tys : Array TypeId) (ho : o.op = .call { callee := .value f, args := args, argTypes := tys }) {d n : Nat} (hd : o.dst = some d)
    {x : Operand} {xs : List Operand} {ts : List TypeId} (hargs : args.toList = x :: xs) (hx : isPtr (opnd T σ x) = some n)
    (hev : evCallP1 T call σ d g n ts xs K = some r)
    (hred : ∀ σ', Agree T o σ σ' → Fr o σ' → ∀ (R : Type) (K : St → Option R), evCore T call o σ' K = evCallP1 T call σ' d g n ts xs K) : ∃ e, Local T call o σ e := by
  have hma : ∀ y ∈ xs, y ∈ o.op.operands := fun y hy => by
    have : y ∈ args.toList := by rw [hargs]; exact List.mem_cons_of_mem _ hy
    rw [ho]; simp only [Op.operands, Call.operands]; simp at this ⊢; exact .inr this
  have hrd : reads o = true := by simp [reads, ho]
  have htnA : ∀ m, m ∈ nmsOps T σ args.toList → m ∈ nmsOps T σ o.op.operands.toList := by
    intro m hm
    rw [ho]; simp only [Op.operands, Call.operands]
    simp only [List.cons_append, List.nil_append, Array.toList_append, nmsOps, List.mem_append]
    exact .inr hm
  have htn : ∀ m, m ∈ nmsOps T σ xs → m ∈ tn T o σ := fun m hm => tn_of (htnA m (by rw [hargs, nmsOps, List.mem_append]; exact .inr hm))
  have hnops : n ∈ nmsOps T σ args.toList := by
    rw [hargs, nmsOps, List.mem_append]
    left
    unfold isPtr at hx
    split at hx
    · rename_i heq; cases hx; rw [heq]; simp [nmsI, nmsV, nmsC]
    · cases hx
  have hntn : n ∈ tn T o σ := tn_of (htnA n hnops)
  unfold evCallP1 at hev
  split at hev
  · rename_i cs hcs
    split at hev
    · rename_i ins avs hins hav
      obtain ⟨hck, hev⟩ := bif_par hev
      rw [CTP.run_val] at hev
      split at hev
      · cases hev
      rename_i res out hres
      obtain ⟨hlen, hev⟩ := bif_par hev
      have hlen' : out.length = cs.length := by simpa using hlen
      have hck' := hck
      simp only [Bool.and_eq_true, Bool.not_eq_true'] at hck'
      obtain ⟨hn1, hd1, hne, -, -⟩ := hck'
      have hn1 : n < 1000 := by simpa using hn1
      have hd1 : d < 1000 := by simpa using hd1
      have hwP : ∀ m, (m = n ∨ m ∈ dlP n cs) → m ∈ wn T o σ := fun m hm => by
        simp only [wn, ho]
        rw [List.mem_append]; right
        rw [hargs]; simp only [ptrW, hx, hcs, List.mem_cons]; exact hm
      have hwL : ∀ m ∈ hdrsOps T σ xs, m ∈ wn T o σ := fun m hm => by
        simp only [wn, ho]
        rw [List.mem_append]; left
        rw [hargs, hdrsOps, List.mem_append]; exact .inr hm
      have hv : ∀ σ', Agree T o σ σ' → viewsI T σ' ts xs = some avs := fun σ' ha => by
        rw [viewsI_par ts xs (fun x hx => ha.op x (hma x hx)) fun n hn => ha.ob hrd n (htn n hn)]; exact hav
      have hh : ∀ σ', Agree T o σ σ' → hdrsOps T σ' xs = hdrsOps T σ xs := fun σ' ha => hdrsOps_par _ fun x hx => ha.op x (hma x hx)
      have hcs' : ∀ σ', Agree T o σ σ' → get σ'.ob n = some (.cells cs) := fun σ' ha => by rw [ha.ob hrd n hntn]; exact hcs
      have hmem : ∀ m ∈ hdrs cs, m ∈ tn T o σ := fun m hm => by
        unfold tn
        rw [List.mem_append]; right
        have hms : m ∈ nmsIn σ (nmsOps T σ o.op.operands.toList) := by
          have gen : ∀ l : List Nat, n ∈ l → m ∈ nmsIn σ l := by
            intro l
            induction l with
            | nil => intro h; cases h
            | cons k l ih =>
              intro h
              simp only [nmsIn, List.mem_append]
              rcases List.mem_cons.1 h with rfl | h
              · left; rw [hcs]; exact hdrs_sub hm
              · exact .inr (ih h)
          exact gen _ (htnA n hnops)
        simp only [ho] at hms ⊢
        exact hms
      have hins' : ∀ σ', Agree T o σ σ' → ptrC σ'.ob cs = some ins := fun σ' ha => by rw [ptrC_par fun m hm => ha.ob hrd m (hmem m hm)]; exact hins
      have hfr : ∃ F up, (∀ c, (∀ n ∈ nmsC c, n ∉ hdrsOps T σ xs) → F c = c) ∧ (∀ m, up m = none ∨ (up m = some none ∧ m ∈ hdrsOps T σ xs)) ∧
          ∀ σ', Agree T o σ σ' → Ch F up σ' (bif (out ++ res.flat).any RC.hl then frzAll (hdrsOps T σ xs) σ' else σ') := by
        cases (out ++ res.flat).any RC.hl with
        | true =>
          obtain ⟨F, up, h1, h2, h3⟩ := frzAll_par (hdrsOps T σ xs) σ
          exact ⟨F, up, h1, h2, fun σ' ha => h3 σ' fun n hn => ha.ob hrd n (htn n (hdrsOps_sub hn))⟩
        | false => exact ⟨_, _, fun _ _ => rfl, fun _ => .inl rfl, fun σ' _ => Ch.refl σ'⟩
      obtain ⟨F, up, h1, h2, h3⟩ := hfr
      have hY : ∀ m ob, get (obs n 0 out ++ obs d 0 res.flat) m = some ob → (m ∈ dlP n cs) ∨ ofD d m = true := fun m ob hm => by
        rw [get_append] at hm
        cases hg : get (obs n 0 out) m with
        | some o' =>
          obtain ⟨k, t, e, ys, e1, e2, _⟩ := get_obs' n out 0 m _ hg
          left
          have hk : k < out.length := (List.getElem?_eq_some_iff.1 e2).1
          unfold dlP
          rw [List.mem_append]; right
          exact List.mem_map.2 ⟨k, List.mem_range.2 (by omega), by rw [e1, Nat.zero_add]⟩
        | none => rw [hg] at hm; exact .inr (obs_of hd1 hm)
      refine ⟨⟨res.un d, scC (dlP n cs).contains ∘ F, fun m => if m = n then some (some (.cells (unCs n 0 out))) else match get (obs n 0 out ++ obs d 0 res.flat) m with
        | some ob => some (some ob)
        | none => if (dlP n cs).contains m = true then some none else up m⟩, ⟨fun c hc => ?_, fun m hm => ?_⟩, fun σ' ha hf' => ?_⟩
      · have hFc : F c = c := h1 c fun m hm hl => hc m hm (hwL m hl)
        show scC _ (F c) = c
        rw [hFc]
        refine scC_off fun m hm => ?_
        cases hcm : (dlP n cs).contains m with
        | false => rfl
        | true => exact absurd (hwP m (.inr (List.contains_iff_mem.1 hcm))) (hc m hm)
      · by_cases hmn : m = n
        · exact .inl (hwP m (.inl hmn))
        · simp only [if_neg hmn] at hm
          cases hob : get (obs n 0 out ++ obs d 0 res.flat) m with
          | some ob =>
            rcases hY m ob hob with h | h
            · exact .inl (hwP m (.inr h))
            · exact .inr ⟨d, hd, h⟩
          | none =>
            simp only [hob] at hm
            split at hm
            · rename_i hc; exact .inl (hwP m (.inr (List.contains_iff_mem.1 hc)))
            · rcases h2 m with h | ⟨_, h⟩
              · exact absurd h hm
              · exact .inl (hwL m h)
      · have hc := (h3 σ' ha).trans (ch_drop (dlP n cs).contains _)
        refine ⟨{ sl := (Iv.drop (dlP n cs).contains (bif (out ++ res.flat).any RC.hl then frzAll (hdrsOps T σ xs) σ' else σ')).sl.set d (res.un d)
                  ob := upd n (.cells (unCs n 0 out)) (Iv.drop (dlP n cs).contains (bif (out ++ res.flat).any RC.hl then frzAll (hdrsOps T σ xs) σ' else σ')).ob ++ (obs n 0 out ++ obs d 0 res.flat) }, ⟨?_, fun m => ?_⟩, fun R K => ?_⟩
        rotate_left 2
        · rw [hred σ' ha hf']
          simp only [evCallP1, hcs' σ' ha, hins' σ' ha, hv σ' ha, hh σ' ha, hck, cond_true, CTP.run_val, hres, hlen]
        · rw [hd]
          show List.set _ _ _ = List.set _ _ _
          rw [hc.sl]
        · show get (upd n (.cells (unCs n 0 out)) _ ++ _) m = _
          rw [get_append]
          by_cases hmn : m = n
          · subst hmn; rw [get_upd_same]; simp
          · rw [get_upd_ne n m _ _ hmn, hc.ob]
            simp only [if_neg hmn]
            cases hob : get (obs n 0 out ++ obs d 0 res.flat) m with
            | some ob =>
              simp only [Option.getD_some]
              rcases hY m ob hob with h | h
              · rw [if_pos (List.contains_iff_mem.2 h)]; rfl
              · rw [hf'.get hd h]
                split
                · rfl
                · rcases h2 m with h5 | ⟨h5, _⟩ <;> rw [h5] <;> rfl
            | none =>
              simp only [Option.or_none]
              split
              · rfl
              · rcases h2 m with h5 | ⟨h5, _⟩ <;> rw [h5] <;> rfl
    · cases hev
  · cases hev

theorem ownOk_par {σ' : St} {xs : List Operand} {l : List Nat} (h : ∀ x ∈ xs, opnd T σ' x = opnd T σ x) (k : ∀ n ∈ nmsOps T σ xs, get σ'.ob n = get σ.ob n) : ownOk T σ' xs l = ownOk T σ xs l := by
  unfold ownOk
  congr 1
  funext j
  cases hx : xs[j]? with
  | none => rfl
  | some x =>
    have hm := List.mem_of_getElem? hx
    dsimp only
    rw [h x hm]
    split
    · rename_i m hq
      rw [k m (nms_mem hm (by rw [hq]; simp [nmsI, nmsV, nmsC]))]
    · rfl

theorem l_evCallB (f : Operand) (g : FuncId) (args : Array Operand) (tys : Array TypeId) (ho : o.op = .call { callee := .value f, args := args, argTypes := tys }) {d n : Nat} (hd : o.dst = some d)
    {x : Operand} {xs : List Operand} {ts : List TypeId} (hargs : args.toList = x :: xs) (hx : isHdr (opnd T σ x) = some n) {B : BufF}
    (hev : evCallB T σ d B n ts xs K = some r)
    (hred : ∀ σ', Agree T o σ σ' → Fr o σ' → ∀ (R : Type) (K : St → Option R), evCore T call o σ' K = evCallB T σ' d B n ts xs K) : ∃ e, Local T call o σ e := by
  have hma : ∀ y ∈ xs, y ∈ o.op.operands := fun y hy => by
    have : y ∈ args.toList := by rw [hargs]; exact List.mem_cons_of_mem _ hy
    rw [ho]; simp only [Op.operands, Call.operands]; simp at this ⊢; exact .inr this
  have hrd : reads o = true := by simp [reads, ho]
  have htnA : ∀ m, m ∈ nmsOps T σ args.toList → m ∈ nmsOps T σ o.op.operands.toList := by
    intro m hm
    rw [ho]; simp only [Op.operands, Call.operands]
    simp only [List.cons_append, List.nil_append, Array.toList_append, nmsOps, List.mem_append]
    exact .inr hm
  have htn : ∀ m, m ∈ nmsOps T σ xs → m ∈ tn T o σ := fun m hm => tn_of (htnA m (by rw [hargs, nmsOps, List.mem_append]; exact .inr hm))
  have hxe : opnd T σ x = .v (.one (.hdr n)) := by
    unfold isHdr at hx
    split at hx
    · rename_i heq; cases hx; exact heq
    · cases hx
  have hntn : n ∈ tn T o σ := tn_of (htnA n (by rw [hargs, nmsOps, List.mem_append]; left; rw [hxe]; simp [nmsI, nmsV, nmsC]))
  have hwn : n ∈ wn T o σ := by
    simp only [wn, ho]
    rw [List.mem_append]; left
    rw [hargs, hdrsOps, List.mem_append]; left; rw [hxe]; simp [hdrsI, hdrs]
  have hwL : ∀ m ∈ hdrsOps T σ xs, m ∈ wn T o σ := fun m hm => by
    simp only [wn, ho]
    rw [List.mem_append]; left
    rw [hargs, hdrsOps, List.mem_append]; exact .inr hm
  unfold evCallB at hev
  split at hev
  · rename_i ob hob
    split at hev
    · rename_i l avs hl hav
      obtain ⟨hap, hev⟩ := bif_par hev
      cases hBf : B.f l avs with
      | none => rw [hBf] at hev; cases hev
      | some ys =>
        have hv : ∀ σ', Agree T o σ σ' → viewsI T σ' ts xs = some avs := fun σ' ha => by
          rw [viewsI_par ts xs (fun x hx => ha.op x (hma x hx)) fun n hn => ha.ob hrd n (htn n hn)]; exact hav
        have hh : ∀ σ', Agree T o σ σ' → hdrsOps T σ' xs = hdrsOps T σ xs := fun σ' ha => hdrsOps_par _ fun x hx => ha.op x (hma x hx)
        have how : ∀ σ', Agree T o σ σ' → ownOk T σ' xs B.own = ownOk T σ xs B.own := fun σ' ha => ownOk_par (fun x hx => ha.op x (hma x hx)) fun n hn => ha.ob hrd n (htn n hn)
        have hg : ∀ σ', Agree T o σ σ' → get σ'.ob n = some ob := fun σ' ha => by rw [ha.ob hrd n hntn]; exact hob
        obtain ⟨F, up, h1, h2, h3⟩ := frzAll_par (hdrsOps T σ xs) σ
        refine ⟨⟨.v (.one (.hdr n)), scC (Nat.beq n) ∘ F, fun m => if m = n then some (some (.rows B.t B.e ys)) else up m⟩, ⟨fun c hc => ?_, fun m hm => ?_⟩, fun σ' ha hf' => ?_⟩
        · have hFc : F c = c := h1 c fun m hm hl => hc m hm (hwL m hl)
          show scC _ (F c) = c
          rw [hFc]
          exact scC_other fun hm => hc n hm hwn
        · by_cases hmn : m = n
          · exact .inl (hmn ▸ hwn)
          · simp only [if_neg hmn] at hm
            rcases h2 m with h | ⟨_, h⟩
            · exact absurd h hm
            · exact .inl (hwL m h)
        · have hc := (h3 σ' fun m hm => ha.ob hrd m (htn m (hdrsOps_sub hm))).trans (ch_scrub (Nat.beq n) _)
          refine ⟨{ sl := (scrub (Nat.beq n) (frzAll (hdrsOps T σ xs) σ')).sl.set d (.v (.one (.hdr n))), ob := upd n (.rows B.t B.e ys) (scrub (Nat.beq n) (frzAll (hdrsOps T σ xs) σ')).ob }, ⟨?_, fun m => ?_⟩, fun R K => ?_⟩
          · rw [hd]
            show List.set _ _ _ = List.set _ _ _
            rw [hc.sl]
          · show get (upd n _ _) m = _
            by_cases hmn : m = n
            · subst hmn; rw [get_upd_same]; simp
            · rw [get_upd_ne n m _ _ hmn, hc.ob]
              simp only [if_neg hmn]
              rcases h2 m with h5 | ⟨h5, _⟩ <;> rw [h5] <;> rfl
          · rw [hred σ' ha hf']
            simp only [evCallB, hg σ' ha, hl, hv σ' ha, hh σ' ha, how σ' ha, hap, cond_true, hBf, Option.bind_some]
    · cases hev
  · cases hev

theorem l_call (f : Operand) (args : Array Operand) (tys : Array TypeId) (ho : o.op = .call { callee := .value f, args := args, argTypes := tys }) (hev : evCore T call o σ K = some r) (hF : Fr o σ) : ∃ e, Local T call o σ e := by
  have hmf : f ∈ o.op.operands := by rw [ho]; simp [Op.operands, Call.operands]
  have hma : ∀ x ∈ args.toList, x ∈ o.op.operands := fun x hx => by rw [ho]; simp only [Op.operands, Call.operands]; simp at hx ⊢; exact .inr hx
  unfold evCore at hev; simp only [ho] at hev
  split at hev
  · rename_i g first captured hf
    obtain ⟨hq, hev⟩ := bif_par hev
    have hr0 : ∀ σ', Agree T o σ σ' → ∀ (R : Type) (K : St → Option R), evCore T call o σ' K = evCalls T call σ' o.dst g tys.toList args.toList K := fun σ' ha R K => by
      simp only [evCore, ho, ha.op f hmf, hf, hq, cond_true]
    unfold evCalls at hev
    split at hev
    · rename_i x xs t ts hargs htys
      have hxo : ∀ σ', Agree T o σ σ' → opnd T σ' x = opnd T σ x := fun σ' ha => ha.op x (hma x (by rw [hargs]; exact List.mem_cons_self ..))
      split at hev
      · rename_i n0 hx0
        split at hev
        · rename_i d hd
          rw [preD_fr hF hd, hx0] at hev
          refine l_evCallP f g args tys ho hd hargs hx0 hev fun σ' ha hf' R K => ?_
          rw [hr0 σ' ha]
          simp only [evCalls, hargs, htys, hxo σ' ha, hx0, hd, preD_fr hf' hd]
        · cases hev
      · rename_i hx0
        split at hev
        · rename_i B n hB hxh
          split at hev
          · rename_i d hd
            refine l_evCallB f g args tys ho hd hargs hxh hev fun σ' ha hf' R K => ?_
            rw [hr0 σ' ha]
            simp only [evCalls, hargs, htys, hxo σ' ha, hx0, hxh, hB, hd]
          · cases hev
        · rename_i hno
          have hr1 : ∀ σ', Agree T o σ σ' → ∀ (R : Type) (K : St → Option R), evCore T call o σ' K = (match call.n g, o.dst with
              | some f, some d => evCallN T σ' d f tys.toList args.toList K
              | some _, none => none
              | none, _ => evCall T call σ' o.dst g tys.toList args.toList K) := fun σ' ha R K => by
            rw [hr0 σ' ha, hargs, htys]
            cases hb : call.b g with
            | none => simp only [evCalls, hxo σ' ha, hx0, hb]; cases call.n g <;> cases o.dst <;> rfl
            | some B => cases hh : isHdr (opnd T σ x) with
              | none => simp only [evCalls, hxo σ' ha, hx0, hb, hh]; cases call.n g <;> cases o.dst <;> rfl
              | some n => exact absurd hh (hno B n hb)
          split at hev
          · rename_i F d hn hd
            refine l_evCallN f g args tys ho hd hev fun σ' ha hf' R K => ?_
            rw [hr1 σ' ha]
            simp only [hd, hn]
          · cases hev
          · rename_i hn
            refine l_evCall f g args tys ho hev fun σ' ha hf' R K => ?_
            rw [hr1 σ' ha]
            simp only [hn]
    · rename_i hno
      refine l_evCall f g args tys ho hev fun σ' ha hf' R K => ?_
      rw [hr0 σ' ha]
      unfold evCalls
      split
      · rename_i x xs t ts h1 h2; exact absurd h2 (hno x xs t ts h1)
      · rfl
  · cases hev

theorem listOf_par {ty : Ty} {x : IV} {σ' : St} (h : ∀ n ∈ nmsI x, get σ'.ob n = get σ.ob n) : listOf T σ' ty x = listOf T σ ty x := by
  unfold listOf
  split
  · rfl
  · rename_i n; rw [h n (by simp [nmsI, nmsV, nmsC])]
  · rfl

theorem l_append (args : Array Operand) (tys : Array TypeId) (ho : o.op = .call { callee := .builtin .append, args := args, argTypes := tys }) (hev : evCore T call o σ K = some r) : ∃ e, Local T call o σ e := by
  have hma : ∀ x ∈ args.toList, x ∈ o.op.operands := fun x hx => by rw [ho]; simp only [Op.operands, Call.operands]; simpa using hx
  have hrd : reads o = true := by simp [reads, ho]
  unfold evCore at hev; simp only [ho] at hev
  split at hev
  · rename_i x y t t2 hxy ht
    unfold evAppend at hev
    split at hev
    · rename_i d ty e hd hty
      obtain ⟨htt, hev⟩ := bif_par hev
      have hx : ∀ σ', Agree T o σ σ' → opnd T σ' x = opnd T σ x := fun σ' ha => ha.op x (hma x (by simp [hxy]))
      have hy : ∀ σ', Agree T o σ σ' → opnd T σ' y = opnd T σ y := fun σ' ha => ha.op y (hma y (by simp [hxy]))
      split at hev
      · cases hev
      rename_i ys hys
      have hl : ∀ σ', Agree T o σ σ' → listOf T σ' ty (opnd T σ y) = some ys := fun σ' ha => by
        rw [listOf_par fun n hn => ha.nm hrd (hma y (by simp [hxy])) hn]; exact hys
      split at hev
      · rename_i n hxn
        have hg : ∀ σ', Agree T o σ σ' → get σ'.ob n = get σ.ob n := fun σ' ha => ha.nm hrd (hma x (by simp [hxy])) (by rw [hxn]; simp [nmsI, nmsV, nmsC])
        have hw : n ∈ wn T o σ := by
          simp only [wn, ho]
          exact nms_mem (x := x) (by simp [hxy]) (by rw [hxn]; simp [nmsI, nmsV, nmsC])
        split at hev
        · cases hev
        rename_i ob hn
        split at hev
        · cases hev
        rename_i xs hxs
        obtain ⟨hq, hev⟩ := req_par hev
        refine ⟨⟨.v (.one (.hdr n)), scC (Nat.beq n), fun m => if m = n then some (some (.rows ty e (xs ++ ys))) else none⟩, ⟨fun c hc => scC_other fun hm => hc n hm hw, fun m hm => ?_⟩, fun σ' ha hf' => ?_⟩
        · by_cases h : m = n
          · exact .inl (h ▸ hw)
          · simp [h] at hm
        · refine ⟨{ sl := (scrub (Nat.beq n) σ').sl.set d (.v (.one (.hdr n))), ob := upd n (.rows ty e (xs ++ ys)) (scrub (Nat.beq n) σ').ob }, ⟨?_, fun m => ?_⟩, fun R K => ?_⟩
          · rw [hd, mI_sc]; rfl
          · by_cases h : m = n
            · subst h; simp [get_upd_same]
            · show get (upd n _ _) m = _
              rw [get_upd_ne n m _ _ h, get_scrub, mO_sc]; simp [h]
          · simp only [evCore, ho, hxy, ht, evAppend, hd, hty, htt, cond_true, hx σ' ha, hy σ' ha, hl σ' ha, hxn, hg σ' ha, hn, hxs, req, hq]
      · rename_i hxn
        obtain ⟨hq, hev⟩ := req_par hev
        exact loc_new hd (.v (.one (.hdr d))) (.rows ty e ys) fun σ' ha hf R K => by
          simp only [evCore, ho, hxy, ht, evAppend, hd, hty, htt, cond_true, hx σ' ha, hy σ' ha, hl σ' ha, hxn, req, hq]
      · cases hev
    · cases hev
  · cases hev

theorem cellsOf_none {x : IV} : cellsOf x = none ↔ ∃ xs, x = .tup xs := by
  cases x with
  | tup xs => simp [cellsOf]
  | v x => cases x <;> simp [cellsOf]

theorem partsOf_par {ty : Ty} {σ' : St} : ∀ (ps : List (Nat × Operand)) (i : Nat), (∀ x ∈ ps.map (·.2), opnd T σ' x = opnd T σ x) → partsOf T σ' ty i ps = partsOf T σ ty i ps
  | [], _, _ => rfl
  | (j, x) :: ps, i, h => by
    have h1 := h x (by simp)
    have ih := partsOf_par (ty := ty) ps (i + 1) fun y hy => h y (by simp only [List.map_cons, List.mem_cons]; exact .inr hy)
    simp only [partsOf, h1, ih]

theorem l_buildSlice (t : TypeId) (len : Nat) (parts : Array (Nat × Operand)) (ho : o.op = .buildSlice t len parts) (hev : evCore T call o σ K = some r) (hF : Fr o σ) : ∃ e, Local T call o σ e := by
  have hma : ∀ x ∈ parts.toList.map (·.2), x ∈ o.op.operands := fun x hx => by rw [ho]; simpa [Op.operands] using hx
  have hrd : reads o = true := by simp [reads, ho]
  have hwn : wn T o σ = hdrsOps T σ (parts.toList.map (·.2)) := by simp [wn, ho]
  have htn : tn T o σ = nmsOps T σ (parts.toList.map (·.2)) := by simp [tn, ho, Op.operands]
  unfold evCore at hev; simp only [ho] at hev
  unfold evBuildSlice at hev
  split at hev
  · rename_i d ty e hd hty
    dsimp only at hev
    obtain ⟨F, up, h1, h2, h3⟩ := frzAll_par (hdrsOps T σ (parts.toList.map (·.2))) σ
    have hbot : F .bot = .bot := h1 .bot (by simp [nmsC])
    split at hev
    · rename_i xs hxs
      obtain ⟨hq, hev⟩ := bif_par hev
      refine ⟨⟨.v (.one (.hdr d)), F, fun n => if n = d then some (some (.rows ty e xs)) else up n⟩, ⟨fun c hc => h1 c (by rw [hwn] at hc; exact hc), fun n hn => ?_⟩, fun σ' ha hf' => ?_⟩
      · by_cases h : n = d
        · exact .inr ⟨d, hd, by rw [h]; exact ofD_self d⟩
        · simp only [if_neg h] at hn
          rcases h2 n with h | ⟨_, h⟩
          · exact absurd h hn
          · exact .inl (by rw [hwn]; exact h)
      · have hc0 := h3 σ fun _ _ => rfl
        have hc := h3 σ' fun n hn => ha.ob hrd n (by rw [htn]; exact hdrsOps_sub hn)
        have hn : get (frzAll (hdrsOps T σ (parts.toList.map (·.2))) σ').ob d = none := ch_none hc ((h2 d).imp id And.left) (hf'.get hd (ofD_self d))
        refine ⟨_, hd ▸ does_new hc _ _ hn, fun R K => ?_⟩
        have hp := partsOf_par (T := T) (ty := ty) parts.toList 0 (σ := frzAll (hdrsOps T σ (parts.toList.map (·.2))) σ) (σ' := frzAll (hdrsOps T σ (parts.toList.map (·.2))) σ') fun x hx => opnd_ch hbot hc0 hc (ha.op x (hma x hx))
        have hh := hdrsOps_par (T := T) (σ := σ) (σ' := σ') (parts.toList.map (·.2)) fun x hx => ha.op x (hma x hx)
        simp only [evCore, ho, evBuildSlice, hd, hty, hh, hp, hxs, hq, cond_true]
    · cases hev
  · cases hev

theorem l_slice (t : TypeId) (x : Operand) (lo hi : Option Operand) (ho : o.op = .slice t x lo hi none) (hev : evCore T call o σ K = some r) : ∃ e, Local T call o σ e := by
  have hrd : reads o = true := by simp [reads, ho]
  have hx : ∀ σ', Agree T o σ σ' → opnd T σ' x = opnd T σ x := fun σ' ha => ha.op x (by simp [ho, Op.operands])
  have hlo : ∀ σ', Agree T o σ σ' → lo.map (opnd T σ') = lo.map (opnd T σ) := fun σ' ha => by
    cases lo with
    | none => rfl
    | some y => simp only [Option.map_some]; rw [ha.op y (by simp [ho, Op.operands])]
  have hhi : ∀ σ', Agree T o σ σ' → hi.map (opnd T σ') = hi.map (opnd T σ) := fun σ' ha => by
    cases hi with
    | none => rfl
    | some y => simp only [Option.map_some]; rw [ha.op y (by simp [ho, Op.operands])]
  unfold evCore at hev; simp only [ho] at hev
  unfold evSlice at hev
  split at hev
  · rename_i l h hl hh
    split at hev
    · rename_i s hxs
      obtain ⟨h1, hev⟩ := bif_par hev
      obtain ⟨h2, hev⟩ := req_par hev
      exact loc_pure _ fun σ' ha R K => by (simp only [evCore, ho, evSlice, hlo σ' ha, hhi σ' ha, hx σ' ha, hl, hh, hxs, h1, h2, req, cond_true]; rfl)
    · rename_i ty xs hxs
      split at hev
      · rename_i te e hte
        obtain ⟨h2, hev⟩ := req_par hev
        exact loc_pure _ fun σ' ha R K => by (simp only [evCore, ho, evSlice, hlo σ' ha, hhi σ' ha, hx σ' ha, hl, hh, hxs, hte, h2, req, cond_true]; rfl)
      · cases hev
    · rename_i n hxn
      have hg : ∀ σ', Agree T o σ σ' → get σ'.ob n = get σ.ob n := fun σ' ha => ha.nm hrd (x := x) (by simp [ho, Op.operands]) (by rw [hxn]; simp [nmsI, nmsV, nmsC])
      have hw : n ∈ wn T o σ := by simp [wn, ho, hdrsOps, hxn, hdrsI, hdrs]
      split at hev
      · rename_i te e ty e2 xs h d hte hn hd
        obtain ⟨h2, hev⟩ := req_par hev
        refine ⟨⟨.v (.one (.hdr n)), scC (Nat.beq n), fun m => if m = n then some (some (.rows ty e2 (xs.take h.toNat))) else none⟩, ⟨fun c hc => scC_other fun hm => hc n hm hw, fun m hm => ?_⟩, fun σ' ha hf' => ?_⟩
        · by_cases h : m = n
          · exact .inl (h ▸ hw)
          · simp [h] at hm
        · refine ⟨{ sl := (scrub (Nat.beq n) σ').sl.set d (.v (.one (.hdr n))), ob := upd n (.rows ty e2 (xs.take h.toNat)) (scrub (Nat.beq n) σ').ob }, ⟨?_, fun m => ?_⟩, fun R K => ?_⟩
          · rw [hd, mI_sc]; rfl
          · by_cases hm : m = n
            · subst hm; simp [get_upd_same]
            · show get (upd n _ _) m = _
              rw [get_upd_ne n m _ _ hm, get_scrub, mO_sc]; simp [hm]
          · simp only [evCore, ho, evSlice, hlo σ' ha, hhi σ' ha, hx σ' ha, hl, hh, hxn, hg σ' ha, hte, hn, hd, h2, req, cond_true]
      · cases hev
    · rename_i cs hxs
      split at hev
      · rename_i len ss harr hss
        obtain ⟨h1, hev⟩ := bif_par hev
        exact loc_pure _ fun σ' ha R K => by (simp only [evCore, ho, evSlice, hlo σ' ha, hhi σ' ha, hx σ' ha, hl, hh, hxs, harr, hss, h1, cond_true]; rfl)
      · cases hev
    · cases hev
  · cases hev

theorem l_store (t : TypeId) (a x : Operand) (ho : o.op = .store t a x) (hev : evCore T call o σ K = some r) : ∃ e, Local T call o σ e := by
  have hrd : reads o = true := by simp [reads, ho]
  have ha' : ∀ σ', Agree T o σ σ' → opnd T σ' a = opnd T σ a := fun σ' ha => ha.op a (by simp [ho, Op.operands])
  have hx : ∀ σ', Agree T o σ σ' → opnd T σ' x = opnd T σ x := fun σ' ha => ha.op x (by simp [ho, Op.operands])
  have hga : ∀ σ', Agree T o σ σ' → ∀ n ∈ nmsI (opnd T σ a), get σ'.ob n = get σ.ob n := fun σ' ha n hn => ha.nm hrd (by simp [ho, Op.operands]) hn
  have hgx : ∀ σ', Agree T o σ σ' → ∀ n ∈ nmsI (opnd T σ x), get σ'.ob n = get σ.ob n := fun σ' ha n hn => ha.nm hrd (by simp [ho, Op.operands]) hn
  have hwn : wn T o σ = nmsOps T σ [a, x] := by simp [wn, ho]
  have hwa : ∀ n ∈ nmsI (opnd T σ a), n ∈ wn T o σ := fun n hn => by rw [hwn]; exact nms_mem (by simp) hn
  have hwx : ∀ n ∈ nmsI (opnd T σ x), n ∈ wn T o σ := fun n hn => by rw [hwn]; exact nms_mem (by simp) hn
  unfold evCore at hev; simp only [ho] at hev
  have put_ob : ∀ σ : St, (put o.dst undI σ).ob = σ.ob := fun σ => by cases o.dst <;> rfl
  have put_sl : ∀ σ : St, (put o.dst undI σ).sl = putL o.dst undI σ.sl := fun σ => by cases o.dst <;> rfl
  unfold evStore at hev
  split at hev
  · rename_i sz ag n off hsz han
    have hn0 : n ∈ nmsI (opnd T σ a) := by rw [han]; simp [nmsI, nmsV, nmsC]
    split at hev
    · rename_i cs ys hn hys
      obtain ⟨h1, hev⟩ := bif_par hev
      refine ⟨⟨undI, fun c => c, fun m => if m = n then some (some (.cells (splice cs off ys))) else none⟩, ⟨fun c hc => rfl, fun m hm => ?_⟩, fun σ' ha hf' => ?_⟩
      · by_cases h : m = n
        · exact .inl (h ▸ hwa n hn0)
        · simp [h] at hm
      · refine ⟨put o.dst undI { σ' with ob := upd n (.cells (splice cs off ys)) σ'.ob }, ⟨?_, fun m => ?_⟩, fun R K => ?_⟩
        · rw [put_sl, mI_ids]
        · rw [put_ob]
          by_cases hm : m = n
          · subst hm; simp [get_upd_same]
          · rw [get_upd_ne n m _ _ hm]; simp [hm, mO_ids]
        · simp only [evCore, ho, evStore, ha' σ' ha, hx σ' ha, hsz, han, hga σ' ha n hn0, hn, hys, h1, cond_true]
    · cases hev
  · rename_i sz ag n i off hsz han
    have hn0 : n ∈ nmsI (opnd T σ a) := by rw [han]; simp [nmsI, nmsV, nmsC]
    dsimp only at hev
    obtain ⟨F, up, h1, h2, h3⟩ := frzAll_par (hdrsI (opnd T σ x)) σ
    have hbot : F .bot = .bot := h1 .bot (by simp [nmsC])
    have hc0 := h3 σ fun _ _ => rfl
    have hcx : ∀ σ', Agree T o σ σ' → Ch F up σ' (frzAll (hdrsI (opnd T σ x)) σ') := fun σ' ha => h3 σ' fun m hm => hgx σ' ha m (hdrsI_sub hm)
    have hgn : ∀ σ', Agree T o σ σ' → get (frzAll (hdrsI (opnd T σ x)) σ').ob n = get (frzAll (hdrsI (opnd T σ x)) σ).ob n := fun σ' ha => by
      rw [(hcx σ' ha).ob, hc0.ob, hga σ' ha n hn0]
    have hxo : ∀ σ', Agree T o σ σ' → opnd T (frzAll (hdrsI (opnd T σ x)) σ') x = opnd T (frzAll (hdrsI (opnd T σ x)) σ) x := fun σ' ha => opnd_ch hbot hc0 (hcx σ' ha) (hx σ' ha)
    have fin : ∀ ob : Ob, (∀ σ', Agree T o σ σ' → ∀ (R : Type) (K : St → Option R), evCore T call o σ' K = K (put o.dst undI { frzAll (hdrsI (opnd T σ x)) σ' with ob := upd n ob (frzAll (hdrsI (opnd T σ x)) σ').ob })) → ∃ e, Local T call o σ e := by
      intro ob hK
      refine ⟨⟨undI, F, fun m => if m = n then some (some ob) else up m⟩, ⟨fun c hc => h1 c fun m hm hm' => hc m hm (hwx m (hdrsI_sub hm')), fun m hm => ?_⟩, fun σ' ha hf' => ⟨_, ⟨?_, fun m => ?_⟩, hK σ' ha⟩⟩
      · by_cases h : m = n
        · exact .inl (h ▸ hwa n hn0)
        · simp only [if_neg h] at hm
          rcases h2 m with h | ⟨_, h⟩
          · exact absurd h hm
          · exact .inl (hwx m (hdrsI_sub h))
      · rw [put_sl]; show putL o.dst undI _ = _; rw [(hcx σ' ha).sl]
      · rw [put_ob]
        by_cases hm : m = n
        · subst hm; simp [get_upd_same]
        · rw [get_upd_ne n m _ _ hm, (hcx σ' ha).ob]; simp [hm]
    split at hev
    · rename_i ty e xs hn
      split at hev
      · cases hev
      rename_i ys hys
      split at hev
      · rename_i fs hfs
        obtain ⟨hq, hev⟩ := bif_par hev
        split at hev
        · rename_i z hz
          exact fin (.rows ty e (xs.set i z)) fun σ' ha R K => by simp only [evCore, ho, evStore, ha' σ' ha, hx σ' ha, hsz, han, hgn σ' ha, hn, hxo σ' ha, hys, hfs, hq, cond_true, hz]
        · cases hev
      · cases hev
    · rename_i xs hn
      split at hev
      · rename_i b hb
        obtain ⟨hq, hev⟩ := bif_par hev
        exact fin (.bytes (xs.set i b)) fun σ' ha R K => by simp only [evCore, ho, evStore, ha' σ' ha, hx σ' ha, hsz, han, hgn σ' ha, hn, hxo σ' ha, hb, hq, cond_true]
      · cases hev
    · cases hev
  · cases hev

/-- WHATEVER AN OPERATION DOES, it does by what its operands hold and by the blocks that these name. -/
theorem loc (hev : evCore T call o σ K = some r) (hF : Fr o σ) : ∃ e, Local T call o σ e := by
  have h0 := hev
  unfold evCore at hev
  split at hev
  · rename_i x ho; exact l_move x (.inl ho)
  · rename_i x ho; exact l_move x (.inr ho)
  · rename_i c x y ho; exact l_pick c x y ho h0
  · rename_i e ho; exact l_alloc e ho h0
  · rename_i e x ho; exact l_box e x ho h0 hF
  · rename_i x ho; exact l_nilCheck x ho h0
  · rename_i t x ho; exact l_load t x ho h0
  · rename_i t x y ho; exact l_store t x y ho h0
  · rename_i s x f ho; exact l_fieldAddr s x f ho h0
  · rename_i s x f ho; exact l_field s x f ho h0
  · rename_i t x ix ho; exact l_indexAddr t x ix ho h0
  · rename_i t x ix ho; exact l_index t x ix ho h0
  · rename_i x i ho; exact l_extract x i ho h0
  · rename_i t x ho; exact l_not t x ho h0
  · rename_i t x ho; exact l_neg t x ho h0
  · rename_i op t x y t2 ho; exact l_bin op t t2 x y ho h0
  · rename_i src dt x ho; exact l_conv src dt x ho h0
  · rename_i t x lo hi ho; exact l_slice t x lo hi ho h0
  · rename_i t len parts ho; exact l_buildSlice t len parts ho h0 hF
  · rename_i t parts ho; exact l_build t parts ho h0
  · rename_i t l c ho; exact l_make t l c ho h0
  · rename_i fn first captured ho; exact l_func fn first captured ho h0
  · rename_i f args tys ho; exact l_call f args tys ho h0 hF
  · rename_i args tys ho; exact l_len args tys ho h0
  · rename_i args tys ho; exact l_min args tys ho h0
  · rename_i args tys ho; exact l_max args tys ho h0
  · rename_i args tys ho; exact l_append args tys ho h0
  · cases hev

end
end Go.Iv

/- A region whose order is drawn: any order comes to the same. -/
namespace Go.Iv

structure Eqv (σ σ' : St) : Prop where
  sl : σ.sl = σ'.sl
  ob : ∀ n, get σ.ob n = get σ'.ob n

structure AgreeG (T : Tab) (ops : Array Oper) (o : Oper) (σ σ' : St) : Prop extends Agree T o σ σ' where
  guard : ∀ j want d, o.guard = some (j, want) → (ops[j]?).bind (·.dst) = some d → σ'.sl.getD d botI = σ.sl.getD d botI

def Gen (T : Tab) (call : CallT) (ops : Array Oper) (o : Oper) (σ : St) (e : Eff) : Prop :=
  Within T o σ e ∧ ∀ σ', AgreeG T ops o σ σ' → Fr o σ' → ∃ σ1, Does o.dst e σ' σ1 ∧ ∀ (R : Type) (K : St → Option R), stepG T call ops o σ' K = K σ1

theorem set_same {l : List IV} {d : Nat} {x : IV} (h : l.getD d botI = x) : l.set d x = l := by
  apply List.ext_getElem? 
  intro i
  rw [List.getElem?_set]
  split
  · rename_i hd; subst hd
    split
    · rename_i hlt; rw [← h, List.getD_eq_getElem?_getD, List.getElem?_eq_getElem hlt]; rfl
    · rename_i hlt; rw [List.getElem?_eq_none (by omega)]
  · rfl

section
variable {T : Tab} {call : CallT} {ops : Array Oper} {o : Oper} {σ : St} {R : Type} {r : R} {K : St → Option R}

theorem gen_skip (h : ∀ σ', AgreeG T ops o σ σ' → ∀ (R : Type) (K : St → Option R), stepG T call ops o σ' K = K (put o.dst undI σ')) : ∃ e, Gen T call ops o σ e :=
  ⟨⟨undI, fun c => c, fun _ => none⟩, ⟨fun _ _ => rfl, fun n h => absurd rfl h⟩, fun σ' ha _ => ⟨_, does_put o.dst undI σ', h σ' ha⟩⟩

theorem gen_run {e : Eff} (hl : Local T call o σ e) (h : ∀ σ', AgreeG T ops o σ σ' → ∀ (R : Type) (K : St → Option R), stepG T call ops o σ' K = evCore T call o σ' K) : ∃ e, Gen T call ops o σ e :=
  ⟨e, hl.1, fun σ' ha hf => by
    obtain ⟨σ1, h1, h2⟩ := hl.2 σ' ha.toAgree hf
    exact ⟨σ1, h1, fun R K => by rw [h σ' ha]; exact h2 R K⟩⟩

theorem gen (hev : stepG T call ops o σ K = some r) (hF : Fr o σ) : ∃ e, Gen T call ops o σ e := by
  have h0 := hev
  unfold stepG at hev
  split at hev
  · rename_i hg
    obtain ⟨e, he⟩ := loc hev hF
    exact gen_run he fun σ' ha R K => by unfold stepG; rw [hg]
  · rename_i j want hg
    split at hev
    · cases hev
    rename_i d hd
    have hsl : ∀ σ', AgreeG T ops o σ σ' → σ'.sl.getD d botI = σ.sl.getD d botI := fun σ' ha => ha.guard j want d hg hd
    split at hev
    · rename_i b hb
      have hset : ∀ σ', AgreeG T ops o σ σ' → ({ sl := σ'.sl.set d (.v (.one (.fc (.sc (.bool b))))), ob := σ'.ob } : St) = σ' := fun σ' ha => by
        rw [set_same (l := σ'.sl) (d := d) ((hsl σ' ha).trans hb)]
      have hself : ({ sl := σ.sl.set d (.v (.one (.fc (.sc (.bool b))))), ob := σ.ob } : St) = σ := by rw [set_same hb]
      cases b with
      | true =>
        simp only [cond_true] at hev
        rw [hself] at hev
        cases want with
        | true =>
          simp only [cond_true] at hev
          obtain ⟨e, he⟩ := loc hev hF
          exact gen_run he fun σ' ha R K => by unfold stepG; rw [hg]; simp only [hd]; rw [hsl σ' ha, hb]; simp only [cond_true]; rw [hset σ' ha]
        | false =>
          exact gen_skip fun σ' ha R K => by unfold stepG; rw [hg]; simp only [hd]; rw [hsl σ' ha, hb]; simp only [cond_true, cond_false]; rw [hset σ' ha]
      | false =>
        simp only [cond_false] at hev
        rw [hself] at hev
        cases want with
        | true =>
          exact gen_skip fun σ' ha R K => by unfold stepG; rw [hg]; simp only [hd]; rw [hsl σ' ha, hb]; simp only [cond_true, cond_false]; rw [hset σ' ha]
        | false =>
          simp only [cond_false] at hev
          obtain ⟨e, he⟩ := loc hev hF
          exact gen_run he fun σ' ha R K => by unfold stepG; rw [hg]; simp only [hd]; rw [hsl σ' ha, hb]; simp only [cond_false]; rw [hset σ' ha]
    · rename_i hb
      exact gen_skip fun σ' ha R K => by unfold stepG; rw [hg]; simp only [hd]; rw [hsl σ' ha, hb]
    · cases hev

theorem nmsOps_par {σ' : St} : ∀ (xs : List Operand), (∀ x ∈ xs, opnd T σ' x = opnd T σ x) → nmsOps T σ' xs = nmsOps T σ xs
  | [], _ => rfl
  | x :: xs, h => by rw [nmsOps, nmsOps, h x (by simp), nmsOps_par xs fun y hy => h y (by simp [hy])]

theorem nmsIn_par {σ' : St} : ∀ {l : List Nat}, (∀ n ∈ l, get σ'.ob n = get σ.ob n) → nmsIn σ' l = nmsIn σ l
  | [], _ => rfl
  | n :: l, h => by rw [nmsIn, nmsIn, h n (by simp), nmsIn_par fun m hm => h m (by simp [hm])]

theorem Agree.tn {σ' : St} (ha : Agree T o σ σ') : tn T o σ' = tn T o σ := by
  have h0 : nmsOps T σ' o.op.operands.toList = nmsOps T σ o.op.operands.toList := nmsOps_par _ fun x hx => ha.op x (by simpa using hx)
  unfold Iv.tn
  rw [h0]
  congr 1
  split
  · rename_i ho
    exact nmsIn_par fun n hn => ha.ob (by simp [reads, ho]) n (tn_of hn)
  · rfl

theorem ptrW_par {σ' : St} : ∀ (xs : List Operand), (∀ x ∈ xs, opnd T σ' x = opnd T σ x) → (∀ n ∈ nmsOps T σ xs, get σ'.ob n = get σ.ob n) → ptrW T σ' xs = ptrW T σ xs
  | [], _, _ => rfl
  | x :: xs, h, k => by
    simp only [ptrW, h x (by simp)]
    cases hx : isPtr (opnd T σ x) with
    | none => rfl
    | some n =>
      have hn : n ∈ nmsOps T σ (x :: xs) := by
        rw [nmsOps, List.mem_append]; left
        unfold isPtr at hx
        split at hx
        · rename_i heq; cases hx; rw [heq]; simp [nmsI, nmsV, nmsC]
        · cases hx
      simp only [k n hn]

theorem Agree.wn {σ' : St} (ha : Agree T o σ σ') : wn T o σ' = wn T o σ := by
  have h := ha.op
  unfold Iv.wn
  split
  · rename_i ho; exact nmsOps_par _ fun x hx => h x (by rw [ho]; simpa [Op.operands] using hx)
  · rename_i ho; exact nmsOps_par _ fun x hx => h x (by rw [ho]; simpa [Op.operands, Call.operands] using hx)
  · rfl
  · rename_i args _ _ _ ho
    have hop : ∀ x ∈ args.toList, opnd T σ' x = opnd T σ x := fun x hx => h x (by rw [ho]; simp only [Op.operands, Call.operands]; simp at hx ⊢; exact .inr hx)
    rw [hdrsOps_par _ hop, ptrW_par _ hop fun n hn => ha.ob (by simp [reads, ho]) n (tn_of (by
      rw [ho]; simp only [Op.operands, Call.operands, Array.toList_append]
      have gen : ∀ (l1 l2 : List Operand), n ∈ nmsOps T σ l2 → n ∈ nmsOps T σ (l1 ++ l2) := by
        intro l1 l2 hh
        induction l1 with
        | nil => exact hh
        | cons y l ih => rw [List.cons_append, nmsOps, List.mem_append]; exact .inr ih
      exact gen _ _ hn))]
  · rename_i ho; exact hdrsOps_par _ fun x hx => h x (by rw [ho]; simpa [Op.operands] using hx)
  · rename_i ho; exact hdrsOps_par _ fun x hx => h x (by rw [ho]; simp at hx; subst hx; simp [Op.operands])
  · rfl

theorem Gen.move {σ' : St} {e : Eff} (hg : Gen T call ops o σ e) (ha : AgreeG T ops o σ σ') : Gen T call ops o σ' e := by
  refine ⟨⟨fun c hc => hg.1.f c fun n hn hw => hc n hn (by rw [ha.toAgree.wn]; exact hw), fun n hn => ?_⟩, fun σ'' hb hf => hg.2 σ'' ⟨⟨fun x hx => (hb.op x hx).trans (ha.op x hx), fun hr n hn => ?_⟩, fun j want d h1 h2 => (hb.guard j want d h1 h2).trans (ha.guard j want d h1 h2)⟩ hf⟩
  · rw [ha.toAgree.wn]; exact hg.1.up n hn
  · rw [hb.ob hr n (by rw [ha.toAgree.tn]; exact hn), ha.ob hr n hn]

theorem AgreeG.refl : AgreeG T ops o σ σ := ⟨⟨fun _ _ => rfl, fun _ _ _ => rfl⟩, fun _ _ _ _ _ => rfl⟩

theorem Eqv.agree {σ' : St} (h : Eqv σ σ') : AgreeG T ops o σ σ' := by
  refine ⟨⟨fun x _ => ?_, fun _ n _ => (h.ob n).symm⟩, fun _ _ d _ _ => by rw [h.sl]⟩
  cases x <;> simp only [opnd]
  rw [h.sl]

theorem Eqv.symm {σ' : St} (h : Eqv σ σ') : Eqv σ' σ := ⟨h.sl.symm, fun n => (h.ob n).symm⟩

theorem Does.eqv {d : Option Nat} {e : Eff} {σ σ' σ1 : St} (h : Does d e σ σ1) (k : Eqv σ σ') : Does d e σ' σ1 :=
  ⟨by rw [h.sl, k.sl], fun n => by rw [h.ob, k.ob]⟩

theorem Does.uniq {d : Option Nat} {e : Eff} {σ1 σ2 : St} (h : Does d e σ σ1) (k : Does d e σ σ2) : Eqv σ1 σ2 :=
  ⟨by rw [h.sl, k.sl], fun n => by rw [h.ob, k.ob]⟩

/-- What a guard reads leads nowhere. -/
def Grd (ops : Array Oper) (o : Oper) (σ : St) : Prop := ∀ j want d, o.guard = some (j, want) → (ops[j]?).bind (·.dst) = some d → nmsI (σ.sl.getD d botI) = []

theorem grd_of (hev : stepG T call ops o σ K = some r) : Grd ops o σ := by
  intro j want d hg hd
  unfold stepG at hev
  rw [hg] at hev
  simp only [hd] at hev
  split at hev
  · rename_i b hb; rw [hb]; rfl
  · rename_i hb; rw [hb]; rfl
  · cases hev

structure Foot (T : Tab) (ops : Array Oper) (o : Oper) (σ σ1 : St) (y : Rec) : Prop where
  grd : Grd ops o σ
  tn : ∀ n ∈ tn T o σ, n ∈ y.tn
  w : ∀ n ∈ wn T o σ, n ∈ y.w
  t0 : ∀ n ∈ Iv.tn T o σ, n ∈ y.t
  tv : ∀ d, o.dst = some d → ∀ n ∈ nmsI (σ1.sl.getD d botI), n ∈ y.t
  tob : ∀ d m ob, o.dst = some d → ofD d m = true → get σ1.ob m = some ob → ∀ n ∈ nmsO ob, n ∈ y.t
  tr : reads o = true → ∀ m ∈ Iv.tn T o σ, ∀ ob, get σ.ob m = some ob → ∀ n ∈ nmsO ob, n ∈ y.t

theorem newNms_mem {d : Nat} : ∀ {l : List (Nat × Ob)} {m : Nat} {ob : Ob}, get l m = some ob → ofD d m = true → ∀ n ∈ nmsO ob, n ∈ newNms (some d) l
  | [], m, ob, h, _, n, _ => by cases h
  | (k, x) :: l, m, ob, h, hd, n, hn => by
    simp only [newNms, List.mem_append]
    simp only [get] at h
    split at h
    · rename_i hk; subst hk; cases h; left; rw [hd]; exact hn
    · exact .inr (newNms_mem h hd n hn)

theorem nmsIn_mem : ∀ {l : List Nat} {m : Nat} {ob : Ob}, m ∈ l → get σ.ob m = some ob → ∀ n ∈ nmsO ob, n ∈ nmsIn σ l
  | [], m, ob, h, _, n, _ => by cases h
  | k :: l, m, ob, h, hg, n, hn => by
    simp only [nmsIn, List.mem_append]
    rcases List.mem_cons.1 h with rfl | h
    · left; rw [hg]; exact hn
    · exact .inr (nmsIn_mem h hg n hn)

theorem foot_mkRec (i : Nat) (q : Bool) (o : Oper) (σ σ1 : St) (hg : Grd ops o σ) : Foot T ops o σ σ1 (mkRec T i q o σ σ1) := by
  refine ⟨hg, fun n h => h, fun n h => h, fun n h => ?_, fun d hd n h => ?_, fun d m ob hd hm hg n h => ?_, fun hr m hm ob hg n h => ?_⟩
  · simp [mkRec, h]
  · simp [mkRec, hd]
    exact .inr (.inl h)
  · simp only [mkRec, hd, List.mem_append]
    exact .inr (.inr (.inl (newNms_mem hg hm n h)))
  · simp only [mkRec, List.mem_append, hr, cond_true]
    exact .inr (.inr (.inr (nmsIn_mem hm hg n h)))

theorem Foot.move {σ' σ1 σ1' : St} {y : Rec} (h : Foot T ops o σ σ1 y) (ha : AgreeG T ops o σ σ') (hs : ∀ d, o.dst = some d → σ1'.sl.getD d botI = σ1.sl.getD d botI)
    (hob : ∀ d m, o.dst = some d → ofD d m = true → get σ1'.ob m = get σ1.ob m) : Foot T ops o σ' σ1' y := by
  refine ⟨fun j want d h1 h2 => by rw [ha.guard j want d h1 h2]; exact h.grd j want d h1 h2, ?_, ?_, ?_, fun d hd n hn => h.tv d hd n (by rw [← hs d hd]; exact hn), fun d m ob hd hm hg => h.tob d m ob hd hm (by rw [← hob d m hd hm]; exact hg), fun hr m hm ob hg => ?_⟩
  · rw [ha.toAgree.tn]; exact h.tn
  · rw [ha.toAgree.wn]; exact h.w
  · rw [ha.toAgree.tn]; exact h.t0
  · rw [ha.toAgree.tn] at hm; exact h.tr hr m hm ob (by rw [← ha.ob hr m hm]; exact hg)

end
end Go.Iv

/- A region whose order is drawn: two operations that may change places; any order. -/
namespace Go.Iv

theorem nmsCs_mem {cs : List Cell} {c : Cell} (h : c ∈ cs) {n : Nat} (hn : n ∈ nmsC c) : n ∈ nmsCs cs := by
  induction cs with
  | nil => cases h
  | cons x r ih =>
    rw [nmsCs, List.mem_append]
    rcases List.mem_cons.1 h with rfl | h
    · exact .inl hn
    · exact .inr (ih h)

theorem nmsV_mem {xs : List V1} {x : V1} (h : x ∈ xs) {n : Nat} (hn : n ∈ nmsV [x]) : n ∈ nmsV xs := by
  induction xs with
  | nil => cases h
  | cons y r ih =>
    have e : nmsV (y :: r) = nmsV [y] ++ nmsV r := by cases y <;> simp [nmsV]
    rw [e, List.mem_append]
    rcases List.mem_cons.1 h with rfl | h
    · exact .inl hn
    · exact .inr (ih h)

theorem map_fix {α : Type} {f : α → α} {l : List α} (h : ∀ x ∈ l, f x = x) : l.map f = l := by
  conv => rhs; rw [← List.map_id l]
  exact List.map_congr_left h

theorem mV1_fix {F : Cell → Cell} {x : V1} (h : ∀ c, (∀ n ∈ nmsC c, n ∈ nmsV [x]) → F c = c) : mV1 F x = x := by
  cases x with
  | one c => simp only [mV1]; rw [h c fun n hn => by simpa [nmsV] using hn]
  | agg cs => simp only [mV1]; rw [map_fix fun c hc => h c fun n hn => by simpa [nmsV] using nmsCs_mem hc hn]

theorem mI_fix {F : Cell → Cell} {x : IV} (h : ∀ c, (∀ n ∈ nmsC c, n ∈ nmsI x) → F c = c) : mI F x = x := by
  cases x with
  | v x => simp only [mI]; rw [mV1_fix h]
  | tup xs => simp only [mI]; rw [map_fix fun x hx => mV1_fix fun c hc => h c fun n hn => nmsV_mem hx (hc n hn)]

theorem mO_fix {F : Cell → Cell} {x : Ob} (h : ∀ c, (∀ n ∈ nmsC c, n ∈ nmsO x) → F c = c) : mO F x = x := by
  cases x with
  | cells cs => simp only [mO]; rw [map_fix fun c hc => h c fun n hn => nmsCs_mem hc hn]
  | rows _ _ _ => rfl
  | bytes _ => rfl

theorem ofD_sep {d d' n : Nat} (hd : d < 1000) (hd' : d' < 1000) (h : ofD d n = true) (h' : ofD d' n = true) : d = d' := by
  have key : ∀ {k : Nat}, ofD k n = true → k = n ∨ (1000 ≤ n ∧ n % 1000 = k) := fun {k} h => by
    simp only [ofD, ofCall, Bool.or_eq_true, Bool.and_eq_true] at h
    rcases h with h | ⟨h1, h2⟩
    · exact .inl (Nat.eq_of_beq_eq_true h)
    · exact .inr ⟨Nat.le_of_ble_eq_true h1, Nat.eq_of_beq_eq_true h2⟩
  rcases key h with h | ⟨h1, h2⟩ <;> rcases key h' with h' | ⟨h1', h2'⟩ <;> omega

theorem apartL_spec {a b : List Nat} (h : apartL a b = true) {n : Nat} (ha : n ∈ a) (hb : n ∈ b) : False := by
  have h1 := List.all_eq_true.1 h n ha
  have h2 := List.all_eq_true.1 h1 n hb
  simp at h2

theorem noneOf_spec {d : Option Nat} {l : List Nat} (h : noneOf d l = true) {k n : Nat} (hd : d = some k) (hn : n ∈ l) : ofD k n = false := by
  subst hd
  have := List.all_eq_true.1 h n hn
  simpa using this

section
variable {T : Tab} {call : CallT} {ops : Array Oper} {R : Type} {r : R} {K : St → Option R}

/-- TWO OPERATIONS CHANGE PLACES: i changes nothing that is there already. -/
theorem swap {σ σi : St} {oi oj : Oper} {ei ej : Eff} {y x : Rec}
    (hap : oi.apart ops oj = true) (hyw : y.w = []) (hwt : apartL x.w y.t = true) (hdw : noneOf oi.dst x.w = true) (hdt : noneOf oi.dst x.tn = true) (hjt : noneOf oj.dst y.tn = true)
    (hgi : Gen T call ops oi σ ei) (hFi : Fr oi σ) (hdi : Does oi.dst ei σ σi) (hfi : Foot T ops oi σ σi y)
    (hgj : Gen T call ops oj σi ej) (hFj : Fr oj σi) (hfj : ∀ σ', Does oj.dst ej σi σ' → Foot T ops oj σi σ' x) :
    Fr oj σ ∧ Gen T call ops oj σ ej ∧ ∀ σj, Does oj.dst ej σ σj → Foot T ops oj σ σj x ∧ Fr oi σj ∧ Gen T call ops oi σj ei ∧
      ∀ σji, Does oi.dst ei σj σji → Foot T ops oi σj σji y ∧ Does oj.dst ej σi σji := by
  obtain ⟨a1, a2, a3⟩ := Oper.apart_spec hap
  obtain ⟨σij0, hd0, _⟩ := hgj.2 σi AgreeG.refl hFj
  have hf0 := hfj σij0 hd0
  have hwi : ∀ n, n ∉ wn T oi σ := fun n hn => by have := hfi.w n hn; rw [hyw] at this; cases this
  have hfid : ∀ c, ei.f c = c := fun c => hgi.1.f c fun n _ => hwi n
  have hfid' : ei.f = fun c => c := funext hfid
  have hupi : ∀ n, ei.up n ≠ none → ∃ d, oi.dst = some d ∧ ofD d n = true := fun n hn => (hgi.1.up n hn).resolve_left (hwi n)
  have hsli : σi.sl = putL oi.dst ei.v σ.sl := by rw [hdi.sl, hfid', mI_ids]
  have hobi : ∀ n, get σi.ob n = (ei.up n).getD (get σ.ob n) := fun n => by rw [hdi.ob, hfid', mO_ids]
  have hnot : ∀ n, (∀ d, oi.dst = some d → ofD d n = false) → get σi.ob n = get σ.ob n := fun n h => by
    rw [hobi]
    cases hu : ei.up n with
    | none => rfl
    | some u =>
      obtain ⟨d, h1, h2⟩ := hupi n (by rw [hu]; simp)
      rw [h d h1] at h2; cases h2
  have hsep : ∀ d d', oi.dst = some d → oj.dst = some d' → d ≠ d' := fun d d' h h' e => a2 d h (by rw [h', e])
  have hslot : ∀ t, (∀ d, oi.dst = some d → d ≠ t) → σi.sl.getD t botI = σ.sl.getD t botI := fun t h => by
    rw [hsli]
    cases hd : oi.dst with
    | none => rfl
    | some d => simp only [putL, List.getD_eq_getElem?_getD]; rw [List.getElem?_set_ne (h d hd)]
  -- j at the state ahead of i
  have hag : AgreeG T ops oj σi σ := by
    refine ⟨⟨fun z hz => ?_, fun hr n hn => ?_⟩, fun j want d h1 h2 => ?_⟩
    · cases z with
      | tmp t =>
        simp only [opnd]
        refine (hslot t fun d hd he => a1 d hd ?_).symm
        subst he
        exact List.mem_append_left _ (List.mem_filterMap.2 ⟨.tmp d, by simpa using hz, rfl⟩)
      | _ => rfl
    · exact (hnot n fun d hd => noneOf_spec hdt hd (hf0.tn n hn)).symm
    · refine (hslot d fun d' hd' he => a1 d' hd' ?_).symm
      subst he
      exact List.mem_append_right _ (by simp [h1, h2])
  have hgj' : Gen T call ops oj σ ej := hgj.move hag
  have hFj' : Fr oj σ := fun d hd => by
    refine ⟨(hFj d hd).1, fun n hn => ?_⟩
    rw [← hnot n fun d' hd' => ?_]
    · exact (hFj d hd).2 n hn
    · cases h : ofD d' n with
      | false => rfl
      | true => exact absurd (ofD_sep (hFi d' hd').1 (hFj d hd).1 h hn) (hsep d' d hd' hd)
  refine ⟨hFj', hgj', fun σj hdj => ?_⟩
  have hfixT : ∀ c, (∀ n ∈ nmsC c, n ∈ y.t) → ej.f c = c := fun c hc => hgj.1.f c fun n hn hw => apartL_spec hwt (hf0.w n hw) (hc n hn)
  have hupj : ∀ n, n ∉ x.w → (∀ d, oj.dst = some d → ofD d n = false) → ej.up n = none := fun n h1 h2 => by
    cases hu : ej.up n with
    | none => rfl
    | some u =>
      rcases hgj.1.up n (by rw [hu]; simp) with h | ⟨d, h, h'⟩
      · exact absurd (hf0.w n h) h1
      · rw [h2 d h] at h'; cases h'
  have hfj' : Foot T ops oj σ σj x := by
    have hb : AgreeG T ops oj σ σi := ⟨⟨fun z hz => (hag.op z hz).symm, fun hr n hn => (hag.ob hr n (by rw [← hag.toAgree.tn]; exact hn)).symm⟩, fun j want d h1 h2 => (hag.guard j want d h1 h2).symm⟩
    refine hf0.move hag (fun d hd => ?_) fun d m hd hm => ?_
    · rw [hdj.sl, hd0.sl, hd]
      simp only [putL, List.getD_eq_getElem?_getD, List.getElem?_set, List.length_map, if_true]
      have : σi.sl.length = σ.sl.length := by rw [hsli]; cases oi.dst <;> simp [putL]
      rw [this]
    · rw [hdj.ob, hd0.ob, (hFj d hd).2 m hm, (hFj' d hd).2 m hm]
  have hcr : ∀ n d, oi.dst = some d → ofD d n = true → n ∉ x.w ∧ ∀ d', oj.dst = some d' → ofD d' n = false := fun n d hd hn => by
    refine ⟨fun h => (by rw [noneOf_spec hdw hd h] at hn; cases hn), fun d' hd' => ?_⟩
    cases h : ofD d' n with
    | false => rfl
    | true => exact absurd (ofD_sep (hFi d hd).1 (hFj d' hd').1 hn h) (hsep d d' hd hd')
  have hslotj : ∀ t, (∀ d, oj.dst = some d → d ≠ t) → σj.sl.getD t botI = mI ej.f (σ.sl.getD t botI) := fun t h => by
    have hbot : ej.f .bot = .bot := hfixT .bot (by simp [nmsC])
    rw [hdj.sl, ← getD_map_F hbot]
    cases hd : oj.dst with
    | none => rfl
    | some d => simp only [putL, List.getD_eq_getElem?_getD]; rw [List.getElem?_set_ne (h d hd)]
  have hag2 : AgreeG T ops oi σ σj := by
    refine ⟨⟨fun z hz => ?_, fun hr n hn => ?_⟩, fun j want d h1 h2 => ?_⟩
    · cases hz' : z with
      | tmp t =>
        simp only [opnd]
        rw [hslotj t fun d hd he => a3 d hd ?_]
        · refine mI_fix fun c hc => hfixT c fun n hn => hfi.t0 n (tn_of (nms_mem (x := .tmp t) ?_ (hc n hn)))
          rw [← hz']; simpa using hz
        · subst he; subst hz'
          exact List.mem_append_left _ (List.mem_filterMap.2 ⟨.tmp d, by simpa using hz, rfl⟩)
      | _ => rfl
    · rw [hdj.ob, hupj n (fun h => apartL_spec hwt h (hfi.t0 n hn)) fun d hd => noneOf_spec hjt hd (hfi.tn n hn)]
      simp only [Option.getD_none]
      cases hgn : get σ.ob n with
      | none => rfl
      | some ob => simp only [Option.map_some]; rw [mO_fix fun c hc => hfixT c fun m hm => hfi.tr hr n hn ob hgn m (hc m hm)]
    · rw [hslotj d fun d' hd' he => a3 d' hd' (by subst he; exact List.mem_append_right _ (by simp [h1, h2]))]
      refine mI_fix fun c hc => hfixT c fun n hn => ?_
      have h3 := hc n hn
      rw [hfi.grd j want d h1 h2] at h3; cases h3
  refine ⟨hfj', fun d hd => ⟨(hFi d hd).1, fun n hn => ?_⟩, hgi.move hag2, fun σji hdji => ⟨?_, ?_⟩⟩
  · rw [hdj.ob, hupj n (hcr n d hd hn).1 (hcr n d hd hn).2, (hFi d hd).2 n hn]; rfl
  · refine hfi.move hag2 (fun d hd => ?_) fun d m hd hm => ?_
    · rw [hdji.sl, hdi.sl, hd]
      simp only [putL, List.getD_eq_getElem?_getD, List.getElem?_set, List.length_map, if_true]
      have : σj.sl.length = σ.sl.length := by rw [hdj.sl]; cases oj.dst <;> simp [putL]
      rw [this]
    · rw [hdji.ob, hdi.ob, (hFi d hd).2 m hm, hdj.ob, hupj m (hcr m d hd hm).1 (hcr m d hd hm).2, (hFi d hd).2 m hm]; rfl
  · constructor
    · rw [hdji.sl, hdj.sl, hsli, hfid', mI_ids]
      cases hd : oi.dst with
      | none => rfl
      | some d =>
        have hv : (σ.sl.map (mI ej.f)).set d (mI ej.f ei.v) = (σ.sl.map (mI ej.f)).set d ei.v := by
          by_cases hlt : d < σ.sl.length
          · rw [mI_fix (x := ei.v) fun c hc => hfixT c fun n hn => hfi.tv d hd n ?_]
            rw [hsli, hd]
            simp only [putL, List.getD_eq_getElem?_getD, List.getElem?_set, if_true, hlt]
            exact hc n hn
          · rw [List.set_eq_of_length_le (by simpa using hlt), List.set_eq_of_length_le (by simpa using hlt)]
        simp only [putL]
        rw [List.map_set, hv]
        cases hd' : oj.dst with
        | none => rfl
        | some d' =>
          simp only
          rw [List.set_comm _ _ (hsep d d' hd hd').symm]
    · intro n
      rw [hdji.ob, hdj.ob, hobi, hfid', mO_ids]
      cases hu : ei.up n with
      | none => rfl
      | some u =>
        obtain ⟨d, h1, h2⟩ := hupi n (by rw [hu]; simp)
        rw [hupj n (hcr n d h1 h2).1 (hcr n d h1 h2).2]
        simp only [Option.getD_some, Option.getD_none]
        cases u with
        | none => rfl
        | some ob =>
          simp only [Option.map_some]
          rw [mO_fix fun c hc => hfixT c fun m hm => hfi.tob d n ob h1 h2 (by rw [hobi, hu]; rfl) m (hc m hm)]

end
end Go.Iv

/- A region whose order is drawn: from the one order that the evaluator takes to all orders. -/
namespace Go.Iv

/-- i comes ahead of j in every order. -/
inductive Bef (ops : Array Oper) : Nat → Nat → Prop
  | one {j : Nat} {o : Oper} {e : Edge} : ops[j]? = some o → e ∈ o.after → Region.binds .any e = true → Bef ops e.on j
  | more {i j : Nat} {o : Oper} {e : Edge} : ops[j]? = some o → e ∈ o.after → Region.binds .any e = true → Bef ops i e.on → Bef ops i j

def maskOf (acc : List Nat) (es : List Edge) (s : Nat) : Nat := es.foldl (fun s e => bif Region.binds .any e then s ||| 2 ^ e.on ||| acc.getD e.on 0 else s) s

theorem mask_bit (acc : List Nat) (i : Nat) : ∀ (es : List Edge) (s : Nat), (maskOf acc es s).testBit i = true → s.testBit i = true ∨ ∃ e ∈ es, Region.binds .any e = true ∧ (e.on = i ∨ (acc.getD e.on 0).testBit i = true)
  | [], s, h => .inl h
  | e :: es, s, h => by
    rw [maskOf, List.foldl_cons] at h
    rcases mask_bit acc i es _ h with h1 | ⟨e', he, hb, h1⟩
    · cases hb : Region.binds .any e with
      | false => rw [hb] at h1; exact .inl h1
      | true =>
        rw [hb] at h1
        simp only [cond_true, Nat.testBit_or, Bool.or_eq_true, Nat.testBit_two_pow, decide_eq_true_eq] at h1
        rcases h1 with (h1 | h1) | h1
        · exact .inl h1
        · exact .inr ⟨e, by simp, hb, .inl h1⟩
        · exact .inr ⟨e, by simp, hb, .inr h1⟩
    · exact .inr ⟨e', by simp [he], hb, h1⟩

theorem befGo_bit {ops : Array Oper} : ∀ (l : List Oper) (acc : List Nat), (∀ k o, l[k]? = some o → ops[acc.length + k]? = some o) →
    (∀ i j, (acc.getD j 0).testBit i = true → Bef ops i j) → ∀ i j, ((befGo l acc).getD j 0).testBit i = true → Bef ops i j
  | [], acc, _, h => h
  | o :: l, acc, hl, h => by
    rw [befGo]
    refine befGo_bit l _ (fun k p hk => ?_) fun i j hij => ?_
    · have := hl (k + 1) p (by simpa using hk)
      rw [List.length_append, List.length_singleton, Nat.add_assoc, Nat.add_comm 1 k]; exact this
    · rw [List.getD_eq_getElem?_getD, List.getElem?_append] at hij
      split at hij
      · exact h i j (by rw [List.getD_eq_getElem?_getD]; exact hij)
      · rename_i hlt
        by_cases hj : j = acc.length
        · subst hj
          rw [Nat.sub_self] at hij
          have hij' : (maskOf acc o.after.toList 0).testBit i = true := hij
          rcases mask_bit acc i _ _ hij' with h1 | ⟨e, he, hb, h1⟩
          · simp at h1
          · have ho : ops[acc.length]? = some o := hl 0 o rfl
            have he' : e ∈ o.after := by simpa using he
            rcases h1 with h1 | h1
            · rw [← h1]; exact .one ho he' hb
            · exact .more ho he' hb (h i e.on h1)
        · rw [List.getElem?_eq_none (by simp; omega)] at hij
          simp at hij

/-- Whatever has come up, all that must come ahead of it has. -/
def Dn (ops : Array Oper) (listed : Array Bool) : Prop := ∀ (k : Nat) (o : Oper), ops[k]? = some o → listed.getD k false = true → ∀ e ∈ o.after, Region.binds .any e = true → listed.getD e.on false = true

theorem Dn.bef {ops : Array Oper} {listed : Array Bool} (h : Dn ops listed) {i j : Nat} (hb : Bef ops i j) (hj : listed.getD j false = true) : listed.getD i false = true := by
  induction hb with
  | one ho he hb => exact h _ _ ho hj _ he hb
  | more ho he hb _ ih => exact ih (h _ _ ho hj _ he hb)

theorem Dn.ready {ops : Array Oper} {listed : Array Bool} (h : Dn ops listed) {i j : Nat} (hb : Bef ops i j) (hj : j ∈ Region.ready .any ops listed) : listed.getD i false = true := by
  obtain ⟨_, o, ho, hall⟩ := mem_ready.1 hj
  cases hb with
  | one ho' he hb => rw [ho] at ho'; cases ho'; exact hall _ he hb
  | more ho' he hb hb' => rw [ho] at ho'; cases ho'; exact h.bef hb' (hall _ he hb)

theorem Dn.step {ops : Array Oper} {listed : Array Bool} (h : Dn ops listed) {i : Nat} (hi : i ∈ Region.ready .any ops listed) : Dn ops (listed.setIfInBounds i true) := by
  intro k o ho hk e he hb
  by_cases hik : i = k
  · subst hik
    obtain ⟨_, o', ho', hall⟩ := mem_ready.1 hi
    rw [ho] at ho'; cases ho'
    exact getD_set_true (hall e he hb)
  · rw [getD_set_ne false hik] at hk
    exact getD_set_true (h k o ho hk e he hb)

theorem ready_un {ops : Array Oper} {listed : Array Bool} {i : Nat} (hi : i ∈ Region.ready .any ops listed) : listed.getD i false ≠ true := by
  have h := (mem_ready.1 hi).1
  rw [Array.getD_eq_getD_getElem?] at h ⊢
  cases hl : listed[i]? with
  | none => simp
  | some b => rw [hl] at h; simp only [Option.getD_some] at h ⊢; rw [h]; simp

section
variable {T : Tab} {call : CallT} {ops : Array Oper} {R : Type} {r : R} {K : St → Option R}

def EvAny (T : Tab) (call : CallT) (ops : Array Oper) (recs : List Rec) (K : St → Option R) (r : R) : Nat → Array Bool → St → Prop
  | 0, listed, σ => Region.ready .any ops listed = [] ∧ ∃ σ', Eqv σ σ' ∧ K σ' = some r
  | n + 1, listed, σ => (Region.ready .any ops listed = [] → ∃ σ', Eqv σ σ' ∧ K σ' = some r) ∧
    ∀ i ∈ Region.ready .any ops listed, ∃ o e, ops[i]? = some o ∧ Fr o σ ∧ Gen T call ops o σ e ∧
      ∀ σ1, Does o.dst e σ σ1 → (∃ x ∈ recs, x.i = i ∧ Foot T ops o σ σ1 x) ∧ EvAny T call ops recs K r n (listed.setIfInBounds i true) σ1

theorem Eqv.trans {σ σ' σ'' : St} (h : Eqv σ σ') (k : Eqv σ' σ'') : Eqv σ σ'' := ⟨h.sl.trans k.sl, fun n => (h.ob n).trans (k.ob n)⟩

theorem Fr.eqv {o : Oper} {σ σ' : St} (h : Fr o σ) (k : Eqv σ σ') : Fr o σ' := fun d hd => ⟨(h d hd).1, fun n hn => by rw [← k.ob]; exact (h d hd).2 n hn⟩

theorem EvAny.eqv {recs : List Rec} {n : Nat} {listed : Array Bool} {σ σ' : St} (h : EvAny T call ops recs K r n listed σ) (k : Eqv σ σ') : EvAny T call ops recs K r n listed σ' := by
  cases n with
  | zero => exact ⟨h.1, by obtain ⟨σ2, h1, h2⟩ := h.2; exact ⟨σ2, k.symm.trans h1, h2⟩⟩
  | succ n =>
    refine ⟨fun hr => by obtain ⟨σ2, h1, h2⟩ := h.1 hr; exact ⟨σ2, k.symm.trans h1, h2⟩, fun i hi => ?_⟩
    obtain ⟨o, e, h1, h2, h3, h4⟩ := h.2 i hi
    refine ⟨o, e, h1, h2.eqv k, h3.move k.agree, fun σ1 hd => ?_⟩
    obtain ⟨⟨x, hx, hxi, hf⟩, h5⟩ := h4 σ1 (hd.eqv k.symm)
    exact ⟨⟨x, hx, hxi, hf.move k.agree (fun _ _ => rfl) fun _ _ _ _ => rfl⟩, h5⟩

/-- What may be taken ahead of the others. -/
theorem first {recs : List Rec} {i : Nat} {oi : Oper} {e : Eff} {y : Rec} (hi : ops[i]? = some oi) (hyi : y.i = i) (hyr : y ∈ recs) (hyw : y.w = [])
    (hp : ∀ x ∈ recs, pairOk ops (befGo ops.toList []) y x = true) :
    ∀ (n : Nat) (listed : Array Bool) (σ : St), Dn ops listed → i ∈ Region.ready .any ops listed → Fr oi σ → Gen T call ops oi σ e →
      (∀ σ1, Does oi.dst e σ σ1 → Foot T ops oi σ σ1 y ∧ EvAny T call ops recs K r n (listed.setIfInBounds i true) σ1) → EvAny T call ops recs K r (n + 1) listed σ := by
  have hbef : ∀ i j, ((befGo ops.toList []).getD j 0).testBit i = true → Bef ops i j :=
    befGo_bit ops.toList [] (fun k o hk => by simpa using hk) fun i j h => by simp at h
  intro n
  induction n with
  | zero =>
    intro listed σ hdn hr hF hg H
    refine ⟨fun h => (by rw [h] at hr; cases hr), fun j hj => ?_⟩
    by_cases hji : j = i
    · subst hji
      exact ⟨oi, e, hi, hF, hg, fun σ1 hd => ⟨⟨y, hyr, hyi, (H σ1 hd).1⟩, (H σ1 hd).2⟩⟩
    · obtain ⟨σ1, hd, _⟩ := hg.2 σ AgreeG.refl hF
      have := ready_mono hj hji
      rw [(H σ1 hd).2.1] at this
      cases this
  | succ n ih =>
    intro listed σ hdn hr hF hg H
    refine ⟨fun h => (by rw [h] at hr; cases hr), fun j hj => ?_⟩
    by_cases hji : j = i
    · subst hji
      exact ⟨oi, e, hi, hF, hg, fun σ1 hd => ⟨⟨y, hyr, hyi, (H σ1 hd).1⟩, (H σ1 hd).2⟩⟩
    · obtain ⟨σi, hdi, _⟩ := hg.2 σ AgreeG.refl hF
      obtain ⟨hfi, Hi⟩ := H σi hdi
      obtain ⟨oj, ej, hoj, hFj, hgj, hall⟩ := Hi.2 j (ready_mono hj hji)
      obtain ⟨σij, hdij, _⟩ := hgj.2 σi AgreeG.refl hFj
      obtain ⟨⟨x, hx, hxj, hfx0⟩, _⟩ := hall σij hdij
      have hpx := hp x hx
      unfold pairOk at hpx
      simp only [Bool.or_eq_true] at hpx
      rcases hpx with h | h | h | h
      · exact absurd (by rw [← hxj, ← hyi]; exact (Nat.eq_of_beq_eq_true h).symm) hji
      · exact absurd (hdn.ready (hbef _ _ h) (by rw [hxj]; exact hj)) (by rw [hyi]; exact ready_un hr)
      · exact absurd (hdn.ready (hbef _ _ h) (by rw [hyi]; exact hr)) (by rw [hxj]; exact ready_un hj)
      · rw [hyi, hxj, hi, hoj] at h
        simp only [Bool.and_eq_true] at h
        obtain ⟨h1, h2, h3, h4, h5⟩ := h
        have hfj : ∀ σ', Does oj.dst ej σi σ' → Foot T ops oj σi σ' x := fun σ' hd' => by
          have hu := hdij.uniq hd'
          exact hfx0.move AgreeG.refl (fun d _ => by rw [hu.sl]) fun d m _ _ => (hu.ob m).symm
        obtain ⟨hFj', hgj', hrest⟩ := swap h1 hyw h2 h3 h4 h5 hg hF hdi hfi hgj hFj hfj
        refine ⟨oj, ej, hoj, hFj', hgj', fun σj hdj => ?_⟩
        obtain ⟨hfx, hFi', hgi', hlast⟩ := hrest σj hdj
        refine ⟨⟨x, hx, hxj, hfx⟩, ih _ _ (hdn.step hj) (ready_mono hr (Ne.symm hji)) hFi' hgi' fun σji hdji => ?_⟩
        obtain ⟨hf2, hd2⟩ := hlast σji hdji
        refine ⟨hf2, ?_⟩
        rw [Array.setIfInBounds_comm _ _ hji]
        exact (hall σji hd2).2

theorem choose_mem : ∀ (l : List Nat) (i : Nat), choose ops l i = i ∨ choose ops l i ∈ l
  | [], i => .inl rfl
  | j :: l, i => by
    unfold choose
    split
    · cases hq : quietOp _ with
      | true => right; simp [hq]
      | false =>
        simp only [hq, cond_false]
        exact (choose_mem l i).imp id (List.mem_cons_of_mem _)
    · exact (choose_mem l i).imp id (List.mem_cons_of_mem _)

theorem get_mem {l : List (Nat × Ob)} {n : Nat} {ob : Ob} (h : get l n = some ob) : (n, ob) ∈ l := by
  induction l with
  | nil => cases h
  | cons x l ih =>
    obtain ⟨m, p⟩ := x
    simp only [get] at h
    split at h
    · rename_i hm; subst hm; cases h; exact List.mem_cons_self
    · exact List.mem_cons_of_mem _ (ih h)

theorem fr_of {o : Oper} {σ : St} (h : freshOk o σ = true) : Fr o σ := by
  intro d hd
  unfold freshOk at h
  rw [hd] at h
  simp only [Bool.and_eq_true] at h
  refine ⟨by simpa using h.1, fun n hn => ?_⟩
  cases hg : get σ.ob n with
  | none => rfl
  | some ob =>
    have := List.all_eq_true.1 h.2 _ (get_mem hg)
    simp [hn] at this

theorem draw_any : ∀ (n : Nat) (listed : Array Bool) (σ : St) (recs : List Rec), Dn ops listed → evDraw T call ops (n + 1) listed σ recs K = some r →
    ∃ recs', (∀ x ∈ recs, x ∈ recs') ∧ chk ops recs' = true ∧ EvAny T call ops recs' K r n listed σ := by
  intro n
  induction n with
  | zero =>
    intro listed σ recs hdn hev
    rw [evDraw] at hev
    split at hev
    · rename_i hr
      obtain ⟨hc, hev⟩ := bif_par hev
      exact ⟨recs, fun _ h => h, hc, hr, σ, ⟨rfl, fun _ => rfl⟩, hev⟩
    · rename_i i rest hr
      dsimp only at hev
      split at hev
      · cases hev
      rename_i o ho
      obtain ⟨hf, hev⟩ := bif_par hev
      obtain ⟨e, he⟩ := gen hev (fr_of hf)
      obtain ⟨σ1, _, hk⟩ := he.2 σ AgreeG.refl (fr_of hf)
      rw [hk] at hev
      simp [evDraw] at hev
  | succ n ih =>
    intro listed σ recs hdn hev
    rw [evDraw] at hev
    split at hev
    · rename_i hr
      obtain ⟨hc, hev⟩ := bif_par hev
      exact ⟨recs, fun _ h => h, hc, fun _ => ⟨σ, ⟨rfl, fun _ => rfl⟩, hev⟩, by rw [hr]; simp⟩
    · rename_i i rest hr
      dsimp only at hev
      split at hev
      · cases hev
      rename_i o ho
      obtain ⟨hf, hev⟩ := bif_par hev
      have hF := fr_of hf
      have hgrd := grd_of hev
      obtain ⟨e, he⟩ := gen hev hF
      obtain ⟨σ1, hd, hk⟩ := he.2 σ AgreeG.refl hF
      rw [hk] at hev
      have hmem : choose ops (i :: rest) i ∈ Region.ready .any ops listed := by
        rw [hr]
        rcases choose_mem (ops := ops) (i :: rest) i with h | h
        · rw [h]; exact List.mem_cons_self
        · exact h
      obtain ⟨recs', h1, h2, h3⟩ := ih _ σ1 _ (hdn.step hmem) hev
      have hy := h1 _ (List.mem_cons_self (l := recs))
      have hfoot : ∀ σ', Does o.dst e σ σ' → Foot T ops o σ σ' (mkRec T (choose ops (i :: rest) i) (!rest.isEmpty) o σ σ1) := fun σ' hd' => by
        have hu := hd.uniq hd'
        exact (foot_mkRec _ _ o σ σ1 hgrd).move AgreeG.refl (fun d _ => by rw [hu.sl]) fun d m _ _ => (hu.ob m).symm
      refine ⟨recs', fun x hx => h1 x (List.mem_cons_of_mem _ hx), h2, ?_⟩
      cases rest with
      | nil =>
        refine ⟨fun h => (by rw [h] at hr; cases hr), fun j hj => ?_⟩
        rw [hr] at hj hmem
        have hji : j = choose ops [i] i := by rw [List.mem_singleton.1 hj, List.mem_singleton.1 hmem]
        rw [hji]
        exact ⟨o, e, ho, hF, he, fun σ' hd' => ⟨⟨_, hy, rfl, hfoot σ' hd'⟩, h3.eqv (hd.uniq hd')⟩⟩
      | cons k rest =>
        have hc := List.all_eq_true.1 h2 _ hy
        have hq : (mkRec T (choose ops (i :: k :: rest) i) (!(k :: rest).isEmpty) o σ σ1).q = true := rfl
        rw [hq] at hc
        simp only [Bool.not_true, Bool.false_or, Bool.and_eq_true] at hc
        exact first ho rfl hy (by simpa using hc.1) (fun x hx => List.all_eq_true.1 hc.2 x hx) n listed σ hdn hmem hF he fun σ' hd' => ⟨hfoot σ' hd', h3.eqv (hd.uniq hd')⟩

end
end Go.Iv
