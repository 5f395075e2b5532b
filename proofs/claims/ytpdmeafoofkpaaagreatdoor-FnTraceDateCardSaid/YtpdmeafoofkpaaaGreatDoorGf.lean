/- A call that is handed a pointer; a call that hands one back. -/
import Derived.Test.YtpdmeafoofkpaaaGreatDoorGd
set_option linter.unusedVariables false
set_option linter.unusedSimpArgs false

namespace Go.Iv
open Go.RowKit

section
variable {C : Ctx} {R : Type} {γ : Nat → Value} {σ : St} {a : Act} {w : World} {o : Oper} {next : Act → World → Prop} {Q : Exit → Act → World → Prop} {r : R} {K : St → Option R}

/-- The name of what a call brings at place k: L parts belong to the pointer's variable n, the rest to slot d. -/
def nmP (n d L k : Nat) : Nat := if k < L then nm n k else nm d (k - L)
theorem nmP_inj {n d L j k : Nat} (hn : n < 1000) (hd : d < 1000) (hne : d ≠ n) (h : nmP n d L j = nmP n d L k) : j = k := by
  unfold nmP nm at h
  split at h <;> split at h <;> omega
theorem nmP_ne {n d L k : Nat} (hn : n < 1000) : nmP n d L k ≠ n := by
  unfold nmP nm
  split <;> omega

theorem get_obs_no {d : Nat} {rs : List RC} {n : Nat} (h : ∀ k, n ≠ nm d k) : get (obs d 0 rs) n = none := by
  cases hg : get (obs d 0 rs) n with
  | none => rfl
  | some o => obtain ⟨k, _, _, _, h1, _⟩ := get_obs d rs 0 n o hg; exact absurd h1 (h _)

theorem obsP_at {n d : Nat} {out rs : List RC} {k : Nat} {t : Ty} {e : TypeId} {xs : List t.Den} (hn : n < 1000) (hd : d < 1000) (hne : d ≠ n) (h : (out ++ rs)[k]? = some (.buf t e xs)) :
    get (obs n 0 out ++ obs d 0 rs) (nmP n d out.length k) = some (.rows t e xs) := by
  rw [get_append]
  unfold nmP
  by_cases hk : k < out.length
  · rw [if_pos hk]
    rw [List.getElem?_append_left hk] at h
    have := get_obs_at n out 0 k t e xs h
    rw [Nat.zero_add] at this
    rw [this]; rfl
  · rw [if_neg hk]
    rw [List.getElem?_append_right (by omega)] at h
    rw [get_obs_no (d := n) (fun k' he => by unfold nm at he; omega)]
    have := get_obs_at d rs 0 (k - out.length) t e xs h
    rw [Nat.zero_add] at this
    rw [this]; rfl

theorem obsP_of {n d : Nat} {out rs : List RC} {m : Nat} {o : Ob} (h : get (obs n 0 out ++ obs d 0 rs) m = some o) :
    ∃ k t e xs, m = nmP n d out.length k ∧ (out ++ rs)[k]? = some (.buf t e xs) ∧ o = .rows t e xs := by
  rw [get_append] at h
  cases hg : get (obs n 0 out) m with
  | some o' =>
    rw [hg] at h; cases h
    obtain ⟨k, t, e, xs, h1, h2, h3⟩ := get_obs n out 0 m _ hg
    have hk : k < out.length := (List.getElem?_eq_some_iff.1 h2).1
    exact ⟨k, t, e, xs, by rw [h1, Nat.zero_add]; unfold nmP; rw [if_pos hk], by rw [List.getElem?_append_left hk]; exact h2, h3⟩
  | none =>
    rw [hg] at h
    obtain ⟨k, t, e, xs, h1, h2, h3⟩ := get_obs d rs 0 m _ h
    exact ⟨k + out.length, t, e, xs, by rw [h1, Nat.zero_add]; unfold nmP; rw [if_neg (by omega)]; congr 1; omega, by rw [List.getElem?_append_right (by omega)]; simpa using h2, h3⟩

/-- What a call with a pointer brings. σ is the state behind the turning of what was shown. -/
theorem Inv.bringP (h : Inv C γ σ a w) (hlow : ∀ b, C.N b → b < C.w0.heap.size) {w' : World} {n d : Nat} {cs : List Cell} {pb : Nat} {Mr N' : Nat → Prop} {out rs : List RC} {arr' : Array Value} {us : List Value} {ty' : TypeId}
    (hn : n < 1000) (hd : d < 1000) (hne : d ≠ n) (hcs : get σ.ob n = some (.cells cs)) (hpb : γ n = .pointer (some ⟨pb, 0, none⟩))
    (hMr : ∀ b, Mr b → b = pb ∨ ∃ m ∈ hdrs cs, ∃ om, get σ.ob m = some om ∧ (shp om).1 = true ∧ blk (γ m) = some b)
    (hno : ∀ m, ofCall d m = true → get σ.ob m = none) (hsince : Since Mr w.heap.size w w') (hh : w'.heap[pb]? = some (.cells arr' ty' (0, 0)))
    (hlen : out.length = cs.length) (hlen' : out.length = arr'.toList.length) (hp : PostP N' Mr pb w.heap.size w' (out ++ rs) (arr'.toList ++ us))
    (hlist : (out ++ rs).any RC.hl = true → ∀ b, b < w.heap.size → (C.N b ∨ ∃ m om, get σ.ob m = some om ∧ blk (γ m) = some b ∧ m ≠ n ∧ m ∉ hdrs cs) → N' b) :
    ∃ γ', (∀ v x, RepI γ' (upd n (.cells (unCs n 0 out)) (Iv.drop (dlP n cs).contains σ).ob ++ (obs n 0 out ++ obs d 0 rs)) w' (FF γ' (upd n (.cells (unCs n 0 out)) (Iv.drop (dlP n cs).contains σ).ob ++ (obs n 0 out ++ obs d 0 rs)) C.N) x v →
        Inv C γ' { sl := (Iv.drop (dlP n cs).contains σ).sl.set d x, ob := upd n (.cells (unCs n 0 out)) (Iv.drop (dlP n cs).contains σ).ob ++ (obs n 0 out ++ obs d 0 rs) } (a.put (some d) v) w') ∧
      ∀ (k : Nat) (c : RC) (u : Value), rs[k]? = some c → us[k]? = some u →
        RepC γ' (upd n (.cells (unCs n 0 out)) (Iv.drop (dlP n cs).contains σ).ob ++ (obs n 0 out ++ obs d 0 rs)) w' (FF γ' (upd n (.cells (unCs n 0 out)) (Iv.drop (dlP n cs).contains σ).ob ++ (obs n 0 out ++ obs d 0 rs)) C.N) (unC d k c) u := by
  let isNew : Nat → Bool := fun m => ofCall d m || (List.range cs.length).any fun k => Nat.beq m (nm n k)
  let all : List Value := arr'.toList ++ us
  let ob' := upd n (.cells (unCs n 0 out)) (Iv.drop (dlP n cs).contains σ).ob ++ (obs n 0 out ++ obs d 0 rs)
  let γ' : Nat → Value := fun m => if ofCall d m = true then all.getD (out.length + (m / 1000 - 1)) undef else if ((List.range cs.length).any fun k => Nat.beq m (nm n k)) = true then all.getD (m / 1000 - 1) undef else γ m
  have hdl : ∀ m, (dlP n cs).contains m = true ↔ (m ∈ hdrs cs ∨ ∃ k, k < cs.length ∧ m = nm n k) := by
    intro m
    rw [List.contains_iff_mem]
    unfold dlP
    simp only [List.mem_append, List.mem_map, List.mem_range]
    exact ⟨fun h => h.imp id fun ⟨k, h1, h2⟩ => ⟨k, h1, h2.symm⟩, fun h => h.imp id fun ⟨k, h1, h2⟩ => ⟨k, h1, h2.symm⟩⟩
  have hnn : ∀ k, k < cs.length → ((List.range cs.length).any fun j => Nat.beq (nm n k) (nm n j)) = true := fun k hk => by
    rw [List.any_eq_true]; exact ⟨k, List.mem_range.2 hk, Nat.beq_refl _⟩
  have hnn' : ∀ m, ((List.range cs.length).any fun j => Nat.beq m (nm n j)) = true → ∃ k, k < cs.length ∧ m = nm n k := fun m hm => by
    rw [List.any_eq_true] at hm
    obtain ⟨k, hk, e⟩ := hm
    exact ⟨k, List.mem_range.1 hk, Nat.eq_of_beq_eq_true e⟩
  have hdn : ∀ k, ofCall d (nm n k) = false := fun k => by
    cases hc : ofCall d (nm n k) with
    | false => rfl
    | true =>
      unfold ofCall nm at hc
      rw [Bool.and_eq_true] at hc
      have := Nat.eq_of_beq_eq_true hc.2
      omega
  have hdself : ofCall d n = false := by
    cases hc : ofCall d n with
    | false => rfl
    | true =>
      unfold ofCall at hc
      rw [Bool.and_eq_true] at hc
      have := Nat.le_of_ble_eq_true hc.1
      omega
  have hnself : ∀ k, n ≠ nm n k := fun k he => by unfold nm at he; omega
  have hγn : ∀ m, isNew m = false → γ' m = γ m := fun m hm => by
    simp only [isNew, Bool.or_eq_false_iff] at hm
    simp only [γ']; rw [if_neg (by rw [hm.1]; simp), if_neg (by rw [hm.2]; simp)]
  have hγk : ∀ k, k < all.length → γ' (nmP n d out.length k) = all.getD k undef := fun k hk => by
    unfold nmP
    by_cases h1 : k < out.length
    · rw [if_pos h1]
      simp only [γ']
      rw [if_neg (by rw [hdn]; simp), if_pos (hnn k (by omega))]
      congr 1; unfold nm; omega
    · rw [if_neg h1]
      simp only [γ']
      rw [if_pos (ofCall_nm d _ hd)]
      congr 1; unfold nm; omega
  have hlenall : (out ++ rs).length = all.length := hp.len
  have hu : ∀ (k : Nat) (u : Value), all[k]? = some u → γ' (nmP n d out.length k) = u := fun k u hk => by
    have hlt : k < all.length := (List.getElem?_eq_some_iff.1 hk).1
    rw [hγk k hlt, List.getD_eq_getElem?_getD, hk]; rfl
  have hnewP : ∀ k, k < (out ++ rs).length → isNew (nmP n d out.length k) = true := fun k hk => by
    unfold nmP
    simp only [isNew, Bool.or_eq_true]
    by_cases h1 : k < out.length
    · rw [if_pos h1]; exact .inr (hnn k (by omega))
    · rw [if_neg h1]; exact .inl (ofCall_nm d _ hd)
  have hnNew : isNew n = false := by
    simp only [isNew, Bool.or_eq_false_iff]
    refine ⟨hdself, ?_⟩
    cases hc : (List.range cs.length).any fun k => Nat.beq n (nm n k) with
    | false => rfl
    | true => obtain ⟨k, _, e⟩ := hnn' n hc; exact absurd e (hnself k)
  have hγself : γ' n = γ n := hγn n hnNew
  -- names of the new state
  have hobnew : ∀ m o, isNew m = true → get ob' m = some o → ∃ k t e xs, m = nmP n d out.length k ∧ (out ++ rs)[k]? = some (.buf t e xs) ∧ o = .rows t e xs := by
    intro m o hm hg
    have hmn : m ≠ n := fun e => by rw [e, hnNew] at hm; cases hm
    simp only [ob'] at hg
    rw [get_append, get_upd_ne n m _ _ hmn, get_drop] at hg
    have hnone : (if (dlP n cs).contains m = true then none else (get σ.ob m).map (scO (dlP n cs).contains)) = none := by
      simp only [isNew, Bool.or_eq_true] at hm
      rcases hm with hm | hm
      · rw [hno m hm]; simp
      · obtain ⟨k, hk, e⟩ := hnn' m hm
        rw [if_pos ((hdl m).2 (.inr ⟨k, hk, e⟩))]
    rw [hnone] at hg
    exact obsP_of hg
  have hobold : ∀ m, isNew m = false → m ≠ n → get ob' m = if (dlP n cs).contains m = true then none else (get σ.ob m).map (scO (dlP n cs).contains) := by
    intro m hm hmn
    simp only [ob']
    rw [get_append, get_upd_ne n m _ _ hmn, get_drop]
    have : get (obs n 0 out ++ obs d 0 rs) m = none := by
      cases hg : get (obs n 0 out ++ obs d 0 rs) m with
      | none => rfl
      | some o =>
        obtain ⟨k, t, e, xs, h1, h2, _⟩ := obsP_of hg
        rw [h1, hnewP k (List.getElem?_eq_some_iff.1 h2).1] at hm; cases hm
    rw [this, Option.or_none]
  have hobn : get ob' n = some (.cells (unCs n 0 out)) := by
    simp only [ob']
    rw [get_append, get_upd_same]; rfl
  have hus : ∀ (k : Nat) (c : RC), (out ++ rs)[k]? = some c → ∃ u, all[k]? = some u := fun k c hc => by
    have hlt : k < all.length := by rw [← hlenall]; exact (List.getElem?_eq_some_iff.1 hc).1
    exact ⟨all[k], List.getElem?_eq_getElem hlt⟩
  have hrow : ∀ m ∈ hdrs cs, ∀ om, get σ.ob m = some om → (shp om).1 = true → m ≠ n := fun m _ om hg hs e => by
    rw [e, hcs] at hg; cases hg; cases hs
  have hMrFF : ∀ b, Mr b → FF γ σ.ob C.N b := fun b hb => by
    rcases hMr b hb with rfl | ⟨m, _, om, hg, _, hb'⟩
    · exact .inr ⟨n, _, hcs, by rw [hpb]; rfl⟩
    · exact .inr ⟨m, om, hg, hb'⟩
  have hpblt : pb < w.heap.size := h.lt hcs (by rw [hpb]; rfl)
  have hMrlt : ∀ b, Mr b → b < w.heap.size := fun b hb => by
    rcases hMr b hb with rfl | ⟨m, _, om, hg, _, hb'⟩
    · exact hpblt
    · exact h.lt hg hb'
  have hnewblk : ∀ m o b, isNew m = true → get ob' m = some o → blk (γ' m) = some b → (w.heap.size ≤ b ∨ (Mr b ∧ b ≠ pb)) ∧
      ∃ (k : Nat) (c : RC) (u : Value), m = nmP n d out.length k ∧ (out ++ rs)[k]? = some c ∧ isBuf c = true ∧ all[k]? = some u ∧ blk u = some b := by
    intro m o b hm hg hb
    obtain ⟨k, t, e, xs, rfl, h2, _⟩ := hobnew m o hm hg
    obtain ⟨u, hk⟩ := hus k _ h2
    rw [hu k u hk] at hb
    exact ⟨hp.new k _ u b h2 rfl hk hb, k, _, u, rfl, h2, rfl, hk, hb⟩
  have holdblk : ∀ m o, isNew m = false → m ≠ n → get ob' m = some o → (dlP n cs).contains m = false ∧ ∃ o0, get σ.ob m = some o0 ∧ o = scO (dlP n cs).contains o0 ∧ γ' m = γ m := by
    intro m o hm hmn hg
    rw [hobold m hm hmn] at hg
    split at hg
    · cases hg
    · rename_i hc
      rw [Option.map_eq_some_iff] at hg
      obtain ⟨o0, h1, h2⟩ := hg
      exact ⟨by simpa using hc, o0, h1, h2.symm, hγn m hm⟩
  have hMrold : ∀ m o b, m ≠ n → m ∉ hdrs cs → get σ.ob m = some o → blk (γ m) = some b → ¬ Mr b := by
    intro m o b hmn hmh hg hb hM
    rcases hMr b hM with rfl | ⟨m', hm', om, hg', _, hb'⟩
    · exact hmn (h.inj m n o _ b hg hcs hb (by rw [hpb]; rfl))
    · exact hmh (by rw [h.inj m m' o om b hg hg' hb hb']; exact hm')
  have hF : ∀ b, b < w.heap.size → FF γ' ob' C.N b → FF γ σ.ob C.N b := by
    intro b hlt hb
    rcases hb with hb | ⟨m, o, hg, hb⟩
    · exact .inl hb
    · by_cases hmn : m = n
      · subst hmn; rw [hγself] at hb; exact .inr ⟨m, _, hcs, hb⟩
      · cases hm : isNew m with
        | true =>
          rcases (hnewblk m o b hm hg hb).1 with h1 | h1
          · omega
          · exact hMrFF b h1.1
        | false =>
          obtain ⟨_, o0, h1, _, h3⟩ := holdblk m o hm hmn hg
          rw [h3] at hb; exact .inr ⟨m, o0, h1, hb⟩
  have hst : (out ++ rs).any RC.hl = true → ∀ b, ¬ (FR N' (out ++ rs) all b ∨ b = pb) → ¬ FF γ' ob' C.N b := by
    intro hl b hnF hb
    rcases hb with hb | ⟨m, o, hg, hb⟩
    · have h1 := hlow b hb
      have h2 := h.since.size
      exact hnF (.inl (.inl (hlist hl b (by omega) (.inl hb))))
    · by_cases hmn : m = n
      · subst hmn; rw [hγself, hpb] at hb; cases hb; exact hnF (.inr rfl)
      · cases hm : isNew m with
        | true => obtain ⟨_, k, c, u, _, h3, h4, h5, h6⟩ := hnewblk m o b hm hg hb; exact hnF (.inl (.inr ⟨k, c, u, h3, h4, h5, h6⟩))
        | false =>
          obtain ⟨hc, o0, h1, _, h3⟩ := holdblk m o hm hmn hg
          rw [h3] at hb
          refine hnF (.inl (.inl (hlist hl b (h.lt h1 hb) (.inr ⟨m, o0, h1, hb, hmn, fun hm' => ?_⟩))))
          rw [(hdl m).2 (.inl hm')] at hc; cases hc
  have hhl : ∀ (k : Nat) (c : RC), (out ++ rs)[k]? = some c → c.hl = true → (out ++ rs).any RC.hl = true := fun k c hc hl => by
    rw [List.any_eq_true]; exact ⟨c, List.mem_of_getElem? hc, hl⟩
  have hRE : ∀ (t : Ty) (vs : List Value) (x : t.Den), RE w' (fun b => FR N' (out ++ rs) all b ∨ b = pb) t vs x → ((out ++ rs).any RC.hl = true ∨ (t ≠ .mail ∧ t ≠ .box)) → RE w' (FF γ' ob' C.N) t vs x := by
    intro t vs x hx hor
    rcases hor with hl | ⟨h1, h2⟩
    · exact hx.stay (fun b _ hnF => ⟨rfl, hst hl b hnF⟩)
    · cases t with
      | mail => exact absurd rfl h1
      | box => exact absurd rfl h2
      | str => exact hx
      | int k => exact hx
      | adr => exact hx
      | fld => exact hx
  have hcell : ∀ (k : Nat) (c : RC) (u : Value), (out ++ rs)[k]? = some c → all[k]? = some u →
      (match c with
        | .fc c => RepC γ' ob' w' (FF γ' ob' C.N) (.fc c) u
        | .buf _ _ _ => RepC γ' ob' w' (FF γ' ob' C.N) (.hdr (nmP n d out.length k)) u) := by
    intro k c u hc hk
    cases c with
    | fc c =>
      have hr := hp.rep k _ u hc hk
      cases c with
      | sc v => exact hr
      | list t xs =>
        have hr' : RepFC w' (fun b => FR N' (out ++ rs) all b ∨ b = pb) (.list t xs) u := hr
        exact RepFC.stay (fun b _ hnF => ⟨rfl, hst (hhl k _ hc rfl) b hnF⟩) hr'
    | buf t e xs =>
      refine ⟨(hu k u hk).symm, .rows t e xs, ?_, rfl⟩
      have h1 := obsP_at hn hd hne hc
      have h2 := hnewP k (List.getElem?_eq_some_iff.1 hc).1
      have h3 : nmP n d out.length k ≠ n := nmP_ne hn
      show get ob' _ = _
      simp only [ob']
      rw [get_append, get_upd_ne n _ _ _ h3, get_drop]
      have hnone : (if (dlP n cs).contains (nmP n d out.length k) = true then none else (get σ.ob (nmP n d out.length k)).map (scO (dlP n cs).contains)) = none := by
        simp only [isNew, Bool.or_eq_true] at h2
        rcases h2 with h2 | h2
        · rw [hno _ h2]; simp
        · obtain ⟨j, hj, e⟩ := hnn' _ h2
          rw [if_pos ((hdl _).2 (.inr ⟨j, hj, e⟩))]
      rw [hnone]; exact h1
  refine ⟨γ', fun v x hx => ?_, ?_⟩
  · have hI : Inv C γ' { sl := (Iv.drop (dlP n cs).contains σ).sl, ob := ob' } a w' := by
      refine h.step (fun m => isNew m || Nat.beq m n || (dlP n cs).contains m) (dlP n cs).contains rfl (fun m o' hm hg => ?_) (fun m o' hm hg => ?_) (fun m hq om hg => ?_) (fun m hm => ?_)
        (fun m om b hm hg hb => ?_) (fun b hlt hnF => ⟨hsince.block b hlt fun hM => hnF (hMrFF b hM), fun hb => hnF (hF b hlt hb)⟩) (fun m m' o1 o2 b h1 h2 h3 h4 => ?_) (fun m o1 b h1 h2 => ?_)
        (h.since.trans ⟨hsince.os, hsince.tape, hsince.output, hsince.size, fun k hk hM => hsince.block k (by have := h.since.size; omega) fun hMr' => ?_⟩) (fun b hb => by
          rw [hγn 900 (by
            simp only [isNew, Bool.or_eq_false_iff]
            constructor
            · cases hc : ofCall d 900 with
              | false => rfl
              | true =>
                unfold ofCall at hc
                rw [Bool.and_eq_true] at hc
                have := Nat.le_of_ble_eq_true hc.1
                omega
            · cases hc : (List.range cs.length).any fun k => Nat.beq 900 (nm n k) with
              | false => rfl
              | true => obtain ⟨k, _, e⟩ := hnn' 900 hc; unfold nm at e; omega)]
          exact h.root b hb)
      · simp only [Bool.or_eq_false_iff] at hm
        have hmn : m ≠ n := fun e => by have := hm.1.2; rw [e] at this; simp at this
        obtain ⟨_, o0, g1, g2, _⟩ := holdblk m o' hm.1.1 hmn hg
        exact ⟨o0, g1, g2⟩
      · by_cases hmn : m = n
        · subst hmn
          have : o' = .cells (unCs m 0 out) := by
            have e : get ob' m = some o' := hg
            rw [hobn] at e; cases e; rfl
          subst this
          refine ⟨pb, arr', ty', by rw [hγself]; exact hpb, hh, unCs_rep m out 0 arr'.toList hlen' fun k c u hc hk => ?_⟩
          have hk1 : k < out.length := (List.getElem?_eq_some_iff.1 hc).1
          have hc' : (out ++ rs)[k]? = some c := by rw [List.getElem?_append_left hk1]; exact hc
          have hk' : all[k]? = some u := by simp only [all]; rw [List.getElem?_append_left (by omega)]; exact hk
          have := hcell k c u hc' hk'
          rw [Nat.zero_add]
          cases c with
          | fc c => exact this
          | buf t e xs =>
            have e1 : nmP m d out.length k = nm m k := by unfold nmP; rw [if_pos hk1]
            rw [e1] at this; exact this
        · cases hmN : isNew m with
          | true =>
            obtain ⟨k, t, e, xs, hm1, h2, rfl⟩ := hobnew m o' hmN hg
            obtain ⟨u, hk⟩ := hus k _ h2
            obtain ⟨fl, f1, f2, f3⟩ := hp.rep k _ u h2 hk
            refine ⟨fl, by rw [hm1, hu k u hk]; exact f1, f2, fun i x hi => hRE t _ x (f3 i x hi) ?_⟩
            cases t with
            | mail => exact .inl (hhl k _ h2 rfl)
            | box => exact .inl (hhl k _ h2 rfl)
            | str => exact .inr ⟨by simp, by simp⟩
            | int k => exact .inr ⟨by simp, by simp⟩
            | adr => exact .inr ⟨by simp, by simp⟩
            | fld => exact .inr ⟨by simp, by simp⟩
          | false =>
            obtain ⟨hc, _⟩ := holdblk m o' hmN hmn hg
            have hmn' : Nat.beq m n = false := beqF hmn
            rw [hmN, hc, hmn'] at hm; cases hm
      · by_cases hmn : m = n
        · subst hmn
          rw [hcs] at hg; cases hg
          exact ⟨hγself, _, hobn, rfl⟩
        · have hmN : isNew m = false := by
            cases hmN : isNew m with
            | false => rfl
            | true =>
              simp only [isNew, Bool.or_eq_true] at hmN
              rcases hmN with hmN | hmN
              · rw [hno m hmN] at hg; cases hg
              · obtain ⟨k, hk, e⟩ := hnn' m hmN
                rw [(hdl m).2 (.inr ⟨k, hk, e⟩)] at hq; cases hq
          refine ⟨hγn m hmN, scO (dlP n cs).contains om, ?_, shp_scO _ om⟩
          show get ob' m = _
          rw [hobold m hmN hmn, if_neg (by rw [hq]; simp), hg]; rfl
      · simp only [Bool.or_eq_false_iff] at hm
        exact hγn m hm.1.1
      · simp only [Bool.or_eq_false_iff] at hm
        have hmn : m ≠ n := fun e => by have := hm.1.2; rw [e] at this; simp at this
        refine hsince.block b (h.lt hg hb) (hMrold m om b hmn (fun hm' => ?_) hg hb)
        have := hm.2
        rw [(hdl m).2 (.inl hm')] at this; cases this
      · -- apart
        have key : ∀ m m' o1 o2 b, get ob' m = some o1 → get ob' m' = some o2 → blk (γ' m) = some b → blk (γ' m') = some b → isNew m = true → m = m' := by
          intro m m' o1 o2 b h1 h2 h3 h4 hm
          obtain ⟨g0, k, c, u, e1, k1, k2, k3, k4⟩ := hnewblk m o1 b hm h1 h3
          by_cases hmn' : m' = n
          · subst hmn'
            rw [hγself, hpb] at h4; cases h4
            rcases g0 with g0 | g0
            · have g0' : w.heap.size ≤ pb := g0
              omega
            · exact absurd rfl g0.2
          · cases hm' : isNew m' with
            | true =>
              obtain ⟨_, k', c', u', e2, l1, l2, l3, l4⟩ := hnewblk m' o2 b hm' h2 h4
              rw [e1, e2, hp.inj k k' c c' u u' b k1 k2 k3 k4 l1 l2 l3 l4]
            | false =>
              obtain ⟨hc, o0, g1, _, g3⟩ := holdblk m' o2 hm' hmn' h2
              rw [g3] at h4
              rcases g0 with g0 | g0
              · have := h.lt g1 h4; omega
              · refine absurd g0.1 (hMrold m' o0 b hmn' (fun hmh => ?_) g1 h4)
                rw [(hdl m').2 (.inl hmh)] at hc; cases hc
        cases hm : isNew m with
        | true => exact key m m' o1 o2 b h1 h2 h3 h4 hm
        | false =>
          cases hm' : isNew m' with
          | true => exact (key m' m o2 o1 b h2 h1 h4 h3 hm').symm
          | false =>
            have e1 : ∃ o, get σ.ob m = some o := by
              by_cases hmn : m = n
              · exact ⟨_, by rw [hmn]; exact hcs⟩
              · obtain ⟨_, o0, g1, _⟩ := holdblk m o1 hm hmn h1; exact ⟨o0, g1⟩
            have e2 : ∃ o, get σ.ob m' = some o := by
              by_cases hmn : m' = n
              · exact ⟨_, by rw [hmn]; exact hcs⟩
              · obtain ⟨_, o0, g1, _⟩ := holdblk m' o2 hm' hmn h2; exact ⟨o0, g1⟩
            obtain ⟨x1, g1⟩ := e1
            obtain ⟨x2, g2⟩ := e2
            rw [hγn m hm] at h3; rw [hγn m' hm'] at h4
            exact h.inj m m' x1 x2 b g1 g2 h3 h4
      · cases hm : isNew m with
        | true =>
          obtain ⟨g0, _⟩ := hnewblk m o1 b hm h1 h2
          rcases g0 with g0 | g0
          · have := h.since.size
            exact ⟨fun hc => by have := hlow b hc; omega, by omega⟩
          · rcases hMr b g0.1 with e | ⟨m', _, om, hg', _, hb'⟩
            · exact absurd e g0.2
            · exact h.own m' om b hg' hb'
        | false =>
          rw [hγn m hm] at h2
          by_cases hmn : m = n
          · subst hmn; exact h.own m _ b hcs h2
          · obtain ⟨_, x0, g1, _⟩ := holdblk m o1 hm hmn h1
            exact h.own m x0 b g1 h2
      · rcases hMr k hMr' with rfl | ⟨m, _, om, hg, _, hb⟩
        · rcases (h.own n _ k hcs (by rw [hpb]; rfl)).2 with h1 | h1
          · omega
          · exact hM h1
        · rcases (h.own m om k hg hb).2 with h1 | h1
          · omega
          · exact hM h1
    exact hI.put (some d) hx
  · intro k c u hc hk
    have hc' : (out ++ rs)[k + out.length]? = some c := by rw [List.getElem?_append_right (by omega)]; simpa using hc
    have hk' : all[k + out.length]? = some u := by simp only [all]; rw [List.getElem?_append_right (by omega), ← hlen']; simpa using hk
    have := hcell (k + out.length) c u hc' hk'
    cases c with
    | fc c => exact this
    | buf t e xs =>
      have e1 : nmP n d out.length (k + out.length) = nm d k := by
        unfold nmP; rw [if_neg (by omega)]; congr 1; omega
      rw [e1] at this; exact this

theorem ptrC_rows : ∀ (cs : List Cell) (ins : List RC), ptrC σ.ob cs = some ins → ins.length = cs.length ∧
    (∀ (j : Nat) (c : RC), ins[j]? = some c → (∃ f, c = .fc f ∧ cs[j]? = some (.fc f)) ∨ ∃ m t e xs, c = .buf t e xs ∧ cs[j]? = some (.hdr m) ∧ get σ.ob m = some (.rows t e xs)) ∧
    ∀ m ∈ hdrs cs, ∃ t e xs, get σ.ob m = some (.rows t e xs)
  | [], ins, h => by cases h; exact ⟨rfl, fun j c hj => by simp at hj, fun m hm => by simp [hdrs] at hm⟩
  | .fc f :: r, ins, h => by
    rw [ptrC] at h
    split at h
    · rename_i cs' hcs
      cases h
      obtain ⟨h1, h2, h3⟩ := ptrC_rows r cs' hcs
      refine ⟨by simp [h1], fun j c hj => ?_, h3⟩
      match j with
      | 0 => cases hj; exact .inl ⟨f, rfl, rfl⟩
      | j + 1 => exact h2 j c (by simpa using hj)
    · cases h
  | .hdr m :: r, ins, h => by
    rw [ptrC] at h
    split at h
    · rename_i t e xs cs' hm hcs
      cases h
      obtain ⟨h1, h2, h3⟩ := ptrC_rows r cs' hcs
      refine ⟨by simp [h1], fun j c hj => ?_, fun k hk => ?_⟩
      · match j with
        | 0 => cases hj; exact .inr ⟨m, t, e, xs, rfl, rfl, hm⟩
        | j + 1 => exact h2 j c (by simpa using hj)
      · simp only [hdrs, List.mem_cons] at hk
        rcases hk with rfl | hk
        · exact ⟨t, e, xs, hm⟩
        · exact h3 k hk
    · cases h
  | .bot :: r, ins, h => by rw [ptrC] at h; cases h; all_goals simp
  | .ptr _ _ :: r, ins, h => by rw [ptrC] at h; cases h; all_goals simp
  | .ep _ _ _ :: r, ins, h => by rw [ptrC] at h; cases h; all_goals simp
  | .lp _ _ :: r, ins, h => by rw [ptrC] at h; cases h; all_goals simp

theorem apartN_spec {a b : List Nat} (h : apartN a b = true) {n : Nat} (ha : n ∈ a) (hb : n ∈ b) : False := by
  have h1 := List.all_eq_true.1 h n ha
  have h2 := List.all_eq_true.1 h1 n hb
  simp at h2

theorem mem_hdrs_at : ∀ {i m : Nat} {cs : List Cell}, cs[i]? = some (.hdr m) → m ∈ hdrs cs := by
  intro i m cs
  induction cs generalizing i with
  | nil => intro h; simp at h
  | cons c cs ih =>
    intro h
    match i with
    | 0 => cases h; simp [hdrs]
    | i + 1 =>
      have := ih (i := i) (by simpa using h)
      cases c <;> simp only [hdrs, List.mem_cons] <;> first | exact this | exact .inr this

theorem nodup_at : ∀ {cs : List Cell}, nodupN (hdrs cs) = true → ∀ {j k m : Nat}, cs[j]? = some (.hdr m) → cs[k]? = some (.hdr m) → j = k
  | [], _, j, k, m, hj, _ => by simp at hj
  | c :: cs, h, j, k, m, hj, hk => by
    have htl : nodupN (hdrs cs) = true := by
      cases c with
      | hdr n => simp only [hdrs, nodupN, Bool.and_eq_true] at h; exact h.2
      | _ => exact h
    match j, k with
    | 0, 0 => rfl
    | j + 1, k + 1 => rw [nodup_at htl (j := j) (k := k) (m := m) (by simpa using hj) (by simpa using hk)]
    | 0, k + 1 =>
      cases hj
      simp only [hdrs, nodupN, Bool.and_eq_true] at h
      exact (apartN_spec h.1 (List.mem_singleton.2 rfl) (mem_hdrs_at (i := k) (by simpa using hk))).elim
    | j + 1, 0 =>
      cases hk
      simp only [hdrs, nodupN, Bool.and_eq_true] at h
      exact (apartN_spec h.1 (List.mem_singleton.2 rfl) (mem_hdrs_at (i := j) (by simpa using hj))).elim

theorem GlobW.less {T : Tab} {N N' : Nat → Prop} (h : GlobW T N w) (hl : ∀ b, N' b → N b) : GlobW T N' w := ⟨fun g hg => ⟨fun hb => (h.1 g hg).1 (hl _ hb), (h.1 g hg).2⟩, fun g cs hg => by
  obtain ⟨vs, h1, h2⟩ := h.2 g cs hg
  exact ⟨vs, h1.stay (Stay.less fun b _ hb => hl b hb), fun j u hu => ⟨fun hb => (h2 j u hu).1 (hl _ hb), (h2 j u hu).2⟩⟩⟩

theorem RepRC.less {F F' : Nat → Prop} (hl : ∀ b, F' b → F b) {c : RC} {v : Value} (h : RepRC w F c v) : RepRC w F' c v := by
  cases c with
  | fc c => exact RepFC.stay (Stay.less fun b _ hb => hl b hb) h
  | buf t e xs =>
    obtain ⟨fl, h1, h2, h3⟩ := h
    exact ⟨fl, h1, h2, fun i x hi => (h3 i x hi).stay (Stay.less fun b _ hb => hl b hb)⟩

theorem RepA.less {F F' : Nat → Prop} (hl : ∀ b, F' b → F b) {c : AV} {v : Value} (h : RepA w F c v) : RepA w F' c v := by
  cases c with
  | one c => exact RepFC.stay (Stay.less fun b _ hb => hl b hb) h
  | agg cs =>
    obtain ⟨arr, h1, h2⟩ := h
    exact ⟨arr, h1, h2.stay (Stay.less fun b _ hb => hl b hb)⟩

theorem isPtr_eq {x : IV} {n : Nat} (h : isPtr x = some n) : x = .v (.one (.ptr n 0)) := by
  unfold isPtr at h
  split at h
  · cases h; rfl
  · cases h

theorem preD_inv (h : Inv C γ σ a w) (d : Nat) : Inv C γ (preD d σ) a w ∧ ∀ m, ofCall d m = true → get (preD d σ).ob m = none := by
  unfold preD
  cases hh : hasOf d σ.ob with
  | true => exact ⟨h.drop _, fun n hn => by show get (Iv.drop (ofCall d) σ).ob n = none; rw [get_drop, if_pos hn]⟩
  | false => exact ⟨h, fun n hn => hasOf_false d _ hh n hn⟩

theorem s_callP (hG : GlobOk C) {call : CallT} (hC : CallOk C.P C.T call) (f : Operand) (g : FuncId) (args : Array Operand) (tys : Array TypeId)
    (ho : o.op = .call { callee := .value f, args := args, argTypes := tys }) (hf : opnd C.T σ f = .v (.one (.fc (.sc (.func (.func g) #[] #[])))))
    {x : Operand} {xs : List Operand} {ts : List TypeId} (hargs : args.toList = x :: xs) {d n : Nat} (hd : o.dst = some d) (hx : isPtr (opnd C.T (preD d σ) x) = some n)
    (hev : evCallP1 C.T call (preD d σ) d g n ts xs K = some r) (h : Inv C γ σ a w)
    (hK : ∀ γ' σ' a' w', Inv C γ' σ' a' w' → K σ' = some r → next a' w') : o.wp C.P a w next Q := by
  have hfv := sc_eq hf (opnd_rep hG h f)
  obtain ⟨h0, hno⟩ := preD_inv h d
  have hxe := isPtr_eq hx
  have hxr := opnd_rep hG h0 x
  rw [hxe] at hxr
  obtain ⟨o1, pb, _, _, hpb, hxv⟩ := hxr
  unfold evCallP1 at hev
  split at hev
  · rename_i cs hcs
    split at hev
    · rename_i ins avs hins havs
      obtain ⟨hck, hev⟩ := bif_some hev
      simp only [Bool.and_eq_true, Bool.not_eq_true'] at hck
      obtain ⟨hn1, hd1, hne, hnd, hap⟩ := hck
      have hn1 : n < 1000 := Nat.lt_of_succ_le (Nat.le_of_ble_eq_true hn1)
      have hd1 : d < 1000 := Nat.lt_of_succ_le (Nat.le_of_ble_eq_true hd1)
      have hne : d ≠ n := fun e => by rw [e] at hne; simp at hne
      rw [CTP.run_val] at hev
      split at hev
      · cases hev
      rename_i res out hres
      obtain ⟨hlen, hev⟩ := bif_some hev
      have hlen : out.length = cs.length := Nat.eq_of_beq_eq_true hlen
      obtain ⟨fn, hfn, hbody, hname⟩ := hC.entersP g ins avs res out hres
      obtain ⟨b', arr, ty, hg', hheap, hcells⟩ := h0.objs n _ hcs
      have hb' : b' = pb := by rw [hpb] at hg'; cases hg'; rfl
      subst hb'
      obtain ⟨i1, i2, i3⟩ := ptrC_rows cs ins hins
      have hcl : cs.length = arr.toList.length := hcells.1
      -- the rows behind the pointer
      have hrows : ∀ (j : Nat) (c : RC) (u : Value) (b : Nat), ins[j]? = some c → isBuf c = true → arr.toList[j]? = some u → blk u = some b →
          ∃ m ∈ hdrs cs, cs[j]? = some (.hdr m) ∧ u = γ m ∧ blk (γ m) = some b := by
        intro j c u b hc hb hu hbl
        rcases i2 j c hc with ⟨f, rfl, _⟩ | ⟨m, t, e, ys, rfl, hm, hg⟩
        · cases hb
        · obtain ⟨hv, _⟩ := hcells.2 j _ u hm hu
          refine ⟨m, ?_, hm, hv, by rw [← hv]; exact hbl⟩
          exact mem_hdrs_at hm
      have hL := hdrsOps_live hG h0 xs
      have hMp : ∀ b, Mp b' ins arr.toList b → b = b' ∨ ∃ m ∈ hdrs cs, ∃ om, get (preD d σ).ob m = some om ∧ (shp om).1 = true ∧ blk (γ m) = some b := by
        intro b hb
        rcases hb with hb | ⟨j, c, u, hc, hbuf, hu, hbl⟩
        · exact .inl hb
        · obtain ⟨m, hm, _, _, hb2⟩ := hrows j c u b hc hbuf hu hbl
          obtain ⟨t, e, ys, hg⟩ := i3 m hm
          exact .inr ⟨m, hm, _, hg, rfl, hb2⟩
      have hMpFF : ∀ b, Mp b' ins arr.toList b → FF γ (preD d σ).ob C.N b ∧ ∀ m ∈ hdrsOps C.T (preD d σ) xs, blk (γ m) ≠ some b := by
        intro b hb
        rcases hMp b hb with rfl | ⟨m, hm, om, hg, _, hbl⟩
        · refine ⟨.inr ⟨n, _, hcs, by rw [hpb]; rfl⟩, fun k hk hbk => ?_⟩
          obtain ⟨ok, hok, hsh⟩ := hL k hk
          have := h0.inj k n ok _ b hok hcs hbk (by rw [hpb]; rfl)
          subst this
          rw [hcs] at hok; cases hok; cases hsh
        · refine ⟨.inr ⟨m, om, hg, hbl⟩, fun k hk hbk => ?_⟩
          obtain ⟨ok, hok, hsh⟩ := hL k hk
          have := h0.inj k m ok om b hok hg hbk hbl
          subst this
          exact apartN_spec hap hk hm
      have hMpN : ∀ b, Mp b' ins arr.toList b → ¬ C.N b := by
        intro b hb
        rcases hMp b hb with rfl | ⟨m, hm, om, hg, _, hbl⟩
        · exact (h0.own n _ b hcs (by rw [hpb]; rfl)).1
        · exact (h0.own m om b hg hbl).1
      let N' : Nat → Prop := fun b => FF γ (preD d σ).ob C.N b ∧ (∀ m ∈ hdrsOps C.T (preD d σ) xs, blk (γ m) ≠ some b) ∧ ¬ Mp b' ins arr.toList b
      have hsub : ∀ b, (N' b ∨ Mp b' ins arr.toList b) → Nc γ (preD d σ).ob C.N (hdrsOps C.T (preD d σ) xs) b := fun b hb => by
        rcases hb with hb | hb
        · exact ⟨hb.1, hb.2.1⟩
        · exact hMpFF b hb
      have hlowFF : ∀ b, FF γ (preD d σ).ob C.N b → b < w.heap.size := fun b hb => by
        rcases hb with hN | ⟨n, ob, hn, hb'⟩
        · have := hG.low b hN; have := h.since.size; omega
        · exact h0.lt hn hb'
      obtain ⟨e1, e2⟩ := viewsI_rep hG h0 ts xs avs havs (fun n hn => hn)
      have hpre : PreP N' w b' ins arr.toList := by
        refine ⟨by rw [i1]; exact hcl, fun j c u hc hu => ?_, fun j c u b hc hb hu hbl => ?_, fun j k c e u v b hc hb hu hbl he hb2 hv hbl2 => ?_⟩
        · rcases i2 j c hc with ⟨f, rfl, hf⟩ | ⟨m, t, e, ys, rfl, hm, hg⟩
          · have := hcells.2 j _ u hf hu
            exact RepFC.stay (Stay.less fun b _ hb => (hsub b hb).1) this
          · obtain ⟨hv, _⟩ := hcells.2 j _ u hm hu
            obtain ⟨fl, f1, f2, f3⟩ := h0.objs m _ hg
            rw [← hv] at f1
            exact ⟨fl, f1, f2, fun i x hi => (f3 i x hi).stay (Stay.less fun b _ hb => (hsub b hb).1)⟩
        · refine ⟨fun e => ?_, fun hN => hN.2.2 (.inr ⟨j, c, u, hc, hb, hu, hbl⟩)⟩
          obtain ⟨m, hm, _, _, hb2⟩ := hrows j c u b hc hb hu hbl
          obtain ⟨t, e2, ys, hg⟩ := i3 m hm
          have := h0.inj m n _ _ b hg hcs hb2 (by rw [hpb, e]; rfl)
          subst this
          rw [hcs] at hg; cases hg
        · obtain ⟨m, hm, hcm, _, hbm⟩ := hrows j c u b hc hb hu hbl
          obtain ⟨m', hm', hcm', _, hbm'⟩ := hrows k e v b he hb2 hv hbl2
          obtain ⟨_, _, _, hg⟩ := i3 m hm
          obtain ⟨_, _, _, hg'⟩ := i3 m' hm'
          have := h0.inj m m' _ _ b hg hg' hbm hbm'
          subst this
          exact nodup_at hnd hcm hcm'
      have hcalls := hC.conP g ins avs res out hres w N' b' arr ty (xs.map a.eval) (fun b hb => hlowFF b hb.1) (fun hN => hN.2.2 (.inl rfl)) hheap hpre
        ((globW_of hG h0 _).less hsub) e1 (fun j av v hj hv => (e2 j av v hj hv).less hsub)
      have hev2 : a.eval x = .pointer (some ⟨b', 0, none⟩) := hxv
      have hrun : (execOp a.eval o).run C.P w = .ok (.enter g (Value.pointer (some ⟨b', 0, none⟩) :: xs.map a.eval).toArray) w := by
        have ha : args.map a.eval = (Value.pointer (some ⟨b', 0, none⟩) :: xs.map a.eval).toArray := by
          rw [← hev2, ← List.map_cons, ← hargs, ← Array.toList_map, Array.toArray_toList]
        rw [← ha]
        have hname' : ¬ fn.name = "runtime.NumGoroutine" := fun e => by rw [e] at hname; simp at hname
        have hbody' : ¬ fn.body = none := fun e => by rw [e] at hbody; simp at hbody
        simp [execOp, ho, resolve, hfv, Deferred.ofValue, invoke, callFunc, hfn, hname', hbody']
      unfold Oper.wp
      rw [hrun, Oper.upon_enter]
      refine hcalls.mono ?_
      rintro e w' ⟨v, us, arr', ty', rfl, hs, hsh, hh, hl2, hp⟩
      -- the state behind the turning
      have hfz : ∃ σ2, (bif (out ++ res.flat).any RC.hl then frzAll (hdrsOps C.T (preD d σ) xs) (preD d σ) else preD d σ) = σ2 ∧ Inv C γ σ2 a w ∧ get σ2.ob n = some (.cells cs) ∧
          (∀ m ∈ hdrs cs, get σ2.ob m = get (preD d σ).ob m) ∧ (∀ m, ofCall d m = true → get σ2.ob m = none) ∧
          ((out ++ res.flat).any RC.hl = true → ∀ b, b < w.heap.size → (C.N b ∨ ∃ m om, get σ2.ob m = some om ∧ blk (γ m) = some b ∧ m ≠ n ∧ m ∉ hdrs cs) → N' b) := by
        cases hh : (out ++ res.flat).any RC.hl with
        | false => exact ⟨_, rfl, h0, hcs, fun _ _ => rfl, hno, fun h => by cases h⟩
        | true =>
          obtain ⟨F, up, p1, p2, p3⟩ := frzAll_par (hdrsOps C.T (preD d σ) xs) (preD d σ)
          have hch := p3 (preD d σ) fun _ _ => rfl
          have hkeep : ∀ m, m ∉ hdrsOps C.T (preD d σ) xs → get (frzAll (hdrsOps C.T (preD d σ) xs) (preD d σ)).ob m = (get (preD d σ).ob m).map (mO F) := fun m hm => by
            rw [hch.ob]
            rcases p2 m with h | ⟨_, h⟩
            · rw [h]; rfl
            · exact absurd h hm
          refine ⟨_, rfl, Inv.frzAll _ h0, ?_, fun m hm => ?_, fun n hn => frzAll_none _ _ (hno n hn), fun _ b hlt hb => ?_⟩
          · show get (frzAll (hdrsOps C.T (preD d σ) xs) (preD d σ)).ob n = _
            rw [hkeep n fun hn => ?_, hcs]
            · simp only [Option.map_some, mO]
              congr 2
              conv => rhs; rw [← List.map_id cs]
              refine List.map_congr_left fun c hc => ?_
              refine p1 c fun k hk hkL => ?_
              obtain ⟨j, hj⟩ := List.getElem?_of_mem hc
              have hjl : j < ins.length := by rw [i1]; exact (List.getElem?_eq_some_iff.1 hj).1
              rcases i2 j _ (List.getElem?_eq_getElem hjl) with ⟨f, _, hf⟩ | ⟨m, t, e, ys, _, hm, _⟩
              · rw [hf] at hj; cases hj; simp [nmsC] at hk
              · rw [hm] at hj; cases hj
                simp [nmsC] at hk; subst hk
                refine apartN_spec hap hkL ?_
                exact mem_hdrs_at hm
            · obtain ⟨ok, hok, hsh⟩ := hL n hn
              rw [hcs] at hok; cases hok; cases hsh
          · show get (frzAll (hdrsOps C.T (preD d σ) xs) (preD d σ)).ob m = _
            rw [hkeep m fun hn => apartN_spec hap hn hm]
            obtain ⟨t, e, ys, hg⟩ := i3 m hm
            rw [hg]; rfl
          · rcases hb with hb | ⟨m, om, hm, hbl, hmn, hmh⟩
            · exact ⟨.inl hb, fun k hk hbk => by
                obtain ⟨ok, hok, _⟩ := hL k hk
                exact (h0.own k ok b hok hbk).1 hb, fun hM => hMpN b hM hb⟩
            · obtain ⟨o0, ho0, hs0⟩ := get_frzAll _ _ hm
              refine ⟨.inr ⟨m, o0, ho0, hbl⟩, fun k hk hbk => ?_, fun hM => ?_⟩
              · obtain ⟨ok, hok, hsh⟩ := hL k hk
                have := h0.inj m k o0 ok b ho0 hok hbl hbk
                subst this
                have h3 := frzAll_shp _ _ hk hm
                rw [hs0] at h3
                rw [ho0] at hok; cases hok
                rw [h3] at hsh; cases hsh
              · rcases hMp b hM with rfl | ⟨m', hm', om', hg', _, hbl'⟩
                · exact hmn (h0.inj m n o0 _ b ho0 hcs hbl (by rw [hpb]; rfl))
                · exact hmh (by rw [h0.inj m m' o0 om' b ho0 hg' hbl hbl']; exact hm')
      obtain ⟨σ2, q1, q2, q3, q4, q5, q6⟩ := hfz
      rw [q1] at hev
      obtain ⟨γ', k1, k2⟩ := q2.bringP hG.low hn1 hd1 hne q3 hpb (fun b hb => by
        rcases hMp b hb with hb | ⟨m, hm, om, hg, hs, hbl⟩
        · exact .inl hb
        · exact .inr ⟨m, hm, om, by rw [q4 m hm]; exact hg, hs, hbl⟩) q5 hs hh hlen hl2 hp q6
      have hun := un_rep d res v us hsh k2
      show next (a.put o.dst v) w'
      rw [hd]
      exact hK γ' _ _ w' (k1 v _ hun) hev
    · cases hev
  · cases hev

theorem s_callN (hG : GlobOk C) (h9 : NrO C o) {call : CallT} (hC : CallOk C.P C.T call) (f : Operand) (g : FuncId) (args : Array Operand) (tys : Array TypeId)
    (ho : o.op = .call { callee := .value f, args := args, argTypes := tys }) (hf : opnd C.T σ f = .v (.one (.fc (.sc (.func (.func g) #[] #[])))))
    {d : Nat} (hd : o.dst = some d) {F : List AV → Option (List FC)} (hn : call.n g = some F)
    (hev : evCallN C.T σ d F tys.toList args.toList K = some r) (h : Inv C γ σ a w)
    (hK : ∀ γ' σ' a' w', Inv C γ' σ' a' w' → K σ' = some r → next a' w') : o.wp C.P a w next Q := by
  have hfv := sc_eq hf (opnd_rep hG h f)
  unfold evCallN at hev
  split at hev
  · cases hev
  rename_i avs havs
  split at hev
  · cases hev
  rename_i fs hfs
  dsimp only at hev
  obtain ⟨fn, hfn, hbody, hname⟩ := hC.entersN g F avs fs hn hfs
  obtain ⟨e1, e2⟩ := viewsI_rep hG h tys.toList args.toList avs havs (fun n hn => hn)
  have hcalls := hC.conN g F avs fs hn hfs w (Nc γ σ.ob C.N (hdrsOps C.T σ args.toList)) (args.toList.map a.eval) (fun b hb => by
    rcases hb.1 with hN | ⟨n, ob, hn, hb'⟩
    · have := hG.low b hN; have := h.since.size; omega
    · exact h.lt hn hb') (globW_of hG h _) e1 e2
  have hrun : (execOp a.eval o).run C.P w = .ok (.enter g (args.toList.map a.eval).toArray) w := by
    have hargs : args.map a.eval = (args.toList.map a.eval).toArray := by rw [← Array.toList_map, Array.toArray_toList]
    rw [← hargs]
    have hname' : ¬ fn.name = "runtime.NumGoroutine" := fun e => by rw [e] at hname; simp at hname
    have hbody' : ¬ fn.body = none := fun e => by rw [e] at hbody; simp at hbody
    simp [execOp, ho, resolve, hfv, Deferred.ofValue, invoke, callFunc, hfn, hname', hbody']
  unfold Oper.wp
  rw [hrun, Oper.upon_enter]
  refine hcalls.mono ?_
  rintro e w' ⟨b, arr, ty, rfl, hb, hnew, hh, hr⟩
  have hL := hdrsOps_live hG h args.toList
  have h1 := (Inv.frzAll (hdrsOps C.T σ args.toList) h).fresh d
  have hfr : ∀ m om, get (fresh d (frzAll (hdrsOps C.T σ args.toList) σ)).ob m = some om → ∃ o0, get (frzAll (hdrsOps C.T σ args.toList) σ).ob m = some o0 := by
    intro m om hm
    unfold fresh at hm
    split at hm
    · exact ⟨_, hm⟩
    · obtain ⟨o0, h2, _⟩ := get_drop_some _ _ hm; exact ⟨o0, h2⟩
  have hNc : ∀ m om k, get (fresh d (frzAll (hdrsOps C.T σ args.toList) σ)).ob m = some om → blk (γ m) = some k → Nc γ σ.ob C.N (hdrsOps C.T σ args.toList) k := by
    intro m om k hm hbl
    obtain ⟨o1, hm1⟩ := hfr m om hm
    obtain ⟨o0, ho0, hs0⟩ := get_frzAll _ _ hm1
    refine ⟨.inr ⟨m, o0, ho0, hbl⟩, fun j hj hbj => ?_⟩
    obtain ⟨oj, hoj, hsh⟩ := hL j hj
    have := h.inj m j o0 oj k ho0 hoj hbl hbj
    subst this
    have h3 := frzAll_shp _ _ hj hm1
    rw [hs0] at h3
    rw [ho0] at hoj; cases hoj
    rw [h3] at hsh; cases hsh
  have h2 := h1.new d (.pointer (some ⟨b, 0, none⟩)) (.cells (fs.map .fc)) (get_fresh d _) hb (fun k hk => by cases hk; exact hnew) (by
    refine ⟨b, arr, ty, gup_same _ _ _, hh, fc_cells (hr.stay fun k hlt hnk => ⟨rfl, fun hF => ?_⟩)⟩
    rcases hF with hF | ⟨m, om, hm, hbl⟩
    · refine hnk (.inl ⟨.inl hF, fun j hj hbj => ?_⟩)
      obtain ⟨oj, hoj, _⟩ := hL j hj
      exact (h.own j oj k hoj hbj).1 hF
    · by_cases hmd : m = d
      · subst hmd; rw [gup_same] at hbl; cases hbl; exact hnk (.inr rfl)
      · rw [gup_ne _ _ _ _ hmd] at hbl
        rw [get_upd_ne d m _ _ hmd] at hm
        exact hnk (.inl (hNc m om k hm hbl))) hG.low (h9 d hd)
  have h3 := h2.put (some d) (x := .v (.one (.ptr d 0))) (v := .pointer (some ⟨b, 0, none⟩)) ⟨_, b, get_upd_same d _ _, rfl, gup_same _ _ _, rfl⟩
  show next (a.put o.dst _) w'
  rw [hd]
  exact hK _ _ _ w' h3 hev

theorem obList_of {t : Ty} {e : TypeId} {o : Ob} {xs : List t.Den} (h : obList t e o = some xs) : o = .rows t e xs := by
  unfold obList at h
  split at h <;> first
    | (split at h
       · rename_i he; cases h; subst he; rfl
       · cases h)
    | cases h

theorem s_callB (hG : GlobOk C) {call : CallT} (hC : CallOk C.P C.T call) (f : Operand) (g : FuncId) (args : Array Operand) (tys : Array TypeId)
    (ho : o.op = .call { callee := .value f, args := args, argTypes := tys }) (hf : opnd C.T σ f = .v (.one (.fc (.sc (.func (.func g) #[] #[])))))
    {x : Operand} {xs : List Operand} {ts : List TypeId} (hargs : args.toList = x :: xs) {d n : Nat} (hd : o.dst = some d) {B : BufF} (hB : call.b g = some B) (hx : isHdr (opnd C.T σ x) = some n)
    (hev : evCallB C.T σ d B n ts xs K = some r) (h : Inv C γ σ a w)
    (hK : ∀ γ' σ' a' w', Inv C γ' σ' a' w' → K σ' = some r → next a' w') : o.wp C.P a w next Q := by
  have hfv := sc_eq hf (opnd_rep hG h f)
  have hxe : opnd C.T σ x = .v (.one (.hdr n)) := by
    unfold isHdr at hx
    split at hx
    · rename_i heq; cases hx; exact heq
    · cases hx
  have hxr := opnd_rep hG h x
  rw [hxe] at hxr
  have hxv : a.eval x = γ n := hxr.1
  unfold evCallB at hev
  split at hev
  · rename_i ob hob
    split at hev
    · rename_i l avs hl havs
      have hrow := obList_of hl
      subst hrow
      obtain ⟨hap, hev⟩ := bif_some hev
      rw [Bool.and_eq_true] at hap
      obtain ⟨hap, hown⟩ := hap
      cases hBf : B.f l avs with
      | none => rw [hBf] at hev; cases hev
      | some ys =>
        rw [hBf] at hev
        simp only [Option.bind_some] at hev
        obtain ⟨fn, hfn, hbody, hname⟩ := hC.entersB g B l avs ys hB hBf
        have hL := hdrsOps_live hG h xs
        have hnL : n ∉ hdrsOps C.T σ xs := fun hn => apartN_spec hap hn (List.mem_singleton.2 rfl)
        let N' : Nat → Prop := fun b => FF γ σ.ob C.N b ∧ (∀ m ∈ hdrsOps C.T σ xs, blk (γ m) ≠ some b) ∧ ¬ blk (γ n) = some b
        have hsub : ∀ b, (N' b ∨ blk (γ n) = some b) → Nc γ σ.ob C.N (hdrsOps C.T σ xs) b := fun b hb => by
          rcases hb with hb | hb
          · exact ⟨hb.1, hb.2.1⟩
          · refine ⟨.inr ⟨n, _, hob, hb⟩, fun k hk hbk => ?_⟩
            obtain ⟨ok, hok, _⟩ := hL k hk
            exact hnL (by rw [← h.inj k n ok _ b hok hob hbk hb]; exact hk)
        obtain ⟨fl, o1, o2, o3⟩ := h.objs n _ hob
        obtain ⟨e1, e2⟩ := viewsI_rep hG h ts xs avs havs (fun n hn => hn)
        have hcalls := hC.conB g B l avs ys hB hBf w N' (γ n) fl (xs.map a.eval) (fun b hb => by
          rcases hb.1 with hN | ⟨n, ob, hn, hb'⟩
          · have := hG.low b hN; have := h.since.size; omega
          · exact h.lt hn hb') (fun b hb hN => hN.2.2 hb) ((globW_of hG h _).less hsub) o1 o2 (fun i x hi => (o3 i x hi).stay (Stay.less fun b _ hb => (hsub b hb).1)) e1
          (fun j av v hj hv => (e2 j av v hj hv).less hsub) (fun j hj => by
            have := List.all_eq_true.1 hown j hj
            split at this
            · rename_i x0 hx0
              split at this
              · rename_i m hm
                split at this
                · rename_i t0 e0 xs0 hg0
                  obtain ⟨fl0, p1, _⟩ := h.objs m _ hg0
                  have hr := opnd_rep hG h x0
                  rw [hm] at hr
                  exact ⟨γ m, e0, t0.size, xs0.length, fl0, by rw [List.getElem?_map, hx0]; exact congrArg some hr.1, p1⟩
                · cases this
              · cases this
            · cases this)
        have hrun : (execOp a.eval o).run C.P w = .ok (.enter g (γ n :: xs.map a.eval).toArray) w := by
          have ha : args.map a.eval = (γ n :: xs.map a.eval).toArray := by
            rw [← hxv, ← List.map_cons, ← hargs, ← Array.toList_map, Array.toArray_toList]
          rw [← ha]
          have hname' : ¬ fn.name = "runtime.NumGoroutine" := fun e => by rw [e] at hname; simp at hname
          have hbody' : ¬ fn.body = none := fun e => by rw [e] at hbody; simp at hbody
          simp [execOp, ho, resolve, hfv, Deferred.ofValue, invoke, callFunc, hfn, hname', hbody']
        unfold Oper.wp
        rw [hrun, Oper.upon_enter]
        refine hcalls.mono ?_
        rintro e w' ⟨v', fl', rfl, hs, p1, p2, p3, p4⟩
        have h1 : Inv C γ (Iv.frzAll (hdrsOps C.T σ xs) σ) a w := Inv.frzAll _ h
        have hn1 : get (frzAll (hdrsOps C.T σ xs) σ).ob n = some (.rows B.t B.e l) := by
          obtain ⟨F, up, q1, q2, q3⟩ := frzAll_par (hdrsOps C.T σ xs) σ
          rw [(q3 σ fun _ _ => rfl).ob]
          rcases q2 n with hq | ⟨_, hq⟩
          · rw [hq, hob]; rfl
          · exact absurd hq hnL
        have hback : ∀ m om, get (frzAll (hdrsOps C.T σ xs) σ).ob m = some om → m ∉ hdrsOps C.T σ xs ∨ (shp om).1 = false := fun m om hm => by
          by_cases hmL : m ∈ hdrsOps C.T σ xs
          · exact .inr (frzAll_shp _ _ hmL hm)
          · exact .inl hmL
        have hI := h1.turn n (.rows B.t B.e l) (.rows B.t B.e ys) v' hn1 (w' := w') (fun b hlt hne => hs.block b hlt hne) p4
          (h.since.trans ⟨hs.os, hs.tape, hs.output, hs.size, fun k hk hM => hs.block k (by have := h.since.size; omega) fun hbk => by
            rcases (h.own n _ k hob hbk).2 with h9 | h9
            · omega
            · exact hM h9⟩) hG.low rfl (fun hk => by
            refine ⟨fl', by rw [gup_same]; exact p1, p2, fun i x hi => (p3 i x hi).stay fun b hlt hnb => ⟨rfl, fun hF => hnb ?_⟩⟩
            rcases hF with hF | ⟨m, om, hm, hbl⟩
            · refine .inl ⟨.inl hF, fun k hk hbk => ?_, fun hbk => (h.own n _ b hob hbk).1 hF⟩
              obtain ⟨ok, hok, _⟩ := hL k hk
              exact (h.own k ok b hok hbk).1 hF
            · by_cases hmn : m = n
              · subst hmn; rw [gup_same] at hbl; exact .inr hbl
              · rw [gup_ne _ _ _ _ hmn] at hbl
                rw [get_upd_ne n m _ _ hmn] at hm
                rw [show get (scrub (Nat.beq n) (frzAll (hdrsOps C.T σ xs) σ)).ob m = (get (frzAll (hdrsOps C.T σ xs) σ).ob m).map (scO (Nat.beq n)) from get_map _ _ _, Option.map_eq_some_iff] at hm
                obtain ⟨om1, hm1, _⟩ := hm
                obtain ⟨o0, ho0, hs0⟩ := get_frzAll _ _ hm1
                refine .inl ⟨.inr ⟨m, o0, ho0, hbl⟩, fun k hk hbk => ?_, fun hbk => hmn (h.inj m n o0 _ b ho0 hob hbl hbk)⟩
                obtain ⟨ok, hok, hsh⟩ := hL k hk
                have := h.inj m k o0 ok b ho0 hok hbl hbk
                subst this
                rcases hback m om1 hm1 with h5 | h5
                · exact h5 hk
                · rw [hs0] at h5
                  rw [ho0] at hok; cases hok
                  rw [h5] at hsh; cases hsh)
        have hP := hI.put (some d) (x := .v (.one (.hdr n))) (v := v') ⟨(gup_same _ _ _).symm, _, get_upd_same _ _ _, rfl⟩
        show next (a.put o.dst v') w'
        rw [hd]
        exact hK _ _ _ w' hP hev
    · cases hev
  · cases hev

theorem s_calls (hG : GlobOk C) (h9 : NrO C o) {call : CallT} (hC : CallOk C.P C.T call) (f : Operand) (g : FuncId) (args : Array Operand) (tys : Array TypeId)
    (ho : o.op = .call { callee := .value f, args := args, argTypes := tys }) (hf : opnd C.T σ f = .v (.one (.fc (.sc (.func (.func g) #[] #[])))))
    (hev : evCalls C.T call σ o.dst g tys.toList args.toList K = some r) (h : Inv C γ σ a w)
    (hK : ∀ γ' σ' a' w', Inv C γ' σ' a' w' → K σ' = some r → next a' w') : o.wp C.P a w next Q := by
  unfold evCalls at hev
  split at hev
  · rename_i x xs t ts hargs htys
    split at hev
    · split at hev
      · rename_i d hd
        split at hev
        · rename_i n hx; exact s_callP hG hC f g args tys ho hf hargs hd hx hev h hK
        · cases hev
      · cases hev
    · split at hev
      · rename_i B n hB hx
        split at hev
        · rename_i d hd; exact s_callB hG hC f g args tys ho hf hargs hd hB hx hev h hK
        · cases hev
      · split at hev
        · rename_i F d hn hd
          exact s_callN hG h9 hC f g args tys ho hf hd hn hev h hK
        · cases hev
        · exact s_call hG hC f g args tys ho hf hev h hK
  · exact s_call hG hC f g args tys ho hf hev h hK

end
end Go.Iv
