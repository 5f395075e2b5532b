/- Texts of this proof, joined: Iv14 Iv15 Iv16. -/
import Derived.Test.YtpdmeafoofkpaaaGreatDoorGf
import Derived.Test.YtpdmeafoofkpaaaGreatDoorGe
import Derived.LoopN
set_option linter.unusedVariables false
set_option linter.unusedSimpArgs false
/- The evaluator is sound: operations in a row, code, a function. -/
namespace Go.Iv
open Go.RowKit

section
variable {C : Ctx} {R : Type} {γ : Nat → Value} {σ : St} {a : Act} {w : World} {o : Oper} {next : Act → World → Prop} {Q : Exit → Act → World → Prop} {r : R} {K : St → Option R}

theorem core_sound (hT : TabOk C.P C.T) (hG : GlobOk C) (h9 : NrO C o) {call : CallT} (hC : CallOk C.P C.T call) (hev : evCore C.T call o σ K = some r) (h : Inv C γ σ a w)
    (hK : ∀ γ' σ' a' w', Inv C γ' σ' a' w' → K σ' = some r → next a' w') : o.wp C.P a w next Q := by
  unfold evCore at hev
  split at hev
  · rename_i x ho; exact s_move hG x (.inl ho) hev h hK
  · rename_i x ho; exact s_move hG x (.inr ho) hev h hK
  · rename_i c x y ho
    split at hev
    · rename_i t hc; exact s_pick hG c x y ho t hc hev h hK
    · cases hev
  · rename_i e ho
    split at hev
    · rename_i d ag zs hd hz; exact s_alloc hT hG h9 e ho d hd ag zs hz hev h hK
    · cases hev
  · rename_i e x ho
    split at hev
    · rename_i d cs0 hd _
      dsimp only at hev
      split at hev
      · rename_i cs hcs
        obtain ⟨hok, hev⟩ := bif_some hev
        exact s_box hG h9 e x ho d hd cs hcs hok hev h hK
      · cases hev
    · cases hev
  · rename_i x ho
    split at hev
    · rename_i n off hx
      have hr := opnd_rep hG h x
      rw [hx] at hr
      obtain ⟨ob, b, h1, h2, h3, hv⟩ := hr
      refine wp_value (v := .pointer (some ⟨b, off, none⟩)) (w' := w) ?_ (hK γ _ _ _ (h.put o.dst (x := .v (.one (.ptr n off))) ⟨ob, b, h1, h2, h3, rfl⟩) hev)
      simp [execOp, ho, hv]
    · cases hev
  · rename_i t x ho; exact s_load hT hG t x ho hev h hK
  · rename_i t x y ho; exact s_store hT hG t x y ho hev h hK
  · rename_i s x f ho; exact s_fieldAddr hT hG s x f ho hev h hK
  · rename_i s x f ho; exact s_field hT hG s x f ho hev h hK
  · rename_i t x ix ho; exact s_indexAddr hT hG t x ix ho hev h hK
  · rename_i t x ix ho; exact s_index hT hG t x ix ho hev h hK
  · rename_i x i ho
    split at hev
    · rename_i xs hx
      split at hev
      · rename_i v hv; exact s_extract hG x i ho xs hx v hv hev h hK
      · cases hev
    · cases hev
  · rename_i t x ho
    split at hev
    · rename_i b hx; exact s_not hG t x ho b hx hev h hK
    · cases hev
  · rename_i t x ho
    split at hev
    · rename_i k n hx; exact s_neg hG t x ho k n hx hev h hK
    · cases hev
  · rename_i op t x y t2 ho
    split at hev
    · rename_i u v hx hy
      obtain ⟨hok, hev⟩ := bif_some hev
      exact s_bin hT hG op t t2 x y ho u v hx hy hok hev h hK
    · cases hev
  · rename_i src dt x ho; exact s_conv hT hG h9 src dt x ho hev h hK
  · rename_i t x lo hi ho; exact s_slice hT hG t x lo hi ho hev h hK
  · rename_i t len parts ho; exact s_buildSlice hT hG h9 t len parts ho hev h hK
  · rename_i t parts ho; exact s_build hT hG t parts ho hev h hK
  · rename_i t l c ho; exact s_make hT hG h9 t l c ho hev h hK
  · rename_i fn first captured ho
    obtain ⟨hq, hev⟩ := bif_some hev
    rw [Bool.and_eq_true] at hq
    have h1 : first = #[] := Array.eq_empty_of_size_eq_zero (Nat.eq_of_beq_eq_true hq.1)
    have h2 : captured = #[] := Array.eq_empty_of_size_eq_zero (Nat.eq_of_beq_eq_true hq.2)
    subst h1; subst h2
    exact wp_value (v := .func fn #[] #[]) (w' := w) (by simp [execOp, ho, Instr.makeFunc]) (hK γ _ _ _ (h.put o.dst (one_rep _)) hev)
  · rename_i f args tys ho
    split at hev
    · rename_i g first captured hf
      obtain ⟨hq, hev⟩ := bif_some hev
      rw [Bool.and_eq_true] at hq
      have h1 : first = #[] := Array.eq_empty_of_size_eq_zero (Nat.eq_of_beq_eq_true hq.1)
      have h2 : captured = #[] := Array.eq_empty_of_size_eq_zero (Nat.eq_of_beq_eq_true hq.2)
      subst h1; subst h2
      exact s_calls hG h9 hC f g args tys ho hf hev h hK
    · cases hev
  · rename_i args tys ho
    split at hev
    · rename_i x t ha ht; exact s_len hT hG t x args tys ho ha ht hev h hK
    · cases hev
  · rename_i args tys ho
    split at hev
    · rename_i x y ha
      split at hev
      · rename_i p q hx hy
        have hxv := sc_eq hx (opnd_rep hG h x)
        have hyv := sc_eq hy (opnd_rep hG h y)
        obtain rfl : args = #[x, y] := by rw [← Array.toArray_toList (xs := args), ha]
        refine wp_value (v := .int .i64 (if q < p then q else p)) (w' := w) ?_ (hK γ _ _ _ (h.put o.dst (one_rep _)) hev)
        simp [execOp, ho, resolve, invoke, builtin, Builtin.min_, Builtin.min2, hxv, hyv, List.foldlM]
      · cases hev
    · cases hev
  · rename_i args tys ho
    split at hev
    · rename_i x y ha
      split at hev
      · rename_i p q hx hy
        have hxv := sc_eq hx (opnd_rep hG h x)
        have hyv := sc_eq hy (opnd_rep hG h y)
        obtain rfl : args = #[x, y] := by rw [← Array.toArray_toList (xs := args), ha]
        refine wp_value (v := .int .i64 (if p < q then q else p)) (w' := w) ?_ (hK γ _ _ _ (h.put o.dst (one_rep _)) hev)
        simp [execOp, ho, resolve, invoke, builtin, Builtin.max_, Builtin.max2, hxv, hyv, List.foldlM]
      · cases hev
    · cases hev
  · rename_i args tys ho
    split at hev
    · rename_i x y t t2 ha ht; exact s_append hT hG h9 t t2 x y args tys ho ha ht hev h hK
    · cases hev
  · cases hev

/-- A slot told otherwise, of the same value. -/
theorem Inv.reslot (h : Inv C γ σ a w) (d : Nat) (x : IV) (hx : RepI γ σ.ob w (FF γ σ.ob C.N) x (a.tmps.getD d undef)) : Inv C γ { sl := σ.sl.set d x, ob := σ.ob } a w := by
  refine ⟨by simp [h.size], h.defers, fun t => ?_, h.objs, h.inj, h.own, h.since, h.root⟩
  have hs := h.slots t
  show RepI γ σ.ob w _ ((σ.sl.set d x).getD t botI) _
  rw [List.getD_eq_getElem?_getD, List.getElem?_set]
  by_cases hd : d = t
  · subst hd
    rw [if_pos rfl]
    by_cases hlt : d < σ.sl.length
    · rw [if_pos hlt]; exact hx
    · rw [if_neg hlt]; trivial
  · rw [if_neg hd, ← List.getD_eq_getElem?_getD]; exact hs

theorem yielded_of {ops : Array Oper} {tmps : Array Value} {j d : Nat} {v : Value} (hd : (ops[j]?).bind (·.dst) = some d) (hv : tmps.getD d undef = v) :
    (∀ b, v = .bool b → yielded ops tmps j = some b) ∧ (v = undef → yielded ops tmps j = none) := by
  rw [Array.getD_eq_getD_getElem?] at hv
  constructor
  · intro b hb
    unfold yielded
    rw [hd, Option.bind_some]
    cases ht : tmps[d]? with
    | none => rw [ht] at hv; subst hv; cases hb
    | some u => rw [ht] at hv; simp only [Option.getD_some] at hv; rw [hv, hb]
  · intro hu
    unfold yielded
    rw [hd, Option.bind_some]
    cases ht : tmps[d]? with
    | none => rfl
    | some u => rw [ht] at hv; simp only [Option.getD_some] at hv; rw [hv, hu]; rfl

/-- One operation, if its guard wants it. -/
theorem step_sound (hT : TabOk C.P C.T) (hG : GlobOk C) (h9 : NrO C o) {call : CallT} (hC : CallOk C.P C.T call) {ops : Array Oper} (hev : stepG C.T call ops o σ K = some r) (h : Inv C γ σ a w)
    (hK : ∀ γ' σ' a' w', Inv C γ' σ' a' w' → K σ' = some r → next a' w') :
    if Region.wanted o (yielded ops a.tmps) then o.wp C.P a w next Q ∨ (o.asks C.P a w ∧ LetsOut Q) else next (a.put o.dst undef) w := by
  have hund : ∀ (σ1 : St), Inv C γ σ1 a w → Inv C γ (put o.dst undI σ1) (a.put o.dst undef) w := fun σ1 h1 => h1.put o.dst (x := undI) ⟨#[], rfl, rfl, fun j x u hx => by simp at hx⟩
  have run : ∀ (σ1 : St), Inv C γ σ1 a w → Region.wanted o (yielded ops a.tmps) = true → evCore C.T call o σ1 K = some r →
      if Region.wanted o (yielded ops a.tmps) then o.wp C.P a w next Q ∨ (o.asks C.P a w ∧ LetsOut Q) else next (a.put o.dst undef) w := by
    intro σ1 h1 hw hc
    rw [if_pos hw]
    exact .inl (core_sound hT hG h9 hC hc h1 hK)
  have skip : ∀ (σ1 : St), Inv C γ σ1 a w → Region.wanted o (yielded ops a.tmps) = false → K (put o.dst undI σ1) = some r →
      if Region.wanted o (yielded ops a.tmps) then o.wp C.P a w next Q ∨ (o.asks C.P a w ∧ LetsOut Q) else next (a.put o.dst undef) w := by
    intro σ1 h1 hw hc
    rw [if_neg (by rw [hw]; simp)]
    exact hK γ _ _ w (hund σ1 h1) hc
  rw [stepG] at hev
  split at hev
  · rename_i hg
    exact run σ h (by unfold Region.wanted; rw [hg]) hev
  · rename_i j want hg
    split at hev
    · cases hev
    rename_i d hd
    have hs := h.slots d
    split at hev
    · rename_i b hb
      rw [hb] at hs
      have hv : a.tmps.getD d undef = .bool b := hs
      have hy := (yielded_of hd hv).1 b rfl
      have hw : Region.wanted o (yielded ops a.tmps) = (some b == some want) := by unfold Region.wanted; rw [hg]; dsimp only; rw [hy]
      cases b with
      | true =>
        simp only [cond_true] at hev
        have h1 := h.reslot d (.v (.one (.fc (.sc (.bool true))))) hv
        cases want with
        | true => exact run _ h1 (by rw [hw]; rfl) hev
        | false => exact skip _ h1 (by rw [hw]; rfl) hev
      | false =>
        simp only [cond_false] at hev
        have h1 := h.reslot d (.v (.one (.fc (.sc (.bool false))))) hv
        cases want with
        | true => exact skip _ h1 (by rw [hw]; rfl) hev
        | false => exact run _ h1 (by rw [hw]; rfl) hev
    · rename_i hb
      rw [hb] at hs
      obtain ⟨arr, hv, hl, _⟩ := hs
      have ha : arr = #[] := Array.eq_empty_of_size_eq_zero hl.symm
      subst ha
      have hy := (yielded_of hd hv).2 rfl
      exact skip σ h (by unfold Region.wanted; rw [hg]; dsimp only; rw [hy]; cases want <;> rfl) hev
    · cases hev

theorem ops_sound (hT : TabOk C.P C.T) (hG : GlobOk C) {call : CallT} (hC : CallOk C.P C.T call) (ops : Array Oper) : ∀ (l : List Oper) (γ : Nat → Value) (σ : St) (a : Act) (w : World),
    (∀ o ∈ l, NrO C o) → evOps C.T call ops l σ K = some r → Inv C γ σ a w → (∀ γ' σ' a' w', Inv C γ' σ' a' w' → K σ' = some r → Q .normal a' w') → wpList C.P ops Q l a w
  | [], γ, σ, a, w, _, hev, h, hK => hK γ σ a w h hev
  | o :: l, γ, σ, a, w, h9, hev, h, hK => by
    rw [evOps] at hev
    unfold wpList
    exact step_sound hT hG (h9 o (by simp)) hC hev h fun γ' σ' a' w' h' hk => ops_sound hT hG hC ops l γ' σ' a' w' (fun o ho => h9 o (by simp [ho])) hk h' hK

theorem Inv.eqv {σ' : St} (h : Inv C γ σ a w) (k : Eqv σ σ') : Inv C γ σ' a w := by
  have hFF : ∀ b, FF γ σ'.ob C.N b → FF γ σ.ob C.N b := fun b hb => by
    rcases hb with hb | ⟨n, o, ho, hb⟩
    · exact .inl hb
    · exact .inr ⟨n, o, by rw [k.ob]; exact ho, hb⟩
  refine h.step (fun _ => false) (fun _ => false) (by rw [map_scI_none, k.sl]) (fun n o' _ ho => ⟨o', by rw [k.ob]; exact ho, (scO_none o').symm⟩) (fun _ _ h => by cases h)
    (fun n _ o ho => ⟨rfl, o, by rw [← k.ob]; exact ho, rfl⟩) (fun _ _ => rfl) (fun _ _ _ _ _ _ => rfl) (Stay.less fun b _ hb => hFF b hb)
    (fun n n' o o' b h1 h2 => h.inj n n' o o' b (by rw [k.ob]; exact h1) (by rw [k.ob]; exact h2)) (fun n o b h1 => h.own n o b (by rw [k.ob]; exact h1)) h.since h.root

/-- Any order. -/
theorem any_sound (hT : TabOk C.P C.T) (hG : GlobOk C) {call : CallT} (hC : CallOk C.P C.T call) (ops : Array Oper) (h9 : ∀ o ∈ ops.toList, NrO C o) (recs : List Rec)
    (hK : ∀ γ' σ' a' w', Inv C γ' σ' a' w' → K σ' = some r → Q .normal a' w') : ∀ (n : Nat) (listed : Array Bool) (γ : Nat → Value) (σ : St) (a : Act) (w : World),
    EvAny C.T call ops recs K r n listed σ → Inv C γ σ a w → wpAny C.P .any ops Q n listed a w
  | 0, listed, γ, σ, a, w, hev, h => ⟨hev.1, by obtain ⟨σ', h1, h2⟩ := hev.2; exact hK γ σ' a w (h.eqv h1) h2⟩
  | n + 1, listed, γ, σ, a, w, hev, h => by
    refine ⟨fun hr => by obtain ⟨σ', h1, h2⟩ := hev.1 hr; exact hK γ σ' a w (h.eqv h1) h2, fun i hi => ?_⟩
    obtain ⟨o, e, ho, hF, hg, hall⟩ := hev.2 i hi
    obtain ⟨σ1, hd, hs⟩ := hg.2 σ AgreeG.refl hF
    obtain ⟨_, hnext⟩ := hall σ1 hd
    unfold wpOp
    simp only [ho]
    classical
    refine step_sound (R := Unit) (r := ()) (K := fun σ' => if σ' = σ1 then some () else none) hT hG (h9 o (by rw [Array.mem_toList_iff]; exact Array.mem_of_getElem? ho)) hC (by rw [hs]; simp) h fun γ' σ' a' w' h' hk => ?_
    have he : σ' = σ1 := by
      by_cases he : σ' = σ1
      · exact he
      · simp [he] at hk
    subst he
    exact any_sound hT hG hC ops h9 recs hK n _ γ' σ' a' w' hnext h'

theorem get_park_back (p : Nat → Bool) : ∀ (l : List (Nat × Ob)) (m : Nat) (o' : Ob), get (l.map fun x => (pkN p x.1, pkO p x.2)) m = some o' → ∃ n o, m = pkN p n ∧ get l n = some o ∧ o' = pkO p o
  | [], m, o', h => by cases h
  | (k, x) :: l, m, o', h => by
    simp only [List.map_cons, get] at h
    split at h
    · rename_i hk; cases h; exact ⟨k, x, hk.symm, by simp [get], rfl⟩
    · rename_i hk
      obtain ⟨n, o, h1, h2, h3⟩ := get_park_back p l m o' h
      refine ⟨n, o, h1, ?_, h3⟩
      rw [get, if_neg (fun e => hk (by rw [e]; exact h1.symm))]; exact h2

theorem get_park_to (p : Nat → Bool) : ∀ (l l0 : List (Nat × Ob)) (n : Nat) (o : Ob), (∀ x ∈ l0, p x.1 = true → ∀ y ∈ l0, y.1 ≠ x.1 + 400) → (∀ x ∈ l, x ∈ l0) → get l n = some o →
    get (l.map fun x => (pkN p x.1, pkO p x.2)) (pkN p n) = some (pkO p o)
  | [], _, n, o, _, _, h => by cases h
  | (k, x) :: l, l0, n, o, hp, hl, h => by
    have hn : ∃ y ∈ l0, y.1 = n := by
      have : ∀ (l : List (Nat × Ob)), get l n = some o → ∃ y ∈ l, y.1 = n := by
        intro l
        induction l with
        | nil => intro h; cases h
        | cons z l ih =>
          intro h
          obtain ⟨zk, zo⟩ := z
          rw [get] at h
          split at h
          · rename_i hz; exact ⟨_, List.mem_cons_self .., hz⟩
          · obtain ⟨y, hy, e⟩ := ih h; exact ⟨y, List.mem_cons_of_mem _ hy, e⟩
      obtain ⟨y, hy, e⟩ := this _ h
      exact ⟨y, hl y hy, e⟩
    obtain ⟨y, hy, hyn⟩ := hn
    rw [get] at h
    simp only [List.map_cons, get]
    split at h
    · rename_i hk; cases h; subst hk; simp
    · rename_i hk
      rw [if_neg]
      · exact get_park_to p l l0 n o hp (fun z hz => hl z (List.mem_cons_of_mem _ hz)) h
      · intro e
        have hkl : (k, x) ∈ l0 := hl _ (List.mem_cons_self ..)
        unfold pkN at e
        cases h1 : p k <;> cases h2 : p n <;> rw [h1, h2] at e <;> simp only [cond_true, cond_false] at e
        · exact hk e
        · exact hp y hy (by rw [hyn]; exact h2) (k, x) hkl (by rw [hyn]; exact e)
        · exact hp (k, x) hkl h1 y hy (by rw [hyn]; exact e.symm)
        · exact hk (by omega)

theorem shp_pkO (p : Nat → Bool) (o : Ob) : shp (pkO p o) = shp o := by cases o <;> rfl

theorem Inv.park (h : Inv C γ σ a w) (p : Nat → Bool) (hok : parkOk p σ = true) : ∃ γ', Inv C γ' (Iv.park p σ) a w := by
  have hp : ∀ x ∈ σ.ob, p x.1 = true → p (x.1 + 400) = false ∧ x.1 + 400 ≠ 900 ∧ ∀ y ∈ σ.ob, y.1 ≠ x.1 + 400 := by
    intro x hx hpx
    have := List.all_eq_true.1 hok x hx
    rw [hpx] at this
    simp only [Bool.not_true, Bool.false_or, Bool.and_eq_true, Bool.not_eq_true'] at this
    refine ⟨this.1, fun e => by rw [e] at this; simp at this, fun y hy e => ?_⟩
    have h2 := List.all_eq_true.1 this.2.2 y hy
    rw [e] at h2; simp at h2
  have hin : ∀ n o, get σ.ob n = some o → ∃ y ∈ σ.ob, y.1 = n := by
    intro n o
    have : ∀ (l : List (Nat × Ob)), get l n = some o → ∃ y ∈ l, y.1 = n := by
      intro l
      induction l with
      | nil => intro h; cases h
      | cons z l ih =>
        intro h
        obtain ⟨zk, zo⟩ := z
        rw [get] at h
        split at h
        · rename_i hz; exact ⟨_, List.mem_cons_self .., hz⟩
        · obtain ⟨y, hy, e⟩ := ih h; exact ⟨y, List.mem_cons_of_mem _ hy, e⟩
    exact this σ.ob
  classical
  let γ' : Nat → Value := fun m => if 400 ≤ m ∧ p (m - 400) = true ∧ ∃ y ∈ σ.ob, y.1 = m - 400 then γ (m - 400) else γ m
  have hγ : ∀ n o, get σ.ob n = some o → γ' (pkN p n) = γ n := by
    intro n o hn
    obtain ⟨y, hy, e⟩ := hin n o hn
    simp only [γ', pkN]
    cases hpn : p n with
    | true =>
      simp only [cond_true]
      rw [if_pos ⟨Nat.le_add_left _ _, by rw [Nat.add_sub_cancel]; exact hpn, y, hy, by rw [Nat.add_sub_cancel]; exact e⟩, Nat.add_sub_cancel]
    | false =>
      simp only [cond_false]
      rw [if_neg]
      rintro ⟨h1, h2, z, hz, hzn⟩
      exact (hp z hz (by rw [hzn]; exact h2)).2.2 y hy (by omega)
  have hto : ∀ n o, get σ.ob n = some o → get (Iv.park p σ).ob (pkN p n) = some (pkO p o) := fun n o hn =>
    get_park_to p σ.ob σ.ob n o (fun x hx hpx => (hp x hx hpx).2.2) (fun _ h => h) hn
  have hback : ∀ m o', get (Iv.park p σ).ob m = some o' → ∃ n o, m = pkN p n ∧ get σ.ob n = some o ∧ o' = pkO p o := fun m o' hm => get_park_back p σ.ob m o' hm
  have hFF : ∀ b, FF γ' (Iv.park p σ).ob C.N b → FF γ σ.ob C.N b := by
    intro b hb
    rcases hb with hb | ⟨m, o', hm, hb⟩
    · exact .inl hb
    · obtain ⟨n, o, rfl, hn, _⟩ := hback m o' hm
      rw [hγ n o hn] at hb; exact .inr ⟨n, o, hn, hb⟩
  have hst : Stay (FF γ σ.ob C.N) w (FF γ' (Iv.park p σ).ob C.N) w := Stay.less fun b _ hb => hFF b hb
  have hC : ∀ (c : Cell) (v : Value), RepC γ σ.ob w (FF γ σ.ob C.N) c v → RepC γ' (Iv.park p σ).ob w (FF γ' (Iv.park p σ).ob C.N) (pkC p c) v := by
    intro c v hr
    cases c with
    | bot => trivial
    | fc c => exact RepFC.stay hst hr
    | hdr n =>
      obtain ⟨rfl, o, ho, hs⟩ := hr
      exact ⟨(hγ n o ho).symm, _, hto n o ho, by rw [shp_pkO]; exact hs⟩
    | ptr n off =>
      obtain ⟨o, b, ho, hs, hb, rfl⟩ := hr
      exact ⟨_, b, hto n o ho, by rw [shp_pkO]; exact hs, by rw [hγ n o ho]; exact hb, rfl⟩
    | ep n i off =>
      obtain ⟨o, b, l, c, ho, hs, hb, hi, rfl⟩ := hr
      exact ⟨_, b, l, c, hto n o ho, by rw [shp_pkO]; exact hs, by rw [hγ n o ho]; exact hb, by rw [shp_pkO]; exact hi, by rw [shp_pkO]⟩
    | lp cs off =>
      obtain ⟨b, o, vs, rfl, hr, hc⟩ := hr
      refine ⟨b, o, vs, rfl, hr.stay hst, fun j u hu => ?_⟩
      obtain ⟨hF, hcell⟩ := hc j u hu
      exact ⟨fun hb => hF (hFF _ hb), hcell⟩
  have hCs : ∀ (cs : List Cell) (vs : List Value), RepCs γ σ.ob w (FF γ σ.ob C.N) cs vs → RepCs γ' (Iv.park p σ).ob w (FF γ' (Iv.park p σ).ob C.N) (cs.map (pkC p)) vs := by
    intro cs vs hr
    refine ⟨by simpa using hr.1, fun j c u hc hu => ?_⟩
    rw [List.getElem?_map, Option.map_eq_some_iff] at hc
    obtain ⟨c0, hc0, rfl⟩ := hc
    exact hC c0 u (hr.2 j c0 u hc0 hu)
  have hV : ∀ (x : V1) (v : Value), RepV1 γ σ.ob w (FF γ σ.ob C.N) x v → RepV1 γ' (Iv.park p σ).ob w (FF γ' (Iv.park p σ).ob C.N) (pkV1 p x) v := by
    intro x v hr
    cases x with
    | one c => exact hC c v hr
    | agg cs => obtain ⟨arr, rfl, hr⟩ := hr; exact ⟨arr, rfl, hCs cs _ hr⟩
  refine ⟨γ', ⟨by show a.tmps.size = (σ.sl.map _).length; rw [List.length_map]; exact h.size, h.defers, fun t => ?_, fun m o' hm => ?_, fun m m' o1 o2 b h1 h2 h3 h4 => ?_, fun m o1 b h1 h2 => ?_, h.since, fun b hb => ?_⟩⟩
  · have hs := h.slots t
    show RepI γ' _ w _ ((σ.sl.map (pkI p)).getD t botI) _
    rw [List.getD_eq_getElem?_getD, List.getElem?_map]
    rw [List.getD_eq_getElem?_getD] at hs
    cases hx : σ.sl[t]? with
    | none => trivial
    | some x =>
      rw [hx] at hs
      simp only [Option.map_some, Option.getD_some] at hs ⊢
      cases x with
      | v x => exact hV x _ hs
      | tup xs =>
        obtain ⟨arr, hv, hl, hr⟩ := hs
        refine ⟨arr, hv, by simpa using hl, fun j y u hy hu => ?_⟩
        rw [List.getElem?_map, Option.map_eq_some_iff] at hy
        obtain ⟨y0, hy0, rfl⟩ := hy
        exact hV y0 u (hr j y0 u hy0 hu)
  · obtain ⟨n, o, rfl, hn, rfl⟩ := hback m o' hm
    have ho := h.objs n o hn
    cases o with
    | cells cs =>
      obtain ⟨b, arr, e, hg, hh, hr⟩ := ho
      exact ⟨b, arr, e, by rw [hγ n _ hn]; exact hg, hh, hCs cs _ hr⟩
    | rows t e xs =>
      obtain ⟨fl, f1, f2, f3⟩ := ho
      exact ⟨fl, by rw [hγ n _ hn]; exact f1, f2, fun i x hi => (f3 i x hi).stay hst⟩
    | bytes xs =>
      obtain ⟨b, arr, e, lo, hi, cap, hg, rest⟩ := ho
      exact ⟨b, arr, e, lo, hi, cap, by rw [hγ n _ hn]; exact hg, rest⟩
  · obtain ⟨n, x1, rfl, hn, _⟩ := hback m o1 h1
    obtain ⟨n', x2, rfl, hn', _⟩ := hback m' o2 h2
    rw [hγ n _ hn] at h3; rw [hγ n' _ hn'] at h4
    rw [h.inj n n' x1 x2 b hn hn' h3 h4]
  · obtain ⟨n, x1, rfl, hn, _⟩ := hback m o1 h1
    rw [hγ n _ hn] at h2
    exact h.own n x1 b hn h2
  · have hr := h.root b hb
    have hno : ¬ (400 ≤ 900 ∧ p (900 - 400) = true ∧ ∃ y ∈ σ.ob, y.1 = 900 - 400) := by
      rintro ⟨_, h2, z, hz, hzn⟩
      exact (hp z hz (by rw [hzn]; exact h2)).2.1 (by omega)
    exact (if_neg hno).trans hr

theorem region_sound (hT : TabOk C.P C.T) (hG : GlobOk C) {call : CallT} (hC : CallOk C.P C.T call) (id : Nat) (ops : Array Oper) (draw : Bool) (h9 : ∀ o ∈ ops.toList, NrO C o)
    (hev : evRegion C.T call ops draw σ K = some r) (h : Inv C γ σ a w) (hK : ∀ γ' σ' a' w', Inv C γ' σ' a' w' → K σ' = some r → Q .normal a' w') : (Code.region id ops draw).wp C.P Q a w := by
  unfold evRegion at hev
  cases draw with
  | false =>
    rw [cond_false] at hev
    cases hp : parkS ops σ with
    | false => rw [hp, cond_false] at hev; exact wp_region_list (ops_sound hT hG hC ops ops.toList γ σ a w h9 hev h hK)
    | true =>
      rw [hp, cond_true] at hev
      have hq : parkOk (ofOps ops) σ = true := by
        unfold parkS at hp; simp only [Bool.and_eq_true] at hp; exact hp.2.2
      obtain ⟨γ', hI⟩ := h.park _ hq
      exact wp_region_list (ops_sound hT hG hC ops ops.toList γ' _ a w h9 hev hI hK)
  | true =>
    rw [cond_true] at hev
    have hdn : Dn ops (Array.replicate ops.size false) := fun k o ho hk => by
      rw [Array.getD_eq_getD_getElem?, Array.getElem?_replicate] at hk
      split at hk <;> simp at hk
    obtain ⟨recs, _, _, hany⟩ := draw_any ops.size _ _ [] hdn hev
    have hI : ∃ γ', Inv C γ' (bif σ.ob.any fun x => ofOps ops x.1 then (bif parkOk (ofOps ops) σ then Iv.park (ofOps ops) σ else Iv.drop (ofOps ops) σ) else σ) a w := by
      cases (σ.ob.any fun x => ofOps ops x.1) with
      | true => cases hq : parkOk (ofOps ops) σ with
        | true => exact h.park _ hq
        | false => exact ⟨γ, h.drop _⟩
      | false => exact ⟨γ, h⟩
    obtain ⟨γ', hI⟩ := hI
    exact wp_region_any hT.mixed (any_sound hT hG hC ops h9 recs hK ops.size _ γ' _ a _ hany hI.drew)

theorem fillI_len : ∀ (s : List Nat) (l vs : List IV), (fillI l s vs).length = l.length
  | [], l, vs => by simp [fillI]
  | _ :: _, l, [] => by simp [fillI]
  | t :: s, l, v :: vs => by rw [fillI, fillI_len s, List.length_set]

theorem fillI_get (f : Nat → IV) (t : Nat) : ∀ (s : List Nat) (l : List IV), (fillI l s (s.map f)).getD t botI = f t ∨ (fillI l s (s.map f)).getD t botI = l.getD t botI
  | [], l => .inr (by simp [fillI])
  | u :: s, l => by
    rw [List.map_cons, fillI]
    rcases fillI_get f t s (l.set u (f u)) with h | h
    · exact .inl h
    · rw [h, List.getD_eq_getElem?_getD, List.getElem?_set]
      split
      · rename_i hu; subst hu
        split
        · exact .inl rfl
        · rename_i hlt; right; rw [List.getD_eq_getElem?_getD, List.getElem?_eq_none (by omega)]
      · right; rw [List.getD_eq_getElem?_getD]

theorem fillO_get (g : Nat → Option Ob) (n : Nat) : ∀ (o : List Nat), get (fillO o (o.map g)) n = if n ∈ o then g n else none
  | [] => by simp [fillO, get]
  | m :: o => by
    rw [List.map_cons]
    have ih := fillO_get g n o
    cases hm : g m with
    | none =>
      rw [fillO, ih]
      by_cases h : n = m
      · subst h; simp [hm]
      · simp [h]
    | some x =>
      rw [fillO, get]
      by_cases h : n = m
      · subst h; simp [hm]
      · rw [if_neg (Ne.symm h), ih]; simp [h]

theorem Inv.fewer {σ' : St} (h : Inv C γ σ a w) (hl : σ'.sl.length = σ.sl.length) (hs : ∀ t, σ'.sl.getD t botI = σ.sl.getD t botI ∨ σ'.sl.getD t botI = botI) (ho : ∀ n, get σ'.ob n = get σ.ob n) : Inv C γ σ' a w := by
  have h1 : Inv C γ { sl := σ.sl, ob := σ'.ob } a w := h.eqv ⟨rfl, fun n => (ho n).symm⟩
  refine ⟨by rw [hl]; exact h.size, h.defers, fun t => ?_, h1.objs, h1.inj, h1.own, h.since, h.root⟩
  rcases hs t with e | e
  · rw [e]; exact h1.slots t
  · rw [e]; trivial

theorem Inv.expand {N : Nat} (h : Inv C γ σ a w) (hN : σ.sl.length = N) (s o : List Nat) : Inv C γ (expand N s o (valsOf (only o σ) s) (blksOf (only o σ) o)) a w := by
  refine Inv.fewer (σ := only o σ) (h.drop _) ?_ (fun t => ?_) fun n => ?_
  · show (fillI _ _ _).length = (List.map _ σ.sl).length
    rw [fillI_len, List.length_replicate, List.length_map, hN]
  · rcases fillI_get (fun t => (only o σ).sl.getD t botI) t s (List.replicate N botI) with e | e
    · exact .inl e
    · right
      show (fillI _ _ (s.map _)).getD t botI = botI
      rw [e, List.getD_eq_getElem?_getD, List.getElem?_replicate]
      split <;> rfl
  · show get (fillO o (o.map (get (only o σ).ob))) n = _
    rw [fillO_get]
    split
    · rfl
    · rename_i hn
      have : get (only o σ).ob n = none := by
        show get (Iv.drop _ σ).ob n = none
        rw [get_drop]; simp [hn]
      rw [this]

/-- What a loop is told to come to, it comes to. -/
def LoopOk (T : Tab) (call : CallT) (F : FnK R) (p : Nat × Code) : Prop :=
  ∀ L, F.lk p.1 = some L → ∀ vs os k r, F.lp p.1 vs os k = some r → ∃ n, evLoop F.N L (fun σ k' => evC T call F p.1 p.2 σ k') n vs os k = some r

/-- Nothing is named after slot 900, if that is the name of what came in. -/
def NrC (C : Ctx) : Code → Prop
  | .region _ ops _ => ∀ o ∈ ops.toList, NrO C o
  | .seq x y => NrC C x ∧ NrC C y
  | .cond _ x y => NrC C x ∧ NrC C y
  | .block _ c => NrC C c
  | .loop c => NrC C c
  | _ => True
def nrB : Code → Bool
  | .region _ ops _ => ops.toList.all fun o => match o.dst with
    | some d => Nat.blt d 900
    | none => true
  | .seq x y => nrB x && nrB y
  | .cond _ x y => nrB x && nrB y
  | .block _ c => nrB c
  | .loop c => nrB c
  | _ => true
theorem nrC_none (h : C.rt = none) (c : Code) : NrC C c := by
  induction c with
  | region id ops draw => intro o _ d _; exact .inl h
  | seq x y ihx ihy => exact ⟨ihx, ihy⟩
  | cond c x y ihx ihy => exact ⟨ihx, ihy⟩
  | block id c ih => exact ih
  | loop c ih => exact ih
  | _ => exact trivial
theorem nrC_of (c : Code) (h : nrB c = true) : NrC C c := by
  induction c with
  | region id ops draw =>
    intro o ho d hd
    have := List.all_eq_true.1 h o ho
    simp only [hd] at this
    have := Nat.le_of_ble_eq_true this
    exact .inr (by omega)
  | seq x y ihx ihy => simp only [nrB, Bool.and_eq_true] at h; exact ⟨ihx h.1, ihy h.2⟩
  | cond c x y ihx ihy => simp only [nrB, Bool.and_eq_true] at h; exact ⟨ihx h.1, ihy h.2⟩
  | block id c ih => exact ih h
  | loop c ih => exact ih h
  | _ => exact trivial

theorem code_sound (hT : TabOk C.P C.T) (hG : GlobOk C) {call : CallT} (hC : CallOk C.P C.T call) (F : FnK R) :
    ∀ (c : Code), NrC C c → ∀ (b : Nat), (∀ p ∈ loopsOf b c, LoopOk C.T call F p) → ∀ (k : Exit → St → Option R) (Q : Exit → Act → World → Prop) (γ : Nat → Value) (σ : St) (a : Act) (w : World),
    evC C.T call F b c σ k = some r → Inv C γ σ a w → (∀ e γ' σ' a' w', Inv C γ' σ' a' w' → k e σ' = some r → Q e a' w') → c.wp C.P Q a w := by
  intro c
  induction c with
  | skip => intro _ b _ k Q γ σ a w hev h hk; exact wp_skip (hk _ γ σ a w h hev)
  | region id ops draw =>
    intro h9 b _ k Q γ σ a w hev h hk
    rw [evC] at hev
    exact region_sound hT hG hC id ops draw h9 hev h fun γ' σ' a' w' h' hk' => hk .normal γ' σ' a' w' h' hk'
  | seq x y ihx ihy =>
    intro h9 b hl k Q γ σ a w hev h hk
    rw [evC] at hev
    refine wp_seq (ihx h9.1 b (fun p hp => hl p (by rw [loopsOf]; exact List.mem_append_left _ hp)) _ _ γ σ a w hev h fun e γ' σ' a' w' h' hk' => ?_)
    cases e with
    | normal => exact ihy h9.2 b (fun p hp => hl p (by rw [loopsOf]; exact List.mem_append_right _ hp)) k Q γ' σ' a' w' hk' h' hk
    | exit id => exact hk _ γ' σ' a' w' h' hk'
    | goto l => exact hk _ γ' σ' a' w' h' hk'
    | ret => exact hk _ γ' σ' a' w' h' hk'
    | panic ch => exact hk _ γ' σ' a' w' h' hk'
    | outgrown => exact hk _ γ' σ' a' w' h' hk'
  | cond c x y ihx ihy =>
    intro h9 b hl k Q γ σ a w hev h hk
    rw [evC] at hev
    split at hev
    · rename_i t hc
      have hv := sc_eq hc (opnd_rep hG h c)
      refine wp_cond hv ?_
      cases t with
      | true => exact ihx h9.1 b (fun p hp => hl p (by rw [loopsOf]; exact List.mem_append_left _ hp)) k Q γ σ a w hev h hk
      | false => exact ihy h9.2 b (fun p hp => hl p (by rw [loopsOf]; exact List.mem_append_right _ hp)) k Q γ σ a w hev h hk
    · cases hev
  | block id c ih =>
    intro h9 b hl k Q γ σ a w hev h hk
    rw [evC] at hev
    refine wp_block (ih h9 id (fun p hp => hl p (by rw [loopsOf]; exact hp)) _ _ γ σ a w hev h fun e γ' σ' a' w' h' hk' => ?_)
    cases e with
    | normal => exact hk _ γ' σ' a' w' h' hk'
    | exit j =>
      simp only at hk'
      unfold Exit.inBlock
      by_cases hj : j = id
      · rw [if_pos hj] at hk'; simp only [if_pos hj]; exact hk _ γ' σ' a' w' h' hk'
      · rw [if_neg hj] at hk'; simp only [if_neg hj]; exact hk _ γ' σ' a' w' h' hk'
    | goto l => exact hk _ γ' σ' a' w' h' hk'
    | ret => exact hk _ γ' σ' a' w' h' hk'
    | panic ch => exact hk _ γ' σ' a' w' h' hk'
    | outgrown => exact hk _ γ' σ' a' w' h' hk'
  | loop c ih =>
    intro h9 b hl k Q γ σ a w hev h hk
    rw [evC] at hev
    split at hev
    · cases hev
    rename_i L hL
    obtain ⟨hN, hev⟩ := bif_some hev
    have hN' := Nat.eq_of_beq_eq_true hN
    obtain ⟨n, hn⟩ := hl (b, c) (by rw [loopsOf]; exact List.mem_cons_self) L hL _ _ _ _ hev
    have key : ∀ (n : Nat) (vs : List IV) (os : List (Option Ob)) (γ : Nat → Value) (a : Act) (w : World),
        evLoop F.N L (fun σ k' => evC C.T call F b c σ k') n vs os (fun e vs os => (match L.out e with
          | none => none
          | some (s, o) => k e (Iv.expand F.N s o vs os))) = some r → Inv C γ (Iv.expand F.N L.hs L.ho vs os) a w → Code.rounds C.P c Q n a w := by
      intro n
      induction n with
      | zero => intro vs os γ a w hev _; cases hev
      | succ n ihn =>
        intro vs os γ a w hev h
        rw [evLoop] at hev
        rw [rounds_succ]
        refine ih h9 b (fun p hp => hl p (by rw [loopsOf]; exact List.mem_cons_of_mem _ hp)) _ _ γ _ a w hev h fun e γ' σ' a' w' h' hk' => ?_
        have out : ∀ e, (match L.out e with
            | none => none
            | some (s, o) => bif Nat.beq σ'.sl.length F.N then (match L.out e with
              | none => none
              | some (s', o') => k e (Iv.expand F.N s' o' (valsOf (only o σ') s) (blksOf (only o σ') o))) else none) = some r → Q e a' w' := by
          intro e he
          split at he
          · cases he
          rename_i s o ho
          obtain ⟨hN, he⟩ := bif_some he
          exact hk e γ' _ a' w' (h'.expand (Nat.eq_of_beq_eq_true hN) s o) he
        cases e with
        | normal =>
          dsimp only at hk'
          obtain ⟨hN, hk'⟩ := bif_some hk'
          exact ihn _ _ γ' a' w' hk' (h'.expand (Nat.eq_of_beq_eq_true hN) _ _)
        | exit id => exact out _ hk'
        | goto l => exact out _ hk'
        | ret => exact out _ hk'
        | panic ch => exact out _ hk'
        | outgrown => exact out _ hk'
    exact wp_loop_rounds n (key n _ _ γ a w hn (h.expand hN' _ _))
  | rangeFunc f ps x y _ _ => intro _ b _ k Q γ σ a w hev h hk; simp [evC] at hev
  | exit id => intro _ b _ k Q γ σ a w hev h hk; exact wp_exit (hk _ γ σ a w h hev)
  | scope c _ => intro _ b _ k Q γ σ a w hev h hk; simp [evC] at hev
  | label l => intro _ b _ k Q γ σ a w hev h hk; simp [evC] at hev
  | goto l => intro _ b _ k Q γ σ a w hev h hk; simp [evC] at hev
  | ret => intro _ b _ k Q γ σ a w hev h hk; exact wp_ret (hk _ γ σ a w h hev)
  | refuse s => intro _ b _ k Q γ σ a w hev h hk; simp [evC] at hev

end
end Go.Iv

/- A function's contract out of the evaluator. -/
namespace Go.Iv
open Go.RowKit

section
variable {C : Ctx} {γ : Nat → Value} {σ : St} {a : Act} {w : World}

def RepQ (γ : Nat → Value) (ob : List (Nat × Ob)) (w : World) (F : Nat → Prop) : RC → Value → Prop
  | .fc c, v => RepFC w F c v
  | .buf t e xs, v => (v = .slice none 0 0 ∧ xs = []) ∨ ∃ n, get ob n = some (.rows t e xs) ∧ v = γ n

structure PK (γ : Nat → Value) (ob : List (Nat × Ob)) (w : World) (F : Nat → Prop) (u0 u1 : List Nat) (rs : List RC) (vs : List Value) : Prop where
  len : rs.length = vs.length
  rep : ∀ (j : Nat) (c : RC) (u : Value), rs[j]? = some c → vs[j]? = some u → RepQ γ ob w F c u
  nms : ∀ (j : Nat) (c : RC) (u : Value) (b : Nat), rs[j]? = some c → isBuf c = true → vs[j]? = some u → blk u = some b → ∃ n o, n ∈ u1 ∧ n ∉ u0 ∧ get ob n = some o ∧ blk (γ n) = some b
  sub : ∀ n ∈ u0, n ∈ u1
  inj : ∀ (j k : Nat) (c d : RC) (u v : Value) (b : Nat), rs[j]? = some c → isBuf c = true → vs[j]? = some u → blk u = some b →
    rs[k]? = some d → isBuf d = true → vs[k]? = some v → blk v = some b → j = k

theorem PK.nil (u : List Nat) {F : Nat → Prop} {ob : List (Nat × Ob)} : PK γ ob w F u u [] [] :=
  ⟨rfl, fun j c u h => by simp at h, fun j c u b h => by simp at h, fun _ h => h, fun j k c d u v b h => by simp at h⟩

theorem PK.append (h : Inv C γ σ a w) {F : Nat → Prop} {u0 u1 u2 : List Nat} {r1 r2 : List RC} {v1 v2 : List Value} (p : PK γ σ.ob w F u0 u1 r1 v1) (q : PK γ σ.ob w F u1 u2 r2 v2) : PK γ σ.ob w F u0 u2 (r1 ++ r2) (v1 ++ v2) := by
  have cut : ∀ {j : Nat} {c : RC} {u : Value}, (r1 ++ r2)[j]? = some c → (v1 ++ v2)[j]? = some u → (r1[j]? = some c ∧ v1[j]? = some u ∧ j < r1.length) ∨ (r2[j - r1.length]? = some c ∧ v2[j - r1.length]? = some u ∧ r1.length ≤ j) := by
    intro j c u hc hu
    by_cases hj : j < r1.length
    · rw [List.getElem?_append_left hj] at hc
      rw [List.getElem?_append_left (by rw [← p.len]; exact hj)] at hu
      exact .inl ⟨hc, hu, hj⟩
    · rw [List.getElem?_append_right (by omega)] at hc
      rw [List.getElem?_append_right (by rw [← p.len]; omega), ← p.len] at hu
      exact .inr ⟨hc, hu, by omega⟩
  refine ⟨by simp [p.len, q.len], fun j c u hc hu => ?_, fun j c u b hc hb hu hbl => ?_, fun n hn => q.sub n (p.sub n hn), fun j k c d u v b hc hb hu hbl hd hb' hv hbl' => ?_⟩
  · rcases cut hc hu with ⟨h1, h2, _⟩ | ⟨h1, h2, _⟩
    · exact p.rep j c u h1 h2
    · exact q.rep _ c u h1 h2
  · rcases cut hc hu with ⟨h1, h2, _⟩ | ⟨h1, h2, _⟩
    · obtain ⟨n, o, m1, m2, m3⟩ := p.nms j c u b h1 hb h2 hbl; exact ⟨n, o, q.sub n m1, m2, m3⟩
    · obtain ⟨n, o, m1, m2, m3⟩ := q.nms _ c u b h1 hb h2 hbl; exact ⟨n, o, m1, fun hn => m2 (p.sub n hn), m3⟩
  · rcases cut hc hu with ⟨h1, h2, h3⟩ | ⟨h1, h2, h3⟩ <;> rcases cut hd hv with ⟨k1, k2, k3⟩ | ⟨k1, k2, k3⟩
    · exact p.inj j k c d u v b h1 hb h2 hbl k1 hb' k2 hbl'
    · obtain ⟨n, o, m1, m2, m3, m4⟩ := p.nms j c u b h1 hb h2 hbl
      obtain ⟨n', o', l1, l2, l3, l4⟩ := q.nms _ d v b k1 hb' k2 hbl'
      have := h.inj n n' o o' b m3 l3 m4 l4
      subst this; exact absurd m1 l2
    · obtain ⟨n, o, m1, m2, m3, m4⟩ := q.nms _ c u b h1 hb h2 hbl
      obtain ⟨n', o', l1, l2, l3, l4⟩ := p.nms k d v b k1 hb' k2 hbl'
      have := h.inj n n' o o' b m3 l3 m4 l4
      subst this; exact absurd l1 m2
    · have := q.inj _ _ c d u v b h1 hb h2 hbl k1 hb' k2 hbl'; omega

theorem packC_rep {F : Nat → Prop} {used used' : List Nat} {ty : Option (Ty × TypeId)} {c : Cell} {rc : RC} {v : Value} (hp : packC σ.ob used ty c = some (rc, used'))
    (hr : RepC γ σ.ob w F c v) : PK γ σ.ob w F used used' [rc] [v] := by
  have one : ∀ (rc : RC) (u' : List Nat), RepQ γ σ.ob w F rc v → (∀ n ∈ used, n ∈ u') → (∀ b, isBuf rc = true → blk v = some b → ∃ n o, n ∈ u' ∧ n ∉ used ∧ get σ.ob n = some o ∧ blk (γ n) = some b) → PK γ σ.ob w F used u' [rc] [v] := by
    intro rc u' h1 h2 h3
    refine ⟨rfl, fun j c u hc hu => ?_, fun j c u b hc hb hu hbl => ?_, h2, fun j k c d u v b hc _ _ _ hd _ _ _ => ?_⟩
    · match j with
      | 0 => cases hc; cases hu; exact h1
      | j + 1 => simp at hc
    · match j with
      | 0 => cases hc; cases hu; exact h3 b hb hbl
      | j + 1 => simp at hc
    · match j, k with
      | 0, 0 => rfl
      | j + 1, _ => simp at hc
      | 0, k + 1 => simp at hd
  unfold packC at hp
  split at hp
  · split at hp
    · cases hp
      have hv : v = .slice none 0 0 := hr
      refine one _ _ (.inl ⟨hv, rfl⟩) (fun _ h => h) (fun b _ hb => by rw [hv] at hb; cases hb)
    · cases hp
      exact one _ _ hr (fun _ h => h) (fun b hb => by cases hb)
  · cases hp
    exact one _ _ hr (fun _ h => h) (fun b hb => by cases hb)
  · rename_i n
    cases hu : used.contains n with
    | true => rw [hu] at hp; cases hp
    | false =>
      rw [hu] at hp
      simp only [cond_false] at hp
      split at hp
      · rename_i t e xs hg
        cases hp
        obtain ⟨hv, _⟩ := hr
        refine one _ _ (.inr ⟨n, hg, hv⟩) (fun m hm => List.mem_cons_of_mem _ hm) (fun b _ hb => ⟨n, _, List.mem_cons_self .., fun hn => ?_, hg, by rw [← hv]; exact hb⟩)
        rw [List.contains_iff_mem.2 hn] at hu; cases hu
      · cases hp
  · cases hp

theorem packCs_rep (h : Inv C γ σ a w) {F : Nat → Prop} : ∀ (cs : List Cell) (tys : List (Option (Ty × TypeId))) (used used' : List Nat) (rs : List RC) (vs : List Value), packCs σ.ob used tys cs = some (rs, used') →
    RepCs γ σ.ob w F cs vs → PK γ σ.ob w F used used' rs vs
  | [], [], used, used', rs, vs, hp, hr => by
    cases hp
    have : vs = [] := List.eq_nil_of_length_eq_zero hr.1.symm
    subst this; exact PK.nil used
  | c :: cs, ty :: tys, used, used', rs, vs, hp, hr => by
    rw [packCs] at hp
    split at hp
    · cases hp
    rename_i rc u1 hc
    split at hp
    · cases hp
    rename_i rs' u2 hcs
    obtain ⟨rfl, rfl⟩ : rc :: rs' = rs ∧ u2 = used' := by cases hp; exact ⟨rfl, rfl⟩
    match vs, hr.1 with
    | v :: vs, hlen =>
      have p1 := packC_rep (F := F) hc (hr.2 0 c v rfl rfl)
      have p2 := packCs_rep h cs tys u1 u2 rs' vs hcs ⟨by simpa using hlen, fun j c u hc hu => hr.2 (j + 1) c u (by simpa using hc) (by simpa using hu)⟩
      exact p1.append h p2
  | [], _ :: _, _, _, _, _, hp, _ => by simp [packCs] at hp
  | _ :: _, [], _, _, _, _, hp, _ => by simp [packCs] at hp

theorem pack1_rep (h : Inv C γ σ a w) {F : Nat → Prop} {T : Tab} {used used' : List Nat} {t : TypeId} {x : V1} {y : R1} {v : Value} (hp : pack1 T σ.ob used t x = some (y, used'))
    (hr : RepV1 γ σ.ob w F x v) : ∃ vs, Sh1 y v vs ∧ PK γ σ.ob w F used used' y.cs vs := by
  unfold pack1 at hp
  split at hp
  · split at hp
    · split at hp
      · rename_i rc u hc; cases hp; exact ⟨[v], rfl, packC_rep hc hr⟩
      · cases hp
    · cases hp
  · split at hp
    · rename_i rs u hcs
      cases hp
      obtain ⟨arr, rfl, hr⟩ := hr
      have p := packCs_rep h _ _ _ _ _ _ hcs hr
      exact ⟨arr.toList, ⟨arr, rfl, rfl, by have := p.len; simpa using this⟩, p⟩
    · cases hp

/-- What a result variable comes to. -/
def resRun (tmps : Array Value) : ResultVar → Sem Value
  | .tmp t => pure (tmps.getD t undef)
  | .cell a t => do loadVar t (← asAddr (tmps.getD a undef))

theorem results_eq (fn : Func) (tmps : Array Value) : results fn tmps = (do let vs ← fn.results.mapM (resRun tmps); pure (if h : vs.size = 1 then vs[0] else .tuple vs) : Sem Value) := by
  unfold results resRun
  rfl

theorem loadAt_addr {P : Program} {t : TypeId} {v u : Value} {w : World} (h : (Instr.loadAt t v).run P w = .ok u w) : (do loadVar t (← asAddr v) : Sem Value).run P w = .ok u w := by
  unfold Instr.loadAt at h
  cases v with
  | pointer p =>
    cases p with
    | none => simp [Instr.sureAddr] at h
    | some a => simpa [Instr.sureAddr, asAddr] using h
  | _ => simp [Instr.sureAddr] at h

theorem resV_rep (hT : TabOk C.P C.T) (h : Inv C γ σ a w) {r : ResultVar} {x : V1} (hx : resV C.T σ r = some x) : ∃ v, (resRun a.tmps r).run C.P w = .ok v w ∧ RepV1 γ σ.ob w (FF γ σ.ob C.N) x v := by
  unfold resV at hx
  split at hx
  · rename_i t
    split at hx
    · rename_i y hy
      cases hx
      have hs := h.slots t
      rw [hy] at hs
      exact ⟨_, rfl, hs⟩
    · cases hx
  · rename_i ad t
    obtain ⟨y, u, hrun, hr, hL⟩ := load_sound hT h t (h.slots ad) hx
    cases y with
    | v y => cases hL; exact ⟨u, loadAt_addr hrun, hr⟩
    | tup ys => cases hL

theorem packL_rep (hT : TabOk C.P C.T) (h : Inv C γ σ a w) : ∀ (rs : List ResultVar) (ts : List TypeId) (used : List Nat) (ys : List R1), packL C.T σ used ts rs = some ys →
    ∃ us vs used', (rs.mapM (resRun a.tmps)).run C.P w = .ok us w ∧ us.length = ys.length ∧ ShL ys us vs ∧ PK γ σ.ob w (FF γ σ.ob C.N) used used' (flat ys) vs
  | [], [], used, ys, hp => by cases hp; exact ⟨[], [], used, rfl, rfl, rfl, PK.nil used⟩
  | r :: rs, t :: ts, used, ys, hp => by
    rw [packL] at hp
    split at hp
    · cases hp
    rename_i x hx
    split at hp
    · cases hp
    rename_i y u1 hy
    split at hp
    · cases hp
    rename_i ys' hys
    cases hp
    obtain ⟨v, hv, hr⟩ := resV_rep hT h hx
    obtain ⟨vs1, hs1, p1⟩ := pack1_rep h hy hr
    obtain ⟨us, vs2, u2, hrun, hl, hs2, p2⟩ := packL_rep hT h rs ts u1 ys' hys
    refine ⟨v :: us, vs1 ++ vs2, u2, ?_, by simp [hl], ⟨vs1, vs2, rfl, hs1, hs2⟩, p1.append h p2⟩
    simp [List.mapM_cons, hv, hrun]
  | [], _ :: _, _, _, hp => by simp [packL] at hp
  | _ :: _, [], _, _, hp => by simp [packL] at hp

theorem ShL_len : ∀ {xs : List R1} {us vs : List Value}, ShL xs us vs → xs.length = us.length
  | [], [], _, _ => rfl
  | x :: xs, u :: us, _, ⟨_, _, _, _, h⟩ => by simp [ShL_len h]
  | [], _ :: _, _, h => h.elim
  | _ :: _, [], _, h => h.elim

theorem packR_rep (hT : TabOk C.P C.T) (h : Inv C γ σ a w) {fn : Func} {res : RV} (hp : packR C.T fn σ = some res) :
    ∃ v vs used', (results fn a.tmps).run C.P w = .ok v w ∧ ShV res v vs ∧ PK γ σ.ob w (FF γ σ.ob C.N) [] used' res.flat vs := by
  have hmap : ∀ us, (fn.results.toList.mapM (resRun a.tmps)).run C.P w = .ok us w → (results fn a.tmps).run C.P w = .ok (if h : us.toArray.size = 1 then us.toArray[0] else .tuple us.toArray) w := by
    intro us hu
    rw [results_eq, Array.mapM_eq_mapM_toList]
    simp [hu]
  unfold packR at hp
  split at hp
  · rename_i x hx
    cases hp
    obtain ⟨us, vs, used', hrun, hl, hs, p⟩ := packL_rep hT h _ _ _ _ hx
    match us, hl with
    | [u], _ =>
      obtain ⟨v1, v2, rfl, h1, h2⟩ := hs
      have h3 : v2 = [] := h2
      subst h3
      refine ⟨u, v1, used', hmap [u] hrun, h1, ?_⟩
      simpa [flat, RV.flat] using p
  · rename_i xs hne hx
    cases hp
    obtain ⟨us, vs, used', hrun, hl, hs, p⟩ := packL_rep hT h _ _ _ _ hx
    have hn : ¬ us.toArray.size = 1 := by
      intro h1
      rw [List.size_toArray, hl] at h1
      match xs, h1 with
      | [x], _ => exact hne x rfl
    refine ⟨.tuple us.toArray, vs, used', by rw [hmap us hrun, dif_neg hn], ⟨us.toArray, rfl, hs⟩, p⟩
  · cases hp

end

/-- THE CONTRACT of a function whose code the evaluator brings to an end. -/
theorem con_of_ev {P : Program} {T : Tab} (hT : TabOk P T) {call : CallT} (hC : CallOk P T call) {f : FuncId} {fn : Func} (hf : P.funcs[f]? = some fn) (F : FnK RV) {avs : List AV} {res : RV}
    (hL : ∀ c, fn.body = some c → ∀ p ∈ loopsOf 0 c, LoopOk T call F p) (hsz : avs.length ≤ fn.ntmps) (hev : evF T call F fn avs = some res) : Con P T f avs res := by
  intro w N vs hN hglob hlen hrep
  unfold evF at hev
  split at hev
  · cases hev
  rename_i c hb
  let C : Ctx := ⟨P, T, N, fun _ => False, w, none⟩
  have hG : GlobOk C := ⟨fun g cs hg => by
    obtain ⟨vs, h1, h2⟩ := hglob.2 g cs hg
    exact ⟨vs, h1.stay (Stay.less fun b _ hb => hb.resolve_right fun h => h), fun j u hu => ⟨fun hb => (h2 j u hu).1 (hb.resolve_right fun h => h), (h2 j u hu).2⟩⟩, fun g hg => ⟨fun hb => (hglob.1 g hg).1 (hb.resolve_right fun h => h), (hglob.1 g hg).2⟩, hN, fun _ h => h.elim⟩
  have hF : ∀ b, FF (fun _ => undef) [] N b → N b := by
    intro b hb
    rcases hb with hb | ⟨n, o, ho, _⟩
    · exact hb
    · cases ho
  have hI : Inv C (fun _ => undef) { sl := avs.map AV.iv ++ List.replicate (fn.ntmps - avs.length) botI, ob := [] } { tmps := vs.toArray ++ Array.replicate (fn.ntmps - vs.toArray.size) undef, defers := [] } w := by
    refine ⟨by simp [hlen], rfl, fun t => ?_, (fun n o ho => by cases ho), (fun n n' o o' b ho => by cases ho), (fun n o b ho => by cases ho), Since.refl _ _ _, (fun b hb => by cases hb)⟩
    by_cases ht : t < avs.length
    · have e1 : (avs.map AV.iv ++ List.replicate (fn.ntmps - avs.length) botI).getD t botI = AV.iv avs[t] := by
        rw [List.getD_eq_getElem?_getD, List.getElem?_append_left (by simpa using ht), List.getElem?_map, List.getElem?_eq_getElem ht]; rfl
      have e2 : (vs.toArray ++ Array.replicate (fn.ntmps - vs.toArray.size) undef).getD t undef = vs[t]'(by omega) := by
        rw [Array.getD_eq_getD_getElem?, Array.getElem?_append_left (by simp; omega)]; simp [hlen, ht]
      show RepI _ [] w _ ((avs.map AV.iv ++ List.replicate (fn.ntmps - avs.length) botI).getD t botI) _
      rw [e1, e2]
      have hr := hrep t avs[t] (vs[t]'(by omega)) (List.getElem?_eq_getElem ht) (List.getElem?_eq_getElem (by omega))
      have hst : Stay N w (FF (fun _ => undef) [] N) w := Stay.less fun b _ hb => hF b hb
      cases hav : avs[t] with
      | one c => rw [hav] at hr; exact RepFC.stay hst hr
      | agg cs =>
        rw [hav] at hr
        obtain ⟨arr, hv, hr⟩ := hr
        exact ⟨arr, hv, fc_cells (hr.stay hst)⟩
    · have e1 : (avs.map AV.iv ++ List.replicate (fn.ntmps - avs.length) botI).getD t botI = botI := by
        rw [List.getD_eq_getElem?_getD, List.getElem?_append_right (by simpa using Nat.le_of_not_lt ht)]
        cases hx : (List.replicate (fn.ntmps - avs.length) botI)[t - (avs.map AV.iv).length]? with
        | none => rfl
        | some x => rw [List.getElem?_replicate] at hx; split at hx <;> cases hx; rfl
      show RepI _ [] w _ ((avs.map AV.iv ++ List.replicate (fn.ntmps - avs.length) botI).getD t botI) _
      rw [e1]; trivial
  refine calls_of_wp hf hb (code_sound (C := C) hT hG hC F c (nrC_none rfl c) 0 (hL c hb) _ _ _ _ _ w hev hI fun e γ' σ' a' w' h' hk => ?_)
  have hfin : packR T fn σ' = some res → ∃ v vs', (results fn a'.tmps).run P w' = .ok v w' ∧ ∃ u us, Ending.returned v = Ending.returned u ∧ Below w.heap.size w w' ∧ ShV res u us ∧ Post N w.heap.size w' res.flat us ∧ us = vs' := by
    intro hp
    obtain ⟨v, us, used', hrun, hs, p⟩ := packR_rep (C := C) hT h' hp
    refine ⟨v, us, hrun, v, us, rfl, ⟨h'.since.os, h'.since.tape, h'.since.output, h'.since.size, fun k hk => h'.since.block k hk fun hf => hf⟩, hs, ⟨p.len, fun j c u hc hu => ?_, fun j c u b hc hb hu hbl => ?_, p.inj⟩, rfl⟩
    · have hq := p.rep j c u hc hu
      have hle : ∀ b, FR N res.flat us b → FF γ' σ'.ob N b := by
        intro b hb
        rcases hb with hb | ⟨k, c', u', k1, k2, k3, k4⟩
        · exact .inl hb
        · obtain ⟨n, o, _, _, m3, m4⟩ := p.nms k c' u' b k1 k2 k3 k4; exact .inr ⟨n, o, m3, m4⟩
      cases c with
      | fc c => exact RepFC.stay (Stay.less fun b _ hb => hle b hb) hq
      | buf t e xs =>
        rcases hq with ⟨rfl, rfl⟩ | ⟨n, hg, rfl⟩
        · exact ⟨[], World.ownsRow_nil w' 0 e t.size, fun u hu => by simp at hu, fun i x hi => by simp at hi⟩
        · obtain ⟨fl, f1, f2, f3⟩ := h'.objs n _ hg
          exact ⟨fl, f1, f2, fun i x hi => (f3 i x hi).stay (Stay.less fun b _ hb => hle b hb)⟩
    · obtain ⟨n, o, _, _, m3, m4⟩ := p.nms j c u b hc hb hu hbl
      exact (h'.own n o b m3 m4).2.resolve_right fun h => h
  cases e with
  | normal =>
    obtain ⟨v, vs', hrun, u, us, h1, h2, h3, h4, _⟩ := hfin hk
    exact ⟨h'.defers, v, hrun, u, us, h1, h2, h3, h4⟩
  | ret =>
    obtain ⟨v, vs', hrun, u, us, h1, h2, h3, h4, _⟩ := hfin hk
    exact ⟨h'.defers, v, hrun, u, us, h1, h2, h3, h4⟩
  | exit id => cases hk
  | goto l => cases hk
  | panic ch => cases hk
  | outgrown => cases hk

end Go.Iv

/- The table of types as data, and its check against the program. -/
namespace Go.Iv

def look {α : Type} : List (Nat × α) → Nat → Option α
  | [], _ => none
  | (m, x) :: r, n => if m = n then some x else look r n

theorem look_mem {α : Type} : ∀ {l : List (Nat × α)} {n : Nat} {x : α}, look l n = some x → (n, x) ∈ l
  | (m, y) :: r, n, x, h => by
    rw [look] at h
    split at h
    · rename_i e; cases h; subst e; exact List.mem_cons_self ..
    · exact List.mem_cons_of_mem _ (look_mem h)

structure TabD where
  sl : List (Nat × (Ty × TypeId))
  sz : List (Nat × (Nat × Bool))
  zero : List (Nat × (Bool × List Value))
  fld : List (Nat × List (Nat × Nat × Bool))
  arr : List (Nat × (Nat × Nat))
  parm : List (Nat × List (Option (Ty × TypeId)))
  num : List (Nat × IntKind)
  str : List (Nat × Unit)
  bool : List (Nat × Unit)
  glob : List (Nat × List FC)
  gi : List Nat

def TabD.tab (D : TabD) : Tab where
  sl := look D.sl
  sz := look D.sz
  zero := look D.zero
  fld := fun s f => match look D.fld s with
    | some l => l[f]?
    | none => none
  arr := look D.arr
  parm := fun t => match look D.parm t with
    | some l => l
    | none => []
  num := look D.num
  isStr := fun t => (look D.str t).isSome
  isBool := fun t => (look D.bool t).isSome
  glob := look D.glob
  gi := D.gi

/-- Two zeros are one. -/
def zEq : Value → Value → Bool
  | .bool a, .bool b => a == b
  | .int k a, .int l b => decide (k = l) && decide (a = b)
  | .string s, .string t => decide (s.data.toList = t.data.toList)
  | .slice none 0 0, .slice none 0 0 => true
  | .pointer none, .pointer none => true
  | .nilFunc, .nilFunc => true
  | _, _ => false
theorem zEq_eq : ∀ {a b : Value}, zEq a b = true → a = b := by
  intro a b h
  unfold zEq at h
  split at h
  · simp at h; rw [h]
  · simp at h; rw [h.1, h.2]
  · rename_i s t
    have := of_decide_eq_true h
    obtain ⟨⟨s⟩⟩ := s
    obtain ⟨⟨t⟩⟩ := t
    simp at this; rw [this]
  · rfl
  · rfl
  · rfl
  · cases h
def zEqs : List Value → List Value → Bool
  | [], [] => true
  | a :: r, b :: s => zEq a b && zEqs r s
  | _, _ => false
theorem zEqs_eq : ∀ {a b : List Value}, zEqs a b = true → a = b
  | [], [], _ => rfl
  | a :: r, b :: s, h => by
    rw [zEqs, Bool.and_eq_true] at h
    rw [zEq_eq h.1, zEqs_eq h.2]
  | [], _ :: _, h => by cases h
  | _ :: _, [], h => by cases h

def zCells : Ty → List Value
  | .str => [.string ⟨#[]⟩]
  | .int k => [.int k 0]
  | .mail => [.string ⟨#[]⟩, .slice none 0 0, .slice none 0 0]
  | .box => [.string ⟨#[]⟩, .slice none 0 0]
  | .adr => [.string ⟨#[]⟩, .string ⟨#[]⟩, .string ⟨#[]⟩]
  | .fld => [.string ⟨#[]⟩, .string ⟨#[]⟩]
theorem zCells_re (t : Ty) (w : World) (F : Nat → Prop) : RE w F t (zCells t) t.dflt := by
  have hn : ∀ {α : Type} (sz : Nat) (R : List Value → α → Prop), RowIs w F sz R (.slice none 0 0) [] := fun sz R => ⟨none, 0, rfl, Nat.le_refl _, fun i x h => by simp at h⟩
  cases t with
  | str => rfl
  | int k => rfl
  | mail => exact ⟨_, _, rfl, hn _ _, hn _ _⟩
  | box => exact ⟨_, rfl, hn _ _⟩
  | adr => rfl
  | fld => rfl

def isSlice : Option TypeDesc → Nat → Bool
  | some (.slice e), e' => Nat.beq e e'
  | _, _ => false
def isArr : Option TypeDesc → Nat → Option TypeId
  | some (.array n e), m => bif Nat.beq n m then some e else none
  | _, _ => none

def placesOf (P : Program) (fs : Array Field) : Option (List (Nat × Nat)) := fs.toList.mapM (fun f => (P.info? f.type).map fun i => (f.offset, i.size))

def TabD.ok (D : TabD) (P : Program) : Bool :=
  (D.sl.all fun x => isSlice (P.underlying x.1) x.2.2 && match P.info? x.2.2 with
    | some i => Nat.beq i.size x.2.1.size && Nat.ble i.bytes 128 && (match i.zero with | some z => zEqs z.cells.toList (zCells x.2.1) | none => false) &&
      (match x.2.1 with | .int .u8 => (match P.underlying x.2.2 with | some (.int .u8) => true | _ => false) | _ => true)
    | none => false) &&
  (D.sz.all fun x => match P.info? x.1, P.underlying x.1 with
    | some i, some d => Nat.beq i.size x.2.1 && (aggD d == x.2.2)
    | _, _ => false) &&
  (D.zero.all fun x => (match P.info? x.1 with
    | some i => (match i.zero with | some z => zEqs z.cells.toList x.2.2 | none => false)
    | none => false) && (!x.2.1 || (match P.underlying x.1 with
      | some (.array n e) => (match look D.arr x.1, P.info? e with | some (m, esz), some i => Nat.beq m n && Nat.beq i.size esz | _, _ => false)
      | some (.struct fs) => (look D.arr x.1).isNone && (match placesOf P fs with
        | some pl => (match look D.fld x.1 with | some l => l.zipIdx.all fun y => decide (pl[y.2]? = some (y.1.1, y.1.2.1)) | none => true)
        | none => false)
      | _ => false))) &&
  (D.fld.all fun x => match P.underlying x.1 with
    | some (.struct fs) => x.2.zipIdx.all fun y => (match fs[y.2]? with
      | some fd => Nat.beq fd.offset y.1.1 && (match P.info? fd.type, P.underlying fd.type with
        | some i, some d => Nat.beq i.size y.1.2.1 && !Nat.beq y.1.2.1 0 && (aggD d == y.1.2.2)
        | _, _ => false)
      | none => false)
    | _ => false) &&
  (D.arr.all fun x => Nat.blt 1 x.2.1 && (match isArr (P.underlying x.1) x.2.1 with
    | some e => (match P.info? e, P.underlying e with | some i, some d => Nat.beq i.size x.2.2 && (!Nat.beq x.2.2 1 || !aggD d) | _, _ => false)
    | none => false)) &&
  (D.num.all fun x => match P.underlying x.1 with | some (.int k) => decide (k = x.2) | _ => false) &&
  (D.str.all fun x => match P.underlying x.1 with | some .string => true | _ => false) &&
  (D.bool.all fun x => match P.underlying x.1 with | some .bool => true | _ => false)

theorem all_mem {α : Type} {l : List α} {p : α → Bool} (h : l.all p = true) {x : α} (hx : x ∈ l) : p x = true := List.all_eq_true.1 h x hx

theorem zipIdx_at {α : Type} {l : List α} {p : α × Nat → Bool} (h : l.zipIdx.all p = true) {k : Nat} {x : α} (hx : l[k]? = some x) : p (x, k) = true := by
  refine all_mem h ?_
  rw [List.mem_zipIdx_iff_getElem?]; exact hx

set_option maxHeartbeats 1000000 in
theorem TabD.tabOk {D : TabD} {P : Program} (hm : P.follows .mixedOrders = true) (h : D.ok P = true) : TabOk P D.tab := by
  unfold TabD.ok at h
  simp only [Bool.and_eq_true] at h
  obtain ⟨⟨⟨⟨⟨⟨⟨h1, h2⟩, h3⟩, h4⟩, h5⟩, h6⟩, h7⟩, h8⟩ := h
  have hsl : ∀ t ty e, D.tab.sl t = some (ty, e) → P.underlying t = some (.slice e) ∧
      (∃ i z, P.info? e = some i ∧ i.zero = some z ∧ i.size = ty.size ∧ i.bytes ≤ 128 ∧ z.cells.size = ty.size ∧ ∀ w F, RE w F ty z.cells.toList ty.dflt) ∧ (ty = .int .u8 → P.underlying e = some (.int .u8)) := by
    intro t ty e ht
    have hm := all_mem h1 (look_mem ht)
    dsimp only at hm
    rw [Bool.and_eq_true] at hm
    obtain ⟨m1, m2⟩ := hm
    have hu : P.underlying t = some (.slice e) := by
      unfold isSlice at m1
      split at m1
      · rename_i e0 _ he; rw [he, Nat.eq_of_beq_eq_true m1]
      · cases m1
    cases hi : P.info? e with
    | none => rw [hi] at m2; cases m2
    | some i =>
      rw [hi] at m2
      simp only [Bool.and_eq_true] at m2
      obtain ⟨⟨⟨k1, k2⟩, k3⟩, k4⟩ := m2
      cases hz : i.zero with
      | none => rw [hz] at k3; cases k3
      | some z =>
        rw [hz] at k3
        have hzc := zEqs_eq k3
        refine ⟨hu, ⟨i, z, rfl, hz, Nat.eq_of_beq_eq_true k1, Nat.le_of_ble_eq_true k2, ?_, fun w F => by rw [hzc]; exact zCells_re ty w F⟩, fun ht8 => ?_⟩
        · rw [← Array.length_toList, hzc]; cases ty <;> rfl
        · subst ht8
          dsimp only at k4
          split at k4
          · rename_i he; exact he
          · cases k4
  refine ⟨fun t ty e ht => ⟨(hsl t ty e ht).1, (hsl t ty e ht).2.1⟩, fun t s ag ht => ?_, fun t ag zs ht => ?_, fun t zs ht => ?_, fun s f o sz ag ht => ?_, fun t n esz ht => ?_, fun t k ht => ?_, fun t ht => ?_, fun t e ht => (hsl t _ e ht).2.2 rfl, fun t ht => ?_, hm⟩
  · have hm := all_mem h2 (look_mem ht)
    dsimp only at hm
    split at hm
    · rename_i i d hi hd
      rw [Bool.and_eq_true] at hm
      exact ⟨i, d, hi, Nat.eq_of_beq_eq_true hm.1, hd, by simpa using hm.2⟩
    · cases hm
  · have hm := all_mem h3 (look_mem ht)
    dsimp only at hm
    rw [Bool.and_eq_true] at hm
    have m1 := hm.1
    cases hi : P.info? t with
    | none => rw [hi] at m1; cases m1
    | some i =>
      rw [hi] at m1
      cases hz : i.zero with
      | none => simp only [hz] at m1; cases m1
      | some z => simp only [hz] at m1; exact ⟨i, z, rfl, hz, zEqs_eq m1⟩
  · have hm := all_mem h3 (look_mem ht)
    dsimp only at hm
    rw [Bool.and_eq_true] at hm
    have m2 := hm.2
    simp only [Bool.not_true, Bool.false_or] at m2
    split at m2
    · rename_i n e hu
      split at m2
      · rename_i m esz i ha hi
        rw [Bool.and_eq_true] at m2
        have e1 := Nat.eq_of_beq_eq_true m2.1
        subst e1
        exact .inl ⟨m, e, i, hu, hi, esz, ha, Nat.eq_of_beq_eq_true m2.2⟩
      · cases m2
    · rename_i fs hu
      rw [Bool.and_eq_true] at m2
      obtain ⟨k1, k2⟩ := m2
      split at k2
      · rename_i pl hpl
        refine .inr ⟨(by simpa using k1 : look D.arr t = none), fs, pl, hu, hpl, fun k o sz ag hf => ?_⟩
        simp only [TabD.tab] at hf
        split at hf
        · rename_i l hl
          rw [hl] at k2
          exact of_decide_eq_true (zipIdx_at k2 hf)
        · cases hf
      · cases k2
    · cases m2
  · simp only [TabD.tab] at ht
    split at ht
    · rename_i l hl
      have hm := all_mem h4 (look_mem hl)
      dsimp only at hm
      split at hm
      · rename_i fs hu
        have hk := zipIdx_at hm ht
        dsimp only at hk
        split at hk
        · rename_i fd hfd
          rw [Bool.and_eq_true] at hk
          obtain ⟨k1, k2⟩ := hk
          split at k2
          · rename_i i d hi hd
            simp only [Bool.and_eq_true] at k2
            refine ⟨fs, fd, i, d, hu, hfd, Nat.eq_of_beq_eq_true k1, hi, Nat.eq_of_beq_eq_true k2.1.1, fun e => ?_, hd, by simpa using k2.2⟩
            have := k2.1.2
            subst e; simp at this
          · cases k2
        · cases hk
      · cases hm
    · cases ht
  · have hm := all_mem h5 (look_mem ht)
    dsimp only at hm
    rw [Bool.and_eq_true] at hm
    obtain ⟨m1, m2⟩ := hm
    split at m2
    · rename_i e he
      have hu : P.underlying t = some (.array n e) := by
        unfold isArr at he
        split at he
        · rename_i n0 e0 m0 hu
          have he2 := bif_some he
          rw [hu]
          have e1 := Nat.eq_of_beq_eq_true he2.1
          have e2 := he2.2
          cases e2
          rw [e1]
        · cases he
      split at m2
      · rename_i i d hi hd
        rw [Bool.and_eq_true] at m2
        refine ⟨Nat.le_of_ble_eq_true m1, e, i, d, hu, hi, Nat.eq_of_beq_eq_true m2.1, hd, fun e1 => ?_⟩
        have := m2.2
        subst e1
        simpa using this
      · cases m2
    · cases m2
  · have hm := all_mem h6 (look_mem ht)
    dsimp only at hm
    split at hm
    · rename_i k' hu; rw [hu, of_decide_eq_true hm]
    · cases hm
  · obtain ⟨u, hl⟩ := Option.isSome_iff_exists.1 ht
    have hm := all_mem h7 (look_mem hl)
    dsimp only at hm
    split at hm
    · rename_i hu; exact hu
    · cases hm
  · obtain ⟨u, hl⟩ := Option.isSome_iff_exists.1 ht
    have hm := all_mem h8 (look_mem hl)
    dsimp only at hm
    split at hm
    · rename_i hu; exact hu
    · cases hm

end Go.Iv
