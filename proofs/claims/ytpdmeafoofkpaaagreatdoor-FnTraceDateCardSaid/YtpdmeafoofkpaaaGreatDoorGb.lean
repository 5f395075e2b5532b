/- Texts of this proof, joined: Iv6 Iv7 Iv8 Iv9. -/
import Derived.Test.YtpdmeafoofkpaaaGreatDoorGa
import Derived.Great.FillDense
import Derived.Great.BuildSlice
set_option linter.unusedVariables false
set_option linter.unusedSimpArgs false
/- Each operation that makes nothing: what the model does is what the evaluator says. -/
namespace Go.Iv
open Go.RowKit

def aggD : TypeDesc → Bool
  | .struct _ => true
  | .array _ _ => true
  | _ => false

/-- The table tells the truth of the program's types. -/
structure TabOk (P : Program) (T : Tab) : Prop where
  sl : ∀ t ty e, T.sl t = some (ty, e) → P.underlying t = some (.slice e) ∧
    ∃ i z, P.info? e = some i ∧ i.zero = some z ∧ i.size = ty.size ∧ i.bytes ≤ 128 ∧ z.cells.size = ty.size ∧ ∀ w F, RE w F ty z.cells.toList ty.dflt
  sz : ∀ t s ag, T.sz t = some (s, ag) → ∃ i d, P.info? t = some i ∧ i.size = s ∧ P.underlying t = some d ∧ aggD d = ag
  zero : ∀ t ag zs, T.zero t = some (ag, zs) → ∃ i z, P.info? t = some i ∧ i.zero = some z ∧ z.cells.toList = zs
  agg : ∀ t zs, T.zero t = some (true, zs) → (∃ n e i, P.underlying t = some (.array n e) ∧ P.info? e = some i ∧ ∃ esz, T.arr t = some (n, esz) ∧ i.size = esz) ∨
    (T.arr t = none ∧ ∃ fs places, P.underlying t = some (.struct fs) ∧ fs.toList.mapM (fun f => (P.info? f.type).map fun i => (f.offset, i.size)) = some places ∧
      ∀ k o sz ag, T.fld t k = some (o, sz, ag) → places[k]? = some (o, sz))
  fld : ∀ s f o sz ag, T.fld s f = some (o, sz, ag) → ∃ fs fd i d, P.underlying s = some (.struct fs) ∧ fs[f]? = some fd ∧ fd.offset = o ∧ P.info? fd.type = some i ∧ i.size = sz ∧ sz ≠ 0 ∧
    P.underlying fd.type = some d ∧ aggD d = ag
  arr : ∀ t n esz, T.arr t = some (n, esz) → 1 < n ∧ ∃ e i d, P.underlying t = some (.array n e) ∧ P.info? e = some i ∧ i.size = esz ∧ P.underlying e = some d ∧ (esz = 1 → aggD d = false)
  num : ∀ t k, T.num t = some k → P.underlying t = some (.int k)
  str : ∀ t, T.isStr t = true → P.underlying t = some .string
  u8 : ∀ t e, T.sl t = some (.int .u8, e) → P.underlying e = some (.int .u8)
  bool : ∀ t, T.isBool t = true → P.underlying t = some .bool
  mixed : P.follows .mixedOrders = true

structure GlobOk (C : Ctx) : Prop where
  at_ : ∀ g cs, C.T.glob g = some cs → ∃ vs, RepFCs C.w0 (fun b => C.N b ∨ C.M b) cs vs ∧ ∀ (j : Nat) (u : Value), vs[j]? = some u → ¬ (C.N g ∨ C.M g) ∧ C.w0.cell? ⟨g, j, none⟩ = some u
  ints : ∀ g ∈ C.T.gi, ¬ (C.N g ∨ C.M g) ∧ ∃ m, C.w0.cell? ⟨g, 0, none⟩ = some (.int .i64 m)
  low : ∀ b, C.N b → b < C.w0.heap.size
  lowM : ∀ b, C.M b → b < C.w0.heap.size

theorem stay0 {C : Ctx} {γ : Nat → Value} {σ : St} {a : Act} {w : World} (h : Inv C γ σ a w) : Stay (fun b => C.N b ∨ C.M b) C.w0 (FF γ σ.ob C.N) w := by
  intro b hb hN
  refine ⟨h.since.block b hb fun hm => hN (.inr hm), fun hF => ?_⟩
  rcases hF with hF | ⟨n, o, ho, hb'⟩
  · exact hN (.inl hF)
  · rcases (h.own n o b ho hb').2 with h1 | h1
    · omega
    · exact hN (.inr h1)

theorem one_rep {γ : Nat → Value} {ob : List (Nat × Ob)} {w : World} {F : Nat → Prop} (v : Value) : RepI γ ob w F (.v (.one (.fc (.sc v)))) v := rfl

theorem cv_rep {γ : Nat → Value} {ob : List (Nat × Ob)} {w : World} {F : Nat → Prop} (v : Value) : RepI γ ob w F (cv v) v := by
  unfold cv
  split
  · rename_i arr
    refine ⟨arr, rfl, by simp, fun j c u hc hu => ?_⟩
    rw [List.getElem?_map, Option.map_eq_some_iff] at hc
    obtain ⟨u', hu', rfl⟩ := hc
    rw [hu'] at hu; cases hu; rfl
  · trivial
  · rfl

theorem opnd_rep {C : Ctx} (hG : GlobOk C) {γ : Nat → Value} {σ : St} {a : Act} {w : World} (h : Inv C γ σ a w) (x : Operand) : RepI γ σ.ob w (FF γ σ.ob C.N) (opnd C.T σ x) (a.eval x) := by
  cases x with
  | tmp t => exact h.slots t
  | const v => exact cv_rep v
  | func f => rfl
  | global g =>
    simp only [opnd, Act.eval]
    split
    · rename_i cs hg
      obtain ⟨vs, hr, hc⟩ := hG.at_ g cs hg
      refine ⟨g, 0, vs, rfl, hr.stay (stay0 h), fun j u hu => ?_⟩
      obtain ⟨hN, hcell⟩ := hc j u hu
      have hlt := World.block_lt_of_cell? _ _ hcell
      rw [Nat.zero_add]
      exact ⟨(stay0 h g hlt hN).2, (stay0 h).cell (a := ⟨g, j, none⟩) hN hcell⟩
    · trivial

theorem wp_value {P : Program} {o : Oper} {a : Act} {w w' : World} {next : Act → World → Prop} {Q : Exit → Act → World → Prop} {v : Value}
    (hrun : (execOp a.eval o).run P w = .ok (.value v) w') (hn : next (a.put o.dst v) w') : o.wp P a w next Q := by
  unfold Oper.wp; rw [hrun]; exact hn

theorem wp_skip' {P : Program} {o : Oper} {a : Act} {w w' : World} {next : Act → World → Prop} {Q : Exit → Act → World → Prop}
    (hrun : (execOp a.eval o).run P w = .ok .skip w') (hn : next (a.put o.dst undef) w') : o.wp P a w next Q := by
  unfold Oper.wp; rw [hrun]; exact hn

theorem req_some {R : Type} {c : Bool} {K : Option R} {r : R} (h : req c K = some r) : c = true ∧ K = some r := by
  unfold req at h; cases c with
  | true => exact ⟨rfl, h⟩
  | false => cases h

theorem bif_some {R : Type} {c : Bool} {K : Option R} {r : R} (h : (bif c then K else none) = some r) : c = true ∧ K = some r := by
  cases c with
  | true => exact ⟨rfl, h⟩
  | false => cases h

/-- A slot that holds an exact value. -/
theorem sc_eq {γ : Nat → Value} {ob : List (Nat × Ob)} {w : World} {F : Nat → Prop} {x : IV} {u v : Value} (hx : x = .v (.one (.fc (.sc u)))) (h : RepI γ ob w F x v) : v = u := by subst hx; exact h

section pure_
variable {C : Ctx} {R : Type} {γ : Nat → Value} {σ : St} {a : Act} {w : World} {o : Oper} {next : Act → World → Prop} {Q : Exit → Act → World → Prop} {r : R} {K : St → Option R}

theorem s_move (hG : GlobOk C) (x : Operand) (ho : o.op = .move x ∨ o.op = .assign x) (hev : K (put o.dst (opnd C.T σ x) σ) = some r) (h : Inv C γ σ a w)
    (hK : ∀ γ' σ' a' w', Inv C γ' σ' a' w' → K σ' = some r → next a' w') : o.wp C.P a w next Q := by
  refine wp_value (v := a.eval x) (w' := w) ?_ (hK γ _ _ _ (h.put o.dst (opnd_rep hG h x)) hev)
  rcases ho with ho | ho <;> simp [execOp, ho]

theorem s_pick (hG : GlobOk C) (c x y : Operand) (ho : o.op = .pick c x y) (t : Bool) (hc : opnd C.T σ c = .v (.one (.fc (.sc (.bool t)))))
    (hev : (bif t then K (put o.dst (opnd C.T σ x) σ) else K (put o.dst (opnd C.T σ y) σ)) = some r) (h : Inv C γ σ a w)
    (hK : ∀ γ' σ' a' w', Inv C γ' σ' a' w' → K σ' = some r → next a' w') : o.wp C.P a w next Q := by
  have hcv := sc_eq hc (opnd_rep hG h c)
  cases t with
  | true =>
    refine wp_value (v := a.eval x) (w' := w) ?_ (hK γ _ _ _ (h.put o.dst (opnd_rep hG h x)) hev)
    simp [execOp, ho, hcv, asBool]
  | false =>
    refine wp_value (v := a.eval y) (w' := w) ?_ (hK γ _ _ _ (h.put o.dst (opnd_rep hG h y)) hev)
    simp [execOp, ho, hcv, asBool]

theorem s_extract (hG : GlobOk C) (x : Operand) (i : Nat) (ho : o.op = .extract x i) (xs : List V1) (hx : opnd C.T σ x = .tup xs) (v : V1) (hi : xs[i]? = some v)
    (hev : K (put o.dst (.v v) σ) = some r) (h : Inv C γ σ a w)
    (hK : ∀ γ' σ' a' w', Inv C γ' σ' a' w' → K σ' = some r → next a' w') : o.wp C.P a w next Q := by
  have hr := opnd_rep hG h x
  rw [hx] at hr
  obtain ⟨arr, hv, hl, hr⟩ := hr
  have hlt : i < arr.size := by rw [← hl]; exact (List.getElem?_eq_some_iff.1 hi).1
  have hu : arr[i]? = some arr[i] := Array.getElem?_eq_getElem hlt
  refine wp_value (v := arr[i]) (w' := w) ?_ (hK γ _ _ _ (h.put o.dst (x := .v v) (hr i v _ hi hu)) hev)
  simp [execOp, ho, hv, Instr.extract, hu]

theorem s_not (hG : GlobOk C) (t : TypeId) (x : Operand) (ho : o.op = .unOp .not t x) (b : Bool) (hx : opnd C.T σ x = .v (.one (.fc (.sc (.bool b)))))
    (hev : K (put o.dst (.v (.one (.fc (.sc (.bool (!b)))))) σ) = some r) (h : Inv C γ σ a w)
    (hK : ∀ γ' σ' a' w', Inv C γ' σ' a' w' → K σ' = some r → next a' w') : o.wp C.P a w next Q := by
  have hv := sc_eq hx (opnd_rep hG h x)
  refine wp_value (v := .bool (!b)) (w' := w) ?_ (hK γ _ _ _ (h.put o.dst (one_rep _)) hev)
  simp [execOp, ho, hv, Op.unary]

theorem s_neg (hG : GlobOk C) (t : TypeId) (x : Operand) (ho : o.op = .unOp .neg t x) (k : IntKind) (n : Int) (hx : opnd C.T σ x = .v (.one (.fc (.sc (.int k n)))))
    (hev : K (put o.dst (.v (.one (.fc (.sc (.int k (k.wrap (0 - n))))))) σ) = some r) (h : Inv C γ σ a w)
    (hK : ∀ γ' σ' a' w', Inv C γ' σ' a' w' → K σ' = some r → next a' w') : o.wp C.P a w next Q := by
  have hv := sc_eq hx (opnd_rep hG h x)
  refine wp_value (v := .int k (k.wrap (0 - n))) (w' := w) ?_ (hK γ _ _ _ (h.put o.dst (one_rep _)) hev)
  simp [execOp, ho, hv, Op.unary, Op.intArith]

theorem run_eqb (P : Program) (w : World) (d : Nat) (t : TypeId) (a b : Bool) (h : P.underlying t = some .bool) : (Op.equalIn (d + 1) t (.bool a) (.bool b)).run P w = .ok (a == b) w := by
  simp [Op.equalIn, run_underlying h]

theorem run_equal_bool (P : Program) (w : World) (t : TypeId) (a b : Bool) (h : P.underlying t = some .bool) : (Op.equal t (.bool a) (.bool b)).run P w = .ok (a == b) w :=
  run_eqb P w 9999 t a b h

theorem binOp_eql_bool (t : TypeId) (a b : Bool) : binOp .eql t (.bool a) (.bool b) = (do pure (.bool (← Op.equal t (.bool a) (.bool b))) : Sem Value) := by
  unfold binOp; rfl
theorem binOp_neq_bool (t : TypeId) (a b : Bool) : binOp .neq t (.bool a) (.bool b) = (do pure (.bool (!(← Op.equal t (.bool a) (.bool b)))) : Sem Value) := by
  unfold binOp; rfl

set_option maxHeartbeats 1000000 in
theorem run_bin (P : Program) (w : World) (op : BinOp) (t : TypeId) (x y : Operand) (u v : Value) (K : Value → Option R) (hev : evBin op u v K = some r)
    (hb : (∃ a b, u = .bool a ∧ v = .bool b) → P.underlying t = some .bool) :
    ∃ z, (do eqGuard op t x y u v; binOp op t u v : Sem Value).run P w = .ok z w ∧ K z = some r := by
  unfold evBin at hev
  split at hev
  case h_12 =>
    obtain ⟨h1, h2⟩ := req_some hev; rename_i p q; have h1 : p.size + q.size ≤ 9223372036854775807 := Nat.le_of_ble_eq_true h1
    refine ⟨_, ?_, h2⟩
    have hm : IntKind.i64.max = 9223372036854775807 := by decide
    have h3 : ¬ (((p.size + q.size : Nat) : Int) > IntKind.i64.max) := by rw [hm]; omega
    simp only [eqGuard, binOp, Op.stringOp, if_neg h3]
    simp
  case h_4 =>
    split at hev
    · rename_i hk; subst hk; obtain ⟨h1, h2⟩ := req_some hev; refine ⟨_, ?_, h2⟩; simp at h1; simp [eqGuard, binOp, Op.intDiv, h1]
    · cases hev
  case h_5 =>
    split at hev
    · rename_i hk; subst hk; obtain ⟨h1, h2⟩ := req_some hev; refine ⟨_, ?_, h2⟩; simp at h1; simp [eqGuard, binOp, Op.intDiv, h1]
    · cases hev
  case h_17 =>
    have hb' := hb ⟨_, _, rfl, rfl⟩; refine ⟨_, ?_, hev⟩
    rw [binOp_eql_bool]
    simp [eqGuard, run_equal_bool _ _ _ _ _ hb']
  case h_18 =>
    have hb' := hb ⟨_, _, rfl, rfl⟩; refine ⟨_, ?_, hev⟩
    rw [binOp_neq_bool]
    simp [eqGuard, run_equal_bool _ _ _ _ _ hb']
  all_goals first
    | (split at hev
       · rename_i hk; subst hk; refine ⟨_, ?_, hev⟩; simp [eqGuard, binOp, Op.intArith, Op.intCmp]; done
       · cases hev)
    | (split at hev
       · rename_i hk; subst hk; refine ⟨_, ?_, hev⟩; simp [eqGuard, binOp, Op.intBits, bitsI]; done
       · cases hev)
    | (obtain ⟨h1, h2⟩ := req_some hev; refine ⟨_, ?_, h2⟩; have h1 := of_decide_eq_true h1; simp [eqGuard, binOp, Op.shift, Int.not_lt.2 h1]; done)
    | (refine ⟨_, ?_, hev⟩; simp [eqGuard, binOp, Op.stringOp]; done)
    | cases hev

theorem s_bin (hT : TabOk C.P C.T) (hG : GlobOk C) (op : BinOp) (t t2 : TypeId) (x y : Operand) (ho : o.op = .binOp op t x y t2) (u v : Value)
    (hx : opnd C.T σ x = .v (.one (.fc (.sc u)))) (hy : opnd C.T σ y = .v (.one (.fc (.sc v)))) (hok : okBin C.T t u = true)
    (hev : evBin op u v (fun z => K (put o.dst (.v (.one (.fc (.sc z)))) σ)) = some r) (h : Inv C γ σ a w)
    (hK : ∀ γ' σ' a' w', Inv C γ' σ' a' w' → K σ' = some r → next a' w') : o.wp C.P a w next Q := by
  have hxv := sc_eq hx (opnd_rep hG h x)
  have hyv := sc_eq hy (opnd_rep hG h y)
  obtain ⟨z, hrun, hz⟩ := run_bin C.P w op t x y u v _ hev (by rintro ⟨p, q, rfl, rfl⟩; exact hT.bool t hok)
  refine wp_value (v := z) (w' := w) ?_ (hK γ _ _ _ (h.put o.dst (one_rep _)) hz)
  simp only [execOp, ho, hxv, hyv]
  simp only [Sem.run_bind] at hrun ⊢
  rw [hrun]; rfl

theorem add_lit' (b o n : Nat) : (⟨b, o, none⟩ : Addr).add n = ⟨b, o + n, none⟩ := by unfold Addr.add; split <;> simp_all

theorem run_fieldAt (hT : TabOk C.P C.T) {s : TypeId} {f off sz : Nat} {ag : Bool} (hf : C.T.fld s f = some (off, sz, ag)) (b o : Nat) (w : World) :
    (Instr.fieldAt s (.pointer (some ⟨b, o, none⟩)) f).run C.P w = .ok (.pointer (some ⟨b, o + off, none⟩)) w := by
  obtain ⟨fs, fd, i, d, hu, hfd, hoff, hi, hsz, h0, _⟩ := hT.fld s f off sz ag hf
  subst hoff
  have h0' : ¬ i.size = 0 := by rw [hsz]; exact h0
  simp [Instr.fieldAt, run_underlying hu, hfd, Instr.sureAddr, fieldPlace, sizeOf, typeInfo, hi, h0', add_lit']

theorem s_fieldAddr (hT : TabOk C.P C.T) (hG : GlobOk C) (s : TypeId) (x : Operand) (f : Nat) (ho : o.op = .fieldAddr s x f)
    (hev : evFieldAddr C.T s f (opnd C.T σ x) (fun v => K (put o.dst v σ)) = some r) (h : Inv C γ σ a w)
    (hK : ∀ γ' σ' a' w', Inv C γ' σ' a' w' → K σ' = some r → next a' w') : o.wp C.P a w next Q := by
  have hr := opnd_rep hG h x
  unfold evFieldAddr at hev
  split at hev
  · rename_i off sz ag n o1 hf hx
    rw [hx] at hr
    obtain ⟨ob, b, h1, h2, h3, hv⟩ := hr
    refine wp_value (v := .pointer (some ⟨b, o1 + off, none⟩)) (w' := w) ?_ (hK γ _ _ _ (h.put o.dst (x := .v (.one (.ptr n (o1 + off)))) ⟨ob, b, h1, h2, h3, rfl⟩) hev)
    simp [execOp, ho, hv, run_fieldAt hT hf]
  · rename_i off sz ag n i o1 hf hx
    rw [hx] at hr
    obtain ⟨ob, b, l, c, h1, h2, h3, h4, hv⟩ := hr
    refine wp_value (v := .pointer (some ⟨b, i * (shp ob).2.1 + o1 + off, none⟩)) (w' := w) ?_
      (hK γ _ _ _ (h.put o.dst (x := .v (.one (.ep n i (o1 + off)))) ⟨ob, b, l, c, h1, h2, h3, h4, by rw [Nat.add_assoc]⟩) hev)
    simp [execOp, ho, hv, run_fieldAt hT hf]
  · rename_i off sz ag cs o1 hf hx
    rw [hx] at hr
    obtain ⟨b, o2, vs, hv, h1, h2⟩ := hr
    refine wp_value (v := .pointer (some ⟨b, o2 + o1 + off, none⟩)) (w' := w) ?_
      (hK γ _ _ _ (h.put o.dst (x := .v (.one (.lp cs (o1 + off)))) ⟨b, o2, vs, by rw [Nat.add_assoc], h1, h2⟩) hev)
    simp [execOp, ho, hv, run_fieldAt hT hf]
  · cases hev

theorem run_isAgg {P : Program} {t : TypeId} {d : TypeDesc} (hu : P.underlying t = some d) (w : World) : (isAgg t).run P w = .ok (aggD d) w := by
  cases d <;> simp [isAgg, run_underlying hu, aggD]

theorem run_part {P : Program} {t : TypeId} {d : TypeDesc} (hu : P.underlying t = some d) {i : TypeInfo} (hi : P.info? t = some i) (cs : Array Value) (off : Nat) (w : World) :
    (part t cs off).run P w = if aggD d then .ok (.agg (cs.extract off (off + i.size))) w else match cs[off]? with | some v => .ok v w | none => .halt (.stuck "part: no such cell") w := by
  unfold part
  simp only [Sem.run_bind, run_isAgg hu, Result.andThen_ok]
  cases aggD d with
  | true => simp [sizeOf, typeInfo, hi]
  | false => simp; cases cs[off]? <;> simp

theorem s_field (hT : TabOk C.P C.T) (hG : GlobOk C) (s : TypeId) (x : Operand) (f : Nat) (ho : o.op = .field s x f)
    (hev : evField C.T s f (opnd C.T σ x) (fun v => K (put o.dst v σ)) = some r) (h : Inv C γ σ a w)
    (hK : ∀ γ' σ' a' w', Inv C γ' σ' a' w' → K σ' = some r → next a' w') : o.wp C.P a w next Q := by
  have hr := opnd_rep hG h x
  unfold evField at hev
  split at hev
  · rename_i off sz ag cs hf hx
    rw [hx] at hr
    obtain ⟨arr, hv, hl, hr⟩ := hr
    obtain ⟨fs, fd, i, d, hu, hfd, hoff, hi, hsz, h0, hud, had⟩ := hT.fld s f off sz ag hf
    subst hoff
    have hrun : (execOp a.eval o).run C.P w = ((part fd.type arr fd.offset).run C.P w).andThen fun v w => .ok (.value v) w := by
      simp [execOp, ho, hv, Instr.field, run_underlying hu, hfd, asAgg]
    rw [run_part hud hi] at hrun
    cases ag with
    | true =>
      simp only [cond_true] at hev
      obtain ⟨hle, hev⟩ := bif_some hev
      have hle : fd.offset + sz ≤ cs.length := Nat.le_of_ble_eq_true hle
      rw [had, if_pos rfl] at hrun
      refine wp_value (v := .agg (arr.extract fd.offset (fd.offset + i.size))) (w' := w) hrun (hK γ _ _ _ (h.put o.dst (x := .v (.agg ((cs.drop fd.offset).take sz))) ⟨_, rfl, ?_, fun j c u hc hu => ?_⟩) hev)
      · simp only [List.length_take, List.length_drop, Array.toList_extract, List.extract_eq_take_drop, hsz, Array.length_toList] at hl ⊢
        omega
      · rw [List.getElem?_take] at hc
        split at hc
        · rw [List.getElem?_drop] at hc
          rw [Array.toList_extract, List.extract_eq_take_drop, hsz, List.getElem?_take] at hu
          split at hu
          · rw [List.getElem?_drop] at hu; exact hr _ c u hc hu
          · cases hu
        · cases hc
    | false =>
      simp only [cond_false] at hev
      rw [had, if_neg (by simp)] at hrun
      split at hev
      · rename_i c hc
        have hlt : fd.offset < arr.size := by rw [← Array.length_toList, ← hl]; exact (List.getElem?_eq_some_iff.1 hc).1
        have hu' : arr[fd.offset]? = some arr[fd.offset] := Array.getElem?_eq_getElem hlt
        rw [hu'] at hrun
        exact wp_value (v := arr[fd.offset]) (w' := w) hrun (hK γ _ _ _ (h.put o.dst (x := .v (.one c)) (hr _ c _ hc (by rw [Array.getElem?_toList]; exact hu'))) hev)
      · cases hev
  · cases hev

theorem inb_iff {i : Int} {n : Nat} (h : inb i n = true) : 0 ≤ i ∧ i < (n : Int) := by
  unfold inb at h; rw [Bool.and_eq_true] at h; exact ⟨of_decide_eq_true h.1, of_decide_eq_true h.2⟩

theorem run_ixS {P : Program} {t e : TypeId} {ei : TypeInfo} (hu : P.underlying t = some (.slice e)) (hei : P.info? e = some ei) (b off len cap : Nat) (k : IntKind) (i : Int)
    (h0 : 0 ≤ i) (h1 : i < (len : Int)) (w : World) :
    (Instr.indexAt t (.slice (some ⟨b, off, none⟩) len cap) (.int k i)).run P w = .ok (.pointer (some ⟨b, off + i.toNat * ei.size, none⟩)) w := by
  simp [Instr.indexAt, run_underlying hu, asIntOf, h0, h1, sizeOf, typeInfo, hei, add_lit']

theorem run_ixA {P : Program} {t e : TypeId} {n : Nat} {ei : TypeInfo} (hu : P.underlying t = some (.array n e)) (hei : P.info? e = some ei) (b off : Nat) (k : IntKind) (i : Int)
    (h0 : 0 ≤ i) (h1 : i < (n : Int)) (w : World) :
    (Instr.indexAt t (.pointer (some ⟨b, off, none⟩)) (.int k i)).run P w = .ok (.pointer (some ⟨b, off + i.toNat * ei.size, none⟩)) w := by
  simp [Instr.indexAt, run_underlying hu, asIntOf, h0, h1, sizeOf, typeInfo, hei, add_lit', Instr.sureAddr]

theorem getD_at {α : Type} {xs : List α} {i : Nat} (d : α) (h : i < xs.length) : xs[i]? = some (xs.getD i d) := by
  rw [List.getD_eq_getElem?_getD, List.getElem?_eq_getElem h]; rfl

theorem s_indexAddr (hT : TabOk C.P C.T) (hG : GlobOk C) (t : TypeId) (x ix : Operand) (ho : o.op = .indexAddr t x ix)
    (hev : evIndexAddr C.T σ t (opnd C.T σ x) (opnd C.T σ ix) (fun v => K (put o.dst v σ)) = some r) (h : Inv C γ σ a w)
    (hK : ∀ γ' σ' a' w', Inv C γ' σ' a' w' → K σ' = some r → next a' w') : o.wp C.P a w next Q := by
  have hr := opnd_rep hG h x
  unfold evIndexAddr at hev
  split at hev
  · rename_i k i hix
    have hiv := sc_eq hix (opnd_rep hG h ix)
    split at hev
    · rename_i n hx
      rw [hx] at hr
      obtain ⟨hv, _⟩ := hr
      split at hev
      · rename_i te e ty e' xs hts hn
        obtain ⟨hsz, hev⟩ := bif_some hev
        have hsz := Nat.eq_of_beq_eq_true hsz
        obtain ⟨hin, hev⟩ := req_some hev
        obtain ⟨h0, h1⟩ := inb_iff hin
        obtain ⟨hu, ei, ez, hei, _, hes, _⟩ := hT.sl t _ _ hts
        obtain ⟨fl, hown, hfl, hrow⟩ := h.objs n _ hn
        rcases hown.2 with ⟨hv0, hz⟩ | ⟨g, cap, cur, hg, _⟩
        · have : xs.length = 0 := hz
          omega
        · have hlt : i.toNat < xs.length := by omega
          refine wp_value (v := .pointer (some ⟨g, 0 + i.toNat * ei.size, none⟩)) (w' := w) ?_
            (hK γ _ _ _ (h.put o.dst (x := .v (.one (.ep n i.toNat 0))) ⟨_, g, _, _, hn, rfl, hg, hlt, by simp [shp, hes, hsz]⟩) hev)
          simp [execOp, ho, hiv, hv, hg, run_ixS hu hei g 0 xs.length cap k i h0 h1]
      · rename_i te e xs hts hn
        obtain ⟨hsz, hev⟩ := bif_some hev
        have hsz := Nat.eq_of_beq_eq_true hsz
        obtain ⟨hin, hev⟩ := req_some hev
        obtain ⟨h0, h1⟩ := inb_iff hin
        obtain ⟨hu, ei, ez, hei, _, hes, _⟩ := hT.sl t _ _ hts
        obtain ⟨g, arr, e', lo, hi, cap, hg, _⟩ := h.objs n _ hn
        have hlt : i.toNat < xs.length := by omega
        refine wp_value (v := .pointer (some ⟨g, 0 + i.toNat * ei.size, none⟩)) (w' := w) ?_
          (hK γ _ _ _ (h.put o.dst (x := .v (.one (.ep n i.toNat 0))) ⟨_, g, _, _, hn, rfl, hg, hlt, by simp [shp, hes, hsz]⟩) hev)
        simp [execOp, ho, hiv, hv, hg, run_ixS hu hei g 0 xs.length cap k i h0 h1]
      · cases hev
    · rename_i ty xs hx
      rw [hx] at hr
      split at hev
      · rename_i te e hts
        obtain ⟨hsz, hev⟩ := bif_some hev
        have hsz := Nat.eq_of_beq_eq_true hsz
        obtain ⟨hin, hev⟩ := req_some hev
        obtain ⟨h0, h1⟩ := inb_iff hin
        obtain ⟨hu, ei, ez, hei, _, hes, _⟩ := hT.sl t _ _ hts
        obtain ⟨A, cap, hv, hcap, hrow⟩ := hr
        have hlt : i.toNat < xs.length := by omega
        obtain ⟨b, off, cs, rfl, hF, hl, hcell, hre⟩ := hrow i.toNat _ (getD_at ty.dflt hlt)
        refine wp_value (v := .pointer (some ⟨b, off + i.toNat * ei.size, none⟩)) (w' := w) ?_
          (hK γ _ _ _ (h.put o.dst (x := .v (.one (.lp (enc ty (xs.getD i.toNat ty.dflt)) 0)))
            ⟨b, off + i.toNat * ty.size, cs, by simp [hes, hsz], enc_of_RE ty _ _ hre, fun j u hu => ⟨hF, by rw [Nat.add_assoc]; exact hcell j u hu⟩⟩) hev)
        simp [execOp, ho, hiv, hv, run_ixS hu hei b off xs.length cap k i h0 h1]
      · cases hev
    · rename_i n off hx
      rw [hx] at hr
      obtain ⟨ob, b, h1', h2', h3', hv⟩ := hr
      split at hev
      · rename_i len esz hta
        obtain ⟨hin, hev⟩ := req_some hev
        obtain ⟨h0, h1⟩ := inb_iff hin
        obtain ⟨_, e, ei, d, hu, hei, hes, _⟩ := hT.arr t _ _ hta
        refine wp_value (v := .pointer (some ⟨b, off + i.toNat * ei.size, none⟩)) (w' := w) ?_
          (hK γ _ _ _ (h.put o.dst (x := .v (.one (.ptr n (off + i.toNat * esz)))) ⟨ob, b, h1', h2', h3', by rw [hes]⟩) hev)
        simp [execOp, ho, hiv, hv, run_ixA hu hei b off k i h0 h1]
      · cases hev
    · rename_i cs off hx
      rw [hx] at hr
      obtain ⟨b, o2, vs, hv, h1', h2'⟩ := hr
      split at hev
      · rename_i len esz hta
        obtain ⟨hin, hev⟩ := req_some hev
        obtain ⟨h0, h1⟩ := inb_iff hin
        obtain ⟨_, e, ei, d, hu, hei, hes, _⟩ := hT.arr t _ _ hta
        refine wp_value (v := .pointer (some ⟨b, o2 + off + i.toNat * ei.size, none⟩)) (w' := w) ?_
          (hK γ _ _ _ (h.put o.dst (x := .v (.one (.lp cs (off + i.toNat * esz)))) ⟨b, o2, vs, by rw [hes, Nat.add_assoc], h1', h2'⟩) hev)
        simp [execOp, ho, hiv, hv, run_ixA hu hei b (o2 + off) k i h0 h1]
      · cases hev
    · cases hev
  · cases hev

theorem bt_some {s : ByteArray} {i : Int} (h0 : 0 ≤ i) (h1 : i < (s.size : Int)) : ∃ b, s[i.toNat]? = some b ∧ (b.toNat : Int) = bt s i := by
  have hlt : i.toNat < s.size := by omega
  refine ⟨s[i.toNat], by simp [hlt], ?_⟩
  unfold bt
  have : s.data.toList.getD i.toNat 0 = s[i.toNat] := by
    rw [List.getD_eq_getElem?_getD, Array.getElem?_toList, Array.getElem?_eq_getElem (by simpa using hlt)]; rfl
  rw [this]

theorem allStr_rep {w : World} {F : Nat → Prop} : ∀ (cs : List FC) (l : List ByteArray) (vs : List Value), allStr cs = some l → RepFCs w F cs vs → vs = l.map .string
  | [], l, vs, h, hr => by
    cases h
    exact List.eq_nil_of_length_eq_zero hr.1.symm
  | .sc (.string s) :: cs, l, vs, h, hr => by
    unfold allStr at h
    split at h
    · rename_i l' hl'
      cases h
      match vs, hr.1 with
      | u :: vs, hlen =>
        have h0 := hr.2 0 _ _ rfl rfl
        simp only [RepFC] at h0
        subst h0
        have := allStr_rep cs l' vs hl' ⟨by simpa using hlen, fun j c u hc hu => hr.2 (j + 1) c u (by simpa using hc) (by simpa using hu)⟩
        rw [this]; rfl
    · cases h
  | .sc (.bool _) :: _, _, _, h, _ => by simp [allStr] at h
  | .sc (.int _ _) :: _, _, _, h, _ => by simp [allStr] at h
  | .sc (.float _ _) :: _, _, _, h, _ => by simp [allStr] at h
  | .sc (.complex _ _ _) :: _, _, _, h, _ => by simp [allStr] at h
  | .sc (.pointer _) :: _, _, _, h, _ => by simp [allStr] at h
  | .sc (.slice _ _ _) :: _, _, _, h, _ => by simp [allStr] at h
  | .sc (.map _) :: _, _, _, h, _ => by simp [allStr] at h
  | .sc (.chan _) :: _, _, _, h, _ => by simp [allStr] at h
  | .sc (.func _ _ _) :: _, _, _, h, _ => by simp [allStr] at h
  | .sc .nilFunc :: _, _, _, h, _ => by simp [allStr] at h
  | .sc (.iface _ _) :: _, _, _, h, _ => by simp [allStr] at h
  | .sc .nilIface :: _, _, _, h, _ => by simp [allStr] at h
  | .sc (.agg _) :: _, _, _, h, _ => by simp [allStr] at h
  | .sc (.tuple _) :: _, _, _, h, _ => by simp [allStr] at h
  | .list _ _ :: _, _, _, h, _ => by simp [allStr] at h

theorem fcs_rep {γ : Nat → Value} {ob : List (Nat × Ob)} {w : World} {F : Nat → Prop} : ∀ (cs : List Cell) (fs : List FC) (vs : List Value), fcs cs = some fs → RepCs γ ob w F cs vs → RepFCs w F fs vs
  | [], fs, vs, h, hr => by cases h; exact ⟨hr.1, fun j c u hc => by simp at hc⟩
  | .fc c :: cs, fs, vs, h, hr => by
    unfold fcs at h
    split at h
    · rename_i l hl
      cases h
      match vs, hr.1 with
      | u :: vs, hlen =>
        have ih := fcs_rep cs l vs hl ⟨by simpa using hlen, fun j c u hc hu => hr.2 (j + 1) c u (by simpa using hc) (by simpa using hu)⟩
        refine ⟨by simp [ih.1], fun j c' u' hc hu => ?_⟩
        match j with
        | 0 => cases hc; cases hu; exact hr.2 0 _ _ rfl rfl
        | j + 1 => exact ih.2 j c' u' (by simpa using hc) (by simpa using hu)
    · cases h
  | .bot :: _, _, _, h, _ => by simp [fcs] at h
  | .hdr _ :: _, _, _, h, _ => by simp [fcs] at h
  | .ptr _ _ :: _, _, _, h, _ => by simp [fcs] at h
  | .ep _ _ _ :: _, _, _, h, _ => by simp [fcs] at h
  | .lp _ _ :: _, _, _, h, _ => by simp [fcs] at h

theorem s_index (hT : TabOk C.P C.T) (hG : GlobOk C) (t : TypeId) (x ix : Operand) (ho : o.op = .index t x ix)
    (hev : evIndex C.T t (opnd C.T σ x) (opnd C.T σ ix) (fun v => K (put o.dst v σ)) = some r) (h : Inv C γ σ a w)
    (hK : ∀ γ' σ' a' w', Inv C γ' σ' a' w' → K σ' = some r → next a' w') : o.wp C.P a w next Q := by
  have hr := opnd_rep hG h x
  unfold evIndex at hev
  split at hev
  · rename_i k i hix
    have hiv := sc_eq hix (opnd_rep hG h ix)
    split at hev
    · rename_i s hx
      have hxv := sc_eq hx hr
      obtain ⟨hs, hev⟩ := bif_some hev
      have hu := hT.str t hs
      obtain ⟨hin, hev⟩ := req_some hev
      obtain ⟨h0, h1⟩ := inb_iff hin
      obtain ⟨b, hb, hbt⟩ := bt_some h0 h1
      refine wp_value (v := .int .u8 (bt s i)) (w' := w) ?_ (hK γ _ _ _ (h.put o.dst (one_rep _)) hev)
      simp [execOp, ho, hxv, hiv, Instr.index, asIntOf, run_underlying hu, h0, hb, hbt]
    · rename_i cs hx
      rw [hx] at hr
      obtain ⟨arr, hv, hr⟩ := hr
      split at hev
      · rename_i len fs hta hfs
        split at hev
        · rename_i l hl
          obtain ⟨hin, hev⟩ := req_some hev
          obtain ⟨h0, h1⟩ := inb_iff hin
          obtain ⟨hlen, hev⟩ := bif_some hev
          have hlen := Nat.eq_of_beq_eq_true hlen
          obtain ⟨_, e, ei, d, hu, hei, hes, hd, had⟩ := hT.arr t _ _ hta
          have had := had rfl
          have hvs := allStr_rep fs l _ hl (fcs_rep cs fs _ hfs hr)
          have hlt : i.toNat < l.length := by omega
          have hat : arr[i.toNat]? = some (.string (l.getD i.toNat ⟨#[]⟩)) := by
            rw [← Array.getElem?_toList, hvs, List.getElem?_map, getD_at (⟨#[]⟩ : ByteArray) hlt]; rfl
          refine wp_value (v := .string (l.getD i.toNat ⟨#[]⟩)) (w' := w) ?_ (hK γ _ _ _ (h.put o.dst (one_rep _)) hev)
          have hp := run_part hd hei arr (i.toNat * 1) w
          rw [had, if_neg (by simp), Nat.mul_one, hat] at hp
          simp [execOp, ho, hv, hiv, Instr.index, asIntOf, run_underlying hu, h0, h1, sizeOf, typeInfo, hei, hes, hp]
        · cases hev
      · cases hev
    · cases hev
  · cases hev

theorem s_len (hT : TabOk C.P C.T) (hG : GlobOk C) (t : TypeId) (x : Operand) (args : Array Operand) (tys : Array TypeId) (ho : o.op = .call { callee := .builtin .len, args := args, argTypes := tys })
    (ha : args.toList = [x]) (ht : tys.toList = [t])
    (hev : evLen C.T σ t (opnd C.T σ x) (fun v => K (put o.dst v σ)) = some r) (h : Inv C γ σ a w)
    (hK : ∀ γ' σ' a' w', Inv C γ' σ' a' w' → K σ' = some r → next a' w') : o.wp C.P a w next Q := by
  have hr := opnd_rep hG h x
  obtain rfl : args = #[x] := by rw [← Array.toArray_toList (xs := args), ha]
  obtain rfl : tys = #[t] := by rw [← Array.toArray_toList (xs := tys), ht]
  have hrun : ∀ v w', (Builtin.len_ #[t] o.type #[a.eval x]).run C.P w = .ok v w' → (execOp a.eval o).run C.P w = .ok (.value v) w' := by
    intro v w' hv; simp [execOp, ho, resolve, invoke, builtin, hv]
  unfold evLen at hev
  split at hev
  · rename_i s hx
    have hxv := sc_eq hx hr
    obtain ⟨hs, hev⟩ := bif_some hev
    exact wp_value (w' := w) (hrun _ _ (by simp [Builtin.len_, hxv, run_underlying (hT.str t hs), goInt])) (hK γ _ _ _ (h.put o.dst (one_rep _)) hev)
  · rename_i ty xs hx
    rw [hx] at hr
    obtain ⟨A, cap, hv, _⟩ := hr
    split at hev
    · rename_i p hts
      obtain ⟨te, e⟩ := p
      obtain ⟨hu, _⟩ := hT.sl t _ _ hts
      exact wp_value (w' := w) (hrun _ _ (by simp [Builtin.len_, hv, run_underlying hu, goInt])) (hK γ _ _ _ (h.put o.dst (one_rep _)) hev)
    · cases hev
  · rename_i n hx
    rw [hx] at hr
    obtain ⟨hv, _⟩ := hr
    split at hev
    · rename_i p _ _ xs hts hn
      obtain ⟨te, e⟩ := p
      obtain ⟨hu, _⟩ := hT.sl t _ _ hts
      obtain ⟨fl, hown, _⟩ := h.objs n _ hn
      rcases hown.2 with ⟨hv0, hz⟩ | ⟨g, cap, cur, hg, _⟩
      · refine wp_value (w' := w) (hrun (.int .i64 xs.length) _ ?_) (hK γ _ _ _ (h.put o.dst (one_rep _)) hev)
        simp [Builtin.len_, hv, hv0, run_underlying hu, goInt, hz]
      · refine wp_value (w' := w) (hrun (.int .i64 xs.length) _ ?_) (hK γ _ _ _ (h.put o.dst (one_rep _)) hev)
        simp [Builtin.len_, hv, hg, run_underlying hu, goInt]
    · rename_i p xs hts hn
      obtain ⟨te, e⟩ := p
      obtain ⟨hu, _⟩ := hT.sl t _ _ hts
      obtain ⟨g, arr, e', lo, hi, cap, hg, _⟩ := h.objs n _ hn
      refine wp_value (w' := w) (hrun (.int .i64 xs.length) _ ?_) (hK γ _ _ _ (h.put o.dst (one_rep _)) hev)
      simp [Builtin.len_, hv, hg, run_underlying hu, goInt]
    · cases hev
  · rename_i hx
    have hxv := sc_eq hx hr
    split at hev
    · rename_i p hts
      obtain ⟨te, e⟩ := p
      obtain ⟨hu, _⟩ := hT.sl t _ _ hts
      exact wp_value (w' := w) (hrun _ _ (by simp [Builtin.len_, hxv, run_underlying hu, goInt])) (hK γ _ _ _ (h.put o.dst (one_rep _)) hev)
    · cases hev
  · cases hev

end pure_
end Go.Iv

/- Loads and stores. -/
namespace Go.Iv
open Go.RowKit

theorem run_loadA {P : Program} {T : Tab} (hT : TabOk P T) {t sz : Nat} (hs : T.sz t = some (sz, true)) {w : World} {b off : Nat} {vs : List Value} (hl : vs.length = sz)
    (hc : ∀ (j : Nat) (u : Value), vs[j]? = some u → w.cell? ⟨b, off + j, none⟩ = some u) : (Instr.loadAt t (.pointer (some ⟨b, off, none⟩))).run P w = .ok (.agg vs.toArray) w := by
  obtain ⟨i, d, hi, hsz, hu, hd⟩ := hT.sz t sz true hs
  have hl' := run_loadCells_list (P := P) w ⟨b, off, none⟩ vs (fun j v hv => by rw [add_lit']; exact hc j v hv)
  rw [hl, ← hsz] at hl'
  simp [Instr.loadAt, Instr.sureAddr, loadVar, run_isAgg hu, hd, sizeOf, typeInfo, hi, hl']

theorem run_load1 {P : Program} {T : Tab} (hT : TabOk P T) {t sz : Nat} (hs : T.sz t = some (sz, false)) {w : World} {b off : Nat} {u : Value}
    (hc : w.cell? ⟨b, off, none⟩ = some u) : (Instr.loadAt t (.pointer (some ⟨b, off, none⟩))).run P w = .ok u w := by
  obtain ⟨i, d, hi, hsz, hu, hd⟩ := hT.sz t sz false hs
  simp [Instr.loadAt, Instr.sureAddr, loadVar, run_isAgg hu, hd, load, Sem.run, hc]

theorem sub_rep {γ : Nat → Value} {ob : List (Nat × Ob)} {w : World} {F : Nat → Prop} {cs : List Cell} {vs : List Value} (h : RepCs γ ob w F cs vs) (off sz : Nat) :
    RepCs γ ob w F ((cs.drop off).take sz) ((vs.drop off).take sz) := by
  refine ⟨by simp [h.1], fun j c u hc hu => ?_⟩
  rw [List.getElem?_take] at hc hu
  split at hc
  · rename_i hj; rw [if_pos hj] at hu
    rw [List.getElem?_drop] at hc hu
    exact h.2 _ c u hc hu
  · cases hc

theorem subF_rep {w : World} {F : Nat → Prop} {cs : List FC} {vs : List Value} (h : RepFCs w F cs vs) (off sz : Nat) :
    RepFCs w F ((cs.drop off).take sz) ((vs.drop off).take sz) := by
  refine ⟨by simp [h.1], fun j c u hc hu => ?_⟩
  rw [List.getElem?_take] at hc hu
  split at hc
  · rename_i hj; rw [if_pos hj] at hu
    rw [List.getElem?_drop] at hc hu
    exact h.2 _ c u hc hu
  · cases hc

theorem fc_cells {γ : Nat → Value} {ob : List (Nat × Ob)} {w : World} {F : Nat → Prop} {cs : List FC} {vs : List Value} (h : RepFCs w F cs vs) : RepCs γ ob w F (cs.map .fc) vs := by
  refine ⟨by simpa using h.1, fun j c u hc hu => ?_⟩
  rw [List.getElem?_map, Option.map_eq_some_iff] at hc
  obtain ⟨c0, hc0, rfl⟩ := hc
  exact h.2 j c0 u hc0 hu

theorem take_drop_at {vs : List Value} {off sz j : Nat} {u : Value} (h : ((vs.drop off).take sz)[j]? = some u) : vs[off + j]? = some u := by
  rw [List.getElem?_take] at h
  split at h
  · rwa [List.getElem?_drop] at h
  · cases h

theorem byte_el {γ : Nat → Value} {ob : List (Nat × Ob)} {w : World} {F : Nat → Prop} {n : Nat} {xs : List Int} (h : RepOb γ ob w F n (.bytes xs)) {b l c : Nat}
    (hg : γ n = .slice (some ⟨b, 0, none⟩) l c) {i : Nat} (hi : i < xs.length) : w.cell? ⟨b, i, none⟩ = some (.int .u8 (xs.getD i 0)) := by
  obtain ⟨b', arr, e, lo, hi', cap, hg', hh, h1, h2, h3, h4⟩ := h
  rw [hg] at hg'; cases hg'
  rw [cell_of_row w b i arr e (lo, hi') hh]
  exact h4 i _ (getD_at 0 hi)

section
variable {C : Ctx} {R : Type} {γ : Nat → Value} {σ : St} {a : Act} {w : World} {o : Oper} {next : Act → World → Prop} {Q : Exit → Act → World → Prop} {r : R} {K : St → Option R}

/-- What a load comes to, whoever asks. -/
theorem load_sound (hT : TabOk C.P C.T) (h : Inv C γ σ a w) (t : TypeId) {x : IV} {v : Value} (hr : RepI γ σ.ob w (FF γ σ.ob C.N) x v) {L : IV → Option R}
    (hev : evLoad C.T σ t x L = some r) : ∃ y u, (Instr.loadAt t v).run C.P w = .ok u w ∧ RepI γ σ.ob w (FF γ σ.ob C.N) y u ∧ L y = some r := by
  unfold evLoad at hev
  split at hev
  · rename_i sz ag n off hs
    obtain ⟨ob, b, hn, hk, hg, rfl⟩ := hr
    split at hev
    · rename_i cs hn'
      obtain ⟨b', arr, e, hg', hh, hcs⟩ := h.objs n _ hn'
      rw [hg] at hg'; cases hg'
      have hcell : ∀ (j : Nat) (u : Value), arr.toList[j]? = some u → w.cell? ⟨b, j, none⟩ = some u := fun j u hu => by
        rw [cell_of_row w b j arr e (0, 0) hh]; simpa using hu
      cases ag with
      | true =>
        simp only [cond_true] at hev
        obtain ⟨hle, hev⟩ := bif_some hev
        have hle : off + sz ≤ cs.length := Nat.le_of_ble_eq_true hle
        have hl : ((arr.toList.drop off).take sz).length = sz := by
          have := hcs.1; simp only [List.length_take, List.length_drop]; omega
        exact ⟨.v (.agg ((cs.drop off).take sz)), _, run_loadA hT hs hl (fun j u hu => hcell _ _ (take_drop_at hu)), ⟨_, rfl, by simpa using sub_rep hcs off sz⟩, hev⟩
      | false =>
        simp only [cond_false] at hev
        split at hev
        · rename_i c hc
          have hlt : off < arr.toList.length := by rw [← hcs.1]; exact (List.getElem?_eq_some_iff.1 hc).1
          have hu : arr.toList[off]? = some arr.toList[off] := List.getElem?_eq_getElem hlt
          exact ⟨.v (.one c), _, run_load1 hT hs (hcell off _ hu), hcs.2 off c _ hc hu, hev⟩
        · cases hev
    · cases hev
  · rename_i sz ag n i off hs
    obtain ⟨ob, b, l, c, hn, hk, hg, hi, rfl⟩ := hr
    split at hev
    · rename_i ty e xs hn'
      rw [hn'] at hn; cases hn
      have hi' : i < xs.length := hi
      obtain ⟨vs, h1, h2⟩ := rows_el (F' := FF γ σ.ob C.N) (h.objs n _ hn') (fun _ h => h) hg hi'
      have hvl : vs.length = ty.size := by rw [← h1.1, enc_len]
      have hcell : ∀ (j : Nat) (u : Value), vs[j]? = some u → w.cell? ⟨b, i * ty.size + j, none⟩ = some u := h2
      cases ag with
      | true =>
        simp only [cond_true] at hev
        obtain ⟨hle, hev⟩ := bif_some hev
        have hle : off + sz ≤ ty.size := Nat.le_of_ble_eq_true hle
        have hl : ((vs.drop off).take sz).length = sz := by simp only [List.length_take, List.length_drop]; omega
        exact ⟨.v (.agg ((((enc ty (xs.getD i ty.dflt)).drop off).take sz).map .fc)), _, run_loadA hT hs hl (fun j u hu => by
          have := hcell _ _ (take_drop_at hu); simp only [shp]; rw [Nat.add_assoc]; exact this), ⟨_, rfl, by simpa using fc_cells (subF_rep h1 off sz)⟩, hev⟩
      | false =>
        simp only [cond_false] at hev
        split at hev
        · rename_i c hc
          obtain ⟨u, hu, hru⟩ := h1.at off hc
          exact ⟨.v (.one (.fc c)), u, run_load1 hT hs (hcell off u hu), hru, hev⟩
        · cases hev
    · rename_i xs hn'
      rw [hn'] at hn; cases hn
      have hi' : i < xs.length := hi
      cases ag with
      | true => cases hev
      | false =>
        simp only [cond_false] at hev
        obtain ⟨h0, hev⟩ := bif_some hev
        have h0 := Nat.eq_of_beq_eq_true h0
        subst h0
        have hc := byte_el (h.objs n _ hn') hg hi'
        exact ⟨_, _, run_load1 hT hs (by simp only [shp, Nat.mul_one, Nat.add_zero]; exact hc), one_rep _, hev⟩
    · cases hev
  · rename_i sz ag cs off hs
    obtain ⟨b, o2, vs, rfl, h1, h2⟩ := hr
    cases ag with
    | true =>
      simp only [cond_true] at hev
      obtain ⟨hle, hev⟩ := bif_some hev
      have hle : off + sz ≤ cs.length := Nat.le_of_ble_eq_true hle
      have hl : ((vs.drop off).take sz).length = sz := by have := h1.1; simp only [List.length_take, List.length_drop]; omega
      exact ⟨.v (.agg (((cs.drop off).take sz).map .fc)), _, run_loadA hT hs hl (fun j u hu => by
        have := (h2 _ _ (take_drop_at hu)).2; rw [Nat.add_assoc]; exact this), ⟨_, rfl, by simpa using fc_cells (subF_rep h1 off sz)⟩, hev⟩
    | false =>
      simp only [cond_false] at hev
      unfold loadLp at hev
      split at hev
      · rename_i l hl
        obtain ⟨hlt, hev⟩ := req_some hev
        have hlt := of_decide_eq_true hlt
        have hvs := allStr_rep cs l vs hl h1
        have hu : vs[off]? = some (.string (l.getD off ⟨#[]⟩)) := by rw [hvs, List.getElem?_map, getD_at (⟨#[]⟩ : ByteArray) hlt]; rfl
        exact ⟨_, _, run_load1 hT hs (h2 off _ hu).2, one_rep _, hev⟩
      · split at hev
        · rename_i c hc
          obtain ⟨u, hu, hru⟩ := h1.at off hc
          exact ⟨.v (.one (.fc c)), u, run_load1 hT hs (h2 off u hu).2, hru, hev⟩
        · cases hev
  · cases hev

theorem s_load (hT : TabOk C.P C.T) (hG : GlobOk C) (t : TypeId) (x : Operand) (ho : o.op = .load t x)
    (hev : evLoad C.T σ t (opnd C.T σ x) (fun v => K (put o.dst v σ)) = some r) (h : Inv C γ σ a w)
    (hK : ∀ γ' σ' a' w', Inv C γ' σ' a' w' → K σ' = some r → next a' w') : o.wp C.P a w next Q := by
  obtain ⟨y, u, hrun, hry, hy⟩ := load_sound hT h t (opnd_rep hG h x) hev
  refine wp_value (v := u) (w' := w) ?_ (hK γ _ _ _ (h.put o.dst hry) hy)
  simp [execOp, ho, hrun]

end
end Go.Iv

/- Stores. -/
namespace Go.Iv
open Go.RowKit

theorem RepCs.append {γ : Nat → Value} {ob : List (Nat × Ob)} {w : World} {F : Nat → Prop} {c1 c2 : List Cell} {v1 v2 : List Value} (h1 : RepCs γ ob w F c1 v1) (h2 : RepCs γ ob w F c2 v2) :
    RepCs γ ob w F (c1 ++ c2) (v1 ++ v2) := by
  refine ⟨by simp [h1.1, h2.1], fun j c u hc hu => ?_⟩
  by_cases hj : j < c1.length
  · rw [List.getElem?_append_left hj] at hc
    rw [List.getElem?_append_left (by rw [← h1.1]; exact hj)] at hu
    exact h1.2 j c u hc hu
  · rw [List.getElem?_append_right (by omega)] at hc
    rw [List.getElem?_append_right (by rw [← h1.1]; omega), ← h1.1] at hu
    exact h2.2 _ c u hc hu

theorem RepCs.take {γ : Nat → Value} {ob : List (Nat × Ob)} {w : World} {F : Nat → Prop} {cs : List Cell} {vs : List Value} (h : RepCs γ ob w F cs vs) (n : Nat) : RepCs γ ob w F (cs.take n) (vs.take n) := by
  simpa using sub_rep h 0 n

theorem RepCs.drop {γ : Nat → Value} {ob : List (Nat × Ob)} {w : World} {F : Nat → Prop} {cs : List Cell} {vs : List Value} (h : RepCs γ ob w F cs vs) (n : Nat) : RepCs γ ob w F (cs.drop n) (vs.drop n) := by
  refine ⟨by simp [h.1], fun j c u hc hu => ?_⟩
  rw [List.getElem?_drop] at hc hu
  exact h.2 _ c u hc hu

theorem RepFCs.append {w : World} {F : Nat → Prop} {c1 c2 : List FC} {v1 v2 : List Value} (h1 : RepFCs w F c1 v1) (h2 : RepFCs w F c2 v2) : RepFCs w F (c1 ++ c2) (v1 ++ v2) := by
  refine ⟨by simp [h1.1, h2.1], fun j c u hc hu => ?_⟩
  by_cases hj : j < c1.length
  · rw [List.getElem?_append_left hj] at hc
    rw [List.getElem?_append_left (by rw [← h1.1]; exact hj)] at hu
    exact h1.2 j c u hc hu
  · rw [List.getElem?_append_right (by omega)] at hc
    rw [List.getElem?_append_right (by rw [← h1.1]; omega), ← h1.1] at hu
    exact h2.2 _ c u hc hu

theorem RepFCs.drop {w : World} {F : Nat → Prop} {cs : List FC} {vs : List Value} (h : RepFCs w F cs vs) (n : Nat) : RepFCs w F (cs.drop n) (vs.drop n) := by
  refine ⟨by simp [h.1], fun j c u hc hu => ?_⟩
  rw [List.getElem?_drop] at hc hu
  exact h.2 _ c u hc hu

theorem map_scC_none (l : List Cell) : l.map (scC fun _ => false) = l := by
  conv => rhs; rw [← List.map_id l]
  exact List.map_congr_left fun c _ => scC_none c

theorem scOk_one {u : Value} (h : scOk u = true) : u.oneCell' = true := by cases u <;> first | rfl | cases h

section
variable {C : Ctx} {R : Type} {γ : Nat → Value} {σ : St} {a : Act} {w : World} {o : Oper} {next : Act → World → Prop} {Q : Exit → Act → World → Prop} {r : R} {K : St → Option R}

theorem hdr_one (h : Inv C γ σ a w) {n : Nat} {ob : Ob} (hn : get σ.ob n = some ob) (hk : (shp ob).1 = true) : (γ n).oneCell' = true := by
  have hr := h.objs n ob hn
  cases ob with
  | cells cs => cases hk
  | rows t e xs =>
    obtain ⟨fl, ho, _⟩ := hr
    rcases ho.2 with ⟨hv, _⟩ | ⟨g, cap, cur, hv, _⟩ <;> rw [hv] <;> rfl
  | bytes xs => obtain ⟨b, arr, e, lo, hi, cap, hg, _⟩ := hr; rw [hg]; rfl

theorem cell_one (h : Inv C γ σ a w) {F : Nat → Prop} {c : Cell} {u : Value} (hok : okC c = true) (hr : RepC γ σ.ob w F c u) : u.oneCell' = true := by
  cases c with
  | bot => cases hok
  | fc c =>
    cases c with
    | sc v => rw [show u = v from hr]; exact scOk_one hok
    | list t xs => obtain ⟨A, cap, rfl, _⟩ := hr; rfl
  | hdr n => obtain ⟨rfl, ob, hn, hk⟩ := hr; exact hdr_one h hn hk
  | ptr n off => obtain ⟨ob, b, _, _, _, rfl⟩ := hr; rfl
  | ep n i off => obtain ⟨ob, b, l, c, _, _, _, _, rfl⟩ := hr; rfl
  | lp cs off => obtain ⟨b, o, vs, rfl, _⟩ := hr; rfl

theorem cells_one {u : Value} (h : u.oneCell' = true) : u.cells = #[u] := by cases u <;> first | rfl | cases h

theorem cellsOf_rep (h : Inv C γ σ a w) {x : IV} {ys : List Cell} {v : Value} (hx : cellsOf x = some ys) (hok : ys.all okC = true) (hr : RepI γ σ.ob w (FF γ σ.ob C.N) x v) :
    RepCs γ σ.ob w (FF γ σ.ob C.N) ys v.cells.toList ∧ ∀ u ∈ v.cells.toList, u.oneCell' = true := by
  have key : ∀ (vs : List Value), RepCs γ σ.ob w (FF γ σ.ob C.N) ys vs → ∀ u ∈ vs, u.oneCell' = true := by
    intro vs hr u hu
    obtain ⟨j, hj⟩ := List.getElem?_of_mem hu
    have hlt : j < ys.length := by rw [hr.1]; exact (List.getElem?_eq_some_iff.1 hj).1
    have hc : ys[j]? = some ys[j] := List.getElem?_eq_getElem hlt
    exact cell_one h (by rw [List.all_eq_true] at hok; exact hok _ (List.getElem_mem hlt)) (hr.2 j _ u hc hj)
  cases x with
  | v x =>
    cases x with
    | one c =>
      cases hx
      have hc : okC c = true := by simpa using hok
      have h1 := cell_one h hc hr
      have hr' : RepCs γ σ.ob w (FF γ σ.ob C.N) [c] v.cells.toList := by
        rw [cells_one h1]
        exact ⟨rfl, fun j c' u hc hu => by match j with | 0 => cases hc; cases hu; exact hr | j + 1 => simp at hc⟩
      exact ⟨hr', key _ hr'⟩
    | agg cs =>
      cases hx
      obtain ⟨arr, rfl, hr⟩ := hr
      exact ⟨hr, key _ hr⟩
  | tup xs => cases hx

/-- A block whose contents turn, and nothing else. -/
theorem Inv.setOb (h : Inv C γ σ a w) (n : Nat) (o1 o2 : Ob) (hn : get σ.ob n = some o1) (hs : shp o2 = shp o1) {w' : World}
    (hw : ∀ b, blk (γ n) ≠ some b → w'.heap[b]? = w.heap[b]?) (hb : Since C.M C.w0.heap.size C.w0 w')
    (ho : Kept (fun _ => false) γ γ σ.ob (upd n o2 σ.ob) w w' (FF γ σ.ob C.N) (FF γ (upd n o2 σ.ob) C.N) → RepOb γ (upd n o2 σ.ob) w' (FF γ (upd n o2 σ.ob) C.N) n o2) :
    Inv C γ { sl := σ.sl, ob := upd n o2 σ.ob } a w' := by
  have hget : ∀ m o', get (upd n o2 σ.ob) m = some o' → ∃ o0, get σ.ob m = some o0 ∧ (m ≠ n → o' = o0) := by
    intro m o' hm
    by_cases e : m = n
    · subst e; exact ⟨o1, hn, fun h => absurd rfl h⟩
    · rw [get_upd_ne n m o2 σ.ob e] at hm; exact ⟨o', hm, fun _ => rfl⟩
  have hF : ∀ b, FF γ (upd n o2 σ.ob) C.N b → FF γ σ.ob C.N b := by
    intro b hb
    rcases hb with hb | ⟨m, o', hm, hb⟩
    · exact .inl hb
    · obtain ⟨o0, h0, _⟩ := hget m o' hm; exact .inr ⟨m, o0, h0, hb⟩
  have hk : Kept (fun _ => false) γ γ σ.ob (upd n o2 σ.ob) w w' (FF γ σ.ob C.N) (FF γ (upd n o2 σ.ob) C.N) := by
    refine ⟨fun b hlt hnF => ⟨hw b fun e => hnF (.inr ⟨n, o1, hn, e⟩), fun h => hnF (hF b h)⟩, fun m _ o0 hm => ⟨rfl, ?_⟩⟩
    by_cases e : m = n
    · subst e; rw [hn] at hm; cases hm; exact ⟨o2, get_upd_same _ _ _, hs⟩
    · exact ⟨o0, by rw [get_upd_ne n m o2 σ.ob e]; exact hm, rfl⟩
  refine h.step (fun m => Nat.beq m n) (fun _ => false) (map_scI_none _).symm (fun m o' hm ho' => ?_) (fun m o' hm ho' => ?_) hk.nms (fun _ _ => rfl) (fun m o' b hm ho' hb' => ?_) hk.stay
    (fun m m' p1 p2 b h1 h2 h3 h4 => ?_) (fun m p1 b h1 h2 => ?_) hb h.root
  · have hm' : m ≠ n := fun e => by subst e; simp at hm
    exact ⟨o', by rw [← get_upd_ne n m o2 σ.ob hm']; exact ho', (scO_none o').symm⟩
  · have hm' : m = n := by simpa using hm
    subst hm'
    have e := get_upd_same m o2 σ.ob
    have e2 : some o' = some o2 := by rw [← e]; exact ho'.symm
    cases e2; exact ho hk
  · have hm' : m ≠ n := fun e => by subst e; simp at hm
    refine hw b fun e => hm' (h.inj m n o' o1 b ho' hn hb' e)
  · obtain ⟨q1, hq1, _⟩ := hget m p1 h1
    obtain ⟨q2, hq2, _⟩ := hget m' p2 h2
    exact h.inj m m' q1 q2 b hq1 hq2 h3 h4
  · obtain ⟨q1, hq1, _⟩ := hget m p1 h1
    exact h.own m q1 b hq1 h2

theorem below_setRow {M : Nat → Prop} {B : Nat} {w0 w : World} (h : Since M B w0 w) {g : Nat} (hg : B ≤ g ∨ M g) (cs : Array Value) : Since M B w0 (w.setRow g cs) :=
  h.trans ⟨rfl, rfl, rfl, by simp, fun k hk hm => setRow_other w g k cs (by
    rcases hg with hg | hg
    · omega
    · exact fun e => hm (e ▸ hg))⟩

theorem run_storeAt_row {P : Program} {T : Tab} (hT : TabOk P T) {t sz : Nat} {ag : Bool} (hs : T.sz t = some (sz, ag)) {w : World} {b off e : Nat} {arr : Array Value} {v : Value}
    (hh : w.heap[b]? = some (.cells arr e (0, 0))) (hl : v.cells.size = sz) (hle : off + sz ≤ arr.size) (h1 : ∀ u ∈ v.cells.toList, u.oneCell' = true) :
    (Instr.storeAt t (.pointer (some ⟨b, off, none⟩)) v).run P w = .ok () (w.setRow b (arr.toList.take off ++ v.cells.toList ++ arr.toList.drop (off + sz)).toArray) := by
  obtain ⟨i, d, hi, hsz, hu, hd⟩ := hT.sz t sz ag hs
  have hst := run_storeCells_at (P := P) b off e v.cells.toList 0 arr w hh (by simp only [Array.length_toList]; omega) h1
  have hsz' : v.cells.size = i.size := by omega
  simp only [Nat.add_zero, Array.length_toList, hl] at hst
  simp [Instr.storeAt, Instr.sureAddr, storeVar, sizeOf, typeInfo, hi, hsz', hst]

def spl (l : List Value) (k : Nat) (v : List Value) : List Value := l.take k ++ v ++ l.drop (k + v.length)

theorem spl_get {l v : List Value} {k : Nat} (h : k + v.length ≤ l.length) (i : Nat) : (spl l k v)[i]? = if k ≤ i ∧ i < k + v.length then v[i - k]? else l[i]? := by
  unfold spl
  have hk : (l.take k).length = k := by rw [List.length_take]; omega
  by_cases h1 : i < k
  · rw [if_neg (by omega), List.append_assoc, List.getElem?_append_left (by omega), List.getElem?_take, if_pos h1]
  · by_cases h2 : i < k + v.length
    · rw [if_pos ⟨by omega, h2⟩, List.append_assoc, List.getElem?_append_right (by omega), hk, List.getElem?_append_left (by omega)]
    · rw [if_neg (by omega), List.getElem?_append_right (by rw [List.length_append]; omega), List.length_append, hk, List.getElem?_drop]
      congr 1; omega

theorem spl_len {l v : List Value} {k : Nat} (h : k + v.length ≤ l.length) : (spl l k v).length = l.length := by
  unfold spl; simp only [List.length_append, List.length_take, List.length_drop]; omega

theorem get_frz (m : Nat) (σ : St) {n : Nat} {o' : Ob} (h : get (frz m σ).ob n = some o') : ∃ o, get σ.ob n = some o ∧ shp o' = shp o := by
  unfold frz at h
  split at h
  · rw [get_map, get_del] at h
    by_cases hm : m = n
    · subst hm; simp at h
    · rw [if_neg (by rw [beqF hm]; simp)] at h
      obtain ⟨o, h1, h2⟩ := Option.map_eq_some_iff.1 h
      exact ⟨o, h1, by rw [← h2]; exact shp_frO _ _ _ _⟩
  · rw [get_drop] at h
    split at h
    · cases h
    · obtain ⟨o, h1, h2⟩ := Option.map_eq_some_iff.1 h
      exact ⟨o, h1, by rw [← h2]; exact shp_scO _ _⟩
  · exact ⟨o', h, rfl⟩

theorem get_frzAll : ∀ (l : List Nat) (σ : St) {n : Nat} {o' : Ob}, get (frzAll l σ).ob n = some o' → ∃ o, get σ.ob n = some o ∧ shp o' = shp o
  | [], _, _, o', h => ⟨o', h, rfl⟩
  | m :: r, σ, _, _, h => by
    obtain ⟨o1, h1, h2⟩ := get_frzAll r (frz m σ) h
    obtain ⟨o2, h3, h4⟩ := get_frz m σ h1
    exact ⟨o2, h3, h2.trans h4⟩

set_option maxHeartbeats 1000000 in
theorem s_store (hT : TabOk C.P C.T) (hG : GlobOk C) (t : TypeId) (p x : Operand) (ho : o.op = .store t p x)
    (hev : evStore C.T σ t (opnd C.T σ p) x (fun σ' => K (put o.dst undI σ')) = some r) (h : Inv C γ σ a w)
    (hK : ∀ γ' σ' a' w', Inv C γ' σ' a' w' → K σ' = some r → next a' w') : o.wp C.P a w next Q := by
  have hp := opnd_rep hG h p
  unfold evStore at hev
  split at hev
  · rename_i sz ag n off hs hpx
    rw [hpx] at hp
    obtain ⟨ob, b, hn, hk, hg, hv⟩ := hp
    split at hev
    · rename_i cs ys hn' hys
      obtain ⟨hc, hev⟩ := bif_some hev
      simp only [Bool.and_eq_true] at hc
      obtain ⟨⟨hlen, hle⟩, hok⟩ := hc
      have hlen := Nat.eq_of_beq_eq_true hlen
      have hle : off + sz ≤ cs.length := Nat.le_of_ble_eq_true hle
      obtain ⟨hys', h1⟩ := cellsOf_rep h hys hok (opnd_rep hG h x)
      obtain ⟨b', arr, e, hg', hh, hcs⟩ := h.objs n _ hn'
      rw [hg] at hg'; cases hg'
      have hcl := hcs.1
      simp only [Array.length_toList] at hcl
      have hvl : (a.eval x).cells.size = sz := by have := hys'.1; simp only [Array.length_toList] at this; omega
      have hb0 := (h.own n _ b hn' (by rw [hg]; rfl)).2
      have hrun := run_storeAt_row (v := a.eval x) (off := off) hT hs hh hvl (by omega) h1
      refine wp_skip' (w' := w.setRow b (arr.toList.take off ++ (a.eval x).cells.toList ++ arr.toList.drop (off + sz)).toArray) (by simp only [execOp, ho, hv, Sem.run_bind, hrun, Result.andThen_ok]; rfl) (hK γ _ _ _ ((h.setOb n (.cells cs) (.cells (splice cs off ys)) hn' rfl ?_ (below_setRow h.since hb0 _) ?_).put o.dst (x := undI) ?_) hev)
      · intro b' hb'
        exact setRow_other w b b' _ (fun e => hb' (by rw [hg, e]; rfl))
      · intro hk'
        refine ⟨b, _, e, hg, setRow_heap w b arr _ e _ hh, ?_⟩
        have h2 := ((hcs.take off).append hys').append (hcs.drop (off + ys.length))
        have h3 := RepCs.sc hk' h2
        have hsp : splice cs off ys = cs.take off ++ ys ++ cs.drop (off + sz) := by unfold splice; rw [hlen]
        rw [map_scC_none, hlen, ← hsp] at h3
        exact h3
      · exact ⟨#[], rfl, rfl, fun j x u hx => by simp at hx⟩
    · cases hev
  · rename_i sz ag n i off hs hpx
    rw [hpx] at hp
    obtain ⟨ob, b, l, c, hn, hk, hg, hi, hv⟩ := hp
    have h' := Inv.frzAll (hdrsI (opnd C.T σ x)) h
    generalize hσ : frzAll (hdrsI (opnd C.T σ x)) σ = σ' at hev h'
    dsimp only at hev
    have hshp : ∀ o', get σ'.ob n = some o' → shp o' = shp ob := by
      intro o' ho'
      rw [← hσ] at ho'
      obtain ⟨o2, h2, h3⟩ := get_frzAll _ _ ho'
      rw [hn] at h2; cases h2; exact h3
    split at hev
    · rename_i ty e xs hn'
      have hsh := hshp _ hn'
      rw [← hsh] at hi hv
      have hi : i < xs.length := hi
      simp only [shp] at hv
      split at hev
      · cases hev
      rename_i ys hys
      split at hev
      · rename_i fs hfs
        obtain ⟨hc, hev⟩ := bif_some hev
        simp only [Bool.and_eq_true] at hc
        obtain ⟨⟨hlen, hle⟩, hok⟩ := hc
        have hlen := Nat.eq_of_beq_eq_true hlen
        have hle : off + sz ≤ ty.size := Nat.le_of_ble_eq_true hle
        split at hev
        · rename_i z hz
          obtain ⟨hys', h1⟩ := cellsOf_rep h' hys hok (opnd_rep hG h' x)
          have hfr := fcs_rep ys fs _ hfs hys'
          have hvl : (a.eval x).cells.size = sz := by have := hys'.1; simp only [Array.length_toList] at this; omega
          have hvl' : (a.eval x).cells.toList.length = sz := by simpa using hvl
          obtain ⟨fl, hown, hone, hrow⟩ := h'.objs n _ hn'
          have hfl := hown.1
          rcases hown.2 with ⟨hv0, hz0⟩ | ⟨g, cap, cur, hgv, h0g, hh, hcap, hml, hcs, htk⟩
          · rw [hg] at hv0; cases hv0
          · have hgb : g = b := by rw [hg] at hgv; cases hgv; rfl
            subst hgb
            have hle2 : (i + 1) * ty.size ≤ xs.length * ty.size := Nat.mul_le_mul_right _ hi
            have hle3 : xs.length * ty.size ≤ cap * ty.size := Nat.mul_le_mul_right _ hcap
            have e1 : (i + 1) * ty.size = i * ty.size + ty.size := by rw [Nat.add_mul, Nat.one_mul]
            have hb0 := (h'.own n _ g hn' (by rw [hgv]; rfl)).2
            have hrun := run_storeAt_row (v := a.eval x) (off := i * ty.size + off) hT hs hh hvl (by omega) h1
            have hflspl : ((arr' : List Value) → arr' = spl cur.toList (i * ty.size + off) (a.eval x).cells.toList → arr'.take (xs.length * ty.size) = spl fl (i * ty.size + off) (a.eval x).cells.toList) := by
              rintro arr' rfl
              apply List.ext_getElem?
              intro k
              have hA : i * ty.size + off + (a.eval x).cells.toList.length ≤ cur.toList.length := by rw [hvl', Array.length_toList]; omega
              have hB : i * ty.size + off + (a.eval x).cells.toList.length ≤ fl.length := by rw [hvl', hfl]; omega
              rw [List.getElem?_take, spl_get hA, spl_get hB, ← htk, List.getElem?_take]
              by_cases hk1 : k < xs.length * ty.size
              · simp only [if_pos hk1]
              · rw [if_neg hk1, if_neg (by rw [hvl']; omega), if_neg hk1]
            refine wp_skip' (w' := w.setRow g (spl cur.toList (i * ty.size + off) (a.eval x).cells.toList).toArray) (by
              have hrun' := hrun
              rw [show cur.toList.take (i * ty.size + off) ++ (a.eval x).cells.toList ++ cur.toList.drop (i * ty.size + off + sz) = spl cur.toList (i * ty.size + off) (a.eval x).cells.toList from by unfold spl; rw [hvl']] at hrun'
              simp only [execOp, ho, hv, Sem.run_bind, hrun', Result.andThen_ok]; rfl) (hK γ _ _ _ ((h'.setOb n (.rows ty e xs) (.rows ty e (xs.set i z)) hn' (by simp [shp]) ?_ (below_setRow h'.since hb0 _) ?_).put o.dst (x := undI) ?_) hev)
            · intro b' hb'
              exact setRow_other w g b' _ (fun e => hb' (by rw [hgv, e]; rfl))
            · intro hk'
              refine ⟨spl fl (i * ty.size + off) (a.eval x).cells.toList, ⟨?_, .inr ⟨g, cap, _, by rw [List.length_set]; exact hgv, h0g, setRow_heap w g cur _ e _ hh, by rw [List.length_set]; exact hcap, hml, ?_, ?_⟩⟩, ?_, ?_⟩
              · rw [spl_len (by rw [hvl', hfl]; omega), List.length_set]; exact hfl
              · rw [List.size_toArray, spl_len (by rw [hvl', Array.length_toList]; omega), Array.length_toList]; exact hcs
              · rw [List.length_set]; exact hflspl _ rfl
              · intro u hu
                unfold spl at hu
                rw [List.mem_append, List.mem_append] at hu
                rcases hu with (hu | hu) | hu
                · exact hone u (List.mem_of_mem_take hu)
                · exact h1 u hu
                · exact hone u (List.mem_of_mem_drop hu)
              · intro j y hj
                have hjl : j < xs.length := by have := (List.getElem?_eq_some_iff.1 hj).1; rwa [List.length_set] at this
                have hjle : (j + 1) * ty.size ≤ xs.length * ty.size := Nat.mul_le_mul_right _ hjl
                have e2 : (j + 1) * ty.size = j * ty.size + ty.size := by rw [Nat.add_mul, Nat.one_mul]
                have hB : i * ty.size + off + (a.eval x).cells.toList.length ≤ fl.length := by rw [hvl', hfl]; omega
                by_cases hji : j = i
                · subst hji
                  rw [List.getElem?_set, if_pos rfl, if_pos hjl] at hj
                  cases hj
                  have hel := enc_of_RE ty _ _ (hrow j _ (getD_at ty.dflt hjl))
                  have hnew : ((spl fl (j * ty.size + off) (a.eval x).cells.toList).drop (j * ty.size)).take ty.size =
                      ((fl.drop (j * ty.size)).take ty.size).take off ++ (a.eval x).cells.toList ++ ((fl.drop (j * ty.size)).take ty.size).drop (off + sz) := by
                    have hL : ((fl.drop (j * ty.size)).take ty.size).length = ty.size := by rw [List.length_take, List.length_drop, hfl]; omega
                    have hC : off + (a.eval x).cells.toList.length ≤ ((fl.drop (j * ty.size)).take ty.size).length := by rw [hL, hvl']; exact hle
                    have hspl : ((fl.drop (j * ty.size)).take ty.size).take off ++ (a.eval x).cells.toList ++ ((fl.drop (j * ty.size)).take ty.size).drop (off + sz) = spl ((fl.drop (j * ty.size)).take ty.size) off (a.eval x).cells.toList := by unfold spl; rw [hvl']
                    rw [hspl]
                    apply List.ext_getElem?
                    intro k
                    rw [spl_get hC, List.getElem?_take, List.getElem?_drop, spl_get hB, List.getElem?_take, List.getElem?_drop]
                    by_cases hk1 : k < ty.size
                    · simp only [if_pos hk1]
                      by_cases hk2 : off ≤ k ∧ k < off + (a.eval x).cells.toList.length
                      · rw [if_pos hk2, if_pos (by omega)]; congr 1; omega
                      · rw [if_neg hk2, if_neg (by omega)]
                    · rw [if_neg hk1, if_neg (by omega), if_neg hk1]
                  rw [hnew]
                  have htake : RepFCs w (FF γ σ'.ob C.N) ((enc ty (xs.getD j ty.dflt)).take off) (((fl.drop (j * ty.size)).take ty.size).take off) := by simpa using subF_rep hel 0 off
                  exact (RE_of_dec ty _ z _ hz ((htake.append hfr).append (hel.drop (off + sz)))).stay hk'.stay
                · rw [List.getElem?_set, if_neg (fun e => hji e.symm)] at hj
                  have hsame : ((spl fl (i * ty.size + off) (a.eval x).cells.toList).drop (j * ty.size)).take ty.size = (fl.drop (j * ty.size)).take ty.size := by
                    apply List.ext_getElem?
                    intro k
                    rw [List.getElem?_take, List.getElem?_take, List.getElem?_drop, List.getElem?_drop, spl_get hB]
                    by_cases hk1 : k < ty.size
                    · simp only [if_pos hk1]
                      have hne : ¬ (i * ty.size + off ≤ j * ty.size + k ∧ j * ty.size + k < i * ty.size + off + (a.eval x).cells.toList.length) := by
                        rw [hvl']
                        rcases Nat.lt_or_gt_of_ne hji with hlt | hgt
                        · have := Nat.mul_le_mul_right ty.size (show j + 1 ≤ i from hlt); omega
                        · have := Nat.mul_le_mul_right ty.size (show i + 1 ≤ j from hgt); omega
                      rw [if_neg hne]
                    · simp only [if_neg hk1]
                  rw [hsame]
                  exact (hrow j y hj).stay hk'.stay
            · exact ⟨#[], rfl, rfl, fun j x u hx => by simp at hx⟩
        · cases hev
      · cases hev
    · rename_i xs hn'
      split at hev
      case h_2 => cases hev
      rename_i z hxz
      have hsh := hshp _ hn'
      rw [← hsh] at hi hv
      have hi : i < xs.length := hi
      simp only [shp, Nat.mul_one] at hv
      obtain ⟨hc, hev⟩ := bif_some hev
      simp only [Bool.and_eq_true] at hc
      have h0 := Nat.eq_of_beq_eq_true hc.1
      have hs1 := Nat.eq_of_beq_eq_true hc.2
      subst h0; subst hs1
      obtain ⟨b', arr, e, lo, hi', cap, hg', hh, hlo, hsz, hcap, hat⟩ := h'.objs n _ hn'
      have hgb : b' = b := by rw [hg] at hg'; cases hg'; rfl
      subst hgb
      have hx0 : a.eval x = .int .u8 z := sc_eq hxz (opnd_rep hG h' x)
      have hb0 := (h'.own n _ b' hn' (by rw [hg']; rfl)).2
      have hcell : w.cell? ⟨b', i, none⟩ = some (.int .u8 (xs.getD i 0)) := by rw [cell_of_row w b' i arr e (lo, hi') hh]; exact hat i _ (getD_at 0 hi)
      have hfro : w.frozen? ⟨b', i, none⟩ = false := by
        unfold World.frozen?; simp only [hh]; simp; omega
      obtain ⟨ii, d, hii, hisz, hu, hd⟩ := hT.sz t 1 ag hs
      have hheap : (w.setCell ⟨b', i, none⟩ (.int .u8 z)).heap[b']? = some (.cells (arr.setIfInBounds i (.int .u8 z)) e (lo, hi')) := by
        simp [World.setCell, Array.getElem?_modify, hh]
      have hrun : (Instr.storeAt t (.pointer (some ⟨b', i, none⟩)) (.int .u8 z)).run C.P w = .ok () (w.setCell ⟨b', i, none⟩ (.int .u8 z)) := by
        simp [Instr.storeAt, Instr.sureAddr, storeVar, sizeOf, typeInfo, hii, hisz, Value.cells, storeCells, store, Sem.run, Addr.add, hcell, hfro]
      refine wp_skip' (w' := w.setCell ⟨b', i, none⟩ (.int .u8 z)) (by simp only [execOp, ho, hv, hx0, Nat.add_zero, Sem.run_bind, hrun, Result.andThen_ok]; rfl)
        (hK γ _ _ _ ((h'.setOb n (.bytes xs) (.bytes (xs.set i z)) hn' (by simp [shp]) ?_ (h'.since.setCell (p := ⟨b', i, none⟩) hb0 _) ?_).put o.dst (x := undI) ?_) hev)
      · intro b2 hb2
        exact heap_setCell_other w ⟨b', i, none⟩ b2 _ (fun e => hb2 (by rw [hg', e]; rfl))
      · intro _
        refine ⟨b', _, e, lo, hi', cap, by rw [List.length_set]; exact hg', hheap, by rw [List.length_set]; exact hlo, by rw [List.length_set, Array.size_setIfInBounds]; exact hsz, by rw [List.length_set]; exact hcap, ?_⟩
        intro j y hj
        rw [List.getElem?_set] at hj
        rw [Array.getElem?_setIfInBounds]
        by_cases hij : i = j
        · subst hij
          rw [if_pos rfl] at hj ⊢
          rw [if_pos hi] at hj
          cases hj
          rw [if_pos (by omega)]
        · rw [if_neg hij] at hj ⊢
          exact hat j y hj
      · exact ⟨#[], rfl, rfl, fun j x u hx => by simp at hx⟩
    · cases hev
  · cases hev

end
end Go.Iv

/- What is made: variables, rows, literals. -/
namespace Go.Iv
open Go.RowKit

section
variable {C : Ctx} {R : Type} {γ : Nat → Value} {σ : St} {a : Act} {w : World} {o : Oper} {next : Act → World → Prop} {Q : Exit → Act → World → Prop} {r : R} {K : St → Option R}

/-- A block is made and named after the slot. -/
theorem new_step (hG : GlobOk C) (h : Inv C γ σ a w) {d : Nat} (h9 : NrO C o) (hd : o.dst = some d) (hn : get σ.ob d = none) (v g : Value) (ob : Ob) (X : IV) {w' : World}
    (hrun : (execOp a.eval o).run C.P w = .ok (.value v) w') (hw : Below w.heap.size w w') (hb : ∀ b, blk g = some b → w.heap.size ≤ b)
    (hob : Kept (fun _ => false) γ (gup γ d g) σ.ob (upd d ob σ.ob) w w' (FF γ σ.ob C.N) (FF (gup γ d g) (upd d ob σ.ob) C.N) →
      RepOb (gup γ d g) (upd d ob σ.ob) w' (FF (gup γ d g) (upd d ob σ.ob) C.N) d ob)
    (hX : RepI (gup γ d g) (upd d ob σ.ob) w' (FF (gup γ d g) (upd d ob σ.ob) C.N) X v)
    (hev : K { sl := σ.sl.set d X, ob := upd d ob σ.ob } = some r)
    (hK : ∀ γ' σ' a' w', Inv C γ' σ' a' w' → K σ' = some r → next a' w') : o.wp C.P a w next Q := by
  have h1 := h.new d g ob hn hw hb (hob (kept_new hn (fun b hlt => hw.block b hlt) hb)) hG.low (h9 d hd)
  have h2 := h1.put (some d) hX
  refine wp_value hrun (hK (gup γ d g) { sl := σ.sl.set d X, ob := upd d ob σ.ob } _ w' ?_ hev)
  rw [hd]; exact h2

theorem below_alloc (w : World) (o : Obj) : Below w.heap.size w (w.alloc o) := (Below.refl _ _).alloc (Nat.le_refl _) o

theorem ptr_rep (γ : Nat → Value) (σ : St) (w : World) (F : Nat → Prop) (d b : Nat) (cs : List Cell) :
    RepI (gup γ d (.pointer (some ⟨b, 0, none⟩))) (upd d (.cells cs) σ.ob) w F (.v (.one (.ptr d 0))) (.pointer (some ⟨b, 0, none⟩)) :=
  ⟨_, b, get_upd_same _ _ _, rfl, gup_same _ _ _, rfl⟩

theorem s_alloc (hT : TabOk C.P C.T) (hG : GlobOk C) (h9 : NrO C o) (e : TypeId) (ho : o.op = .alloc e) (d : Nat) (hd : o.dst = some d) (ag : Bool) (zs : List Value) (hz : C.T.zero e = some (ag, zs))
    (hev : K { sl := (fresh d σ).sl.set d (.v (.one (.ptr d 0))), ob := upd d (.cells (zs.map fun u => .fc (.sc u))) (fresh d σ).ob } = some r) (h : Inv C γ σ a w)
    (hK : ∀ γ' σ' a' w', Inv C γ' σ' a' w' → K σ' = some r → next a' w') : o.wp C.P a w next Q := by
  obtain ⟨i, z, hi, hz0, hzs⟩ := hT.zero e ag zs hz
  refine new_step hG (h.fresh d) h9 hd (get_fresh d σ) (.pointer (some ⟨w.heap.size, 0, none⟩)) (.pointer (some ⟨w.heap.size, 0, none⟩)) _ _ (w' := w.alloc (.cells z.cells e)) ?_ (below_alloc w _) ?_ ?_
    (ptr_rep _ _ _ _ _ _ _) hev hK
  · simp [execOp, ho, Instr.alloc, zeroValue, typeInfo, hi, hz0, newVar, newRow]
  · intro b hb; cases hb; exact Nat.le_refl _
  · intro _
    refine ⟨w.heap.size, z.cells, e, gup_same _ _ _, heap_alloc_new w _, by rw [← hzs]; simp, fun j c u hc hu => ?_⟩
    rw [List.getElem?_map, Option.map_eq_some_iff] at hc
    obtain ⟨u', hu', rfl⟩ := hc
    rw [← hzs, hu] at hu'; cases hu'; rfl

theorem s_box (hG : GlobOk C) (h9 : NrO C o) (e : TypeId) (x : Operand) (ho : o.op = .box e x) (d : Nat) (hd : o.dst = some d) (cs : List Cell) (hcs : cellsOf (opnd C.T (fresh d σ) x) = some cs) (hok : cs.all okC = true)
    (hev : K { sl := (fresh d σ).sl.set d (.v (.one (.ptr d 0))), ob := upd d (.cells cs) (fresh d σ).ob } = some r) (h : Inv C γ σ a w)
    (hK : ∀ γ' σ' a' w', Inv C γ' σ' a' w' → K σ' = some r → next a' w') : o.wp C.P a w next Q := by
  have h' := h.fresh d
  obtain ⟨hr, h1⟩ := cellsOf_rep h' hcs hok (opnd_rep hG h' x)
  refine new_step hG h' h9 hd (get_fresh d σ) (.pointer (some ⟨w.heap.size, 0, none⟩)) (.pointer (some ⟨w.heap.size, 0, none⟩)) _ _ (w' := w.alloc (.cells (a.eval x).cells e)) ?_ (below_alloc w _) ?_ ?_
    (ptr_rep _ _ _ _ _ _ _) hev hK
  · simp [execOp, ho, Instr.box, newVar, newRow]
  · intro b hb; cases hb; exact Nat.le_refl _
  · intro hk
    refine ⟨w.heap.size, (a.eval x).cells, e, gup_same _ _ _, heap_alloc_new w _, ?_⟩
    have := hr.sc hk
    rwa [map_scC_none] at this

theorem RE_len {w : World} {F : Nat → Prop} (t : Ty) {vs : List Value} {x : t.Den} (h : RE w F t vs x) : vs.length = t.size := by
  have := (enc_of_RE t x vs h).1
  rw [enc_len] at this; exact this.symm

theorem flat_row {S : Nat} : ∀ (vs : List Value) (i : Nat) (v : Value), (∀ u ∈ vs, u.cells.size = S) → vs[i]? = some v → ((vs.flatMap fun v => v.cells.toList).drop (i * S)).take S = v.cells.toList
  | [], i, v, _, h => by simp at h
  | u :: vs, 0, v, hs, h => by
    cases h
    have := hs u (List.mem_cons_self ..)
    simp only [List.flatMap_cons, Nat.zero_mul, List.drop_zero]
    rw [List.take_append_of_le_length (by simp [this]), List.take_of_length_le (by simp [this])]
  | u :: vs, i + 1, v, hs, h => by
    have hu := hs u (List.mem_cons_self ..)
    have ih := flat_row vs i v (fun x hx => hs x (List.mem_cons_of_mem _ hx)) (by simpa using h)
    simp only [List.flatMap_cons]
    rw [Nat.add_mul, Nat.one_mul, Nat.add_comm, ← List.drop_drop]
    have e : (u.cells.toList ++ vs.flatMap fun v => v.cells.toList).drop S = vs.flatMap fun v => v.cells.toList := by
      rw [List.drop_append_of_le_length (by simp [hu]), List.drop_of_length_le (by simp [hu])]; rfl
    rw [e]; exact ih

theorem flat_len {S : Nat} : ∀ (vs : List Value), (∀ u ∈ vs, u.cells.size = S) → (vs.flatMap fun v => v.cells.toList).length = vs.length * S
  | [], _ => by simp
  | u :: vs, hs => by
    have hu := hs u (List.mem_cons_self ..)
    simp only [List.flatMap_cons, List.length_append, Array.length_toList, hu, List.length_cons, flat_len vs (fun x hx => hs x (List.mem_cons_of_mem _ hx)), Nat.add_mul, Nat.one_mul]
    omega

theorem parts_rep (hG : GlobOk C) (h : Inv C γ σ a w) (ty : Ty) : ∀ (parts : List (Nat × Operand)) (i : Nat) (xs : List ty.Den), partsOf C.T σ ty i parts = some xs →
    (parts.map fun p => (p.1, a.eval p.2)) = ((parts.map fun p => a.eval p.2).zipIdx i).map (fun x => (x.2, x.1)) ∧ xs.length = parts.length ∧
    ∀ (j : Nat) (v : Value), (parts.map fun p => a.eval p.2)[j]? = some v → ∃ x, xs[j]? = some x ∧ RE w (FF γ σ.ob C.N) ty v.cells.toList x ∧ ∀ u ∈ v.cells.toList, u.oneCell' = true
  | [], i, xs, hp => by cases hp; exact ⟨rfl, rfl, fun j v hv => by simp at hv⟩
  | (k, x) :: r, i, xs, hp => by
    rw [partsOf] at hp
    have hp2 := bif_some hp
    clear hp
    obtain ⟨hik, hp⟩ := hp2
    have hik := Nat.eq_of_beq_eq_true hik
    subst hik
    split at hp
    · cases hp
    rename_i cs hcs
    split at hp
    · cases hp
    rename_i fs hfs
    have hp3 := bif_some hp
    clear hp
    obtain ⟨hok, hp⟩ := hp3
    split at hp
    · rename_i y ys hy hys
      cases hp
      obtain ⟨e1, e2, e3⟩ := parts_rep hG h ty r (i + 1) ys hys
      obtain ⟨hr, h1⟩ := cellsOf_rep h hcs hok (opnd_rep hG h x)
      refine ⟨by simp only [List.map_cons, List.zipIdx_cons, e1], by simp [e2], fun j v hv => ?_⟩
      match j with
      | 0 => cases hv; exact ⟨y, rfl, RE_of_dec ty fs y _ hy (fcs_rep cs fs _ hfs hr), h1⟩
      | j + 1 => obtain ⟨z, hz, hre⟩ := e3 j v (by simpa using hv); exact ⟨z, by simpa using hz, hre⟩
    · cases hp

theorem hdr_rep (γ : Nat → Value) (ob : List (Nat × Ob)) (w : World) (F : Nat → Prop) (d : Nat) (v : Value) (o : Ob) (ho : (shp o).1 = true) :
    RepI (gup γ d v) (upd d o ob) w F (.v (.one (.hdr d))) v := ⟨(gup_same _ _ _).symm, o, get_upd_same _ _ _, ho⟩

theorem s_buildSlice (hT : TabOk C.P C.T) (hG : GlobOk C) (h9 : NrO C o) (t : TypeId) (len : Nat) (parts : Array (Nat × Operand)) (ho : o.op = .buildSlice t len parts)
    (hev : evBuildSlice C.T σ o.dst t len parts.toList K = some r) (h : Inv C γ σ a w)
    (hK : ∀ γ' σ' a' w', Inv C γ' σ' a' w' → K σ' = some r → next a' w') : o.wp C.P a w next Q := by
  unfold evBuildSlice at hev
  split at hev
  · rename_i d ty e hd hts
    dsimp only at hev
    have h0 := Inv.frzAll (hdrsOps C.T σ (parts.toList.map (·.2))) h
    generalize frzAll (hdrsOps C.T σ (parts.toList.map (·.2))) σ = σ1 at hev h0
    split at hev
    · rename_i xs hxs
      obtain ⟨hc, hev⟩ := bif_some hev
      simp only [Bool.and_eq_true] at hc
      have hlen := Nat.eq_of_beq_eq_true hc.1
      have hsm : len ≤ 1000 := Nat.le_of_ble_eq_true hc.2
      obtain ⟨hu, ei, ez, hei, hez, hes, heb, hzs, hzr⟩ := hT.sl t ty e hts
      obtain ⟨e1, e2, e3⟩ := parts_rep hG h0 ty parts.toList 0 xs hxs
      have hS := ty.size_pos
      have hS3 : ty.size ≤ 3 := by cases ty <;> simp [Ty.size]
      have hvs : ∀ u ∈ (parts.toList.map fun p => a.eval p.2), u.cells.size = ty.size := by
        intro u hu'
        obtain ⟨j, hj⟩ := List.getElem?_of_mem hu'
        obtain ⟨x, _, hre, _⟩ := e3 j u hj
        have := RE_len ty hre
        simpa using this
      have hn : (parts.toList.map fun p => a.eval p.2).length = len := by rw [List.length_map, ← e2]; exact hlen
      have hfl := flat_len _ hvs
      have hfill : Instr.fill (fun i => some (i * ei.size, ei.size)) ((Array.range (len * ei.size)).map (ez.cells[· % ez.cells.size]!)) (parts.map fun (i, x) => (i, a.eval x)).toList =
          some ((parts.toList.map fun p => a.eval p.2).flatMap fun v => v.cells.toList).toArray := by
        have hp : (parts.map fun (i, x) => (i, a.eval x)).toList = parts.toList.map fun p => (p.1, a.eval p.2) := by rw [Array.toList_map]
        rw [hp, e1, hes]
        exact Great.fill_whole hS _ _ hvs (by simp only [List.length_map, Array.size_map, Array.size_range] at hn ⊢; rw [hn])
      have hrun : (execOp a.eval o).run C.P w = .ok (.value (.slice (some ⟨w.heap.size, 0, none⟩) len len)) (w.alloc (.cells ((parts.toList.map fun p => a.eval p.2).flatMap fun v => v.cells.toList).toArray e)) := by
        by_cases hpos : len * ei.size = 0
        · have hl0 : len = 0 := by rcases Nat.mul_eq_zero.1 hpos with h | h <;> omega
          subst hl0
          have hnil : parts.toList = [] := List.eq_nil_of_length_eq_zero (by rw [List.length_map] at hn; exact hn)
          have hnil' : parts = #[] := by rw [← Array.toArray_toList (xs := parts), hnil]
          simp [execOp, ho, Instr.buildSlice, run_underlying hu, sizeOf, typeInfo, hei, hnil', Instr.fill, newRow]
          exact congrArg (fun c => w.alloc (.cells c e)) (by simp)
        · have := run_buildSlice (P := C.P) w t e len (parts.map fun (i, x) => (i, a.eval x)) _ ei ez hu hei hez (by rw [hes]; have := Nat.mul_le_mul hsm hS3; omega) hpos hfill
          simp only [execOp, ho, Sem.run_bind, this, Result.andThen_ok]; rfl
      refine new_step hG (h0.fresh d) h9 hd (get_fresh d σ1) _ (.slice (some ⟨w.heap.size, 0, none⟩) len len) _ _ hrun (below_alloc w _) ?_ ?_ (hdr_rep _ _ _ _ _ _ _ rfl) hev hK
      · intro b hb; cases hb; exact Nat.le_refl _
      · intro hk
        rw [hn] at hfl
        refine ⟨(parts.toList.map fun p => a.eval p.2).flatMap fun v => v.cells.toList, ?_, ?_, ?_⟩
        · rw [gup_same, hlen]
          have hl := World.ownsRow_lit (base := 0) (e := e) (size := ty.size) w ((parts.toList.map fun p => a.eval p.2).flatMap fun v => v.cells.toList).toArray len (Nat.zero_le _) (by unfold maxLen; omega) (by simpa using hfl)
          simpa using hl
        · intro u hu'
          obtain ⟨v, hv, huv⟩ := List.mem_flatMap.1 hu'
          obtain ⟨j, hj⟩ := List.getElem?_of_mem hv
          obtain ⟨x, _, _, h1⟩ := e3 j v hj
          exact h1 u huv
        · intro i x hi
          have hi' : i < (parts.toList.map fun p => a.eval p.2).length := by rw [hn, ← hlen]; exact (List.getElem?_eq_some_iff.1 hi).1
          have hv := List.getElem?_eq_getElem hi'
          obtain ⟨y, hy, hre, _⟩ := e3 i _ hv
          rw [hi] at hy; cases hy
          rw [flat_row _ i _ hvs hv]
          refine (hre.stay (w' := w) (F' := FF γ (fresh d σ1).ob C.N) ?_).stay hk.stay
          intro b _ hF
          refine ⟨rfl, fun hF' => hF ?_⟩
          rcases hF' with hF' | ⟨m, o', hm, hb⟩
          · exact .inl hF'
          · unfold fresh at hm
            split at hm
            · exact .inr ⟨m, o', hm, hb⟩
            · rw [get_drop] at hm
              split at hm
              · cases hm
              · obtain ⟨o2, h2, _⟩ := Option.map_eq_some_iff.1 hm
                exact .inr ⟨m, o2, h2, hb⟩
    · cases hev
  · cases hev

end
end Go.Iv
