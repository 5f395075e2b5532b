/- Texts of this proof, joined: Iv13 Iv17 Iv18 Iv19. -/
import Derived.Test.YtpdmeafoofkpaaaGreatDoorGc
import Derived.Test.YtpdmeafoofkpaaaGreatDoorGa
set_option linter.unusedVariables false
set_option linter.unusedSimpArgs false
/- Contracts, and the call of a function by its contract. -/
namespace Go.Iv
open Go.RowKit

def isBuf : RC → Bool
  | .buf _ _ _ => true
  | _ => false

def RepRC (w : World) (F : Nat → Prop) : RC → Value → Prop
  | .fc c, v => RepFC w F c v
  | .buf t e xs, v => ∃ fl, w.ownsRow 0 e t.size v xs.length fl ∧ (∀ u ∈ fl, u.oneCell' = true) ∧ ∀ i x, xs[i]? = some x → RE w F t ((fl.drop (i * t.size)).take t.size) x

/-- Foreign ground, and the rows that the results bring. -/
def FR (N : Nat → Prop) (rs : List RC) (vs : List Value) (b : Nat) : Prop := N b ∨ ∃ (j : Nat) (c : RC) (u : Value), rs[j]? = some c ∧ isBuf c = true ∧ vs[j]? = some u ∧ blk u = some b

structure Post (N : Nat → Prop) (n0 : Nat) (w : World) (rs : List RC) (vs : List Value) : Prop where
  len : rs.length = vs.length
  rep : ∀ (j : Nat) (c : RC) (u : Value), rs[j]? = some c → vs[j]? = some u → RepRC w (FR N rs vs) c u
  new : ∀ (j : Nat) (c : RC) (u : Value) (b : Nat), rs[j]? = some c → isBuf c = true → vs[j]? = some u → blk u = some b → n0 ≤ b
  inj : ∀ (j k : Nat) (c d : RC) (u v : Value) (b : Nat), rs[j]? = some c → isBuf c = true → vs[j]? = some u → blk u = some b →
    rs[k]? = some d → isBuf d = true → vs[k]? = some v → blk v = some b → j = k

def Sh1 : R1 → Value → List Value → Prop
  | .one _, v, vs => vs = [v]
  | .agg cs, v, vs => ∃ arr, v = .agg arr ∧ vs = arr.toList ∧ cs.length = arr.size
def ShL : List R1 → List Value → List Value → Prop
  | [], [], vs => vs = []
  | x :: r, u :: us, vs => ∃ v1 v2, vs = v1 ++ v2 ∧ Sh1 x u v1 ∧ ShL r us v2
  | _, _, _ => False
def ShV : RV → Value → List Value → Prop
  | .one x, v, vs => Sh1 x v vs
  | .multi xs, v, vs => ∃ arr, v = .tuple arr ∧ ShL xs arr.toList vs

def RepA (w : World) (F : Nat → Prop) : AV → Value → Prop
  | .one c, v => RepFC w F c v
  | .agg cs, v => ∃ arr, v = .agg arr ∧ RepFCs w F cs arr.toList

def GlobW (T : Tab) (N : Nat → Prop) (w : World) : Prop :=
  (∀ g ∈ T.gi, ¬ N g ∧ ∃ m, w.cell? ⟨g, 0, none⟩ = some (.int .i64 m)) ∧ ∀ g cs, T.glob g = some cs → ∃ vs, RepFCs w N cs vs ∧ ∀ (j : Nat) (u : Value), vs[j]? = some u → ¬ N g ∧ w.cell? ⟨g, j, none⟩ = some u

/-- THE CONTRACT: called with what reads as avs, function f returns what reads as res; nothing that was there has turned. -/
def Con (P : Program) (T : Tab) (f : FuncId) (avs : List AV) (res : RV) : Prop :=
  ∀ (w : World) (N : Nat → Prop) (vs : List Value), (∀ b, N b → b < w.heap.size) → GlobW T N w → vs.length = avs.length →
    (∀ (j : Nat) (a : AV) (v : Value), avs[j]? = some a → vs[j]? = some v → RepA w N a v) →
    Calls P f vs.toArray w fun e w' => ∃ v us, e = .returned v ∧ Below w.heap.size w w' ∧ ShV res v us ∧ Post N w.heap.size w' res.flat us

/-- What a pointer's variable, and the rows that its contents own, take up. -/
def Mp (pb : Nat) (ins : List RC) (arr : List Value) (b : Nat) : Prop := b = pb ∨ ∃ (j : Nat) (c : RC) (u : Value), ins[j]? = some c ∧ isBuf c = true ∧ arr[j]? = some u ∧ blk u = some b

structure PreP (N : Nat → Prop) (w : World) (pb : Nat) (ins : List RC) (arr : List Value) : Prop where
  len : ins.length = arr.length
  rep : ∀ (j : Nat) (c : RC) (u : Value), ins[j]? = some c → arr[j]? = some u → RepRC w (fun b => N b ∨ Mp pb ins arr b) c u
  sep : ∀ (j : Nat) (c : RC) (u : Value) (b : Nat), ins[j]? = some c → isBuf c = true → arr[j]? = some u → blk u = some b → b ≠ pb ∧ ¬ N b
  inj : ∀ (j k : Nat) (c d : RC) (u v : Value) (b : Nat), ins[j]? = some c → isBuf c = true → arr[j]? = some u → blk u = some b →
    ins[k]? = some d → isBuf d = true → arr[k]? = some v → blk v = some b → j = k

structure PostP (N Mr : Nat → Prop) (pb n0 : Nat) (w : World) (rs : List RC) (vs : List Value) : Prop where
  len : rs.length = vs.length
  rep : ∀ (j : Nat) (c : RC) (u : Value), rs[j]? = some c → vs[j]? = some u → RepRC w (fun b => FR N rs vs b ∨ b = pb) c u
  new : ∀ (j : Nat) (c : RC) (u : Value) (b : Nat), rs[j]? = some c → isBuf c = true → vs[j]? = some u → blk u = some b → n0 ≤ b ∨ (Mr b ∧ b ≠ pb)
  inj : ∀ (j k : Nat) (c d : RC) (u v : Value) (b : Nat), rs[j]? = some c → isBuf c = true → vs[j]? = some u → blk u = some b →
    rs[k]? = some d → isBuf d = true → vs[k]? = some v → blk v = some b → j = k

/-- THE CONTRACT of a function that is handed a pointer. -/
def ConP (P : Program) (T : Tab) (f : FuncId) (ins : List RC) (avs : List AV) (res : RV) (out : List RC) : Prop :=
  ∀ (w : World) (N : Nat → Prop) (pb : Nat) (arr : Array Value) (ty : TypeId) (vs : List Value), (∀ b, N b → b < w.heap.size) → ¬ N pb → w.heap[pb]? = some (.cells arr ty (0, 0)) →
    PreP N w pb ins arr.toList → GlobW T (fun b => N b ∨ Mp pb ins arr.toList b) w → vs.length = avs.length →
    (∀ (j : Nat) (a : AV) (v : Value), avs[j]? = some a → vs[j]? = some v → RepA w (fun b => N b ∨ Mp pb ins arr.toList b) a v) →
    Calls P f (Value.pointer (some ⟨pb, 0, none⟩) :: vs).toArray w fun e w' => ∃ v us arr' ty', e = .returned v ∧ Since (Mp pb ins arr.toList) w.heap.size w w' ∧ ShV res v us ∧
      w'.heap[pb]? = some (.cells arr' ty' (0, 0)) ∧ out.length = arr'.toList.length ∧ PostP N (Mp pb ins arr.toList) pb w.heap.size w' (out ++ res.flat) (arr'.toList ++ us)

/-- THE CONTRACT of a function that hands back a pointer to a new variable of plain cells. -/
def ConN (P : Program) (T : Tab) (f : FuncId) (avs : List AV) (fs : List FC) : Prop :=
  ∀ (w : World) (N : Nat → Prop) (vs : List Value), (∀ b, N b → b < w.heap.size) → GlobW T N w → vs.length = avs.length →
    (∀ (j : Nat) (a : AV) (v : Value), avs[j]? = some a → vs[j]? = some v → RepA w N a v) →
    Calls P f vs.toArray w fun e w' => ∃ b arr ty, e = .returned (.pointer (some ⟨b, 0, none⟩)) ∧ Below w.heap.size w w' ∧ w.heap.size ≤ b ∧ w'.heap[b]? = some (.cells arr ty (0, 0)) ∧
      RepFCs w' (fun k => N k ∨ k = b) fs arr.toList

/-- THE CONTRACT of a function that is given a row. -/
def ConB (P : Program) (T : Tab) (f : FuncId) (B : BufF) (xs : List B.t.Den) (avs : List AV) (ys : List B.t.Den) : Prop :=
  ∀ (w : World) (N : Nat → Prop) (v : Value) (fl vs : List Value), (∀ b, N b → b < w.heap.size) → (∀ b, blk v = some b → ¬ N b) → GlobW T (fun b => N b ∨ blk v = some b) w →
    w.ownsRow 0 B.e B.t.size v xs.length fl → (∀ u ∈ fl, u.oneCell' = true) → (∀ i x, xs[i]? = some x → RE w (fun b => N b ∨ blk v = some b) B.t ((fl.drop (i * B.t.size)).take B.t.size) x) →
    vs.length = avs.length → (∀ (j : Nat) (a : AV) (u : Value), avs[j]? = some a → vs[j]? = some u → RepA w (fun b => N b ∨ blk v = some b) a u) →
    (∀ j ∈ B.own, ∃ u e sz n fl, vs[j]? = some u ∧ w.ownsRow 0 e sz u n fl) →
    Calls P f (v :: vs).toArray w fun e w' => ∃ v' fl', e = .returned v' ∧ Since (fun b => blk v = some b) w.heap.size w w' ∧ w'.ownsRow 0 B.e B.t.size v' ys.length fl' ∧ (∀ u ∈ fl', u.oneCell' = true) ∧
      (∀ i x, ys[i]? = some x → RE w' (fun b => N b ∨ blk v' = some b) B.t ((fl'.drop (i * B.t.size)).take B.t.size) x) ∧ ∀ b, blk v' = some b → blk v = some b ∨ w.heap.size ≤ b

def Enters (P : Program) (g : FuncId) : Prop := ∃ fn, P.funcs[g]? = some fn ∧ fn.body.isNone = false ∧ (fn.name == "runtime.NumGoroutine") = false

structure CallOk (P : Program) (T : Tab) (call : CallT) : Prop where
  con : ∀ g avs res, (call.c g avs).val = some res → Con P T g avs res
  enters : ∀ g avs res, (call.c g avs).val = some res → Enters P g
  conP : ∀ g ins avs res out, (call.p g ins avs).val = some (res, out) → ConP P T g ins avs res out
  entersP : ∀ g ins avs res out, (call.p g ins avs).val = some (res, out) → Enters P g
  conN : ∀ g f avs fs, call.n g = some f → f avs = some fs → ConN P T g avs fs
  entersN : ∀ g f avs fs, call.n g = some f → f avs = some fs → Enters P g
  conB : ∀ g B xs avs ys, call.b g = some B → B.f xs avs = some ys → ConB P T g B xs avs ys
  entersB : ∀ g B xs avs ys, call.b g = some B → B.f xs avs = some ys → Enters P g

section
variable {C : Ctx} {R : Type} {γ : Nat → Value} {σ : St} {a : Act} {w : World} {o : Oper} {next : Act → World → Prop} {Q : Exit → Act → World → Prop} {r : R} {K : St → Option R}

/-- What a call may not reach: all that may turn but for what it is shown. -/
def Nc (γ : Nat → Value) (ob : List (Nat × Ob)) (N : Nat → Prop) (L : List Nat) (b : Nat) : Prop := FF γ ob N b ∧ ∀ n ∈ L, blk (γ n) ≠ some b

theorem bytes_list {F F' : Nat → Prop} {n : Nat} {ob : List (Nat × Ob)} {xs : List Int} (h : RepOb γ ob w F n (.bytes xs)) (hb : ∀ b, blk (γ n) = some b → ¬ F' b) : RepL w F' (.int .u8) (γ n) xs := by
  obtain ⟨b, arr, e, lo, hi, cap, hg, hh, h1, h2, h3, h4⟩ := h
  refine ⟨some ⟨b, 0, none⟩, cap, hg, h3, fun i x hi' => ⟨b, 0, [.int .u8 x], rfl, hb b (by rw [hg]; rfl), rfl, fun j u hu => ?_, rfl⟩⟩
  match j with
  | 0 =>
    cases hu
    have := h4 i x hi'
    rw [← cell_of_row w b i arr e (lo, hi) hh] at this
    simpa [Ty.size] using this
  | j + 1 => simp at hu

theorem view_rep (h : Inv C γ σ a w) {L : List Nat} {ty : Option (Ty × TypeId)} {c : Cell} {f : FC} {v : Value} (hv : view σ.ob ty c = some f) (hL : ∀ n ∈ hdrs [c], n ∈ L)
    (hr : RepC γ σ.ob w (FF γ σ.ob C.N) c v) : RepFC w (Nc γ σ.ob C.N L) f v := by
  have hle : ∀ b, Nc γ σ.ob C.N L b → FF γ σ.ob C.N b := fun b hb => hb.1
  unfold view at hv
  split at hv
  · split at hv
    · cases hv
      have : v = .slice none 0 0 := hr
      subst this
      exact RepL.nil w _ _
    · cases hv; exact hr
  · cases hv
    exact RepFC.stay (Stay.less fun b _ hb => hle b hb) hr
  · rename_i n
    have hn : n ∈ L := hL n (by simp [hdrs])
    have hb : ∀ b, blk (γ n) = some b → ¬ Nc γ σ.ob C.N L b := fun b hb hN => hN.2 n hn hb
    obtain ⟨hv', _⟩ := hr
    subst hv'
    split at hv
    · rename_i t e xs hg
      cases hv
      exact rows_list (h.objs n _ hg) hle hb
    · rename_i xs hg
      cases hv
      exact bytes_list (h.objs n _ hg) hb
    · cases hv
  · cases hv

theorem views_rep (h : Inv C γ σ a w) {L : List Nat} : ∀ (tys : List (Option (Ty × TypeId))) (cs : List Cell) (fs : List FC) (vs : List Value), views σ.ob tys cs = some fs → (∀ n ∈ hdrs cs, n ∈ L) →
    RepCs γ σ.ob w (FF γ σ.ob C.N) cs vs → RepFCs w (Nc γ σ.ob C.N L) fs vs
  | [], [], fs, vs, hv, _, hr => by cases hv; exact ⟨hr.1, fun j c u hc => by simp at hc⟩
  | ty :: tys, c :: cs, fs, vs, hv, hL, hr => by
    rw [views] at hv
    split at hv
    · rename_i f fs' hf hfs
      cases hv
      match vs, hr.1 with
      | u :: vs, hlen =>
        have h1 : ∀ n ∈ hdrs [c], n ∈ L := fun n hn => hL n (by
          cases c <;> simp [hdrs] at hn ⊢
          exact .inl hn)
        have h2 : ∀ n ∈ hdrs cs, n ∈ L := fun n hn => hL n (by
          cases c <;> simp only [hdrs, List.mem_cons] <;> first | exact hn | exact .inr hn)
        have ih := views_rep h tys cs fs' vs hfs h2 ⟨by simpa using hlen, fun j c u hc hu => hr.2 (j + 1) c u (by simpa using hc) (by simpa using hu)⟩
        have hf' := view_rep h hf h1 (hr.2 0 c u rfl rfl)
        refine ⟨by simp [ih.1], fun j c' u' hc hu => ?_⟩
        match j with
        | 0 => cases hc; cases hu; exact hf'
        | j + 1 => exact ih.2 j c' u' (by simpa using hc) (by simpa using hu)
    · cases hv
  | [], _ :: _, _, _, hv, _, _ => by simp [views] at hv
  | _ :: _, [], _, _, hv, _, _ => by simp [views] at hv

theorem viewI_rep (h : Inv C γ σ a w) {L : List Nat} {T : Tab} {t : TypeId} {x : IV} {av : AV} {v : Value} (hv : viewI T σ.ob t x = some av) (hL : ∀ n ∈ hdrsI x, n ∈ L)
    (hr : RepI γ σ.ob w (FF γ σ.ob C.N) x v) : RepA w (Nc γ σ.ob C.N L) av v := by
  unfold viewI at hv
  split at hv
  · rename_i c
    split at hv
    · split at hv
      · rename_i f hf; cases hv; exact view_rep h hf hL hr
      · cases hv
    · cases hv
  · rename_i cs
    split at hv
    · rename_i fs hfs
      cases hv
      obtain ⟨arr, rfl, hr⟩ := hr
      exact ⟨arr, rfl, views_rep h _ cs fs _ hfs hL hr⟩
    · cases hv
  · cases hv

theorem viewsI_rep (hG : GlobOk C) (h : Inv C γ σ a w) {L : List Nat} : ∀ (ts : List TypeId) (xs : List Operand) (avs : List AV), viewsI C.T σ ts xs = some avs → (∀ n ∈ hdrsOps C.T σ xs, n ∈ L) →
    (xs.map a.eval).length = avs.length ∧ ∀ (j : Nat) (av : AV) (v : Value), avs[j]? = some av → (xs.map a.eval)[j]? = some v → RepA w (Nc γ σ.ob C.N L) av v
  | [], [], avs, hv, _ => by cases hv; exact ⟨rfl, fun j av v hj => by simp at hj⟩
  | t :: ts, x :: xs, avs, hv, hL => by
    rw [viewsI] at hv
    split at hv
    · rename_i av avs' h1 h2
      cases hv
      obtain ⟨e1, e2⟩ := viewsI_rep hG h ts xs avs' h2 (fun n hn => hL n (by simp [hdrsOps, hn]))
      have h3 := viewI_rep h h1 (fun n hn => hL n (by simp [hdrsOps, hn])) (opnd_rep hG h x)
      refine ⟨by simpa using e1, fun j av' v hj hu => ?_⟩
      match j with
      | 0 => cases hj; cases hu; exact h3
      | j + 1 => exact e2 j av' v (by simpa using hj) (by simpa using hu)
    · cases hv
  | [], _ :: _, _, hv, _ => by simp [viewsI] at hv
  | _ :: _, [], _, hv, _ => by simp [viewsI] at hv

/-! ### the names of what a call brings -/

theorem get_obs (d : Nat) : ∀ (rs : List RC) (j0 n : Nat) (o : Ob), get (obs d j0 rs) n = some o → ∃ k t e xs, n = nm d (j0 + k) ∧ rs[k]? = some (.buf t e xs) ∧ o = .rows t e xs
  | [], _, _, _, h => by simp [obs, get] at h
  | .fc c :: rs, j0, n, o, h => by
    obtain ⟨k, t, e, xs, h1, h2, h3⟩ := get_obs d rs (j0 + 1) n o h
    exact ⟨k + 1, t, e, xs, by rw [h1]; congr 1; omega, by simpa using h2, h3⟩
  | .buf t e xs :: rs, j0, n, o, h => by
    rw [obs, get] at h
    split at h
    · rename_i hn; cases h; exact ⟨0, t, e, xs, by rw [← hn]; rfl, rfl, rfl⟩
    · obtain ⟨k, t', e', xs', h1, h2, h3⟩ := get_obs d rs (j0 + 1) n o h
      exact ⟨k + 1, t', e', xs', by rw [h1]; congr 1; omega, by simpa using h2, h3⟩

theorem nm_inj {d j k : Nat} (h : nm d j = nm d k) : j = k := by unfold nm at h; omega

theorem get_obs_at (d : Nat) : ∀ (rs : List RC) (j0 k : Nat) (t : Ty) (e : TypeId) (xs : List t.Den), rs[k]? = some (.buf t e xs) → get (obs d j0 rs) (nm d (j0 + k)) = some (.rows t e xs)
  | [], _, _, _, _, _, h => by simp at h
  | .fc c :: rs, j0, k, t, e, xs, h => by
    match k with
    | 0 => cases h
    | k + 1 =>
      have := get_obs_at d rs (j0 + 1) k t e xs (by simpa using h)
      rw [obs, show j0 + (k + 1) = j0 + 1 + k from by omega]; exact this
  | .buf t' e' xs' :: rs, j0, k, t, e, xs, h => by
    match k with
    | 0 => cases h; rw [obs, get, Nat.add_zero, if_pos rfl]
    | k + 1 =>
      have := get_obs_at d rs (j0 + 1) k t e xs (by simpa using h)
      rw [obs, get, if_neg (fun e => by have := nm_inj e; omega), show j0 + (k + 1) = j0 + 1 + k from by omega]; exact this

theorem ofCall_nm (d j : Nat) (hd : d < 1000) : ofCall d (nm d j) = true := by
  unfold ofCall nm
  rw [Bool.and_eq_true]
  have e : (d + 1000 * (j + 1)) % 1000 = d := by omega
  exact ⟨Nat.ble_eq_true_of_le (by omega), by rw [e]; exact Nat.beq_refl d⟩

theorem unCs_rep {ob : List (Nat × Ob)} {F : Nat → Prop} {γ : Nat → Value} {w : World} (d : Nat) : ∀ (rs : List RC) (j0 : Nat) (vs : List Value), rs.length = vs.length →
    (∀ (k : Nat) (c : RC) (u : Value), rs[k]? = some c → vs[k]? = some u → RepC γ ob w F (unC d (j0 + k) c) u) → RepCs γ ob w F (unCs d j0 rs) vs
  | [], _, vs, hl, _ => by
    have : vs = [] := List.eq_nil_of_length_eq_zero hl.symm
    subst this; exact ⟨rfl, fun j c u hc => by simp [unCs] at hc⟩
  | c :: rs, j0, v :: vs, hl, h => by
    have ih := unCs_rep d rs (j0 + 1) vs (by simpa using hl) (fun k c u hc hu => by
      rw [show j0 + 1 + k = j0 + (k + 1) from by omega]; exact h (k + 1) c u (by simpa using hc) (by simpa using hu))
    refine ⟨by simp [unCs, ih.1], fun j c' u' hc hu => ?_⟩
    match j with
    | 0 => cases hc; cases hu; exact h 0 c _ rfl rfl
    | j + 1 => exact ih.2 j c' u' (by simpa [unCs] using hc) (by simpa using hu)

theorem un1_rep {ob : List (Nat × Ob)} {F : Nat → Prop} {γ : Nat → Value} {w : World} (d : Nat) (x : R1) (j0 : Nat) (v : Value) (vs : List Value) (hs : Sh1 x v vs) (hl : x.cs.length = vs.length)
    (h : ∀ (k : Nat) (c : RC) (u : Value), x.cs[k]? = some c → vs[k]? = some u → RepC γ ob w F (unC d (j0 + k) c) u) : RepV1 γ ob w F (un1 d j0 x) v := by
  cases x with
  | one c => cases hs; exact h 0 c v rfl rfl
  | agg cs => obtain ⟨arr, rfl, rfl, _⟩ := hs; exact ⟨arr, rfl, unCs_rep d cs j0 _ hl h⟩

theorem Sh1_len {x : R1} {v : Value} {vs : List Value} (h : Sh1 x v vs) : x.cs.length = vs.length := by
  cases x with
  | one c => cases h; rfl
  | agg cs => obtain ⟨arr, _, rfl, hl⟩ := h; simpa [R1.cs] using hl

theorem unL_rep {ob : List (Nat × Ob)} {F : Nat → Prop} {γ : Nat → Value} {w : World} (d : Nat) : ∀ (xs : List R1) (j0 : Nat) (us vs : List Value), ShL xs us vs →
    (∀ (k : Nat) (c : RC) (u : Value), (flat xs)[k]? = some c → vs[k]? = some u → RepC γ ob w F (unC d (j0 + k) c) u) →
    (unL d j0 xs).length = us.length ∧ ∀ (j : Nat) (x : V1) (u : Value), (unL d j0 xs)[j]? = some x → us[j]? = some u → RepV1 γ ob w F x u
  | [], _, [], _, _, _ => ⟨rfl, fun j x u hx => by simp [unL] at hx⟩
  | x :: xs, j0, u :: us, vs, hs, h => by
    obtain ⟨v1, v2, rfl, h1, h2⟩ := hs
    have hl := Sh1_len h1
    have hh := un1_rep d x j0 u v1 h1 hl (fun k c u hc hu => h k c u (by rw [flat, List.getElem?_append_left (List.getElem?_eq_some_iff.1 hc).1]; exact hc) (by rw [List.getElem?_append_left (List.getElem?_eq_some_iff.1 hu).1]; exact hu))
    obtain ⟨e1, e2⟩ := unL_rep d xs (j0 + x.cs.length) us v2 h2 (fun k c u hc hu => by
      rw [show j0 + x.cs.length + k = j0 + (x.cs.length + k) from by omega]
      exact h (x.cs.length + k) c u (by rw [flat, List.getElem?_append_right (by omega), Nat.add_sub_cancel_left]; exact hc) (by rw [hl, List.getElem?_append_right (by omega), Nat.add_sub_cancel_left]; exact hu))
    refine ⟨by simp [unL, e1], fun j y u' hy hu => ?_⟩
    match j with
    | 0 => cases hy; cases hu; exact hh
    | j + 1 => exact e2 j y u' (by simpa [unL] using hy) (by simpa using hu)
  | [], _, _ :: _, _, hs, _ => hs.elim
  | _ :: _, _, [], _, hs, _ => hs.elim

theorem un_rep {ob : List (Nat × Ob)} {F : Nat → Prop} {γ : Nat → Value} {w : World} (d : Nat) (res : RV) (v : Value) (vs : List Value) (hs : ShV res v vs)
    (h : ∀ (k : Nat) (c : RC) (u : Value), res.flat[k]? = some c → vs[k]? = some u → RepC γ ob w F (unC d k c) u) : RepI γ ob w F (res.un d) v := by
  cases res with
  | one x => exact un1_rep d x 0 v vs hs (Sh1_len hs) (fun k c u hc hu => by rw [Nat.zero_add]; exact h k c u hc hu)
  | multi xs =>
    obtain ⟨arr, rfl, hs⟩ := hs
    obtain ⟨e1, e2⟩ := unL_rep d xs 0 arr.toList vs hs (fun k c u hc hu => by rw [Nat.zero_add]; exact h k c u hc hu)
    exact ⟨arr, rfl, by simpa using e1, fun j x u hx hu => e2 j x u hx (by rw [Array.getElem?_toList]; exact hu)⟩

theorem globW_of (hG : GlobOk C) (h : Inv C γ σ a w) (L : List Nat) : GlobW C.T (Nc γ σ.ob C.N L) w := by
  refine ⟨fun g hg => ?_, ?_⟩
  · obtain ⟨hN, m, hc⟩ := hG.ints g hg
    have hst := stay0 h
    have hlt := World.block_lt_of_cell? _ _ hc
    exact ⟨fun hb => (hst g hlt hN).2 hb.1, m, hst.cell (a := ⟨g, 0, none⟩) hN hc⟩
  intro g cs hg
  obtain ⟨vs, hr, hc⟩ := hG.at_ g cs hg
  have hst := stay0 h
  refine ⟨vs, (hr.stay hst).stay (Stay.less fun b _ hb => hb.1), fun j u hu => ?_⟩
  obtain ⟨hN, hcell⟩ := hc j u hu
  have hlt := World.block_lt_of_cell? _ _ hcell
  exact ⟨fun hb => (hst g hlt hN).2 hb.1, hst.cell (a := ⟨g, j, none⟩) hN hcell⟩

theorem frz_shp (n : Nat) (σ : St) {o : Ob} (h : get (frz n σ).ob n = some o) : (shp o).1 = false := by
  unfold frz at h
  split at h
  · rw [get_map, get_del] at h; simp at h
  · rw [get_drop] at h; simp at h
  · rename_i h1 h2
    cases o with
    | cells cs => rfl
    | rows t e xs => exact absurd h (h1 t e xs)
    | bytes xs => exact absurd h (h2 xs)

theorem frzAll_shp : ∀ (l : List Nat) (σ : St) {n : Nat} {o : Ob}, n ∈ l → get (frzAll l σ).ob n = some o → (shp o).1 = false
  | m :: r, σ, n, o, hn, h => by
    rw [List.mem_cons] at hn
    by_cases hr : n ∈ r
    · exact frzAll_shp r (frz m σ) hr h
    · have hm : n = m := by rcases hn with h | h; exact h; exact absurd h hr
      subst hm
      obtain ⟨o1, h1, h2⟩ := get_frzAll r (frz n σ) h
      rw [h2]; exact frz_shp n σ h1

/-- The world grows, nothing that was there turns. -/
theorem Inv.grow (h : Inv C γ σ a w) {w' : World} (hw : Below w.heap.size w w') : Inv C γ σ a w' := by
  refine h.step (fun _ => false) (fun _ => false) (map_scI_none _).symm (fun n o' _ ho => ⟨o', ho, (scO_none o').symm⟩) (fun _ _ h => by cases h) (fun n _ o ho => ⟨rfl, o, ho, rfl⟩) (fun _ _ => rfl)
    (fun n o b _ ho hb => hw.block b (h.lt ho hb)) (fun b hlt hn => ⟨hw.block b hlt, hn⟩) h.inj h.own (h.since.trans (Since.of (hw.mono h.since.size))) h.root

/-- What the call brings, under its names. -/
theorem Inv.bring (h : Inv C γ σ a w) (hN : ∀ b, C.N b → b < C.w0.heap.size) {w' : World} (hw : Below w.heap.size w w') {N' : Nat → Prop} {rs : List RC} {us : List Value} (hp : Post N' w.heap.size w' rs us)
    {d : Nat} (hd : d < 1000) (hno : ∀ n, ofCall d n = true → get σ.ob n = none)
    (hlist : rs.any RC.hl = true → ∀ b, b < w.heap.size → FF γ σ.ob C.N b → N' b) :
    ∃ γ', Inv C γ' { sl := σ.sl, ob := σ.ob ++ obs d 0 rs } a w' ∧
      ∀ (k : Nat) (c : RC) (u : Value), rs[k]? = some c → us[k]? = some u → RepC γ' (σ.ob ++ obs d 0 rs) w' (FF γ' (σ.ob ++ obs d 0 rs) C.N) (unC d k c) u := by
  let γ' : Nat → Value := fun n => if ofCall d n = true then us.getD (n / 1000 - 1) undef else γ n
  have hγn : ∀ n, ofCall d n = false → γ' n = γ n := fun n hn => by simp only [γ']; rw [if_neg (by rw [hn]; simp)]
  have hγk : ∀ k, γ' (nm d k) = us.getD k undef := fun k => by
    simp only [γ']; rw [if_pos (ofCall_nm d k hd)]
    congr 1; unfold nm; omega
  have hu : ∀ (k : Nat) (u : Value), us[k]? = some u → γ' (nm d k) = u := fun k u hk => by rw [hγk, List.getD_eq_getElem?_getD, hk]; rfl
  have hold : ∀ n, ofCall d n = false → get (σ.ob ++ obs d 0 rs) n = get σ.ob n := by
    intro n hn
    rw [get_append]
    cases hg : get σ.ob n with
    | some o => rfl
    | none =>
      cases hg2 : get (obs d 0 rs) n with
      | none => rfl
      | some o => obtain ⟨k, t, e, xs, h1, _⟩ := get_obs d rs 0 n o hg2; rw [h1, ofCall_nm d _ hd] at hn; cases hn
  have hnew : ∀ n o, ofCall d n = true → get (σ.ob ++ obs d 0 rs) n = some o → ∃ k t e xs, n = nm d k ∧ rs[k]? = some (.buf t e xs) ∧ o = .rows t e xs := by
    intro n o hn hg
    rw [get_append, hno n hn] at hg
    obtain ⟨k, t, e, xs, h1, h2, h3⟩ := get_obs d rs 0 n o hg
    exact ⟨k, t, e, xs, by rw [h1, Nat.zero_add], h2, h3⟩
  have hus : ∀ (k : Nat) (c : RC), rs[k]? = some c → ∃ u, us[k]? = some u := fun k c hc => by
    have hlt : k < us.length := by rw [← hp.len]; exact (List.getElem?_eq_some_iff.1 hc).1
    exact ⟨us[k], List.getElem?_eq_getElem hlt⟩
  have hnewblk : ∀ n o b, ofCall d n = true → get (σ.ob ++ obs d 0 rs) n = some o → blk (γ' n) = some b → w.heap.size ≤ b ∧ ∃ (k : Nat) (c : RC) (u : Value), n = nm d k ∧ rs[k]? = some c ∧ isBuf c = true ∧ us[k]? = some u ∧ blk u = some b := by
    intro n o b hn hg hb
    obtain ⟨k, t, e, xs, rfl, h2, _⟩ := hnew n o hn hg
    obtain ⟨u, hk⟩ := hus k _ h2
    rw [hu k u hk] at hb
    exact ⟨hp.new k _ u b h2 rfl hk hb, k, _, u, rfl, h2, rfl, hk, hb⟩
  have hF : ∀ b, b < w.heap.size → FF γ' (σ.ob ++ obs d 0 rs) C.N b → FF γ σ.ob C.N b := by
    intro b hlt hb
    rcases hb with hb | ⟨n, o, hg, hb⟩
    · exact .inl hb
    · cases hn : ofCall d n with
      | true => have := (hnewblk n o b hn hg hb).1; omega
      | false => rw [hold n hn] at hg; rw [hγn n hn] at hb; exact .inr ⟨n, o, hg, hb⟩
  -- lists of the results stay
  have hst : rs.any RC.hl = true → ∀ b, b < w'.heap.size → ¬ FR N' rs us b → ¬ FF γ' (σ.ob ++ obs d 0 rs) C.N b := by
    intro hl b _ hnF hb
    have hb0 := hb
    rcases hb with hb | ⟨n, o, hg, hb⟩
    · have h1 := hN b hb
      have h2 := h.since.size
      exact hnF (.inl (hlist hl b (by omega) (.inl hb)))
    · cases hn : ofCall d n with
      | true => obtain ⟨_, k, c, u, _, h3, h4, h5, h6⟩ := hnewblk n o b hn hg hb; exact hnF (.inr ⟨k, c, u, h3, h4, h5, h6⟩)
      | false =>
        rw [hold n hn] at hg; rw [hγn n hn] at hb
        exact hnF (.inl (hlist hl b (h.lt hg hb) (.inr ⟨n, o, hg, hb⟩)))
  have hhl : ∀ (k : Nat) (c : RC), rs[k]? = some c → c.hl = true → rs.any RC.hl = true := fun k c hc hl => by
    rw [List.any_eq_true]; exact ⟨c, List.mem_of_getElem? hc, hl⟩
  have hRE : ∀ (t : Ty) (vs : List Value) (x : t.Den), RE w' (FR N' rs us) t vs x → (rs.any RC.hl = true ∨ (t ≠ .mail ∧ t ≠ .box)) → RE w' (FF γ' (σ.ob ++ obs d 0 rs) C.N) t vs x := by
    intro t vs x hx hor
    rcases hor with hl | ⟨h1, h2⟩
    · exact hx.stay (fun b hlt hnF => ⟨rfl, hst hl b hlt hnF⟩)
    · cases t with
      | mail => exact absurd rfl h1
      | box => exact absurd rfl h2
      | str => exact hx
      | int k => exact hx
      | adr => exact hx
      | fld => exact hx
  refine ⟨γ', ?_, ?_⟩
  · refine h.step (ofCall d) (fun _ => false) (map_scI_none _).symm (fun n o' hn hg => ⟨o', by rw [← hold n hn]; exact hg, (scO_none o').symm⟩) (fun n o' hn hg => ?_)
      (fun n _ o hg => ?_) hγn (fun n o b hn hg hb => hw.block b (h.lt hg hb)) (fun b hlt hnF => ⟨hw.block b hlt, fun hb => hnF (hF b hlt hb)⟩) (fun m m' o1 o2 b h1 h2 h3 h4 => ?_) (fun m o1 b h1 h2 => ?_)
      (h.since.trans (Since.of (hw.mono h.since.size))) (fun b hb => by
        rw [hγn 900 (by
          cases hc : ofCall d 900 with
          | false => rfl
          | true =>
            unfold ofCall at hc
            rw [Bool.and_eq_true] at hc
            have := Nat.le_of_ble_eq_true hc.1
            omega)]
        exact h.root b hb)
    · obtain ⟨k, t, e, xs, rfl, h2, rfl⟩ := hnew n o' hn hg
      obtain ⟨u, hk⟩ := hus k _ h2
      obtain ⟨fl, f1, f2, f3⟩ := hp.rep k _ u h2 hk
      refine ⟨fl, by rw [hu k u hk]; exact f1, f2, fun i x hi => hRE t _ x (f3 i x hi) ?_⟩
      cases t with
      | mail => exact .inl (hhl k _ h2 rfl)
      | box => exact .inl (hhl k _ h2 rfl)
      | str => exact .inr ⟨by simp, by simp⟩
      | int k => exact .inr ⟨by simp, by simp⟩
      | adr => exact .inr ⟨by simp, by simp⟩
      | fld => exact .inr ⟨by simp, by simp⟩
    · have hn : ofCall d n = false := by
        cases hn : ofCall d n with
        | false => rfl
        | true => rw [hno n hn] at hg; cases hg
      exact ⟨hγn n hn, o, by rw [hold n hn]; exact hg, rfl⟩
    · cases hm : ofCall d m with
      | true =>
        obtain ⟨g1, k, c, u, rfl, k1, k2, k3, k4⟩ := hnewblk m o1 b hm h1 h3
        cases hm' : ofCall d m' with
        | true =>
          obtain ⟨_, k', c', u', rfl, l1, l2, l3, l4⟩ := hnewblk m' o2 b hm' h2 h4
          rw [hp.inj k k' c c' u u' b k1 k2 k3 k4 l1 l2 l3 l4]
        | false =>
          rw [hold m' hm'] at h2; rw [hγn m' hm'] at h4
          have := h.lt h2 h4; omega
      | false =>
        rw [hold m hm] at h1; rw [hγn m hm] at h3
        cases hm' : ofCall d m' with
        | true =>
          obtain ⟨g1, _⟩ := hnewblk m' o2 b hm' h2 h4
          have := h.lt h1 h3; omega
        | false =>
          rw [hold m' hm'] at h2; rw [hγn m' hm'] at h4
          exact h.inj m m' o1 o2 b h1 h2 h3 h4
    · cases hm : ofCall d m with
      | true =>
        obtain ⟨g1, _⟩ := hnewblk m o1 b hm h1 h2
        have := h.since.size
        exact ⟨fun hc => by have := hN b hc; omega, by omega⟩
      | false =>
        rw [hold m hm] at h1; rw [hγn m hm] at h2
        exact h.own m o1 b h1 h2
  · intro k c u hc hk
    cases c with
    | fc c =>
      have hr := hp.rep k _ u hc hk
      cases c with
      | sc v => exact hr
      | list t xs =>
        have hr' : RepFC w' (FR N' rs us) (.list t xs) u := hr
        exact RepFC.stay (fun b hlt hnF => ⟨rfl, hst (hhl k _ hc rfl) b hlt hnF⟩) hr'
    | buf t e xs =>
      have hg := get_obs_at d rs 0 k t e xs hc
      rw [Nat.zero_add] at hg
      refine ⟨(hu k u hk).symm, .rows t e xs, ?_, rfl⟩
      rw [get_append, hno _ (ofCall_nm d k hd)]; exact hg

theorem hdrs_live {γ : Nat → Value} {ob : List (Nat × Ob)} {w : World} {F : Nat → Prop} : ∀ (cs : List Cell) (vs : List Value), RepCs γ ob w F cs vs → ∀ n ∈ hdrs cs, ∃ o, get ob n = some o ∧ (shp o).1 = true
  | [], _, _, n, hn => by simp [hdrs] at hn
  | c :: cs, vs, hr, n, hn => by
    match vs, hr.1 with
    | u :: vs, hlen =>
      have ih := hdrs_live cs vs ⟨by simpa using hlen, fun j c u hc hu => hr.2 (j + 1) c u (by simpa using hc) (by simpa using hu)⟩ n
      have h0 := hr.2 0 c u rfl rfl
      cases c with
      | hdr m =>
        simp only [hdrs, List.mem_cons] at hn
        rcases hn with rfl | hn
        · obtain ⟨_, o, ho, hk⟩ := h0; exact ⟨o, ho, hk⟩
        · exact ih hn
      | bot => exact ih hn
      | fc _ => exact ih hn
      | ptr _ _ => exact ih hn
      | ep _ _ _ => exact ih hn
      | lp _ _ => exact ih hn

theorem hdrsOps_live (hG : GlobOk C) (h : Inv C γ σ a w) : ∀ (xs : List Operand), ∀ n ∈ hdrsOps C.T σ xs, ∃ o, get σ.ob n = some o ∧ (shp o).1 = true
  | [], n, hn => by simp [hdrsOps] at hn
  | x :: xs, n, hn => by
    rw [hdrsOps, List.mem_append] at hn
    rcases hn with hn | hn
    · have hr := opnd_rep hG h x
      cases hx : opnd C.T σ x with
      | v y =>
        rw [hx] at hn hr
        cases y with
        | one c => exact hdrs_live [c] [a.eval x] ⟨rfl, fun j c' u hc hu => by match j with | 0 => cases hc; cases hu; exact hr | j + 1 => simp at hc⟩ n hn
        | agg cs => obtain ⟨arr, _, hr⟩ := hr; exact hdrs_live cs _ hr n hn
      | tup ys => rw [hx] at hn; simp [hdrsI] at hn
    · exact hdrsOps_live hG h xs n hn

theorem get_drop_some (p : Nat → Bool) (σ : St) {n : Nat} {o' : Ob} (h : get (Iv.drop p σ).ob n = some o') : ∃ o, get σ.ob n = some o ∧ shp o' = shp o := by
  rw [get_drop] at h
  split at h
  · cases h
  · obtain ⟨o, h1, h2⟩ := Option.map_eq_some_iff.1 h
    exact ⟨o, h1, by rw [← h2]; exact shp_scO _ _⟩

theorem hasOf_false (d : Nat) : ∀ (l : List (Nat × Ob)), hasOf d l = false → ∀ n, ofCall d n = true → get l n = none
  | [], _, _, _ => rfl
  | (m, o) :: r, h, n, hn => by
    rw [hasOf, Bool.or_eq_false_iff] at h
    rw [get, if_neg (fun e => by rw [e, hn] at h; cases h.1)]
    exact hasOf_false d r h.2 n hn

theorem frzAll_none (l : List Nat) (σ : St) {n : Nat} (h : get σ.ob n = none) : get (frzAll l σ).ob n = none := by
  cases hg : get (frzAll l σ).ob n with
  | none => rfl
  | some o => obtain ⟨o1, h1, _⟩ := get_frzAll l σ hg; rw [h] at h1; cases h1

theorem s_call (hG : GlobOk C) {call : CallT} (hC : CallOk C.P C.T call) (f : Operand) (g : FuncId) (args : Array Operand) (tys : Array TypeId)
    (ho : o.op = .call { callee := .value f, args := args, argTypes := tys }) (hf : opnd C.T σ f = .v (.one (.fc (.sc (.func (.func g) #[] #[])))))
    (hev : evCall C.T call σ o.dst g tys.toList args.toList K = some r) (h : Inv C γ σ a w)
    (hK : ∀ γ' σ' a' w', Inv C γ' σ' a' w' → K σ' = some r → next a' w') : o.wp C.P a w next Q := by
  have hfv := sc_eq hf (opnd_rep hG h f)
  unfold evCall at hev
  split at hev
  · cases hev
  rename_i avs havs
  have hmain : ∀ res, (call.c g avs).val = some res → (∀ v us w', Below w.heap.size w w' → ShV res v us → Post (Nc γ σ.ob C.N (hdrsOps C.T σ args.toList)) w.heap.size w' res.flat us → next (a.put o.dst v) w') → o.wp C.P a w next Q := by
    intro res hres hnext
    obtain ⟨fn, hfn, hbody, hname⟩ := hC.enters g avs res hres
    obtain ⟨e1, e2⟩ := viewsI_rep hG h tys.toList args.toList avs havs (fun n hn => hn)
    have hcalls := hC.con g avs res hres w (Nc γ σ.ob C.N (hdrsOps C.T σ args.toList)) (args.toList.map a.eval) (fun b hb => by
      rcases hb.1 with hN | ⟨n, ob, hn, hb'⟩
      · have := hG.low b hN; have := h.since.size; omega
      · exact h.lt hn hb') (globW_of hG h _) e1 e2
    have hrun : (execOp a.eval o).run C.P w = .ok (.enter g (args.toList.map a.eval).toArray) w := by
      have hargs : args.map a.eval = (args.toList.map a.eval).toArray := by rw [← Array.toList_map, Array.toArray_toList]
      rw [← hargs]
      have hname' : ¬ fn.name = "runtime.NumGoroutine" := fun e => by rw [e] at hname; simp at hname
      have hbody' : ¬ fn.body = none := fun e => by rw [e] at hbody; simp at hbody
      simp [execOp, ho, resolve, hfv, Deferred.ofValue, invoke, callFunc, hfn, hname', hbody']
    unfold Oper.wp
    rw [hrun, Oper.upon_enter]
    refine hcalls.mono ?_
    rintro e w' ⟨v, us, rfl, hb, hs, hp⟩
    exact hnext v us w' hb hs hp
  rw [CT.run_val] at hev
  split at hev
  · cases hev
  rename_i res hres
  split at hev
  · rename_i hd
    refine hmain res hres fun v us w' hb hs hp => ?_
    rw [hd]
    refine hK γ _ a w' ?_ hev
    cases res.flat.any RC.hl with
    | true => exact (Inv.frzAll _ h).grow hb
    | false => exact h.grow hb
  · rename_i d hd
    refine hmain res hres fun v us w' hb hs hp => ?_
    dsimp only at hev
    have h1 : ∃ σ1, (bif hasOf d σ.ob then Iv.drop (ofCall d) σ else σ) = σ1 ∧ Inv C γ σ1 a w ∧ (∀ n, ofCall d n = true → get σ1.ob n = none) ∧ ∀ n o', get σ1.ob n = some o' → ∃ o, get σ.ob n = some o ∧ shp o' = shp o := by
      cases hh : hasOf d σ.ob with
      | true => exact ⟨_, rfl, h.drop _, fun n hn => by show get (Iv.drop (ofCall d) σ).ob n = none; rw [get_drop, if_pos hn], fun n o' ho' => get_drop_some _ _ ho'⟩
      | false => exact ⟨_, rfl, h, fun n hn => hasOf_false d _ hh n hn, fun n o' ho' => ⟨o', ho', rfl⟩⟩
    obtain ⟨σ1, e1, i1, n1, s1⟩ := h1
    rw [e1] at hev
    have h2 : ∃ σ2, (bif res.flat.any RC.hl then frzAll (hdrsOps C.T σ args.toList) σ1 else σ1) = σ2 ∧ Inv C γ σ2 a w ∧ (∀ n, ofCall d n = true → get σ2.ob n = none) ∧
        (res.flat.any RC.hl = true → ∀ b, b < w.heap.size → FF γ σ2.ob C.N b → Nc γ σ.ob C.N (hdrsOps C.T σ args.toList) b) := by
      cases hh : res.flat.any RC.hl with
      | false => exact ⟨_, rfl, i1, n1, fun h => by cases h⟩
      | true =>
        refine ⟨_, rfl, Inv.frzAll _ i1, fun n hn => frzAll_none _ _ (n1 n hn), fun _ b _ hF => ?_⟩
        rcases hF with hF | ⟨m, o', hm, hb'⟩
        · refine ⟨.inl hF, fun n hn hbn => ?_⟩
          obtain ⟨on, hon, _⟩ := hdrsOps_live hG h _ n hn
          exact (h.own n on b hon hbn).1 hF
        · obtain ⟨o1, ho1, hs1⟩ := get_frzAll _ _ hm
          obtain ⟨o0, ho0, hs0⟩ := s1 m o1 ho1
          refine ⟨.inr ⟨m, o0, ho0, hb'⟩, fun n hn hbn => ?_⟩
          obtain ⟨on, hon, hk⟩ := hdrsOps_live hG h _ n hn
          have hmn := h.inj m n o0 on b ho0 hon hb' hbn
          subst hmn
          have h3 := frzAll_shp _ _ hn hm
          rw [hs1, hs0] at h3
          rw [ho0] at hon; cases hon
          rw [h3] at hk; cases hk
    obtain ⟨σ2, e2, i2, n2, l2⟩ := h2
    rw [e2] at hev
    have hev2 := bif_some hev
    clear hev
    obtain ⟨hlt, hev⟩ := hev2
    have hd1 : d < 1000 := Nat.lt_of_succ_le (Nat.le_of_ble_eq_true hlt)
    obtain ⟨γ', i3, hr⟩ := i2.bring hG.low hb hp hd1 n2 l2
    have hun := un_rep d res v us hs hr
    have i4 := i3.put (some d) hun
    refine hK γ' { sl := σ2.sl.set d (res.un d), ob := σ2.ob ++ obs d 0 res.flat } _ w' ?_ hev
    rw [hd]; exact i4

end
end Go.Iv

/- What one operation of the evaluator looks at, and what it changes. -/
namespace Go.Iv

structure Eff where
  v : IV
  f : Cell → Cell
  up : Nat → Option (Option Ob)

def mV1 (f : Cell → Cell) : V1 → V1
  | .one c => .one (f c)
  | .agg cs => .agg (cs.map f)
def mI (f : Cell → Cell) : IV → IV
  | .v x => .v (mV1 f x)
  | .tup xs => .tup (xs.map (mV1 f))
def mO (f : Cell → Cell) : Ob → Ob
  | .cells cs => .cells (cs.map f)
  | o => o
def putL (dst : Option Nat) (v : IV) (l : List IV) : List IV :=
  match dst with
  | none => l
  | some d => l.set d v

structure Does (dst : Option Nat) (e : Eff) (σ σ1 : St) : Prop where
  sl : σ1.sl = putL dst e.v (σ.sl.map (mI e.f))
  ob : ∀ n, get σ1.ob n = (e.up n).getD ((get σ.ob n).map (mO e.f))

structure Within (T : Tab) (o : Oper) (σ : St) (e : Eff) : Prop where
  f : ∀ c, (∀ n ∈ nmsC c, n ∉ wn T o σ) → e.f c = c
  up : ∀ n, e.up n ≠ none → n ∈ wn T o σ ∨ ∃ d, o.dst = some d ∧ ofD d n = true

structure Agree (T : Tab) (o : Oper) (σ σ' : St) : Prop where
  op : ∀ x ∈ o.op.operands, opnd T σ' x = opnd T σ x
  ob : reads o = true → ∀ n ∈ tn T o σ, get σ'.ob n = get σ.ob n

def Fr (o : Oper) (σ : St) : Prop := ∀ d, o.dst = some d → d < 1000 ∧ ∀ n, ofD d n = true → get σ.ob n = none

def Local (T : Tab) (call : CallT) (o : Oper) (σ : St) (e : Eff) : Prop :=
  Within T o σ e ∧ ∀ σ', Agree T o σ σ' → Fr o σ' → ∃ σ1, Does o.dst e σ' σ1 ∧ ∀ (R : Type) (K : St → Option R), evCore T call o σ' K = K σ1

theorem mI_id (x : IV) : mI (fun c => c) x = x := by
  cases x with
  | v x => cases x <;> simp [mI, mV1]
  | tup xs => simp only [mI]; congr 1; conv => rhs; rw [← List.map_id xs]
              exact List.map_congr_left fun c _ => by cases c <;> simp [mV1]
theorem mI_ids (l : List IV) : l.map (mI fun c => c) = l := by
  conv => rhs; rw [← List.map_id l]
  exact List.map_congr_left fun x _ => mI_id x
theorem mO_id (o : Ob) : mO (fun c => c) o = o := by cases o <;> simp [mO]
theorem mO_ids (o : Option Ob) : o.map (mO fun c => c) = o := by cases o <;> simp [mO_id]

theorem mI_sc (p : Nat → Bool) : mI (scC p) = scI p := by
  funext x; cases x with
  | v x => cases x <;> rfl
  | tup xs =>
    simp only [mI, scI]
    exact congrArg IV.tup (List.map_congr_left fun c _ => by cases c <;> rfl)
theorem mO_sc (p : Nat → Bool) : mO (scC p) = scO p := by funext x; cases x <;> rfl
theorem mI_fr (n : Nat) (t : Ty) (xs : List t.Den) : mI (frC n t xs) = frI n t xs := by
  funext x; cases x with
  | v x => cases x <;> rfl
  | tup xs =>
    simp only [mI, frI]
    exact congrArg IV.tup (List.map_congr_left fun c _ => by cases c <;> rfl)
theorem mO_fr (n : Nat) (t : Ty) (xs : List t.Den) : mO (frC n t xs) = frO n t xs := by funext x; cases x <;> rfl

theorem does_put (dst : Option Nat) (v : IV) (σ : St) : Does dst ⟨v, fun c => c, fun _ => none⟩ σ (put dst v σ) := by
  constructor
  · rw [mI_ids]; cases dst <;> rfl
  · intro n; simp only [Option.getD_none, mO_ids]; cases dst <;> rfl

section
variable {T : Tab} {call : CallT} {o : Oper} {σ : St} {R : Type} {r : R}

theorem loc_pure (v : IV) (h : ∀ σ', Agree T o σ σ' → ∀ (R : Type) (K : St → Option R), evCore T call o σ' K = K (put o.dst v σ')) : ∃ e, Local T call o σ e :=
  ⟨⟨v, fun c => c, fun _ => none⟩, ⟨fun _ _ => rfl, fun n h => absurd rfl h⟩, fun σ' ha _ => ⟨_, does_put o.dst v σ', h σ' ha⟩⟩

theorem nms_mem {xs : List Operand} {x : Operand} (hx : x ∈ xs) {n : Nat} (hn : n ∈ nmsI (opnd T σ x)) : n ∈ nmsOps T σ xs := by
  induction xs with
  | nil => cases hx
  | cons y r ih =>
    rw [nmsOps, List.mem_append]
    rcases List.mem_cons.1 hx with rfl | hx
    · exact .inl hn
    · exact .inr (ih hx)

theorem hdrs_mem {xs : List Operand} {x : Operand} (hx : x ∈ xs) {n : Nat} (hn : n ∈ hdrsI (opnd T σ x)) : n ∈ hdrsOps T σ xs := by
  induction xs with
  | nil => cases hx
  | cons y r ih =>
    rw [hdrsOps, List.mem_append]
    rcases List.mem_cons.1 hx with rfl | hx
    · exact .inl hn
    · exact .inr (ih hx)

theorem Agree.nm {σ' : St} (ha : Agree T o σ σ') (hr : reads o = true) {x : Operand} (hx : x ∈ o.op.operands) {n : Nat} (hn : n ∈ nmsI (opnd T σ x)) : get σ'.ob n = get σ.ob n :=
  ha.ob hr n (List.mem_append_left _ (nms_mem (by simpa using hx) hn))

theorem load_par {K : IV → Option R} {t : TypeId} {x : IV} (hev : evLoad T σ t x K = some r) : ∃ v, K v = some r ∧ ∀ σ', (∀ n ∈ nmsI x, get σ'.ob n = get σ.ob n) →
    ∀ (R' : Type) (K' : IV → Option R'), evLoad T σ' t x K' = K' v := by
  unfold evLoad at hev
  split at hev
  · rename_i sz ag n off hsz
    split at hev
    · rename_i cs hn
      cases ag with
      | true =>
        simp only [cond_true] at hev
        cases hb : Nat.ble (off + sz) cs.length with
        | false => simp [hb] at hev
        | true =>
          simp only [hb, cond_true] at hev
          exact ⟨_, hev, fun σ' h R' K' => by simp [evLoad, hsz, h n (by simp [nmsI, nmsV, nmsC]), hn, hb]⟩
      | false =>
        simp only [cond_false] at hev
        split at hev
        · rename_i c hc; exact ⟨_, hev, fun σ' h R' K' => by simp [evLoad, hsz, h n (by simp [nmsI, nmsV, nmsC]), hn, hc]⟩
        · cases hev
    · cases hev
  · rename_i sz ag n i off hsz
    split at hev
    · rename_i ty e xs hn
      cases ag with
      | true =>
        simp only [cond_true] at hev
        cases hb : Nat.ble (off + sz) ty.size with
        | false => simp [hb] at hev
        | true =>
          simp only [hb, cond_true] at hev
          exact ⟨_, hev, fun σ' h R' K' => by simp [evLoad, hsz, h n (by simp [nmsI, nmsV, nmsC]), hn, hb]⟩
      | false =>
        simp only [cond_false] at hev
        split at hev
        · rename_i c hc; exact ⟨_, hev, fun σ' h R' K' => by simp [evLoad, hsz, h n (by simp [nmsI, nmsV, nmsC]), hn] at hc ⊢; rw [hc]⟩
        · cases hev
    · rename_i xs hn
      cases ag with
      | true => cases hev
      | false =>
        simp only [cond_false] at hev
        cases hb : Nat.beq off 0 with
        | false => simp [hb] at hev
        | true =>
          simp only [hb, cond_true] at hev
          exact ⟨_, hev, fun σ' h R' K' => by simp [evLoad, hsz, h n (by simp [nmsI, nmsV, nmsC]), hn, hb]⟩
    · cases hev
  · rename_i sz ag cs off hsz
    cases ag with
    | true =>
      simp only [cond_true] at hev
      cases hb : Nat.ble (off + sz) cs.length with
      | false => simp [hb] at hev
      | true =>
        simp only [hb, cond_true] at hev
        exact ⟨_, hev, fun σ' h R' K' => by simp [evLoad, hsz, hb]⟩
    | false =>
      simp only [cond_false] at hev
      unfold loadLp at hev
      split at hev
      · rename_i l hl
        unfold req at hev
        cases hb : decide (off < l.length) with
        | false => rw [hb] at hev; cases hev
        | true =>
          rw [hb] at hev
          exact ⟨_, hev, fun σ' h R' K' => by simp only [evLoad, hsz, cond_false, loadLp, hl, req, hb, cond_true]⟩
      · rename_i hl
        split at hev
        · rename_i c hc; exact ⟨_, hev, fun σ' h R' K' => by simp only [evLoad, hsz, cond_false, loadLp, hl, hc]⟩
        · cases hev
  · cases hev

theorem fieldAddr_par {K : IV → Option R} {s : TypeId} {f : Nat} {x : IV} (hev : evFieldAddr T s f x K = some r) : ∃ v, K v = some r ∧ ∀ (R' : Type) (K' : IV → Option R'), evFieldAddr T s f x K' = K' v := by
  unfold evFieldAddr at hev
  split at hev
  case h_4 => cases hev
  all_goals (rename_i h; exact ⟨_, hev, fun R' K' => by simp [evFieldAddr, h]⟩)

theorem field_par {K : IV → Option R} {s : TypeId} {f : Nat} {x : IV} (hev : evField T s f x K = some r) : ∃ v, K v = some r ∧ ∀ (R' : Type) (K' : IV → Option R'), evField T s f x K' = K' v := by
  unfold evField at hev
  split at hev
  · rename_i o sz ag cs h
    cases ag with
    | true =>
      simp only [cond_true] at hev
      cases hb : Nat.ble (o + sz) cs.length with
      | false => simp [hb] at hev
      | true =>
        simp only [hb, cond_true] at hev
        exact ⟨_, hev, fun R' K' => by simp [evField, h, hb]⟩
    | false =>
      simp only [cond_false] at hev
      split at hev
      · rename_i c hc; exact ⟨_, hev, fun R' K' => by simp [evField, h, hc]⟩
      · cases hev
  · cases hev

theorem req_par {c : Bool} {K : Option R} (hev : req c K = some r) : c = true ∧ K = some r := by
  cases c with
  | true => exact ⟨rfl, hev⟩
  | false => cases hev

theorem bif_par {c : Bool} {K : Option R} (hev : (bif c then K else none) = some r) : c = true ∧ K = some r := req_par hev

theorem indexAddr_par {K : IV → Option R} {t : TypeId} {x ix : IV} (hev : evIndexAddr T σ t x ix K = some r) : ∃ v, K v = some r ∧ ∀ σ', (∀ n ∈ nmsI x, get σ'.ob n = get σ.ob n) →
    ∀ (R' : Type) (K' : IV → Option R'), evIndexAddr T σ' t x ix K' = K' v := by
  unfold evIndexAddr at hev
  split at hev
  · split at hev
    · rename_i n
      have hm : ∀ σ' : St, (∀ m ∈ nmsI (.v (.one (.hdr n))), get σ'.ob m = get σ.ob m) → get σ'.ob n = get σ.ob n := fun σ' h => h n (by simp [nmsI, nmsV, nmsC])
      split at hev
      · rename_i te e ty e2 xs ht hn
        obtain ⟨h1, hev⟩ := bif_par hev
        obtain ⟨h2, hev⟩ := req_par hev
        exact ⟨_, hev, fun σ' h R' K' => by simp only [evIndexAddr, ht, hm σ' h, hn, h1, h2, cond_true, req]⟩
      · rename_i te e xs ht hn
        obtain ⟨h1, hev⟩ := bif_par hev
        obtain ⟨h2, hev⟩ := req_par hev
        exact ⟨_, hev, fun σ' h R' K' => by simp only [evIndexAddr, ht, hm σ' h, hn, h1, h2, cond_true, req]⟩
      · cases hev
    · split at hev
      · rename_i ht
        obtain ⟨h1, hev⟩ := bif_par hev
        obtain ⟨h2, hev⟩ := req_par hev
        exact ⟨_, hev, fun σ' h R' K' => by simp only [evIndexAddr, ht, h1, h2, cond_true, req]⟩
      · cases hev
    · split at hev
      · rename_i ht
        obtain ⟨h2, hev⟩ := req_par hev
        exact ⟨_, hev, fun σ' h R' K' => by simp only [evIndexAddr, ht, h2, cond_true, req]⟩
      · cases hev
    · split at hev
      · rename_i ht
        obtain ⟨h2, hev⟩ := req_par hev
        exact ⟨_, hev, fun σ' h R' K' => by simp only [evIndexAddr, ht, h2, cond_true, req]⟩
      · cases hev
    · cases hev
  · cases hev

theorem index_par {K : IV → Option R} {t : TypeId} {x ix : IV} (hev : evIndex T t x ix K = some r) : ∃ v, K v = some r ∧ ∀ (R' : Type) (K' : IV → Option R'), evIndex T t x ix K' = K' v := by
  unfold evIndex at hev
  split at hev
  · split at hev
    · obtain ⟨h1, hev⟩ := bif_par hev
      obtain ⟨h2, hev⟩ := req_par hev
      exact ⟨_, hev, fun R' K' => by simp only [evIndex, h1, h2, cond_true, req]⟩
    · split at hev
      · rename_i len fs h1 h2
        split at hev
        · rename_i l hl
          obtain ⟨h3, hev⟩ := req_par hev
          obtain ⟨h4, hev⟩ := bif_par hev
          exact ⟨_, hev, fun R' K' => by simp only [evIndex, h1, h2, hl, h3, h4, cond_true, req]⟩
        · cases hev
      · cases hev
    · cases hev
  · cases hev

theorem len_par {K : IV → Option R} {t : TypeId} {x : IV} (hev : evLen T σ t x K = some r) : ∃ v, K v = some r ∧ ∀ σ', (∀ n ∈ nmsI x, get σ'.ob n = get σ.ob n) →
    ∀ (R' : Type) (K' : IV → Option R'), evLen T σ' t x K' = K' v := by
  unfold evLen at hev
  split at hev
  · obtain ⟨h1, hev⟩ := bif_par hev
    exact ⟨_, hev, fun σ' h R' K' => by simp only [evLen, h1, cond_true]⟩
  · split at hev
    · rename_i ht; exact ⟨_, hev, fun σ' h R' K' => by simp only [evLen, ht]⟩
    · cases hev
  · rename_i n
    have hm : ∀ σ' : St, (∀ m ∈ nmsI (.v (.one (.hdr n))), get σ'.ob m = get σ.ob m) → get σ'.ob n = get σ.ob n := fun σ' h => h n (by simp [nmsI, nmsV, nmsC])
    split at hev
    · rename_i ht hn; exact ⟨_, hev, fun σ' h R' K' => by simp only [evLen, ht, hm σ' h, hn]⟩
    · rename_i ht hn; exact ⟨_, hev, fun σ' h R' K' => by simp only [evLen, ht, hm σ' h, hn]⟩
    · cases hev
  · split at hev
    · rename_i ht; exact ⟨_, hev, fun σ' h R' K' => by simp only [evLen, ht]⟩
    · cases hev
  · cases hev

theorem bin_par {K : Value → Option R} {op : BinOp} {x y : Value} (hev : evBin op x y K = some r) : ∃ v, K v = some r ∧ ∀ (R' : Type) (K' : Value → Option R'), evBin op x y K' = K' v := by
  unfold evBin at hev
  split at hev <;> first
    | (split at hev
       · rename_i h
         first
           | (obtain ⟨h2, hev⟩ := req_par hev
              exact ⟨_, hev, fun R' K' => by simp only [evBin, h, h2, if_true, req, cond_true]⟩)
           | exact ⟨_, hev, fun R' K' => by simp only [evBin, h, if_true]⟩
       · cases hev)
    | (obtain ⟨h2, hev⟩ := req_par hev
       exact ⟨_, hev, fun R' K' => by simp only [evBin, h2, req, cond_true]⟩)
    | exact ⟨_, hev, fun R' K' => by simp only [evBin]⟩
    | cases hev

end
end Go.Iv

/- What one operation of the evaluator looks at, and what it changes: all of them. -/
namespace Go.Iv

structure Ch (F : Cell → Cell) (up : Nat → Option (Option Ob)) (σ σ1 : St) : Prop where
  sl : σ1.sl = σ.sl.map (mI F)
  ob : ∀ n, get σ1.ob n = (up n).getD ((get σ.ob n).map (mO F))

theorem mI_comp (f g : Cell → Cell) (x : IV) : mI g (mI f x) = mI (g ∘ f) x := by
  have h1 : ∀ x : V1, mV1 g (mV1 f x) = mV1 (g ∘ f) x := fun x => by cases x <;> simp [mV1]
  cases x with
  | v x => simp [mI, h1]
  | tup xs => simp only [mI, List.map_map]; exact congrArg IV.tup (List.map_congr_left fun c _ => h1 c)
theorem mO_comp (f g : Cell → Cell) (x : Ob) : mO g (mO f x) = mO (g ∘ f) x := by cases x <;> simp [mO]

theorem Ch.trans {F G : Cell → Cell} {up vp : Nat → Option (Option Ob)} {σ σ1 σ2 : St} (h : Ch F up σ σ1) (k : Ch G vp σ1 σ2) :
    Ch (G ∘ F) (fun n => (vp n).or ((up n).map (Option.map (mO G)))) σ σ2 := by
  constructor
  · rw [k.sl, h.sl, List.map_map]; exact List.map_congr_left fun x _ => mI_comp F G x
  · intro n
    rw [k.ob, h.ob]
    cases vp n with
    | some x => rfl
    | none =>
      simp only [Option.getD_none, Option.none_or]
      cases up n with
      | some x => rfl
      | none =>
        simp only [Option.getD_none, Option.map_none]
        cases get σ.ob n with
        | none => rfl
        | some o => simp [mO_comp]

theorem Ch.refl (σ : St) : Ch (fun c => c) (fun _ => none) σ σ := ⟨(mI_ids _).symm, fun n => by simp [mO_ids]⟩

theorem ch_drop (p : Nat → Bool) (σ : St) : Ch (scC p) (fun n => if p n = true then some none else none) σ (drop p σ) := by
  constructor
  · rw [mI_sc]; rfl
  · intro n
    rw [get_drop, mO_sc]
    split <;> rfl

theorem get_scrub (p : Nat → Bool) (σ : St) (n : Nat) : get (scrub p σ).ob n = (get σ.ob n).map (scO p) := by
  show get (σ.ob.map fun x => (x.1, scO p x.2)) n = _
  rw [get_map]

theorem ch_scrub (p : Nat → Bool) (σ : St) : Ch (scC p) (fun _ => none) σ (scrub p σ) := by
  constructor
  · rw [mI_sc]; rfl
  · intro n; rw [get_scrub, mO_sc]; rfl

theorem scC_other {n : Nat} {c : Cell} (h : n ∉ nmsC c) : scC (Nat.beq n) c = c := by
  cases c <;> simp only [scC] <;> simp [nmsC] at h <;> simp [beqF h]
theorem frC_other {n : Nat} {t : Ty} {xs : List t.Den} {c : Cell} (h : n ∉ nmsC c) : frC n t xs c = c := by
  cases c <;> simp only [frC] <;> simp [nmsC] at h <;> simp [h]

/-- What turning rows comes to hangs on those rows alone. -/
theorem frz_par (n : Nat) (σ : St) : ∃ F up, (∀ c, n ∉ nmsC c → F c = c) ∧ (∀ m, up m = none ∨ (up m = some none ∧ m = n)) ∧
    ∀ σ' : St, get σ'.ob n = get σ.ob n → Ch F up σ' (frz n σ') := by
  cases hn : get σ.ob n with
  | none => exact ⟨_, _, fun _ _ => rfl, fun _ => .inl rfl, fun σ' h => by unfold frz; rw [h]; exact Ch.refl σ'⟩
  | some o =>
    cases o with
    | cells cs => exact ⟨_, _, fun _ _ => rfl, fun _ => .inl rfl, fun σ' h => by unfold frz; rw [h]; exact Ch.refl σ'⟩
    | bytes xs =>
      refine ⟨scC (Nat.beq n), fun m => if Nat.beq n m = true then some none else none, fun c hc => scC_other hc, fun m => ?_, fun σ' h => by unfold frz; rw [h]; exact ch_drop _ σ'⟩
      by_cases hm : Nat.beq n m = true
      · exact .inr ⟨by simp only [if_pos hm], (Nat.eq_of_beq_eq_true hm).symm⟩
      · exact .inl (by simp only [if_neg hm])
    | rows t e xs =>
      refine ⟨frC n t xs, fun m => if m = n then some none else none, fun c hc => frC_other hc, fun m => ?_, fun σ' h => ?_⟩
      · by_cases hm : m = n
        · exact .inr ⟨by simp only [if_pos hm], hm⟩
        · exact .inl (by simp only [if_neg hm])
      · unfold frz; rw [h]
        constructor
        · rw [mI_fr]
        · intro m
          rw [get_map, get_del, mO_fr]
          by_cases hm : m = n
          · subst hm; simp
          · have : Nat.beq n m = false := beqF fun e => hm e.symm
            simp [this, hm]

theorem frzAll_par : ∀ (l : List Nat) (σ : St), ∃ F up, (∀ c, (∀ n ∈ nmsC c, n ∉ l) → F c = c) ∧ (∀ m, up m = none ∨ (up m = some none ∧ m ∈ l)) ∧
    ∀ σ' : St, (∀ n ∈ l, get σ'.ob n = get σ.ob n) → Ch F up σ' (frzAll l σ')
  | [], σ => ⟨_, _, fun _ _ => rfl, fun _ => .inl rfl, fun σ' _ => Ch.refl σ'⟩
  | n :: l, σ => by
    obtain ⟨F, up, h1, h2, h3⟩ := frz_par n σ
    obtain ⟨G, vp, k1, k2, k3⟩ := frzAll_par l (frz n σ)
    refine ⟨G ∘ F, _, fun c hc => ?_, fun m => ?_, fun σ' h => (h3 σ' (h n (by simp))).trans (k3 (frz n σ') fun m hm => ?_)⟩
    · have : F c = c := h1 c fun hn => hc n hn (by simp)
      simp only [Function.comp, this]
      exact k1 c fun m hm hl => hc m hm (by simp [hl])
    · rcases k2 m with hm | ⟨hm, hl⟩
      · rcases h2 m with hu | ⟨hu, rfl⟩
        · left; simp [hm, hu]
        · right; simp [hm, hu]
      · right; simp [hm, hl]
    · rw [(h3 σ' (h n (by simp))).ob, (h3 σ rfl).ob, h m (by simp [hm])]

theorem mI_bot {F : Cell → Cell} (hF : F .bot = .bot) : mI F botI = botI := by simp [mI, botI, mV1, hF]
theorem getD_map_F {F : Cell → Cell} (hF : F .bot = .bot) (l : List IV) (t : Nat) : (l.map (mI F)).getD t botI = mI F (l.getD t botI) := by
  rw [List.getD_eq_getElem?_getD, List.getElem?_map, List.getD_eq_getElem?_getD]
  cases l[t]? with
  | none => exact (mI_bot hF).symm
  | some x => rfl

theorem opnd_ch {T : Tab} {F : Cell → Cell} {up vp : Nat → Option (Option Ob)} {σ σ' σ1 σ1' : St} (hF : F .bot = .bot) (h : Ch F up σ σ1) (h' : Ch F vp σ' σ1') {x : Operand} (hx : opnd T σ' x = opnd T σ x) :
    opnd T σ1' x = opnd T σ1 x := by
  cases x with
  | tmp t =>
    simp only [opnd] at hx ⊢
    rw [h.sl, h'.sl, getD_map_F hF, getD_map_F hF, hx]
  | const v => exact hx
  | func f => exact hx
  | global g => exact hx

section
variable {T : Tab} {call : CallT} {o : Oper} {σ : St} {R : Type} {r : R} {K : St → Option R}

theorem fresh_id {n : Nat} {σ : St} (h : get σ.ob n = none) : fresh n σ = σ := by unfold fresh; rw [h]

theorem ofD_self (d : Nat) : ofD d d = true := by simp [ofD]

/-- A new block, behind a change. -/
theorem does_new {F : Cell → Cell} {up : Nat → Option (Option Ob)} {σ σ1 : St} {d : Nat} (h : Ch F up σ σ1) (v : IV) (ob : Ob) (hd : get σ1.ob d = none) :
    Does (some d) ⟨v, F, fun n => if n = d then some (some ob) else up n⟩ σ { sl := (fresh d σ1).sl.set d v, ob := upd d ob (fresh d σ1).ob } := by
  rw [fresh_id hd]
  constructor
  · show σ1.sl.set d v = _; rw [h.sl]; rfl
  · intro n
    by_cases hn : n = d
    · subst hn; simp [get_upd_same]
    · simp [get_upd_ne d n ob σ1.ob hn, h.ob, hn]

theorem Fr.get {d n : Nat} (h : Fr o σ) (hd : o.dst = some d) (hn : ofD d n = true) : get σ.ob n = none := (h d hd).2 n hn

theorem ch_none {F : Cell → Cell} {up : Nat → Option (Option Ob)} {σ σ1 : St} {n : Nat} (h : Ch F up σ σ1) (hu : up n = none ∨ up n = some none) (hn : get σ.ob n = none) : get σ1.ob n = none := by
  rw [h.ob, hn]; rcases hu with hu | hu <;> simp [hu]

theorem l_move (x : Operand) (ho : o.op = .move x ∨ o.op = .assign x) : ∃ e, Local T call o σ e := by
  refine loc_pure (opnd T σ x) fun σ' ha R K => ?_
  rcases ho with ho | ho <;> (have := ha.op x (by simp [ho, Op.operands]); simp only [evCore, ho, this])

theorem l_nilCheck (x : Operand) (ho : o.op = .nilCheck x) (hev : evCore T call o σ K = some r) : ∃ e, Local T call o σ e := by
  unfold evCore at hev; simp only [ho] at hev
  split at hev
  · rename_i n off hx
    refine loc_pure (.v (.one (.ptr n off))) fun σ' ha R K => ?_
    have h1 := ha.op x (by simp [ho, Op.operands])
    simp only [evCore, ho, h1, hx]
  · cases hev

theorem l_pick (c x y : Operand) (ho : o.op = .pick c x y) (hev : evCore T call o σ K = some r) : ∃ e, Local T call o σ e := by
  unfold evCore at hev; simp only [ho] at hev
  split at hev
  · rename_i t hc
    refine loc_pure (if t then opnd T σ x else opnd T σ y) fun σ' ha R K => ?_
    have h1 := ha.op c (by simp [ho, Op.operands])
    have h2 := ha.op x (by simp [ho, Op.operands])
    have h3 := ha.op y (by simp [ho, Op.operands])
    simp only [evCore, ho, h1, hc, h2, h3]
    cases t <;> rfl
  · cases hev

theorem l_alloc (e : TypeId) (ho : o.op = .alloc e) (hev : evCore T call o σ K = some r) : ∃ e, Local T call o σ e := by
  unfold evCore at hev; simp only [ho] at hev
  split at hev
  · rename_i d ag zs hd hz
    refine ⟨⟨.v (.one (.ptr d 0)), fun c => c, fun n => if n = d then some (some (.cells (zs.map fun u => .fc (.sc u)))) else none⟩, ⟨fun _ _ => rfl, fun n h => ?_⟩, fun σ' ha hf => ?_⟩
    · by_cases hn : n = d
      · exact .inr ⟨d, hd, by rw [hn]; exact ofD_self d⟩
      · simp [hn] at h
    · refine ⟨_, hd ▸ does_new (Ch.refl σ') _ _ (hf.get hd (ofD_self d)), fun R K => ?_⟩
      simp only [evCore, ho, hd, hz]
  · cases hev

theorem l_box (e : TypeId) (x : Operand) (ho : o.op = .box e x) (hev : evCore T call o σ K = some r) (hF : Fr o σ) : ∃ e, Local T call o σ e := by
  unfold evCore at hev; simp only [ho] at hev
  split at hev
  · rename_i d cs0 hd hc0
    rw [fresh_id (hF.get hd (ofD_self d))] at hev
    split at hev
    · rename_i cs hcs
      obtain ⟨hok, hev⟩ := bif_par hev
      refine ⟨⟨.v (.one (.ptr d 0)), fun c => c, fun n => if n = d then some (some (.cells cs)) else none⟩, ⟨fun _ _ => rfl, fun n h => ?_⟩, fun σ' ha hf => ?_⟩
      · by_cases hn : n = d
        · exact .inr ⟨d, hd, by rw [hn]; exact ofD_self d⟩
        · simp [hn] at h
      · refine ⟨_, hd ▸ does_new (Ch.refl σ') _ _ (hf.get hd (ofD_self d)), fun R K => ?_⟩
        have h1 := ha.op x (by simp [ho, Op.operands])
        simp only [evCore, ho, hd, fresh_id (hf.get hd (ofD_self d)), h1, hcs, hok, cond_true]
    · cases hev
  · cases hev

theorem l_load (t : TypeId) (x : Operand) (ho : o.op = .load t x) (hev : evCore T call o σ K = some r) : ∃ e, Local T call o σ e := by
  unfold evCore at hev; simp only [ho] at hev
  obtain ⟨v, _, hv⟩ := load_par hev
  refine loc_pure v fun σ' ha R K => ?_
  have h1 := ha.op x (by simp [ho, Op.operands])
  simp only [evCore, ho, h1]
  exact hv σ' (fun n hn => ha.nm (by simp [reads, ho]) (by simp [ho, Op.operands]) hn) R _

theorem l_fieldAddr (s : TypeId) (x : Operand) (f : Nat) (ho : o.op = .fieldAddr s x f) (hev : evCore T call o σ K = some r) : ∃ e, Local T call o σ e := by
  unfold evCore at hev; simp only [ho] at hev
  obtain ⟨v, _, hv⟩ := fieldAddr_par hev
  refine loc_pure v fun σ' ha R K => ?_
  have h1 := ha.op x (by simp [ho, Op.operands])
  simp only [evCore, ho, h1]
  exact hv R _

theorem l_field (s : TypeId) (x : Operand) (f : Nat) (ho : o.op = .field s x f) (hev : evCore T call o σ K = some r) : ∃ e, Local T call o σ e := by
  unfold evCore at hev; simp only [ho] at hev
  obtain ⟨v, _, hv⟩ := field_par hev
  refine loc_pure v fun σ' ha R K => ?_
  have h1 := ha.op x (by simp [ho, Op.operands])
  simp only [evCore, ho, h1]
  exact hv R _

theorem l_indexAddr (t : TypeId) (x ix : Operand) (ho : o.op = .indexAddr t x ix) (hev : evCore T call o σ K = some r) : ∃ e, Local T call o σ e := by
  unfold evCore at hev; simp only [ho] at hev
  obtain ⟨v, _, hv⟩ := indexAddr_par hev
  refine loc_pure v fun σ' ha R K => ?_
  have h1 := ha.op x (by simp [ho, Op.operands])
  have h2 := ha.op ix (by simp [ho, Op.operands])
  simp only [evCore, ho, h1, h2]
  exact hv σ' (fun n hn => ha.nm (by simp [reads, ho]) (by simp [ho, Op.operands]) hn) R _

theorem l_index (t : TypeId) (x ix : Operand) (ho : o.op = .index t x ix) (hev : evCore T call o σ K = some r) : ∃ e, Local T call o σ e := by
  unfold evCore at hev; simp only [ho] at hev
  obtain ⟨v, _, hv⟩ := index_par hev
  refine loc_pure v fun σ' ha R K => ?_
  have h1 := ha.op x (by simp [ho, Op.operands])
  have h2 := ha.op ix (by simp [ho, Op.operands])
  simp only [evCore, ho, h1, h2]
  exact hv R _

theorem l_extract (x : Operand) (i : Nat) (ho : o.op = .extract x i) (hev : evCore T call o σ K = some r) : ∃ e, Local T call o σ e := by
  unfold evCore at hev; simp only [ho] at hev
  split at hev
  · rename_i xs hx
    split at hev
    · rename_i v hv
      refine loc_pure (.v v) fun σ' ha R K => ?_
      have h1 := ha.op x (by simp [ho, Op.operands])
      simp only [evCore, ho, h1, hx, hv]
    · cases hev
  · cases hev

theorem l_not (t : TypeId) (x : Operand) (ho : o.op = .unOp .not t x) (hev : evCore T call o σ K = some r) : ∃ e, Local T call o σ e := by
  unfold evCore at hev; simp only [ho] at hev
  split at hev
  · rename_i b hx
    refine loc_pure (.v (.one (.fc (.sc (.bool (!b)))))) fun σ' ha R K => ?_
    have h1 := ha.op x (by simp [ho, Op.operands])
    simp only [evCore, ho, h1, hx]
  · cases hev

theorem l_neg (t : TypeId) (x : Operand) (ho : o.op = .unOp .neg t x) (hev : evCore T call o σ K = some r) : ∃ e, Local T call o σ e := by
  unfold evCore at hev; simp only [ho] at hev
  split at hev
  · rename_i k n hx
    refine loc_pure (.v (.one (.fc (.sc (.int k (k.wrap (0 - n))))))) fun σ' ha R K => ?_
    have h1 := ha.op x (by simp [ho, Op.operands])
    simp only [evCore, ho, h1, hx]
  · cases hev

theorem l_bin (op : BinOp) (t t2 : TypeId) (x y : Operand) (ho : o.op = .binOp op t x y t2) (hev : evCore T call o σ K = some r) : ∃ e, Local T call o σ e := by
  unfold evCore at hev; simp only [ho] at hev
  split at hev
  · rename_i a b hx hy
    obtain ⟨hok, hev⟩ := bif_par hev
    obtain ⟨v, _, hv⟩ := bin_par hev
    refine loc_pure (.v (.one (.fc (.sc v)))) fun σ' ha R K => ?_
    have h1 := ha.op x (by simp [ho, Op.operands])
    have h2 := ha.op y (by simp [ho, Op.operands])
    simp only [evCore, ho, h1, h2, hx, hy, hok, cond_true]
    exact hv R _
  · cases hev

end
end Go.Iv

/- What one operation of the evaluator looks at, and what it changes: the rest, and all of them together. -/
namespace Go.Iv

section
variable {T : Tab} {call : CallT} {o : Oper} {σ : St} {R : Type} {r : R} {K : St → Option R}

/-- A new block, nothing else changed. -/
theorem loc_new {d : Nat} (hd : o.dst = some d) (v : IV) (ob : Ob)
    (h : ∀ σ', Agree T o σ σ' → Fr o σ' → ∀ (R : Type) (K : St → Option R), evCore T call o σ' K = K { sl := (fresh d σ').sl.set d v, ob := upd d ob (fresh d σ').ob }) : ∃ e, Local T call o σ e := by
  refine ⟨⟨v, fun c => c, fun n => if n = d then some (some ob) else none⟩, ⟨fun _ _ => rfl, fun n h => ?_⟩, fun σ' ha hf => ⟨_, hd ▸ does_new (Ch.refl σ') v ob (hf.get hd (ofD_self d)), h σ' ha hf⟩⟩
  by_cases hn : n = d
  · exact .inr ⟨d, hd, by rw [hn]; exact ofD_self d⟩
  · simp [hn] at h

theorem l_conv (src dt : TypeId) (x : Operand) (ho : o.op = .convert src dt x) (hev : evCore T call o σ K = some r) : ∃ e, Local T call o σ e := by
  unfold evCore at hev; simp only [ho] at hev
  have h1 : ∀ σ', Agree T o σ σ' → opnd T σ' x = opnd T σ x := fun σ' ha => ha.op x (by simp [ho, Op.operands])
  have hg : ∀ σ', Agree T o σ σ' → ∀ n ∈ nmsI (opnd T σ x), get σ'.ob n = get σ.ob n := fun σ' ha n hn => ha.nm (by simp [reads, ho]) (by simp [ho, Op.operands]) hn
  unfold evConv at hev
  split at hev
  · rename_i k n hx
    split at hev
    · rename_i k2 hs hd
      exact loc_pure _ fun σ' ha R K => by (simp only [evCore, ho, evConv, h1 σ' ha, hx, hs, hd]; rfl)
    · cases hev
  · rename_i s hx
    split at hev
    · rename_i e d hs hd hdst
      obtain ⟨hq, hev⟩ := req_par hev
      exact loc_new hdst _ _ fun σ' ha hf R K => by (simp only [evCore, ho, evConv, h1 σ' ha, hx, hs, hd, hdst, req, hq, cond_true]; rfl)
    · cases hev
  · rename_i n hx
    have hm : ∀ σ', Agree T o σ σ' → get σ'.ob n = get σ.ob n := fun σ' ha => hg σ' ha n (by rw [hx]; simp [nmsI, nmsV, nmsC])
    split at hev
    · rename_i e xs hs hd hn
      exact loc_pure _ fun σ' ha R K => by (simp only [evCore, ho, evConv, h1 σ' ha, hx, hs, hd, hm σ' ha, hn]; rfl)
    · rename_i e e2 xs hs hd hn
      exact loc_pure _ fun σ' ha R K => by (simp only [evCore, ho, evConv, h1 σ' ha, hx, hs, hd, hm σ' ha, hn]; rfl)
    · cases hev
  · rename_i xs hx
    split at hev
    · rename_i e hs hd
      exact loc_pure _ fun σ' ha R K => by (simp only [evCore, ho, evConv, h1 σ' ha, hx, hs, hd]; rfl)
    · cases hev
  · cases hev

theorem l_make (t : TypeId) (l c : Operand) (ho : o.op = .makeSlice t l c) (hev : evCore T call o σ K = some r) : ∃ e, Local T call o σ e := by
  unfold evCore at hev; simp only [ho] at hev
  unfold evMake at hev
  split at hev
  · rename_i d ty e ln cp hd ht hl hc
    obtain ⟨hq, hev⟩ := req_par hev
    refine loc_new hd (.v (.one (.hdr d))) (.rows ty e (List.replicate ln.toNat ty.dflt)) fun σ' ha hf R K => ?_
    have h1 := ha.op l (by simp [ho, Op.operands])
    have h2 := ha.op c (by simp [ho, Op.operands])
    simp only [evCore, ho, evMake, h1, h2, hd, ht, hl, hc, req, hq, cond_true]
  · cases hev

theorem fillC_par {t : TypeId} {σ' : St} : ∀ (ps : List (Nat × Operand)) (cs : List Cell), (∀ x ∈ ps.map (·.2), opnd T σ' x = opnd T σ x) → fillC T σ' t cs ps = fillC T σ t cs ps
  | [], cs, _ => rfl
  | (i, x) :: ps, cs, h => by
    have h1 := h x (by simp)
    have ih : ∀ cs, fillC T σ' t cs ps = fillC T σ t cs ps := fun cs => fillC_par ps cs fun y hy => h y (by simp only [List.map_cons, List.mem_cons]; exact .inr hy)
    simp only [fillC, h1, ih]

theorem l_build (t : TypeId) (parts : Array (Nat × Operand)) (ho : o.op = .build t parts) (hev : evCore T call o σ K = some r) : ∃ e, Local T call o σ e := by
  unfold evCore at hev; simp only [ho] at hev
  unfold evBuild at hev
  split at hev
  · rename_i zs hz
    split at hev
    · rename_i cs hcs
      refine loc_pure (.v (.agg cs)) fun σ' ha R K => ?_
      have h1 := fillC_par (T := T) (σ := σ) (σ' := σ') (t := t) parts.toList (zs.map fun u => .fc (.sc u)) fun x hx => ha.op x (by rw [ho]; simpa [Op.operands] using hx)
      simp only [evCore, ho, evBuild, hz, h1, hcs]
    · cases hev
  · cases hev

theorem l_func (fn : Fn) (first captured : Array Operand) (ho : o.op = .makeFunc fn first captured) (hev : evCore T call o σ K = some r) : ∃ e, Local T call o σ e := by
  unfold evCore at hev; simp only [ho] at hev
  obtain ⟨hq, hev⟩ := bif_par hev
  exact loc_pure _ fun σ' ha R K => by (simp only [evCore, ho, hq, cond_true]; rfl)

theorem l_len (args : Array Operand) (tys : Array TypeId) (ho : o.op = .call { callee := .builtin .len, args := args, argTypes := tys }) (hev : evCore T call o σ K = some r) : ∃ e, Local T call o σ e := by
  unfold evCore at hev; simp only [ho] at hev
  split at hev
  · rename_i x t hx ht
    obtain ⟨v, _, hv⟩ := len_par hev
    refine loc_pure v fun σ' ha R K => ?_
    have hm : x ∈ o.op.operands := by rw [ho]; simp only [Op.operands, Call.operands]; rw [← Array.mem_toList_iff]; simp [hx]
    simp only [evCore, ho, hx, ht, ha.op x hm]
    exact hv σ' (fun n hn => ha.nm (by simp [reads, ho]) hm hn) R _
  · cases hev

theorem l_min (args : Array Operand) (tys : Array TypeId) (ho : o.op = .call { callee := .builtin .min, args := args, argTypes := tys }) (hev : evCore T call o σ K = some r) : ∃ e, Local T call o σ e := by
  unfold evCore at hev; simp only [ho] at hev
  split at hev
  · rename_i x y hxy
    split at hev
    · rename_i a b hx hy
      refine loc_pure (.v (.one (.fc (.sc (.int .i64 (if b < a then b else a)))))) fun σ' ha R K => ?_
      · have hm : x ∈ o.op.operands := by rw [ho]; simp only [Op.operands, Call.operands]; rw [← Array.mem_toList_iff]; simp [hxy]
        have hn : y ∈ o.op.operands := by rw [ho]; simp only [Op.operands, Call.operands]; rw [← Array.mem_toList_iff]; simp [hxy]
        simp only [evCore, ho, hxy, ha.op x hm, ha.op y hn, hx, hy]
    · cases hev
  · cases hev

theorem l_max (args : Array Operand) (tys : Array TypeId) (ho : o.op = .call { callee := .builtin .max, args := args, argTypes := tys }) (hev : evCore T call o σ K = some r) : ∃ e, Local T call o σ e := by
  unfold evCore at hev; simp only [ho] at hev
  split at hev
  · rename_i x y hxy
    split at hev
    · rename_i a b hx hy
      refine loc_pure (.v (.one (.fc (.sc (.int .i64 (if a < b then b else a)))))) fun σ' ha R K => ?_
      · have hm : x ∈ o.op.operands := by rw [ho]; simp only [Op.operands, Call.operands]; rw [← Array.mem_toList_iff]; simp [hxy]
        have hn : y ∈ o.op.operands := by rw [ho]; simp only [Op.operands, Call.operands]; rw [← Array.mem_toList_iff]; simp [hxy]
        simp only [evCore, ho, hxy, ha.op x hm, ha.op y hn, hx, hy]
    · cases hev
  · cases hev

/-! ### calls -/

theorem view_par {ob ob' : List (Nat × Ob)} {ty : Option (Ty × TypeId)} {c : Cell} (h : ∀ n ∈ nmsC c, get ob' n = get ob n) : view ob' ty c = view ob ty c := by
  cases c with
  | hdr n => simp only [view, h n (by simp [nmsC])]
  | fc c => unfold view; split <;> first | rfl | (rename_i h2; cases h2)
  | _ => rfl

theorem views_par {ob ob' : List (Nat × Ob)} : ∀ {tys : List (Option (Ty × TypeId))} {cs : List Cell}, (∀ n ∈ nmsCs cs, get ob' n = get ob n) → views ob' tys cs = views ob tys cs
  | [], [], _ => rfl
  | [], _ :: _, _ => rfl
  | _ :: _, [], _ => rfl
  | ty :: tys, c :: cs, h => by
    simp only [views]
    rw [view_par fun n hn => h n (by simp [nmsCs, hn]), views_par fun n hn => h n (by simp [nmsCs, hn])]

theorem viewI_par {ob ob' : List (Nat × Ob)} {t : TypeId} {x : IV} (h : ∀ n ∈ nmsI x, get ob' n = get ob n) : viewI T ob' t x = viewI T ob t x := by
  cases x with
  | tup xs => rfl
  | v x =>
    cases x with
    | one c =>
      have hc : ∀ ty, view ob' ty c = view ob ty c := fun ty => view_par fun n hn => h n (by simp [nmsI, nmsV, hn])
      simp only [viewI, hc]
    | agg cs =>
      have hc := views_par (tys := T.parm t) (cs := cs) (ob := ob) (ob' := ob') fun n hn => h n (by simp [nmsI, nmsV, hn])
      simp only [viewI, hc]

theorem viewsI_par {σ' : St} : ∀ (tys : List TypeId) (xs : List Operand), (∀ x ∈ xs, opnd T σ' x = opnd T σ x) → (∀ n ∈ nmsOps T σ xs, get σ'.ob n = get σ.ob n) → viewsI T σ' tys xs = viewsI T σ tys xs
  | [], [], _, _ => rfl
  | [], _ :: _, _, _ => rfl
  | _ :: _, [], _, _ => rfl
  | t :: ts, x :: xs, h, k => by
    simp only [viewsI]
    rw [h x (by simp), viewI_par fun n hn => k n (nms_mem (by simp) hn), viewsI_par ts xs (fun y hy => h y (by simp [hy])) fun n hn => k n (by rw [nmsOps, List.mem_append]; exact .inr hn)]

theorem hdrsOps_par {σ' : St} : ∀ (xs : List Operand), (∀ x ∈ xs, opnd T σ' x = opnd T σ x) → hdrsOps T σ' xs = hdrsOps T σ xs
  | [], _ => rfl
  | x :: xs, h => by rw [hdrsOps, hdrsOps, h x (by simp), hdrsOps_par xs fun y hy => h y (by simp [hy])]

theorem hdrs_sub {cs : List Cell} {n : Nat} (h : n ∈ hdrs cs) : n ∈ nmsCs cs := by
  induction cs with
  | nil => cases h
  | cons c cs ih =>
    rw [nmsCs, List.mem_append]
    cases c <;> simp only [hdrs, List.mem_cons] at h <;> first
      | (rcases h with rfl | h
         · exact .inl (by simp [nmsC])
         · exact .inr (ih h))
      | exact .inr (ih h)

theorem hdrsI_sub {x : IV} {n : Nat} (h : n ∈ hdrsI x) : n ∈ nmsI x := by
  cases x with
  | tup xs => cases h
  | v x =>
    cases x with
    | one c =>
      simp only [nmsI, nmsV, List.append_nil]
      have := hdrs_sub (cs := [c]) h
      simpa [nmsCs] using this
    | agg cs =>
      simp only [nmsI, nmsV, List.append_nil]
      exact hdrs_sub h

theorem hdrsOps_sub {xs : List Operand} {n : Nat} (h : n ∈ hdrsOps T σ xs) : n ∈ nmsOps T σ xs := by
  induction xs with
  | nil => cases h
  | cons x xs ih =>
    rw [hdrsOps, List.mem_append] at h
    rw [nmsOps, List.mem_append]
    rcases h with h | h
    · exact .inl (hdrsI_sub h)
    · exact .inr (ih h)

theorem hasOf_no {d : Nat} : ∀ {l : List (Nat × Ob)}, (∀ n, ofD d n = true → get l n = none) → hasOf d l = false
  | [], _ => rfl
  | (n, o) :: l, h => by
    have h1 : ofCall d n = false := by
      cases hc : ofCall d n with
      | false => rfl
      | true => have := h n (by simp [ofD, hc]); simp [get] at this
    have h2 : hasOf d l = false := hasOf_no fun m hm => by
      have h3 := h m hm
      simp only [get] at h3
      split at h3
      · cases h3
      · exact h3
    simp [hasOf, h1, h2]

theorem obs_of {d : Nat} (hd : d < 1000) : ∀ {l : List RC} {j n : Nat} {ob : Ob}, get (obs d j l) n = some ob → ofD d n = true
  | [], j, n, ob, h => by cases h
  | .fc _ :: l, j, n, ob, h => obs_of hd (l := l) (j := j + 1) h
  | .buf t e xs :: l, j, n, ob, h => by
    simp only [obs, get] at h
    split at h
    · rename_i hn
      rw [← hn]
      have h1 : (d + 1000 * (j + 1)) % 1000 = d := by omega
      have h2 : Nat.ble 1000 (d + 1000 * (j + 1)) = true := Nat.ble_eq_true_of_le (by omega)
      simp [ofD, ofCall, nm, h1, h2]
    · exact obs_of hd (l := l) (j := j + 1) h

theorem get_obs' (d : Nat) : ∀ (rs : List RC) (j0 n : Nat) (o : Ob), get (obs d j0 rs) n = some o → ∃ k t e xs, n = nm d (j0 + k) ∧ rs[k]? = some (.buf t e xs) ∧ o = .rows t e xs
  | [], _, _, _, h => by simp [obs, get] at h
  | .fc c :: rs, j0, n, o, h => by
    obtain ⟨k, t, e, xs, h1, h2, h3⟩ := get_obs' d rs (j0 + 1) n o h
    exact ⟨k + 1, t, e, xs, by rw [h1]; congr 1; omega, by simpa using h2, h3⟩
  | .buf t e xs :: rs, j0, n, o, h => by
    rw [obs, get] at h
    split at h
    · rename_i hn; cases h; exact ⟨0, t, e, xs, by rw [← hn]; rfl, rfl, rfl⟩
    · obtain ⟨k, t', e', xs', h1, h2, h3⟩ := get_obs' d rs (j0 + 1) n o h
      exact ⟨k + 1, t', e', xs', by rw [h1]; congr 1; omega, by simpa using h2, h3⟩

end
end Go.Iv
