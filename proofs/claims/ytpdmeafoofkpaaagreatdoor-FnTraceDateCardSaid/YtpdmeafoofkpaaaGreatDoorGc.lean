/- Texts of this proof, joined: Iv10 Iv11 Iv12. -/
import Derived.Test.YtpdmeafoofkpaaaGreatDoorGb
set_option linter.unusedVariables false
set_option linter.unusedSimpArgs false
/- Struct literals, make, slicing, conversions, append. -/
namespace Go.Iv
open Go.RowKit

/-- One part of a literal goes in. -/
theorem fill_cons {place : Nat → Option (Nat × Nat)} {cells : Array Value} {i off size : Nat} {v : Value} {rest : List (Nat × Value)} (hp : place i = some (off, size)) (hs : v.cells.size = size) (hl : off + size ≤ cells.size) :
    Instr.fill place cells ((i, v) :: rest) = Instr.fill place (spl cells.toList off v.cells.toList).toArray rest := by
  have hcond : (decide (v.cells.size ≠ size) || decide (off + v.cells.size > cells.size)) = false := by
    rw [Bool.or_eq_false_iff]; exact ⟨decide_eq_false (by simp [hs]), decide_eq_false (by omega)⟩
  have hf : v.cells.zipIdx.foldl (fun cs (c, j) => cs.setIfInBounds (off + j) c) cells = (spl cells.toList off v.cells.toList).toArray := by
    have h := Great.foldl_set off v.cells.toList 0 cells
    rw [← Array.foldl_toList, Array.toList_zipIdx]
    apply Array.ext_getElem?
    intro k
    have e : (spl cells.toList off v.cells.toList).toArray[k]? = (spl cells.toList off v.cells.toList)[k]? := by simp
    rw [h.2 k, e, spl_get (by simp only [Array.length_toList]; omega)]
    simp only [Nat.add_zero, Array.length_toList, Array.getElem?_toList]
    by_cases hk : off ≤ k ∧ k < off + v.cells.size
    · rw [if_pos ⟨hk.1, hk.2, by omega⟩, if_pos hk]
    · rw [if_neg (fun h => hk ⟨h.1, h.2.1⟩), if_neg hk]
  conv => lhs; unfold Instr.fill
  simp only [hp]
  rw [if_neg (by rw [hcond]; simp)]
  exact congrArg (fun c => Instr.fill place c rest) hf

section
variable {C : Ctx} {R : Type} {γ : Nat → Value} {σ : St} {a : Act} {w : World} {o : Oper} {next : Act → World → Prop} {Q : Exit → Act → World → Prop} {r : R} {K : St → Option R}

theorem fill_rep (hG : GlobOk C) (h : Inv C γ σ a w) (t : TypeId) (place : Nat → Option (Nat × Nat)) (hpl : ∀ i o sz, plc C.T t i = some (o, sz) → place i = some (o, sz)) :
    ∀ (parts : List (Nat × Operand)) (cs : List Cell) (arr : Array Value) (cs' : List Cell), fillC C.T σ t cs parts = some cs' → RepCs γ σ.ob w (FF γ σ.ob C.N) cs arr.toList →
    ∃ arr', Instr.fill place arr (parts.map fun p => (p.1, a.eval p.2)) = some arr' ∧ RepCs γ σ.ob w (FF γ σ.ob C.N) cs' arr'.toList
  | [], cs, arr, cs', hf, hr => by cases hf; exact ⟨arr, rfl, hr⟩
  | (i, x) :: rest, cs, arr, cs', hf, hr => by
    rw [fillC] at hf
    split at hf
    · rename_i o sz ys hp hys
      have hf2 := bif_some hf
      clear hf
      obtain ⟨hc, hf⟩ := hf2
      simp only [Bool.and_eq_true] at hc
      obtain ⟨⟨hlen, hle⟩, hok⟩ := hc
      have hlen := Nat.eq_of_beq_eq_true hlen
      have hle : o + sz ≤ cs.length := Nat.le_of_ble_eq_true hle
      obtain ⟨hys', h1⟩ := cellsOf_rep h hys hok (opnd_rep hG h x)
      have hvl : (a.eval x).cells.size = sz := by have := hys'.1; simp only [Array.length_toList] at this; omega
      have hal : cs.length = arr.size := by have := hr.1; simpa using this
      have hstep := fill_cons (cells := arr) (v := a.eval x) (rest := rest.map fun p => (p.1, a.eval p.2)) (hpl i o sz hp) hvl (by omega)
      have hr' : RepCs γ σ.ob w (FF γ σ.ob C.N) (splice cs o ys) (spl arr.toList o (a.eval x).cells.toList).toArray.toList := by
        have := ((hr.take o).append hys').append (hr.drop (o + ys.length))
        have e : (a.eval x).cells.toList.length = ys.length := hys'.1.symm
        unfold splice spl
        rw [e]
        exact this
      obtain ⟨arr', h2, h3⟩ := fill_rep hG h t place hpl rest (splice cs o ys) _ cs' hf hr'
      exact ⟨arr', by rw [List.map_cons, hstep]; exact h2, h3⟩
    · cases hf

theorem s_build (hT : TabOk C.P C.T) (hG : GlobOk C) (t : TypeId) (parts : Array (Nat × Operand)) (ho : o.op = .build t parts)
    (hev : evBuild C.T σ o.dst t parts.toList K = some r) (h : Inv C γ σ a w)
    (hK : ∀ γ' σ' a' w', Inv C γ' σ' a' w' → K σ' = some r → next a' w') : o.wp C.P a w next Q := by
  unfold evBuild at hev
  split at hev
  · rename_i zs hz
    split at hev
    · rename_i cs hcs
      obtain ⟨i, z, hi, hz0, hzs⟩ := hT.zero t true zs hz
      have hr0 : RepCs γ σ.ob w (FF γ σ.ob C.N) (zs.map fun u => .fc (.sc u)) z.cells.toList := by
        rw [hzs]
        refine ⟨by simp, fun j c u hc hu => ?_⟩
        rw [List.getElem?_map, Option.map_eq_some_iff] at hc
        obtain ⟨u', hu', rfl⟩ := hc
        rw [hu] at hu'; cases hu'; rfl
      have hpm : (parts.map fun (i, x) => (i, a.eval x)).toList = parts.toList.map fun p => (p.1, a.eval p.2) := by rw [Array.toList_map]
      rcases hT.agg t zs hz with ⟨n, e, ei, hu, hei, esz, harr, hes⟩ | ⟨harr, fs, places, hu, hpl, hfld⟩
      · obtain ⟨arr', h2, h3⟩ := fill_rep hG h t (fun i => some (i * esz, esz)) (fun i o sz hp => by unfold plc at hp; rw [harr] at hp; exact hp) parts.toList _ z.cells cs hcs hr0
        refine wp_value (v := .agg arr') (w' := w) ?_ (hK γ _ _ _ (h.put o.dst (x := .v (.agg cs)) ⟨arr', rfl, h3⟩) hev)
        have hf : Instr.fill (fun i => some (i * ei.size, ei.size)) z.cells (parts.map fun (i, x) => (i, a.eval x)).toList = some arr' := by rw [hpm, hes]; exact h2
        have hrun : (Instr.build t (parts.map fun (i, x) => (i, a.eval x))).run C.P w = .ok (.agg arr') w := by
          simp only [Instr.build, Sem.run_bind, zeroValue, typeInfo, Sem.run_pure, run_program, Result.andThen_ok, hi, hz0, run_underlying hu, sizeOf, hei, hf]
        simp only [execOp, ho, Sem.run_bind, hrun, Result.andThen_ok]; rfl
      · obtain ⟨arr', h2, h3⟩ := fill_rep hG h t (places.toArray[·]?) (fun i o sz hp => by
          unfold plc at hp; rw [harr] at hp
          dsimp only at hp
          split at hp
          · rename_i o' sz' ag' hf; cases hp; rw [List.getElem?_toArray]; exact hfld i _ _ _ hf
          · cases hp) parts.toList _ z.cells cs hcs hr0
        refine wp_value (v := .agg arr') (w' := w) ?_ (hK γ _ _ _ (h.put o.dst (x := .v (.agg cs)) ⟨arr', rfl, h3⟩) hev)
        have hb : C.P.built t (parts.map fun (i, x) => (i, a.eval x)).toList = some arr' := by
          unfold Program.built
          simp only [hi, hu, hz0, hpl, hpm]
          exact h2
        have hrun := run_build (P := C.P) w t _ arr' hb
        simp only [execOp, ho, Sem.run_bind, hrun, Result.andThen_ok]; rfl
    · cases hev
  · cases hev

theorem made_row (z : Value) (S n i : Nat) (hz : z.cells.size = S) (hS : 0 < S) (hi : i < n) : (((madeCells z.cells (n * S)).toList.drop (i * S)).take S) = z.cells.toList := by
  apply List.ext_getElem?
  intro k
  rw [List.getElem?_take, List.getElem?_drop]
  have h1 : (i + 1) * S ≤ n * S := Nat.mul_le_mul_right _ hi
  have h2 : (i + 1) * S = i * S + S := by rw [Nat.add_mul, Nat.one_mul]
  by_cases hk : k < S
  · rw [if_pos hk]
    have hlt : i * S + k < n * S := by omega
    have : (madeCells z.cells (n * S)).toList[i * S + k]? = some (z.cells[(i * S + k) % z.cells.size]!) := by
      simp [madeCells, hlt]
    rw [this, hz, Nat.mul_comm i S, Nat.mul_add_mod, Nat.mod_eq_of_lt hk, Array.getElem?_toList, Array.getElem?_eq_getElem (by omega), getElem!_pos z.cells k (by omega)]
  · rw [if_neg hk, Array.getElem?_toList, Array.getElem?_eq_none (by omega)]

theorem made_mem (z : Array Value) (n : Nat) (hz : 0 < z.size) (u : Value) (hu : u ∈ (madeCells z n).toList) : u ∈ z.toList := by
  simp only [madeCells, Array.toList_map, List.mem_map] at hu
  obtain ⟨k, _, rfl⟩ := hu
  have hlt : k % z.size < z.size := Nat.mod_lt _ hz
  rw [getElem!_pos z (k % z.size) hlt]
  exact Array.getElem_mem_toList hlt

theorem RE_one {w : World} {F : Nat → Prop} (t : Ty) {vs : List Value} {x : t.Den} (h : RE w F t vs x) : ∀ u ∈ vs, u.oneCell' = true := by
  cases t with
  | str => cases h; intro u hu; simp at hu; subst hu; rfl
  | int k => cases h; intro u hu; simp at hu; subst hu; rfl
  | mail =>
    obtain ⟨p, q, rfl, ⟨A, c, rfl, _⟩, ⟨B, d, rfl, _⟩⟩ := h
    intro u hu; simp at hu; rcases hu with rfl | rfl | rfl <;> rfl
  | box =>
    obtain ⟨p, rfl, ⟨A, c, rfl, _⟩⟩ := h
    intro u hu; simp at hu; rcases hu with rfl | rfl <;> rfl
  | adr => cases h; intro u hu; simp at hu; rcases hu with rfl | rfl | rfl <;> rfl
  | fld => cases h; intro u hu; simp at hu; rcases hu with rfl | rfl <;> rfl

theorem below_grown {w w' : World} (h : w.grownBy w' none) : Below w.heap.size w w' := ⟨h.os, h.tape, h.output, h.size, fun k hk => h.block k hk (by simp)⟩

theorem s_make (hT : TabOk C.P C.T) (hG : GlobOk C) (h9 : NrO C o) (t : TypeId) (l c : Operand) (ho : o.op = .makeSlice t l c)
    (hev : evMake C.T σ o.dst t (opnd C.T σ l) (opnd C.T σ c) K = some r) (h : Inv C γ σ a w)
    (hK : ∀ γ' σ' a' w', Inv C γ' σ' a' w' → K σ' = some r → next a' w') : o.wp C.P a w next Q := by
  unfold evMake at hev
  split at hev
  · rename_i d ty e n m hd hts hl hc
    have hlv := sc_eq hl (opnd_rep hG h l)
    have hcv := sc_eq hc (opnd_rep hG h c)
    have hq2 := req_some hev
    clear hev
    obtain ⟨hq, hev⟩ := hq2
    simp only [Bool.and_eq_true] at hq
    have h0 := of_decide_eq_true hq.1.1
    have h1 := of_decide_eq_true hq.1.2
    have h2 := of_decide_eq_true hq.2
    subst h1
    obtain ⟨k, rfl⟩ := Int.eq_ofNat_of_zero_le h0
    obtain ⟨hu, ei, ez, hei, hez, hes, heb, hzs, hzr⟩ := hT.sl t ty e hts
    have hk : k ≤ 1099511627776 := by omega
    have hbk : ei.bytes * k ≤ 281474976710656 := Nat.le_trans (Nat.mul_le_mul heb hk) (by decide)
    obtain ⟨w', hrun, hown, hgr⟩ := run_make_full (P := C.P) w 0 t e ei ez ty.size hu hei hez hes .i64 .i64 k hbk (by unfold maxLen; omega) (Nat.zero_le _)
    have hS := ty.size_pos
    refine new_step hG (h.fresh d) h9 hd (get_fresh d σ) (.slice (some ⟨w.heap.size, 0, none⟩) k k) (.slice (some ⟨w.heap.size, 0, none⟩) k k) _ _ (w' := w') (by simp [execOp, ho, hlv, hcv, hrun]) (below_grown hgr) ?_ ?_ (hdr_rep _ _ _ _ _ _ _ rfl) hev hK
    · intro b hb; cases hb; exact Nat.le_refl _
    · intro hk'
      simp only [Int.toNat_natCast]
      refine ⟨(madeCells ez.cells (k * ty.size)).toList, by rw [gup_same, List.length_replicate]; exact hown, ?_, ?_⟩
      · intro u hu'
        exact RE_one ty (hzr w (fun _ => False)) u (made_mem _ _ (by omega) u hu')
      · intro i x hi
        have hlt : i < k := by have := (List.getElem?_eq_some_iff.1 hi).1; simpa using this
        have hx : x = ty.dflt := by rw [List.getElem?_replicate, if_pos hlt] at hi; cases hi; rfl
        subst hx
        rw [made_row ez ty.size k i hzs hS hlt]
        exact hzr _ _
  · cases hev

theorem intO_some {x : Option IV} {v : Option Int} (h : intO x = some v) : (x = none ∧ v = none) ∨ ∃ k n, x = some (.v (.one (.fc (.sc (.int k n))))) ∧ v = some n := by
  unfold intO at h
  split at h
  · cases h; exact .inl ⟨rfl, rfl⟩
  · rename_i k n; cases h; exact .inr ⟨k, n, rfl, rfl⟩
  · cases h

/-- What a bound's operand comes to. -/
theorem bound_rep (hG : GlobOk C) (h : Inv C γ σ a w) {x : Option Operand} {v : Option Int} (hx : intO (x.map (opnd C.T σ)) = some v) :
    (x = none ∧ v = none) ∨ ∃ y k n, x = some y ∧ a.eval y = .int k n ∧ v = some n := by
  rcases intO_some hx with ⟨h1, h2⟩ | ⟨k, n, h1, h2⟩
  · cases x with
    | none => exact .inl ⟨rfl, h2⟩
    | some y => cases h1
  · cases x with
    | none => cases h1
    | some y => exact .inr ⟨y, k, n, rfl, sc_eq (Option.some.inj h1) (opnd_rep hG h y), h2⟩

theorem cutL_row {α : Type} {w : World} {F : Nat → Prop} {sz : Nat} {RR : List Value → α → Prop} {A : Option Addr} {cap : Nat} {xs : List α} (h : RowIs w F sz RR (.slice A xs.length cap) xs) {l m : Nat} (hl : l ≤ m) (hm : m ≤ xs.length) :
    RowIs w F sz RR (sliced A l m cap sz) ((xs.take m).drop l) := by
  obtain ⟨A', cap', he, hcap, hx⟩ := h
  cases he
  refine ⟨if cap = l then A else A.map (·.add (l * sz)), cap - l, ?_, ?_, fun i x hi => ?_⟩
  · unfold sliced; congr 1; simp only [List.length_drop, List.length_take]; omega
  · simp only [List.length_drop, List.length_take]; omega
  · rw [List.getElem?_drop] at hi
    have hlt : l + i < m := by have := (List.getElem?_eq_some_iff.1 hi).1; rw [List.length_take] at this; omega
    rw [List.getElem?_take, if_pos hlt] at hi
    obtain ⟨b, off, cs, rfl, hF, hcl, hcell, hre⟩ := hx (l + i) x hi
    have hne : cap ≠ l := by omega
    refine ⟨b, off + l * sz, cs, by rw [if_neg hne]; simp [add_lit'], hF, hcl, fun j u hu => ?_, hre⟩
    have := hcell j u hu
    rw [show off + l * sz + (i * sz + j) = off + ((l + i) * sz + j) from by rw [Nat.add_mul]; omega]
    exact this

theorem cutOk_some {n : Nat} {lo hi : Option Int} (h : cutOk n lo hi = true) : (∀ l, lo = some l → 0 ≤ l ∧ l ≤ (n : Int)) ∧ (∀ m, hi = some m → 0 ≤ m ∧ m ≤ (n : Int)) ∧ ∀ l m, lo = some l → hi = some m → l ≤ m := by
  cases lo with
  | none =>
    cases hi with
    | none => refine ⟨?_, ?_, ?_⟩ <;> intros <;> contradiction
    | some m =>
      simp only [cutOk, Bool.and_eq_true] at h
      have h1 := of_decide_eq_true h.1
      have h2 := of_decide_eq_true h.2
      refine ⟨?_, ?_, ?_⟩
      · intro l hl; cases hl
      · intro m' hm; cases hm; exact ⟨h1, h2⟩
      · intro l m hl; cases hl
  | some l =>
    cases hi with
    | none =>
      simp only [cutOk, Bool.and_eq_true] at h
      have h1 := of_decide_eq_true h.1
      have h2 := of_decide_eq_true h.2
      refine ⟨?_, ?_, ?_⟩
      · intro l' hl; cases hl; exact ⟨h1, h2⟩
      · intro m hm; cases hm
      · intro l m _ hm; cases hm
    | some m =>
      simp only [cutOk, Bool.and_eq_true] at h
      have h1 := of_decide_eq_true h.1
      have h2 := of_decide_eq_true h.2.1
      have h3 := of_decide_eq_true h.2.2
      refine ⟨?_, ?_, ?_⟩
      · intro l' hl; cases hl; omega
      · intro m' hm; cases hm; omega
      · intro l' m' hl hm; cases hl; cases hm; exact h2

theorem run_cutS {P : Program} {t : TypeId} (hu : P.underlying t = some .string) (w : World) (s : ByteArray) {lo hi : Option Value} {l m : Option Int}
    (hl : (lo = none ∧ l = none) ∨ ∃ k n, lo = some (.int k n) ∧ l = some n) (hm : (hi = none ∧ m = none) ∨ ∃ k n, hi = some (.int k n) ∧ m = some n) (hok : cutOk s.size l m = true) :
    (Instr.sliceAt t (.string s) lo hi none).run P w = .ok (.string (cutS s l m)) w := by
  rw [run_sliceAt_string w t (.string s) lo hi none hu]
  obtain ⟨h1, h2, h3⟩ := cutOk_some hok
  rcases hl with ⟨rfl, rfl⟩ | ⟨k, n, rfl, rfl⟩ <;> rcases hm with ⟨rfl, rfl⟩ | ⟨k', n', rfl, rfl⟩
  · exact run_slice_string_all w t s hu
  · exact run_slice_string_h w t s hu k' n' (h2 _ rfl).1 (h2 _ rfl).2
  · exact run_slice_string_l w t s hu k n (h1 _ rfl).1 (h1 _ rfl).2
  · exact run_slice_string w t s k k' n n' hu (h1 _ rfl).1 (h3 _ _ rfl rfl) (h2 _ rfl).2

end
end Go.Iv

/- Slicing, conversions, append. -/
namespace Go.Iv
open Go.RowKit

/-- Append onto a row of the call's own: where the new row lies. -/
theorem run_app {P : Program} (w : World) (t ty e : TypeId) (i : TypeInfo) (z : Value) (size : Nat) (ht : P.underlying t = some (.slice e)) (hi : P.info? e = some i) (hz : i.zero = some z)
    (hsize : i.size = size) (hzs : z.cells.size = size) (v : Value) (n : Nat) (xs : List Value) (hown : w.ownsRow 0 e size v n xs)
    (A : Option Addr) (m c : Nat) (news : List Value) (hl : news.length = m * size) (hA : A = none → m = 0 ∧ news = [])
    (hnews : ∀ b, A = some b → ∀ j u, news[j]? = some u → w.cell? (b.add j) = some u) (h1 : ∀ u ∈ news, u.oneCell' = true)
    (h63 : n + m ≤ maxLen) (hbytes : (n + m) * i.bytes ≤ 140737488355328) :
    ∃ v' w', (Builtin.append_ #[t, t] ty #[v, .slice A m c]).run P w = .ok v' w' ∧ w'.ownsRow 0 e size v' (n + m) (xs ++ news) ∧ w.grownBy w' v.ownBlock ∧
      (v'.ownBlock = v.ownBlock ∨ v'.ownBlock = some w.heap.size) := by
  subst hsize
  have hsmall : n + m ≤ 9223372036854775807 := by simp only [maxLen] at h63; omega
  have hlen : (xs ++ news).length = (n + m) * i.size := by rw [List.length_append, hown.1, hl, Nat.add_mul]
  have grown : ∀ (old : Nat), old < n + m → ∀ (row : Option Nat),
      (w.drew.alloc (.cells (xs.toArray ++ news.toArray ++ Builtin.zeroCells z.cells (grownCap w (n + m) old e - (n + m))) e)).ownsRow 0 e i.size
        (.slice (some ⟨w.heap.size, 0, none⟩) (n + m) (grownCap w (n + m) old e)) (n + m) (xs ++ news) ∧
      w.grownBy (w.drew.alloc (.cells (xs.toArray ++ news.toArray ++ Builtin.zeroCells z.cells (grownCap w (n + m) old e - (n + m))) e)) row := by
    intro old ho row
    have hge := grownCap_ge w (n + m) old e
    have hcm : grownCap w (n + m) old e ≤ maxLen := grownCap_le_maxLen w (n + m) old e h63
    refine ⟨⟨hlen, .inr ⟨w.heap.size, _, _, rfl, Nat.zero_le _, heap_alloc_new w.drew _, hge, hcm, ?_, ?_⟩⟩, ⟨rfl, rfl, rfl, by simp, fun k hk _ => Below.heap_alloc w.drew _ k hk⟩⟩
    · simp only [Array.size_append, List.size_toArray, size_zeroCells, hzs, hown.1, hl, ← Nat.add_mul]
      congr 1
      omega
    · simp only [Array.toList_append, List.append_assoc]
      rw [← List.append_assoc, ← hlen]
      exact List.take_left
  cases A with
  | none =>
    obtain ⟨rfl, rfl⟩ := hA rfl
    rcases hown.2 with ⟨rfl, rfl⟩ | ⟨g, cap, cur, rfl, hbg, hg, hnc, hcm, hcs, htake⟩
    · refine ⟨.slice none 0 0, w, ?_, by simpa using hown, ⟨rfl, rfl, rfl, Nat.le_refl _, fun _ _ _ => rfl⟩, .inl rfl⟩
      simp [Builtin.append_, run_underlying ht, sizeOf, typeInfo, hi, Builtin.lenOf, Builtin.firstCells]
    · refine ⟨.slice (some ⟨g, 0, none⟩) n cap, w, ?_, by simpa using hown, ⟨rfl, rfl, rfl, Nat.le_refl _, fun _ _ _ => rfl⟩, .inl rfl⟩
      simp [Builtin.append_, run_underlying ht, sizeOf, typeInfo, hi, Builtin.lenOf, Builtin.firstCells, hnc, storeCells]
  | some a =>
    have hnews' := hnews a rfl
    rcases hown.2 with ⟨rfl, rfl⟩ | ⟨g, cap, cur, rfl, hbg, hg, hnc, hcm, hcs, htake⟩
    · have hx : xs = [] := List.eq_nil_of_length_eq_zero (by simpa using hown.1)
      subst hx
      by_cases hm : m = 0
      · subst hm
        have hn : news = [] := List.eq_nil_of_length_eq_zero (by simpa using hl)
        subst hn
        refine ⟨.slice none 0 0, w, ?_, World.ownsRow_nil w 0 e i.size, ⟨rfl, rfl, rfl, Nat.le_refl _, fun _ _ _ => rfl⟩, .inl rfl⟩
        simp [Builtin.append_, run_underlying ht, sizeOf, typeInfo, hi, Builtin.lenOf, Builtin.firstCells, loadCells, loadCellsFrom]
      · have hr := run_append_nil (P := P) w t ty e i z ht hi hz a m c news hl hnews' (by omega) (by omega) (by have hb := hbytes; simp only [Nat.zero_add] at hb; omega)
        have hgr := grown 0 (by omega) (Value.ownBlock (.slice none 0 0))
        simp only [Nat.zero_add, List.nil_append, Array.empty_append] at hgr ⊢
        exact ⟨_, _, hr, hgr.1, hgr.2, .inr rfl⟩
    · by_cases hroom : n + m ≤ cap
      · have hfit : n * i.size + news.length ≤ cur.size := by rw [hl, hcs, ← Nat.add_mul]; exact Nat.mul_le_mul_right _ hroom
        have hr := run_append_room (P := P) w t ty e i ht hi g n cap cur hg a m c news hl hnews' h1 hroom hfit
        refine ⟨_, _, hr, ⟨hlen, .inr ⟨g, cap, _, rfl, hbg, setRow_heap w g cur _ e _ hg, hroom, hcm, ?_, ?_⟩⟩, ⟨rfl, rfl, rfl, by simp, fun k _ hk => setRow_other w g k _ (fun e => hk (by simp [Value.ownBlock, e]))⟩, .inl rfl⟩
        · simp only [List.size_toArray, List.length_append, List.length_take, List.length_drop, Array.length_toList]
          omega
        · rw [htake, ← hlen]
          exact List.take_left
      · have holds : ∀ j u, xs[j]? = some u → w.cell? ((⟨g, 0, none⟩ : Addr).add j) = some u := hown.cells (g := g) rfl
        have hr := run_append_grow (P := P) w t ty e i z ht hi hz ⟨g, 0, none⟩ n cap xs hown.1 holds a m c news hl hnews' (by omega) (by omega) (growslice_fits (by omega) hbytes)
        have hgr := grown cap (by omega) (Value.ownBlock (.slice (some ⟨g, 0, none⟩) n cap))
        exact ⟨_, _, hr, hgr.1, hgr.2, .inr rfl⟩

section
variable {C : Ctx} {R : Type} {γ : Nat → Value} {σ : St} {a : Act} {w : World} {o : Oper} {next : Act → World → Prop} {Q : Exit → Act → World → Prop} {r : R} {K : St → Option R}

theorem no_ptr {F : Nat → Prop} {ob : List (Nat × Ob)} {n : Nat} {o : Ob} (h : RepOb γ ob w F n o) (hs : (shp o).1 = true) (b : Nat) : γ n ≠ .pointer (some ⟨b, 0, none⟩) := by
  intro e
  cases o with
  | cells cs => cases hs
  | rows t e' xs =>
    obtain ⟨fl, ho, _⟩ := h
    rcases ho.2 with ⟨hn, _⟩ | ⟨g, cap, cur, hv, _⟩
    · rw [e] at hn; cases hn
    · rw [e] at hv; cases hv
  | bytes xs =>
    obtain ⟨b', arr, e', lo, hi, cap, hg, _⟩ := h
    rw [e] at hg; cases hg

/-- A row turns: its header too; what led to it is forgotten. -/
theorem Inv.turn (h : Inv C γ σ a w) (n : Nat) (o1 o2 : Ob) (g' : Value) (hn : get σ.ob n = some o1) {w' : World}
    (hw : ∀ b, b < w.heap.size → blk (γ n) ≠ some b → w'.heap[b]? = w.heap[b]?) (hg : ∀ b, blk g' = some b → blk (γ n) = some b ∨ w.heap.size ≤ b)
    (hb : Since C.M C.w0.heap.size C.w0 w') (hN : ∀ b, C.N b → b < C.w0.heap.size) (hrow : (shp o1).1 = true)
    (ho : Kept (Nat.beq n) γ (gup γ n g') σ.ob (upd n o2 (scrub (Nat.beq n) σ).ob) w w' (FF γ σ.ob C.N) (FF (gup γ n g') (upd n o2 (scrub (Nat.beq n) σ).ob) C.N) →
      RepOb (gup γ n g') (upd n o2 (scrub (Nat.beq n) σ).ob) w' (FF (gup γ n g') (upd n o2 (scrub (Nat.beq n) σ).ob) C.N) n o2) :
    Inv C (gup γ n g') { sl := (scrub (Nat.beq n) σ).sl, ob := upd n o2 (scrub (Nat.beq n) σ).ob } a w' := by
  have h0 := h.since.size
  have hsc : ∀ m, get (scrub (Nat.beq n) σ).ob m = (get σ.ob m).map (scO (Nat.beq n)) := fun m => get_map _ _ _
  have hget : ∀ m o', get (upd n o2 (scrub (Nat.beq n) σ).ob) m = some o' → ∃ o0, get σ.ob m = some o0 ∧ (m ≠ n → o' = scO (Nat.beq n) o0) := by
    intro m o' hm
    by_cases e : m = n
    · subst e; exact ⟨o1, hn, fun h => absurd rfl h⟩
    · rw [get_upd_ne n m _ _ e, hsc] at hm
      obtain ⟨o0, h1, h2⟩ := Option.map_eq_some_iff.1 hm
      exact ⟨o0, h1, fun _ => h2.symm⟩
  have hF : ∀ b, b < w.heap.size → FF (gup γ n g') (upd n o2 (scrub (Nat.beq n) σ).ob) C.N b → FF γ σ.ob C.N b := by
    intro b hlt hb
    rcases hb with hb | ⟨m, o', hm, hb⟩
    · exact .inl hb
    · obtain ⟨o0, h1, _⟩ := hget m o' hm
      by_cases e : m = n
      · subst e; rw [gup_same] at hb
        rcases hg b hb with h2 | h2
        · exact .inr ⟨m, o1, hn, h2⟩
        · omega
      · rw [gup_ne _ _ _ _ e] at hb; exact .inr ⟨m, o0, h1, hb⟩
  have hk : Kept (Nat.beq n) γ (gup γ n g') σ.ob (upd n o2 (scrub (Nat.beq n) σ).ob) w w' (FF γ σ.ob C.N) (FF (gup γ n g') (upd n o2 (scrub (Nat.beq n) σ).ob) C.N) := by
    refine ⟨fun b hlt hnF => ⟨hw b hlt fun e => hnF (.inr ⟨n, o1, hn, e⟩), fun h => hnF (hF b hlt h)⟩, fun m hm o0 ho0 => ?_⟩
    have e : m ≠ n := fun e => by subst e; simp at hm
    exact ⟨gup_ne _ _ _ _ e, scO (Nat.beq n) o0, by rw [get_upd_ne n m _ _ e, hsc, ho0]; rfl, shp_scO _ _⟩
  refine h.step (Nat.beq n) (Nat.beq n) rfl (fun m o' hm ho' => ?_) (fun m o' hm ho' => ?_) hk.nms (fun m hm => ?_) (fun m o' b hm ho' hb' => ?_) hk.stay
    (fun m m' p1 p2 b h1 h2 h3 h4 => ?_) (fun m p1 b h1 h2 => ?_) hb (fun b hb => by
      have h1 := h.root b hb
      by_cases e : n = 900
      · subst e; exact absurd h1 (no_ptr (h.objs _ _ hn) hrow b)
      · rw [gup_ne _ _ _ _ (Ne.symm e)]; exact h1)
  · have e : m ≠ n := fun e => by subst e; simp at hm
    obtain ⟨o0, h1, h2⟩ := hget m o' ho'
    exact ⟨o0, h1, h2 e⟩
  · have e : n = m := by simpa using hm
    subst e
    have e1 := get_upd_same n o2 (scrub (Nat.beq n) σ).ob
    have e2 : some o' = some o2 := by rw [← e1]; exact ho'.symm
    cases e2; exact ho hk
  · have e : m ≠ n := fun e => by subst e; simp at hm
    exact gup_ne _ _ _ _ e
  · have e : m ≠ n := fun e => by subst e; simp at hm
    exact hw b (h.lt ho' hb') fun e' => e (h.inj m n o' o1 b ho' hn hb' e')
  · obtain ⟨q1, hq1, _⟩ := hget m p1 h1
    obtain ⟨q2, hq2, _⟩ := hget m' p2 h2
    by_cases e : m = n
    · by_cases e' : m' = n
      · rw [e, e']
      · rw [e, gup_same] at h3; rw [gup_ne _ _ _ _ e'] at h4
        rcases hg b h3 with h5 | h5
        · rw [e]; exact h.inj n m' o1 q2 b hn hq2 h5 h4
        · have := h.lt hq2 h4; omega
    · rw [gup_ne _ _ _ _ e] at h3
      by_cases e' : m' = n
      · rw [e', gup_same] at h4
        rcases hg b h4 with h5 | h5
        · rw [e']; exact h.inj m n q1 o1 b hq1 hn h3 h5
        · have := h.lt hq1 h3; omega
      · rw [gup_ne _ _ _ _ e'] at h4
        exact h.inj m m' q1 q2 b hq1 hq2 h3 h4
  · obtain ⟨q1, hq1, _⟩ := hget m p1 h1
    by_cases e : m = n
    · rw [e, gup_same] at h2
      rcases hg b h2 with h5 | h5
      · exact h.own n o1 b hn h5
      · exact ⟨fun hc => by have := hN b hc; omega, by omega⟩
    · rw [gup_ne _ _ _ _ e] at h2
      exact h.own m q1 b hq1 h2

theorem obList_some {t : Ty} {e : TypeId} {o : Ob} {xs : List t.Den} (h : obList t e o = some xs) : o = .rows t e xs := by
  unfold obList at h
  split at h <;> first
    | (split at h
       · rename_i he; subst he; cases h; rfl
       · cases h)
    | cases h

theorem RowIs_flat {w : World} {F : Nat → Prop} {t : Ty} {v : Value} {xs : List t.Den} (h : RepL w F t v xs) :
    ∃ A c news, v = .slice A xs.length c ∧ news.length = xs.length * t.size ∧ (A = none → xs.length = 0 ∧ news = []) ∧
      (∀ b, A = some b → ∀ (j : Nat) (u : Value), news[j]? = some u → w.cell? (b.add j) = some u) ∧ (∀ u ∈ news, u.oneCell' = true) ∧
      ∀ (i : Nat) (x : t.Den), xs[i]? = some x → RE w F t ((news.drop (i * t.size)).take t.size) x := by
  obtain ⟨A, cap, hv, hcap, hx⟩ := h
  have key : ∀ (ys : List t.Den) (k : Nat), (∀ i x, ys[i]? = some x → ∃ b off cs, A = some ⟨b, off, none⟩ ∧ ¬ F b ∧ cs.length = t.size ∧ (∀ j u, cs[j]? = some u → w.cell? ⟨b, off + ((k + i) * t.size + j), none⟩ = some u) ∧ RE w F t cs x) →
      ∃ news : List Value, news.length = ys.length * t.size ∧ (∀ b, A = some b → ∀ (j : Nat) (u : Value), news[j]? = some u → w.cell? (b.add (k * t.size + j)) = some u) ∧ (∀ u ∈ news, u.oneCell' = true) ∧
        ∀ (i : Nat) (x : t.Den), ys[i]? = some x → RE w F t ((news.drop (i * t.size)).take t.size) x := by
    intro ys
    induction ys with
    | nil => intro k _; exact ⟨[], by simp, fun b _ j u h => by simp at h, fun u h => by simp at h, fun i x h => by simp at h⟩
    | cons y ys ih =>
      intro k hk
      obtain ⟨b, off, cs, hA, hF, hl, hc, hre⟩ := hk 0 y rfl
      obtain ⟨news, n1, n2, n3, n4⟩ := ih (k + 1) (fun i x hi => by
        obtain ⟨b, off, cs, h1, h2, h3, h4, h5⟩ := hk (i + 1) x (by simpa using hi)
        exact ⟨b, off, cs, h1, h2, h3, fun j u hj => by rw [show k + 1 + i = k + (i + 1) from by omega]; exact h4 j u hj, h5⟩)
      refine ⟨cs ++ news, by simp [hl, n1, Nat.add_mul]; omega, fun b' hb' j u hj => ?_, fun u hu => ?_, fun i x hi => ?_⟩
      · rw [hA] at hb'; cases hb'
        by_cases hjl : j < cs.length
        · rw [List.getElem?_append_left hjl] at hj
          have := hc j u hj
          rw [Nat.add_zero] at this
          rw [add_lit']; exact this
        · rw [List.getElem?_append_right (by omega)] at hj
          have := n2 _ hA _ _ hj
          rw [add_lit'] at this ⊢
          rw [show k * t.size + j = (k + 1) * t.size + (j - cs.length) from by rw [Nat.add_mul, hl]; omega]
          exact this
      · rw [List.mem_append] at hu
        rcases hu with hu | hu
        · exact RE_one t hre u hu
        · exact n3 u hu
      · match i with
        | 0 =>
          cases hi
          rw [Nat.zero_mul, List.drop_zero, List.take_append_of_le_length (by omega), List.take_of_length_le (by omega)]
          exact hre
        | i + 1 =>
          have := n4 i x (by simpa using hi)
          have e3 : (cs ++ news).drop t.size = news := by rw [← hl]; exact List.drop_left
          rw [Nat.add_mul, Nat.one_mul, Nat.add_comm, ← List.drop_drop, e3]
          exact this
  obtain ⟨news, n1, n2, n3, n4⟩ := key xs 0 (fun i x hi => by
    obtain ⟨b, off, cs, h1, h2, h3, h4, h5⟩ := hx i x hi
    exact ⟨b, off, cs, h1, h2, h3, fun j u hj => by rw [Nat.zero_add]; exact h4 j u hj, h5⟩)
  refine ⟨A, cap, news, hv, n1, fun hA => ?_, fun b hb j u hj => by have := n2 b hb j u hj; rwa [Nat.zero_mul, Nat.zero_add] at this, n3, n4⟩
  have h0 : xs = [] := by
    cases xs with
    | nil => rfl
    | cons x xs => obtain ⟨b, off, cs, h1, _⟩ := hx 0 x rfl; rw [hA] at h1; cases h1
  subst h0
  exact ⟨rfl, List.eq_nil_of_length_eq_zero (by simpa using n1)⟩

theorem blk_own {v : Value} {l : Option Addr} {n c : Nat} (h : v = .slice l n c) : blk v = v.ownBlock := by subst h; cases l <;> rfl

theorem own_slice {w : World} {e size n : Nat} {v : Value} {fl : List Value} (h : w.ownsRow 0 e size v n fl) : ∃ l c, v = .slice l n c := by
  rcases h.2 with ⟨hv, hn⟩ | ⟨g, cap, cur, hv, _⟩
  · exact ⟨none, 0, by rw [hv, hn]⟩
  · exact ⟨_, _, hv⟩

/-- The rows of an append: what was there, and what comes. -/
theorem app_rows {w : World} {F : Nat → Prop} {t : Ty} {f1 f2 : List Value} {xs ys : List t.Den} (h1 : f1.length = xs.length * t.size)
    (hx : ∀ (i : Nat) (x : t.Den), xs[i]? = some x → RE w F t ((f1.drop (i * t.size)).take t.size) x) (hy : ∀ (i : Nat) (x : t.Den), ys[i]? = some x → RE w F t ((f2.drop (i * t.size)).take t.size) x) :
    ∀ (i : Nat) (x : t.Den), (xs ++ ys)[i]? = some x → RE w F t (((f1 ++ f2).drop (i * t.size)).take t.size) x := by
  intro i x hi
  by_cases hlt : i < xs.length
  · rw [List.getElem?_append_left hlt] at hi
    have h2 : (i + 1) * t.size ≤ xs.length * t.size := Nat.mul_le_mul_right _ hlt
    rw [Nat.add_mul, Nat.one_mul] at h2
    rw [List.drop_append_of_le_length (by omega), List.take_append_of_le_length (by rw [List.length_drop]; omega)]
    exact hx i x hi
  · rw [List.getElem?_append_right (by omega)] at hi
    have e : i * t.size = f1.length + (i - xs.length) * t.size := by
      rw [h1, ← Nat.add_mul]; congr 1; omega
    have e3 : (f1 ++ f2).drop f1.length = f2 := List.drop_left
    rw [e, ← List.drop_drop, e3]
    exact hy _ x hi

theorem s_append (hT : TabOk C.P C.T) (hG : GlobOk C) (h9 : NrO C o) (t t2 : TypeId) (x y : Operand) (args : Array Operand) (tys : Array TypeId)
    (ho : o.op = .call { callee := .builtin .append, args := args, argTypes := tys }) (ha : args.toList = [x, y]) (ht : tys.toList = [t, t2])
    (hev : evAppend C.T σ o.dst t t2 x y K = some r) (h : Inv C γ σ a w)
    (hK : ∀ γ' σ' a' w', Inv C γ' σ' a' w' → K σ' = some r → next a' w') : o.wp C.P a w next Q := by
  obtain rfl : args = #[x, y] := by rw [← Array.toArray_toList (xs := args), ha]
  obtain rfl : tys = #[t, t2] := by rw [← Array.toArray_toList (xs := tys), ht]
  unfold evAppend at hev
  split at hev
  case h_2 => cases hev
  rename_i d ty e hd hts
  have hev2 := bif_some hev
  clear hev
  obtain ⟨htt, hev⟩ := hev2
  have htt := Nat.eq_of_beq_eq_true htt
  subst htt
  split at hev
  · cases hev
  rename_i ys hys
  obtain ⟨hu, ei, ez, hei, hez, hes, heb, hzs, hzr⟩ := hT.sl t ty e hts
  -- what is appended
  have hyl : ∃ A c news, a.eval y = .slice A ys.length c ∧ news.length = ys.length * ty.size ∧ (A = none → ys.length = 0 ∧ news = []) ∧
      (∀ b, A = some b → ∀ (j : Nat) (u : Value), news[j]? = some u → w.cell? (b.add j) = some u) ∧ (∀ u ∈ news, u.oneCell' = true) ∧
      ∀ (i : Nat) (x : ty.Den), ys[i]? = some x → RE w (FF γ σ.ob C.N) ty ((news.drop (i * ty.size)).take ty.size) x := by
    have hr := opnd_rep hG h y
    unfold listOf at hys
    split at hys
    · rename_i c hc
      rw [hc] at hr
      exact RowIs_flat (asList_rep ty c ys _ hys hr)
    · rename_i n hc
      rw [hc] at hr
      split at hys
      · rename_i t' e' xs' hn
        have heq := obList_some hys
        rw [heq] at hn
        obtain ⟨fl, hown, h1, h2⟩ := h.objs n _ hn
        have hv : a.eval y = γ n := hr.1
        rcases hown.2 with ⟨hv0, hz⟩ | ⟨g, cap, cur, hgv, _⟩
        · refine ⟨none, 0, fl, by rw [hv, hv0, hz], hown.1, fun _ => ⟨hz, List.eq_nil_of_length_eq_zero (by rw [hown.1, hz, Nat.zero_mul])⟩, (fun b hb => by cases hb), h1, h2⟩
        · refine ⟨some ⟨g, 0, none⟩, cap, fl, by rw [hv, hgv], hown.1, (fun hA => by cases hA), fun b hb j u hu => ?_, h1, h2⟩
          cases hb
          rw [add_lit', Nat.zero_add]
          exact own_cell hown hgv hu
      · cases hys
    · cases hys
  obtain ⟨A, c, news, hyv, hnl, hA, hnc, hn1, hnr⟩ := hyl
  have hrunx : ∀ v' w', (Builtin.append_ #[t, t] o.type #[a.eval x, a.eval y]).run C.P w = .ok v' w' → (execOp a.eval o).run C.P w = .ok (.value v') w' := by
    intro v' w' hv; simp [execOp, ho, resolve, invoke, builtin, hv]
  split at hev
  · rename_i n hx
    have hxr := opnd_rep hG h x
    rw [hx] at hxr
    split at hev
    · cases hev
    rename_i ob hn
    split at hev
    · cases hev
    rename_i xs hxs
    have hob := obList_some hxs
    subst hob
    obtain ⟨hle, hev⟩ := req_some hev
    have hle : xs.length + ys.length ≤ 1099511627776 := Nat.le_of_ble_eq_true hle
    obtain ⟨fl, hown, h1, h2⟩ := h.objs n _ hn
    have hxv : a.eval x = γ n := hxr.1
    have hbytes : (xs.length + ys.length) * ei.bytes ≤ 140737488355328 := Nat.le_trans (Nat.mul_le_mul hle heb) (by decide)
    obtain ⟨v', w', hrun, hown', hgr, hblk⟩ := run_app w t o.type e ei ez ty.size hu hei hez hes hzs (γ n) xs.length fl hown A ys.length c news hnl hA hnc hn1 (by unfold maxLen; omega) hbytes
    rw [← hyv, ← hxv] at hrun
    obtain ⟨l1, c1, hs1⟩ := own_slice hown
    obtain ⟨l2, c2, hs2⟩ := own_slice hown'
    have hb1 := blk_own hs1
    have hb2 := blk_own hs2
    have hbelow : Since C.M C.w0.heap.size C.w0 w' := h.since.trans ⟨hgr.os, hgr.tape, hgr.output, hgr.size, fun k hk hm => hgr.block k (by have := h.since.size; omega) (fun e => by
      rw [← hb1] at e
      rcases (h.own n _ k hn e.symm).2 with h9 | h9
      · omega
      · exact hm h9)⟩
    have hI := h.turn n (.rows ty e xs) (.rows ty e (xs ++ ys)) v' hn (w' := w') (fun b hlt hne => hgr.block b hlt (fun e => hne (by rw [hb1]; exact e.symm)))
      (fun b hb => by
        rw [hb2] at hb
        rcases hblk with h5 | h5
        · left; rw [hb1, ← h5]; exact hb
        · right; rw [h5] at hb; cases hb; exact Nat.le_refl _) hbelow hG.low rfl (fun hk => by
        refine ⟨fl ++ news, by rw [gup_same, List.length_append]; exact hown', fun u hu => ?_, fun i z hi => (app_rows hown.1 h2 hnr i z hi).stay hk.stay⟩
        rw [List.mem_append] at hu
        rcases hu with hu | hu
        · exact h1 u hu
        · exact hn1 u hu)
    have hP := hI.put (some d) (x := .v (.one (.hdr n))) (v := v') ⟨(gup_same _ _ _).symm, _, get_upd_same _ _ _, rfl⟩
    rw [← hd] at hP
    refine wp_value (hrunx v' w' hrun) (hK (gup γ n v') { sl := (scrub (Nat.beq n) σ).sl.set d (.v (.one (.hdr n))), ob := upd n (.rows ty e (xs ++ ys)) (scrub (Nat.beq n) σ).ob } _ w' ?_ hev)
    rw [hd] at hP ⊢
    exact hP
  · rename_i hx
    have hxv := sc_eq hx (opnd_rep hG h x)
    obtain ⟨hle, hev⟩ := req_some hev
    have hle : ys.length ≤ 1099511627776 := Nat.le_of_ble_eq_true hle
    have hbytes : (0 + ys.length) * ei.bytes ≤ 140737488355328 := Nat.le_trans (Nat.mul_le_mul (by omega : 0 + ys.length ≤ 1099511627776) heb) (by decide)
    obtain ⟨v', w', hrun, hown', hgr, hblk⟩ := run_app w t o.type e ei ez ty.size hu hei hez hes hzs (.slice none 0 0) 0 [] (World.ownsRow_nil w 0 e ty.size) A ys.length c news hnl hA hnc hn1 (by unfold maxLen; omega) hbytes
    rw [← hyv, ← hxv] at hrun
    obtain ⟨l2, c2, hs2⟩ := own_slice hown'
    have hb2 := blk_own hs2
    refine new_step hG (h.fresh d) h9 hd (get_fresh d σ) v' v' _ _ (w' := w') (hrunx v' w' hrun) ⟨hgr.os, hgr.tape, hgr.output, hgr.size, fun k hk => hgr.block k hk (by simp [Value.ownBlock])⟩ ?_ ?_ (hdr_rep _ _ _ _ _ _ _ rfl) hev hK
    · intro b hb
      rw [hb2] at hb
      rcases hblk with h5 | h5
      · rw [h5] at hb; cases hb
      · rw [h5] at hb; cases hb; exact Nat.le_refl _
    · intro hk
      refine ⟨news, by rw [gup_same]; simpa using hown', hn1, fun i z hi => ?_⟩
      refine ((hnr i z hi).stay (w' := w) (F' := FF γ (fresh d σ).ob C.N) ?_).stay hk.stay
      intro b _ hF
      refine ⟨rfl, fun hF' => hF ?_⟩
      rcases hF' with hF' | ⟨m, o', hm, hb⟩
      · exact .inl hF'
      · unfold fresh at hm
        split at hm
        · exact .inr ⟨m, o', hm, hb⟩
        · rw [get_drop] at hm
          split at hm
          · cases hm
          · obtain ⟨o2, h2, _⟩ := Option.map_eq_some_iff.1 hm
            exact .inr ⟨m, o2, h2, hb⟩
  · cases hev

end
end Go.Iv

/- Slicing and conversions. -/
namespace Go.Iv
open Go.RowKit

theorem elem_of {P : Program} {t e : TypeId} (h : P.underlying t = some (.slice e)) : P.elem t = e := by simp [Program.elem, h]

/-- 'x[lo:hi]' of a slice. -/
theorem run_cutL {P : Program} {t e : TypeId} {ei : TypeInfo} (hu : P.underlying t = some (.slice e)) (hei : P.info? e = some ei) (w : World) (A : Option Addr) (len cap : Nat) (hcap : len ≤ cap) {lo hi : Option Value} {l m : Option Int}
    (hl : (lo = none ∧ l = none) ∨ ∃ k n, lo = some (.int k n) ∧ l = some n) (hm : (hi = none ∧ m = none) ∨ ∃ k n, hi = some (.int k n) ∧ m = some n) (hok : cutOk len l m = true) :
    (Instr.sliceAt t (.slice A len cap) lo hi none).run P w = .ok (sliced A ((l.getD 0).toNat) ((m.getD (len : Int)).toNat) cap ei.size) w := by
  have hu' : P.underlying t = some (.slice (P.elem t)) := by rw [elem_of hu]; exact hu
  have hs : (sizeOf (P.elem t)).run P w = .ok ei.size w := by rw [elem_of hu]; simp [sizeOf, typeInfo, hei]
  rw [run_sliceAt_slice w t _ lo hi none hu']
  obtain ⟨h1, h2, h3⟩ := cutOk_some hok
  rcases hl with ⟨rfl, rfl⟩ | ⟨k, n, rfl, rfl⟩ <;> rcases hm with ⟨rfl, rfl⟩ | ⟨k', n', rfl, rfl⟩
  · rw [run_slice_all w t A len cap hu', hs]; simp
  · have := h2 _ rfl
    rw [run_slice_h w t A len cap hu' k' n' this.1 (by omega), hs]; simp
  · have := h1 _ rfl
    rw [run_slice_l w t A len cap hu' k n this.1 this.2, hs]; simp
  · have a1 := h1 _ rfl
    have a2 := h2 _ rfl
    rw [run_slice_lh w t A len cap hu' k k' n n' a1.1 (h3 _ _ rfl rfl) (by omega), hs]; simp

theorem cutL_eq {α : Type} {xs : List α} {l m : Option Int} (hok : cutOk xs.length l m = true) : cutL xs l m = (xs.take (m.getD (xs.length : Int)).toNat).drop (l.getD 0).toNat := by
  cases l <;> cases m <;> simp [cutL]

section
variable {C : Ctx} {R : Type} {γ : Nat → Value} {σ : St} {a : Act} {w : World} {o : Oper} {next : Act → World → Prop} {Q : Exit → Act → World → Prop} {r : R} {K : St → Option R}

theorem bound_map {lo : Option Operand} {l : Option Int} (h : (lo = none ∧ l = none) ∨ ∃ y k n, lo = some y ∧ a.eval y = .int k n ∧ l = some n) :
    (lo.map a.eval = none ∧ l = none) ∨ ∃ k n, lo.map a.eval = some (.int k n) ∧ l = some n := by
  rcases h with ⟨rfl, rfl⟩ | ⟨y, k, n, rfl, hy, rfl⟩
  · exact .inl ⟨rfl, rfl⟩
  · exact .inr ⟨k, n, by rw [Option.map_some, hy], rfl⟩

theorem s_slice (hT : TabOk C.P C.T) (hG : GlobOk C) (t : TypeId) (x : Operand) (lo hi : Option Operand) (ho : o.op = .slice t x lo hi none)
    (hev : evSlice C.T σ o.dst t (opnd C.T σ x) (lo.map (opnd C.T σ)) (hi.map (opnd C.T σ)) K = some r) (h : Inv C γ σ a w)
    (hK : ∀ γ' σ' a' w', Inv C γ' σ' a' w' → K σ' = some r → next a' w') : o.wp C.P a w next Q := by
  have hx := opnd_rep hG h x
  unfold evSlice at hev
  split at hev
  case h_2 => cases hev
  rename_i l m hlo hhi
  have bl := bound_map (bound_rep hG h hlo)
  have bm := bound_map (bound_rep hG h hhi)
  have hrunx : ∀ v w', (Instr.sliceAt t (a.eval x) (lo.map a.eval) (hi.map a.eval) none).run C.P w = .ok v w' → (execOp a.eval o).run C.P w = .ok (.value v) w' := by
    intro v w' hv; simp [execOp, ho, hv]
  split at hev
  · rename_i s hxs
    have hxv := sc_eq hxs hx
    obtain ⟨hs, hev⟩ := bif_some hev
    obtain ⟨hok, hev⟩ := req_some hev
    have hrun := run_cutS (hT.str t hs) w s bl bm hok
    rw [← hxv] at hrun
    exact wp_value (hrunx _ _ hrun) (hK γ _ _ _ (h.put o.dst (one_rep _)) hev)
  · rename_i ty xs hxs
    rw [hxs] at hx
    split at hev
    · rename_i te e hts
      obtain ⟨hq, hev⟩ := req_some hev
      rw [Bool.and_eq_true] at hq
      have hsz := Nat.eq_of_beq_eq_true hq.1
      obtain ⟨hu, ei, ez, hei, _, hes, _⟩ := hT.sl t _ _ hts
      obtain ⟨A, cap, hv, hcap, hrow⟩ := hx
      have hrun := run_cutL hu hei w A xs.length cap hcap bl bm hq.2
      rw [← hv] at hrun
      obtain ⟨h1, h2, h3⟩ := cutOk_some hq.2
      have hlm : (l.getD 0).toNat ≤ (m.getD (xs.length : Int)).toNat ∧ (m.getD (xs.length : Int)).toNat ≤ xs.length := by
        cases l with
        | none =>
          cases m with
          | none => simp
          | some m => have := h2 _ rfl; simp; omega
        | some l =>
          cases m with
          | none => have := h1 _ rfl; simp; omega
          | some m => have := h1 _ rfl; have := h2 _ rfl; have := h3 _ _ rfl rfl; simp; omega
      refine wp_value (hrunx _ _ hrun) (hK γ _ _ _ (h.put o.dst (x := .v (.one (.fc (.list ty (cutL xs l m))))) ?_) hev)
      rw [hes, hsz]
      show RepL w _ ty _ (cutL xs l m)
      rw [cutL_eq hq.2]
      exact cutL_row ⟨A, cap, rfl, hcap, hrow⟩ hlm.1 hlm.2
    · cases hev
  · rename_i n hxs
    rw [hxs] at hx
    split at hev
    · rename_i te e' ty e xs m' d hts hn hd
      have hq2 := req_some hev
      clear hev
      obtain ⟨hq, hev⟩ := hq2
      rw [Bool.and_eq_true] at hq
      have hsz := Nat.eq_of_beq_eq_true hq.1
      obtain ⟨hu, ei, ez, hei, _, hes, _⟩ := hT.sl t _ _ hts
      obtain ⟨h1, h2, h3⟩ := cutOk_some hq.2
      have hm' := h2 _ rfl
      obtain ⟨k, rfl⟩ := Int.eq_ofNat_of_zero_le hm'.1
      have hk : k ≤ xs.length := by omega
      simp only [Int.toNat_natCast] at hev
      obtain ⟨fl, hown, hf1, hf2⟩ := h.objs n _ hn
      have hxv : a.eval x = γ n := hx.1
      have hlen : (fl.take (k * ty.size)).length = k * ty.size := by
        have h5 := Nat.mul_le_mul_right ty.size hk
        have h6 := hown.1
        rw [List.length_take]; omega
      have hl0 : (xs.take k).length = k := by rw [List.length_take]; omega
      have hre : ∀ (i : Nat) (y : ty.Den), (xs.take k)[i]? = some y → ((fl.take (k * ty.size)).drop (i * ty.size)).take ty.size = (fl.drop (i * ty.size)).take ty.size ∧ xs[i]? = some y := by
        intro i y hi
        have hik : i < k := by have := (List.getElem?_eq_some_iff.1 hi).1; omega
        rw [List.getElem?_take, if_pos hik] at hi
        refine ⟨?_, hi⟩
        have h5 : (i + 1) * ty.size ≤ k * ty.size := Nat.mul_le_mul_right _ hik
        rw [Nat.add_mul, Nat.one_mul] at h5
        apply List.ext_getElem?
        intro j
        rw [List.getElem?_take, List.getElem?_take, List.getElem?_drop, List.getElem?_drop, List.getElem?_take]
        by_cases hj : j < ty.size
        · rw [if_pos hj, if_pos hj, if_pos (by omega)]
        · rw [if_neg hj, if_neg hj]
      have fin : ∀ g', (Instr.sliceAt t (a.eval x) (lo.map a.eval) (hi.map a.eval) none).run C.P w = .ok g' w → blk g' = blk (γ n) → w.ownsRow 0 e ty.size g' k (fl.take (k * ty.size)) → o.wp C.P a w next Q := by
        intro g' hrun hbg hown'
        have hI := h.turn n (.rows ty e xs) (.rows ty e (xs.take k)) g' hn (w' := w) (fun _ _ _ => rfl) (fun b hb => .inl (by rw [← hbg]; exact hb)) h.since hG.low rfl (fun hk' => by
          refine ⟨fl.take (k * ty.size), by rw [gup_same, hl0]; exact hown', fun u hu => hf1 u (List.mem_of_mem_take hu), fun i y hi => ?_⟩
          obtain ⟨e1, e2⟩ := hre i y hi
          rw [e1]
          exact (hf2 i y e2).stay hk'.stay)
        have hP := hI.put (some d) (x := .v (.one (.hdr n))) (v := g') ⟨(gup_same _ _ _).symm, _, get_upd_same _ _ _, rfl⟩
        refine wp_value (hrunx g' w hrun) (hK (gup γ n g') { sl := (scrub (Nat.beq n) σ).sl.set d (.v (.one (.hdr n))), ob := upd n (.rows ty e (xs.take k)) (scrub (Nat.beq n) σ).ob } _ w ?_ hev)
        rw [hd]; exact hP
      rcases hown.2 with ⟨hv0, hz⟩ | ⟨g, cap, cur, hgv, hb0, hh, hcap, hcm, hcs, htk⟩
      · have hk0 : k = 0 := by omega
        subst hk0
        have hrun := run_cutL hu hei w none xs.length 0 (by omega) bl bm hq.2
        refine fin (.slice none 0 0) ?_ (by rw [hv0]) ?_
        · rw [hxv, hv0]
          rw [hz] at hrun
          rw [hrun]; simp [sliced]
        · rw [Nat.zero_mul, List.take_zero]; exact World.ownsRow_nil w 0 e ty.size
      · have hrun := run_cutL hu hei w (some ⟨g, 0, none⟩) xs.length cap hcap bl bm hq.2
        refine fin (.slice (some ⟨g, 0, none⟩) k cap) ?_ (by rw [hgv]; rfl) ?_
        · rw [hxv, hgv, hrun]; simp [sliced, add_lit']
        · refine ⟨hlen, .inr ⟨g, cap, cur, rfl, hb0, hh, by omega, hcm, hcs, ?_⟩⟩
          rw [← htk, List.take_take, Nat.min_eq_left (Nat.mul_le_mul_right _ hk)]
    · cases hev
  · rename_i cs hxs
    rw [hxs] at hx
    split at hev
    · rename_i len ss hta hss
      have hq2 := bif_some hev
      clear hev
      obtain ⟨hq, hev⟩ := hq2
      have hlen := Nat.eq_of_beq_eq_true hq
      obtain ⟨hn1, e, ei, d, hu, hei, hes, _⟩ := hT.arr t _ _ hta
      obtain ⟨b, o2, vs, hv, hr, hc⟩ := hx
      have hvs := allStr_rep cs ss vs hss hr
      rw [Nat.add_zero] at hv
      have hlo0 : lo.map a.eval = none := by rcases bl with ⟨h1, _⟩ | ⟨k, n, _, h2⟩ <;> first | exact h1 | cases h2
      have hhi0 : hi.map a.eval = none := by rcases bm with ⟨h1, _⟩ | ⟨k, n, _, h2⟩ <;> first | exact h1 | cases h2
      have hrun : (Instr.sliceAt t (a.eval x) (lo.map a.eval) (hi.map a.eval) none).run C.P w = .ok (.slice (some ⟨b, o2, none⟩) len len) w := by
        rw [hlo0, hhi0, hv]
        have hne : len ≠ 0 := by omega
        simp [Instr.sliceAt, run_underlying hu, Instr.sureAddr, Instr.sliceBounds, sizeOf, typeInfo, hei, add_lit']
      refine wp_value (hrunx _ _ hrun) (hK γ _ _ _ (h.put o.dst (x := .v (.one (.fc (.list .str ss)))) ?_) hev)
      refine ⟨some ⟨b, o2, none⟩, len, by rw [hlen], by omega, fun i s hi => ⟨b, o2, [.string s], rfl, ?_, rfl, fun j u hu' => ?_, rfl⟩⟩
      · have hvi : vs[i]? = some (.string s) := by rw [hvs, List.getElem?_map, hi]; rfl
        exact (hc i _ hvi).1
      · have hvi : vs[i]? = some (.string s) := by rw [hvs, List.getElem?_map, hi]; rfl
        match j with
        | 0 => cases hu'; simpa using (hc i _ hvi).2
        | j + 1 => simp at hu'
    · cases hev
  · cases hev

/-- 'string(b)' of bytes that are told. -/
theorem conv_bytes (hT : TabOk C.P C.T) {src dt e : TypeId} (hs : C.T.sl src = some (.int .u8, e)) (hd : C.T.isStr dt = true) (w : World) (A : Option Addr) (cap : Nat) (xs : List Int)
    (hA : ∀ i, i < xs.length → ∃ b off, A = some ⟨b, off, none⟩ ∧ w.cell? ⟨b, off + i, none⟩ = some (.int .u8 (xs.getD i 0))) (h0 : A = none → xs = []) (hA2 : ∀ ad, A = some ad → xs = [] ∨ ad.spot = none) :
    (convert src dt (.slice A xs.length cap)).run C.P w = .ok (.string (strOfNums xs)) w := by
  obtain ⟨hu, _⟩ := hT.sl src _ _ hs
  have he := hT.u8 src e hs
  have hdt := hT.str dt hd
  cases A with
  | none =>
    have := h0 rfl
    subst this
    exact run_convert_bytes_nil (P := C.P) w src e hu he _ _ dt hdt
  | some ad =>
    rcases hA2 ad rfl with h1 | h1
    · subst h1
      obtain ⟨b, off, sp⟩ := ad
      rw [run_convert_bytes_string w src dt e _ _ _ hu he hdt]
      simp [Conv.bytesToString, loadCells, loadCellsFrom, strOfNums]
      rfl
    · obtain ⟨b, off, sp⟩ := ad
      cases h1
      exact run_convert_bytes_arg (P := C.P) w src e hu he b off xs.length cap xs rfl (fun i hi => by
        obtain ⟨b', off', h1, h2⟩ := hA i hi
        cases h1; exact h2) dt hdt

theorem conv_list (hT : TabOk C.P C.T) {src dt e : TypeId} (hs : C.T.sl src = some (.int .u8, e)) (hd : C.T.isStr dt = true) (w : World) {F : Nat → Prop} {v : Value} {xs : List Int}
    (h : RepL w F (.int .u8) v xs) : (convert src dt v).run C.P w = .ok (.string (strOfNums xs)) w := by
  obtain ⟨A, cap, rfl, hcap, hx⟩ := h
  have hrow : ∀ i, i < xs.length → ∃ b off, A = some ⟨b, off, none⟩ ∧ w.cell? ⟨b, off + i, none⟩ = some (.int .u8 (xs.getD i 0)) := by
    intro i hi
    obtain ⟨b, off, cs, h1, _, _, h4, h5⟩ := hx i _ (getD_at 0 hi)
    have h5' : cs = [.int .u8 (xs.getD i 0)] := h5
    refine ⟨b, off, h1, ?_⟩
    have := h4 0 (.int .u8 (xs.getD i 0)) (by rw [h5']; rfl)
    simpa [Ty.size] using this
  refine conv_bytes hT hs hd w A cap xs hrow (fun hA => ?_) (fun ad had => ?_)
  · cases xs with
    | nil => rfl
    | cons y ys => obtain ⟨b, off, h1, _⟩ := hrow 0 (by simp); rw [hA] at h1; cases h1
  · cases xs with
    | nil => exact .inl rfl
    | cons y ys => obtain ⟨b, off, h1, _⟩ := hrow 0 (by simp); rw [had] at h1; cases h1; exact .inr rfl

theorem bytesOf_at {s : ByteArray} {i : Nat} {x : Int} (h : (bytesOf s)[i]? = some x) : i < s.size ∧ x = ((s.data.toList.getD i 0).toNat : Int) := by
  unfold bytesOf at h
  rw [List.getElem?_map, Option.map_eq_some_iff] at h
  obtain ⟨b, hb, rfl⟩ := h
  have hlt := (List.getElem?_eq_some_iff.1 hb).1
  refine ⟨by simpa using hlt, ?_⟩
  rw [List.getD_eq_getElem?_getD, hb]; rfl

theorem bytesOf_len (s : ByteArray) : (bytesOf s).length = s.size := by simp [bytesOf]

theorem s_conv (hT : TabOk C.P C.T) (hG : GlobOk C) (h9 : NrO C o) (src dt : TypeId) (x : Operand) (ho : o.op = .convert src dt x)
    (hev : evConv C.T σ o.dst src dt (opnd C.T σ x) K = some r) (h : Inv C γ σ a w)
    (hK : ∀ γ' σ' a' w', Inv C γ' σ' a' w' → K σ' = some r → next a' w') : o.wp C.P a w next Q := by
  have hx := opnd_rep hG h x
  have hrunx : ∀ v w', (convert src dt (a.eval x)).run C.P w = .ok v w' → (execOp a.eval o).run C.P w = .ok (.value v) w' := by
    intro v w' hv; simp [execOp, ho, hv]
  unfold evConv at hev
  split at hev
  · rename_i k n hxs
    have hxv := sc_eq hxs hx
    split at hev
    · rename_i k0 k' hn0 hn
      have hu0 := hT.num src k0 hn0
      have hu := hT.num dt k' hn
      have hrun : (convert src dt (a.eval x)).run C.P w = .ok (.int k' (k'.wrap n)) w := by
        rw [hxv]; simp [convert, run_underlying hu0, run_underlying hu, Conv.intToInt]
      exact wp_value (hrunx _ _ hrun) (hK γ _ _ _ (h.put o.dst (one_rep _)) hev)
    · cases hev
  · rename_i s hxs
    have hxv := sc_eq hxs hx
    split at hev
    · rename_i e d hs hts hd
      obtain ⟨hle, hev⟩ := req_some hev
      have hle : s.size ≤ 9223372036854775807 := Nat.le_of_ble_eq_true hle
      obtain ⟨hu, _⟩ := hT.sl dt _ _ hts
      have hrun := Lib.run_convert_string_bytes (P := C.P) w src dt e s (hT.str src hs) hu (hT.u8 _ _ hts)
      rw [← hxv] at hrun
      have hge := grownCap_ge w s.size 0 e
      have hsz : (Lib.bytesCells w e s).size = grownCap w s.size 0 e := by
        unfold Lib.bytesCells
        rw [Array.size_append, Array.size_map, Array.size_replicate]
        have : s.data.size = s.size := rfl
        omega
      have hbw : Below w.heap.size w (Lib.bytesWorld w e s) := by
        refine ⟨?_, ?_, ?_, by rw [Lib.bytesWorld_size]; omega, fun k hk => Lib.bytesWorld_at_old w e s k hk⟩
        · unfold Lib.bytesWorld World.freeze; split <;> rfl
        · unfold Lib.bytesWorld World.freeze; split <;> rfl
        · unfold Lib.bytesWorld World.freeze; split <;> rfl
      refine new_step hG (h.fresh d) h9 hd (get_fresh d σ) (.slice (some ⟨w.heap.size, 0, none⟩) s.size (grownCap w s.size 0 e)) (.slice (some ⟨w.heap.size, 0, none⟩) s.size (grownCap w s.size 0 e)) _ _ (hrunx _ _ hrun) hbw ?_ ?_ (hdr_rep _ _ _ _ _ _ _ rfl) hev hK
      · intro b hb; cases hb; exact Nat.le_refl _
      · intro _
        refine ⟨w.heap.size, Lib.bytesCells w e s, e, _, _, grownCap w s.size 0 e, by rw [gup_same, bytesOf_len], Lib.bytesWorld_at_new w e s, by rw [bytesOf_len, hsz]; exact hge, by rw [bytesOf_len, hsz]; exact hge, by rw [bytesOf_len]; exact hge, fun i y hi => ?_⟩
        obtain ⟨hlt, rfl⟩ := bytesOf_at hi
        have := Lib.bytesWorld_cell w e s i hlt
        rw [cell_of_row _ w.heap.size i _ e _ (Lib.bytesWorld_at_new w e s)] at this
        exact this
    · cases hev
  · rename_i n hxs
    rw [hxs] at hx
    have hxv : a.eval x = γ n := hx.1
    split at hev
    · rename_i e xs hs hd hn
      obtain ⟨b, arr, e', lo, hi, cap, hg, hh, h1, h2, h3, h4⟩ := h.objs n _ hn
      have hrun := conv_bytes hT hs hd w (some ⟨b, 0, none⟩) cap xs (fun i hi => ⟨b, 0, rfl, by rw [Nat.zero_add, cell_of_row w b i arr e' _ hh]; exact h4 i _ (getD_at 0 hi)⟩) (fun h => by cases h) (fun ad had => by cases had; exact .inr rfl)
      rw [← hg, ← hxv] at hrun
      exact wp_value (hrunx _ _ hrun) (hK γ _ _ _ (h.put o.dst (one_rep _)) hev)
    · rename_i e e' xs hs hd hn
      have hr := h.objs n _ hn
      have hrl := rows_list (F' := fun _ => False) hr (fun b hb => hb.elim) (fun b _ hb => hb)
      have hrun := conv_list hT hs hd w hrl
      rw [← hxv] at hrun
      exact wp_value (hrunx _ _ hrun) (hK γ _ _ _ (h.put o.dst (one_rep _)) hev)
    · cases hev
  · rename_i xs hxs
    rw [hxs] at hx
    split at hev
    · rename_i e hs hd
      have hrun := conv_list hT hs hd w hx
      exact wp_value (hrunx _ _ hrun) (hK γ _ _ _ (h.put o.dst (one_rep _)) hev)
    · cases hev
  · cases hev

end
end Go.Iv
