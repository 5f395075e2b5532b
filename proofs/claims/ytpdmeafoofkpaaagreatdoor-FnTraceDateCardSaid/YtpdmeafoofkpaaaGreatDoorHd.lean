/- Contracts of the library's functions, by hand, out of what the kit has laid. -/
import Derived.Test.YtpdmeafoofkpaaaGreatDoorHb
import Derived.Test.YtpdmeafoofkpaaaGreatDoorHc
import Derived.Test.YtpdmeafoofkpaaaGreatDoorHa
set_option linter.unusedVariables false
set_option linter.unusedSimpArgs false

namespace Go.Proofs.YtpdmeafoofkpaaaGreatDoor
open Go Go.Iv Go.RowKit Go.Lib
set_option maxRecDepth 10000

theorem heap_setCell (w : World) {g i : Nat} {arr : Array Value} {e : TypeId} {fz : Nat × Nat} (u : Value) (h : w.heap[g]? = some (.cells arr e fz)) :
    (w.setCell ⟨g, i, none⟩ u).heap[g]? = some (.cells (arr.setIfInBounds i u) e fz) := by
  unfold World.setCell
  rw [Array.getElem?_modify, h]; simp

theorem heap_setCells {g : Nat} {e : TypeId} {fz : Nat × Nat} : ∀ (xs : List Value) (off : Nat) (w : World) (arr : Array Value), w.heap[g]? = some (.cells arr e fz) →
    ∃ arr', (w.setCells g off xs).heap[g]? = some (.cells arr' e fz) ∧ arr'.size = arr.size ∧ ∀ k, arr'[k]? = if off ≤ k ∧ k < off + xs.length ∧ k < arr.size then xs[k - off]? else arr[k]?
  | [], off, w, arr, h => ⟨arr, h, rfl, fun k => by rw [if_neg]; simp; omega⟩
  | u :: xs, off, w, arr, h => by
    rw [World.setCells]
    obtain ⟨arr', h1, h2, h3⟩ := heap_setCells xs (off + 1) _ _ (heap_setCell (i := off) w u h)
    refine ⟨arr', h1, by rw [h2]; simp, fun k => ?_⟩
    rw [h3 k]
    simp only [Array.size_setIfInBounds, List.length_cons]
    by_cases hk : off ≤ k ∧ k < off + (xs.length + 1) ∧ k < arr.size
    · rw [if_pos hk]
      by_cases he : k = off
      · subst he
        rw [if_neg (by omega), Array.getElem?_setIfInBounds]; simp [hk.2.2]
      · rw [if_pos (by omega), show k - off = (k - (off + 1)) + 1 by omega, List.getElem?_cons_succ]
    · rw [if_neg hk, if_neg (by omega), Array.getElem?_setIfInBounds]
      by_cases he : off = k
      · subst he
        have : ¬ off < arr.size := by omega
        rw [if_pos rfl, if_neg this, Array.getElem?_eq_none (by omega)]
      · rw [if_neg he]

theorem since_setCells {M : Nat → Prop} {B g : Nat} {a : World} (hg : B ≤ g ∨ M g) : ∀ (xs : List Value) (off : Nat) (w : World), Since M B a w → Since M B a (w.setCells g off xs)
  | [], _, _, h => h
  | u :: xs, off, w, h => by rw [World.setCells]; exact since_setCells hg xs (off + 1) _ (h.setCell (p := ⟨g, off, none⟩) hg u)

theorem two_vals {vs : List Value} (h : vs.length = 2) : ∃ a b, vs = [a, b] := by
  match vs, h with
  | [a, b], _ => exact ⟨a, b, rfl⟩
theorem one_val {vs : List Value} (h : vs.length = 1) : ∃ a, vs = [a] := by
  match vs, h with
  | [a], _ => exact ⟨a, rfl⟩

theorem con80 : ∀ avs res, (m80 avs).val = some res → Con P D.tab 80 avs res := by
  intro avs res h
  unfold m80 at h
  split at h
  · rename_i s p
    obtain ⟨h1, h2, h3⟩ := br2_val h
    cases h3
    have hs := big_of h1
    have hp := Nat.eq_of_beq_eq_true h2
    intro w N vs hN hG hl hr
    obtain ⟨a, b, rfl⟩ := two_vals hl
    have ea : a = .string s := hr 0 _ a rfl rfl
    have eb : b = .string p := hr 1 _ b rfl rfl
    subst ea; subst eb
    obtain ⟨m, hm⟩ := (hG.1 1 (by decide)).2
    refine (Tryz.strings_Split s p m w (by omega) hm (by omega)).mono ?_
    rintro e w' ⟨rfl, rfl⟩
    have hsp := split_parts (s := s) hp
    have hlen : (parts (bt p 0) s).length = countB s p + 1 := by rw [← hsp]; exact splitB_all p (by omega) 0 _ s rfl
    have hown := World.ownsRow_lit (base := 0) (e := 9) (size := 1) w ((parts (bt p 0) s).map Value.string).toArray (countB s p + 1) (Nat.zero_le _) (by
      have := partsFrom_len (bt p 0) s s.size 0 0
      unfold parts at hlen
      unfold maxLen; omega) (by simp [hlen])
    rw [hsp]
    refine ⟨_, [_], rfl, below_alloc w _, rfl, ⟨rfl, fun j c u hc hu => ?_, fun j c u b hc hb hu hbl => ?_, fun j k c d u v b hc _ _ _ hd _ _ _ => ?_⟩⟩
    · match j with
      | 0 =>
        cases hc; cases hu
        refine ⟨(parts (bt p 0) s).map Value.string, by rw [hlen]; simpa using hown, fun u hu => ?_, fun i x hi => ?_⟩
        · obtain ⟨y, _, rfl⟩ := List.mem_map.1 hu; rfl
        · show _ = [Value.string x]
          simp only [Ty.size, Nat.mul_one]
          have hlt : i < (parts (bt p 0) s).length := (List.getElem?_eq_some_iff.1 hi).1
          rw [List.drop_eq_getElem_cons (by simpa using hlt)]
          have : (parts (bt p 0) s)[i] = x := (List.getElem?_eq_some_iff.1 hi).2
          simp [this]
      | j + 1 => simp [RV.flat, R1.cs] at hc
    · match j with
      | 0 => cases hc; cases hu; cases hbl; exact Nat.le_refl _
      | j + 1 => simp [RV.flat, R1.cs] at hc
    · match j, k with
      | 0, 0 => rfl
      | j + 1, _ => simp [RV.flat, R1.cs] at hc
      | 0, k + 1 => simp [RV.flat, R1.cs] at hd
  · cases h
theorem ent80 : Iv.Enters P 80 := ⟨Tryz.f80, by kernel_rfl, by kernel_rfl, by kernel_rfl⟩

theorem below_drewN (w : World) : ∀ n, Below w.heap.size w (w.drewN n) := by
  intro n
  refine ⟨?_, ?_, ?_, ?_, fun k _ => ?_⟩ <;> simp [World.drewN]

theorem con153 : ∀ avs res, (m153 avs).val = some res → Con P D.tab 153 avs res := by
  intro avs res h
  unfold m153 at h
  split at h
  · rename_i s p
    obtain ⟨h1, h2, h3⟩ := br2_val h
    cases h3
    have hs := big_of h1
    have hp := Nat.eq_of_beq_eq_true h2
    intro w N vs hN hG hl hr
    obtain ⟨a, b, rfl⟩ := two_vals hl
    have ea : a = .string s := hr 0 _ a rfl rfl
    have eb : b = .string p := hr 1 _ b rfl rfl
    subst ea; subst eb
    obtain ⟨m, hm⟩ := (hG.1 1 (by decide)).2
    refine (Tryz.strings_Cut s p m w (by omega) hm).mono ?_
    rintro e w' ⟨rfl, n, rfl⟩
    obtain ⟨c1, c2, c3⟩ := cut_cutAt (s := s) hp
    rw [c1, c2, c3]
    refine ⟨_, [_, _, _], rfl, below_drewN w n, ⟨_, rfl, ⟨[_], [_, _], rfl, rfl, ⟨[_], [_], rfl, rfl, ⟨[_], [], rfl, rfl, rfl⟩⟩⟩⟩, ⟨rfl, fun j c u hc hu => ?_, fun j c u b hc hb hu hbl => ?_, fun j k c d u v b hc hb _ _ _ _ _ _ => ?_⟩⟩
    · match j with
      | 0 => cases hc; cases hu; rfl
      | 1 => cases hc; cases hu; rfl
      | 2 => cases hc; cases hu; rfl
      | j + 3 => simp [RV.flat, Iv.flat, R1.cs] at hc
    · match j with
      | 0 => cases hc; cases hb
      | 1 => cases hc; cases hb
      | 2 => cases hc; cases hb
      | j + 3 => simp [RV.flat, Iv.flat, R1.cs] at hc
    · match j with
      | 0 => cases hc; cases hb
      | 1 => cases hc; cases hb
      | 2 => cases hc; cases hb
      | j + 3 => simp [RV.flat, Iv.flat, R1.cs] at hc
  · cases h
theorem ent153 : Iv.Enters P 153 := ⟨Tryz.f153, by kernel_rfl, by kernel_rfl, by kernel_rfl⟩

theorem str_row {xs : List ByteArray} : (∀ u ∈ xs.map Value.string, u.oneCell' = true) ∧ ∀ (w : World) (F : Nat → Prop) (i : Nat) (x : ByteArray), xs[i]? = some x → RE w F .str (((xs.map Value.string).drop (i * Ty.str.size)).take Ty.str.size) x := by
  refine ⟨fun u hu => ?_, fun w F i x hi => ?_⟩
  · obtain ⟨y, _, rfl⟩ := List.mem_map.1 hu; rfl
  · show _ = [Value.string x]
    simp only [Ty.size, Nat.mul_one]
    have hlt : i < xs.length := (List.getElem?_eq_some_iff.1 hi).1
    rw [List.drop_eq_getElem_cons (by simpa using hlt)]
    have : xs[i] = x := (List.getElem?_eq_some_iff.1 hi).2
    simp [this]

theorem post_buf {N : Nat → Prop} {n0 : Nat} {w : World} {v : Value} {xs : List ByteArray} (hown : w.ownsRow n0 9 1 v xs.length (xs.map Value.string)) :
    Post N n0 w (RV.one (.one (.buf .str 9 xs))).flat [v] := by
  refine ⟨rfl, fun j c u hc hu => ?_, fun j c u b hc hb hu hbl => ?_, fun j k c d u v b hc _ _ _ hd _ _ _ => ?_⟩
  · match j with
    | 0 =>
      cases hc; cases hu
      refine ⟨xs.map Value.string, ⟨hown.1, ?_⟩, str_row.1, fun i x hi => str_row.2 w _ i x hi⟩
      rcases hown.2 with h | ⟨g, cap, cur, h1, _, h3⟩
      · exact .inl h
      · exact .inr ⟨g, cap, cur, h1, Nat.zero_le _, h3⟩
    | j + 1 => simp [RV.flat, R1.cs] at hc
  · match j with
    | 0 =>
      cases hc; cases hu
      rcases hown.2 with ⟨rfl, _⟩ | ⟨g, cap, cur, rfl, h2, _⟩
      · cases hbl
      · cases hbl; exact h2
    | j + 1 => simp [RV.flat, R1.cs] at hc
  · match j, k with
    | 0, 0 => rfl
    | j + 1, _ => simp [RV.flat, R1.cs] at hc
    | 0, k + 1 => simp [RV.flat, R1.cs] at hd

theorem con193 : ∀ avs res, (m193 avs).val = some res → Con P D.tab 193 avs res := by
  intro avs res h
  unfold m193 at h
  split at h
  · rename_i xs
    obtain ⟨h1, h2⟩ := br_val h
    cases h2
    have hs := of_decide_eq_true h1
    intro w N vs hN hG hl hr
    obtain ⟨a, rfl⟩ := one_val hl
    obtain ⟨A, cap, rfl, hc, hx⟩ : RepL w N .str a xs := hr 0 _ a rfl rfl
    cases A with
    | none =>
      have he : xs = [] := by
        cases xs with
        | nil => rfl
        | cons x xs => obtain ⟨b, off, cs, hA, _⟩ := hx 0 x rfl; cases hA
      subst he
      refine (Tryz.slices_Clone_string_nil _ _ w).mono ?_
      rintro e w' ⟨rfl, rfl⟩
      exact ⟨_, [_], rfl, Below.refl _ _, rfl, post_buf (World.ownsRow_nil _ _ 9 1)⟩
    | some ad =>
      by_cases he : xs = []
      · subst he
        refine (Tryz.slices_Clone_string_zero ad cap w).mono ?_
        rintro e w' ⟨v', rfl, hown, _, hb⟩
        exact ⟨_, [_], rfl, hb, rfl, post_buf hown⟩
      · obtain ⟨b, off, had⟩ : ∃ b off, ad = ⟨b, off, none⟩ := by
          cases xs with
          | nil => exact absurd rfl he
          | cons x xs => obtain ⟨b, off, cs, hA, _⟩ := hx 0 x rfl; cases hA; exact ⟨b, off, rfl⟩
        subst had
        refine (Tryz.slices_Clone_string b off xs.length cap xs w (Nat.le_refl _) (by omega) (fun j hj => ?_)).mono ?_
        · obtain ⟨b', off', cs, hA, _, hsz, hcell, hre⟩ := hx j xs[j] (List.getElem?_eq_getElem hj)
          cases hA
          have hcs : cs = [.string xs[j]] := hre
          subst hcs
          have := hcell 0 (.string xs[j]) rfl
          simp only [Ty.size, Nat.mul_one, Nat.add_zero] at this
          rw [this, List.getD_eq_getElem?_getD, List.getElem?_eq_getElem hj]; rfl
        · rintro e w' ⟨v', rfl, hown, _, hb⟩
          rw [List.take_length] at hown
          exact ⟨_, [_], rfl, hb, rfl, post_buf hown⟩
  · cases h
theorem ent193 : Iv.Enters P 193 := ⟨Tryz.f193, by kernel_rfl, by kernel_rfl, by kernel_rfl⟩

theorem frozen0 {w : World} {g k : Nat} {arr : Array Value} {e : TypeId} (h : w.heap[g]? = some (.cells arr e (0, 0))) : w.frozen? ⟨g, k, none⟩ = false := by
  unfold World.frozen?
  rw [h]; simp
theorem shape0 {w : World} {g : Nat} {arr : Array Value} {e : TypeId} {fz : Nat × Nat} (h : w.heap[g]? = some (.cells arr e fz)) : w.shape? g = some (e, arr.size) := by
  unfold World.shape?
  rw [h]
theorem cell0 {w : World} {g k : Nat} {arr : Array Value} {e : TypeId} {fz : Nat × Nat} (h : w.heap[g]? = some (.cells arr e fz)) : w.cell? ⟨g, k, none⟩ = arr[k]? := by
  exact cell_of_row w g k arr e fz h

theorem ins_fin {N : Nat → Prop} {v v' : Value} {w w' : World} {u : ByteArray} {xs : List ByteArray} (hown : w'.ownsRow 0 9 1 v' (xs.length + 1) (.string u :: xs.map Value.string))
    (hs : Since (fun b => blk v = some b) w.heap.size w w') (hb : ∀ b, blk v' = some b → blk v = some b ∨ w.heap.size ≤ b) :
    ∃ v1 fl', Ending.returned v' = .returned v1 ∧ Since (fun b => blk v = some b) w.heap.size w w' ∧ w'.ownsRow 0 9 Ty.str.size v1 ([u] ++ xs).length fl' ∧ (∀ u ∈ fl', u.oneCell' = true) ∧
      (∀ i x, ([u] ++ xs)[i]? = some x → RE w' (fun b => N b ∨ blk v1 = some b) .str ((fl'.drop (i * Ty.str.size)).take Ty.str.size) x) ∧ ∀ b, blk v1 = some b → blk v = some b ∨ w.heap.size ≤ b := by
  refine ⟨v', ([u] ++ xs).map Value.string, rfl, hs, ?_, str_row.1, fun i x hi => str_row.2 w' _ i x hi, hb⟩
  have : ([u] ++ xs).length = xs.length + 1 := by simp
  rw [this]; exact hown

theorem since_g {g n cap B : Nat} {a w : World} (xs : List Value) (off : Nat) (h : Since (fun b => blk (.slice (some ⟨g, 0, none⟩) n cap) = some b) B a w) :
    Since (fun b => blk (.slice (some ⟨g, 0, none⟩) n cap) = some b) B a (w.setCells g off xs) :=
  since_setCells (M := fun b => blk (.slice (some ⟨g, 0, none⟩) n cap) = some b) (Or.inr (show some g = some g from rfl)) xs off w h
theorem e9 : Tryz.laysNm222_ren.t 9 = 9 := rfl
theorem zc1 (n : Nat) : (Builtin.zeroCells (Value.string ⟨#[]⟩).cells n).size = n := by rw [size_zeroCells]; exact Nat.mul_one n
theorem ins97 {N : Nat → Prop} {w : World} {v : Value} {xs : List ByteArray} {u : ByteArray} {vb vc : Nat} {e2 : TypeId} {cur2 : Array Value} (hxs : xs.length ≤ 2147483648) (hvb : blk v ≠ some vb)
    (hown : w.ownsRow 0 9 1 v xs.length (xs.map Value.string)) (hh2 : w.heap[vb]? = some (.cells cur2 e2 (0, 0))) (hvs : ∀ j x, [Value.string u][j]? = some x → w.cell? ⟨vb, 0 + j, none⟩ = some x) :
    Calls P 97 #[v, .int .i64 (0 : Nat), .slice (some ⟨vb, 0, none⟩) 1 vc] w fun e w' => ∃ v1 fl', e = .returned v1 ∧ Since (fun b => blk v = some b) w.heap.size w w' ∧ w'.ownsRow 0 9 Ty.str.size v1 ([u] ++ xs).length fl' ∧ (∀ u ∈ fl', u.oneCell' = true) ∧
      (∀ i x, ([u] ++ xs)[i]? = some x → RE w' (fun b => N b ∨ blk v1 = some b) .str ((fl'.drop (i * Ty.str.size)).take Ty.str.size) x) ∧ ∀ b, blk v1 = some b → blk v = some b ∨ w.heap.size ≤ b := by
  have h1u : ∀ x ∈ [Value.string u], x.oneCell' = true := fun x hx => by rw [List.mem_singleton.1 hx]; rfl
  have h1x : ∀ x ∈ xs.map Value.string, x.oneCell' = true := str_row.1
  have hgc := grownCap_ge w (xs.length + 1)
  have hgm := fun old => grownCap_le_maxLen w (xs.length + 1) old 9 (by unfold maxLen; omega)
  have hown := hown.2
  rcases hown with ⟨rfl, hn0⟩ | ⟨g, cap, cur, rfl, _, hh, hnc, hcm, hcs, htake⟩
  · have hx0 : xs = [] := List.eq_nil_of_length_eq_zero hn0
    subst hx0
    refine (Any2.slices_Insert_string_end_grow Tryz.laysNm222 none 0 0 vb 0 1 vc [] [.string u] w (by omega) (by omega) (by omega) (by omega) rfl rfl (fun _ => rfl) (fun a ha => by cases ha) hvs h1u).mono ?_
    rintro e w' ⟨rfl, rfl⟩
    have hg0 := hgc 0 9
    have hm0 := hgm 0
    refine ins_fin (xs := []) ⟨by simp, .inr ⟨w.heap.size, _, _, rfl, Nat.zero_le _, heap_alloc_new w.drew _, hg0, hm0, ?_, ?_⟩⟩ ⟨rfl, rfl, rfl, by simp, fun k hk _ => Below.heap_alloc w.drew _ k hk⟩ (fun b hb => by cases hb; exact .inr (Nat.le_refl _))
    · simp only [Array.size_append, List.size_toArray, zc1, List.nil_append, List.length_singleton, e9, Nat.mul_one]
      simp only [List.length_nil, Nat.zero_add] at hg0 ⊢
      omega
    · simp
  · have hlt : xs.length ≤ cur.size := by rw [hcs]; omega
    have hcur : ∀ j, j < xs.length → cur[j]? = (xs.map Value.string)[j]? := fun j hj => by
      rw [← htake]
      simp only [Nat.mul_one]
      rw [List.getElem?_take, if_pos hj]; simp
    have hcs1 : cur.size = cap := by rw [hcs]; simp
    have hvbg : vb ≠ g := fun e => hvb (by rw [e]; rfl)
    by_cases hroom : xs.length + 1 ≤ cap
    · have hsize : ∀ j, j < xs.length + 1 → (w.cell? ⟨g, 0 + j, none⟩).isSome = true := fun j hj => by
        rw [Nat.zero_add, cell0 hh, Array.getElem?_eq_getElem (by omega)]; rfl
      have hown' : ∀ w' : World, (∃ arr', w'.heap[g]? = some (.cells arr' 9 (0, 0)) ∧ arr'.size = cur.size ∧ arr'[0]? = some (.string u) ∧ ∀ j, j < xs.length → arr'[j + 1]? = (xs.map Value.string)[j]?) →
          w'.ownsRow 0 9 1 (.slice (some ⟨g, 0, none⟩) (xs.length + 1) cap) (xs.length + 1) (.string u :: xs.map Value.string) := by
        rintro w' ⟨arr', q1, q2, q3, q4⟩
        refine ⟨by simp, .inr ⟨g, cap, arr', rfl, Nat.zero_le _, q1, hroom, hcm, by rw [q2, hcs1]; omega, ?_⟩⟩
        apply List.ext_getElem?
        intro j
        rw [List.getElem?_take]
        by_cases hj : j < (xs.length + 1) * 1
        · rw [if_pos hj, Array.getElem?_toList]
          match j with
          | 0 => rw [q3]; rfl
          | j + 1 => rw [q4 j (by omega)]; rfl
        · rw [if_neg hj, List.getElem?_eq_none (by simp; omega)]
      by_cases hn0 : xs.length = 0
      · have hx0 : xs = [] := List.eq_nil_of_length_eq_zero hn0
        subst hx0
        refine (Any2.slices_Insert_string_end_room Tryz.laysNm222 g 0 0 cap vb 0 1 vc [.string u] w (by omega) (by simpa using hroom) (by unfold maxLen at hcm; omega) rfl (fun j hj => by
          have := hsize j (by simpa using hj); simpa using this) (fun j hj => frozen0 hh) hvs h1u).mono ?_
        rintro e w' ⟨rfl, rfl⟩
        obtain ⟨arr', q1, q2, q3⟩ := heap_setCells [.string u] 0 w cur hh
        refine ins_fin (xs := []) (hown' _ ⟨arr', q1, q2, ?_, fun j hj => by simp at hj⟩) (since_g _ _ (Since.refl _ _ _)) (fun b hb => .inl hb)
        rw [q3 0, if_pos ⟨by omega, by simp, by simp at hroom; omega⟩]; rfl
      · refine (Any2.slices_Insert_string_shift Tryz.laysNm222 g 0 xs.length cap 0 vb 0 1 vc (xs.map Value.string) [.string u] w (by omega) (by omega) hroom (by unfold maxLen at hcm; omega) hvbg (by simp) rfl
          (fun j x hj => by
            have hj2 : j < xs.length := by have := (List.getElem?_eq_some_iff.1 hj).1; simpa using this
            rw [Nat.zero_add, cell0 hh, hcur j hj2]; exact hj) hsize (fun j hj => frozen0 hh) hvs h1x h1u e2 9 cur2.size cur.size (shape0 hh2) (shape0 hh) (by omega) (frozen0 hh2) (frozen0 hh2)).mono ?_
        rintro e w' ⟨rfl, rfl⟩
        obtain ⟨arr1, p1, p2, p3⟩ := heap_setCells ((xs.map Value.string).drop 0) (0 + (0 + 1)) w.drew cur hh
        obtain ⟨arr', q1, q2, q3⟩ := heap_setCells [.string u] (0 + 0) _ arr1 p1
        refine ins_fin (hown' _ ⟨arr', q1, by rw [q2, p2], ?_, fun j hj => ?_⟩) (since_g _ _ (since_g _ _ (Since.refl _ _ _).drew)) (fun b hb => .inl hb)
        · rw [q3 0, if_pos ⟨by omega, by simp, by omega⟩]; rfl
        · rw [q3 (j + 1), if_neg (by simp), p3 (j + 1), if_pos ⟨by omega, by simp; omega, by omega⟩]
          simp
    · have hgo := hgc cap 9
      have hmo := hgm cap
      by_cases hn0 : xs.length = 0
      · have hx0 : xs = [] := List.eq_nil_of_length_eq_zero hn0
        subst hx0
        refine (Any2.slices_Insert_string_end_grow Tryz.laysNm222 (some ⟨g, 0, none⟩) 0 cap vb 0 1 vc [] [.string u] w (by omega) (by omega) (by simp at hroom; omega) (by omega) rfl rfl (fun _ => rfl) (fun a ha j x hj => by simp at hj) hvs h1u).mono ?_
        rintro e w' ⟨rfl, rfl⟩
        refine ins_fin (xs := []) ⟨by simp, .inr ⟨w.heap.size, _, _, rfl, Nat.zero_le _, heap_alloc_new w.drew _, hgo, hmo, ?_, ?_⟩⟩ ⟨rfl, rfl, rfl, by simp, fun k hk _ => Below.heap_alloc w.drew _ k hk⟩ (fun b hb => by cases hb; exact .inr (Nat.le_refl _))
        · simp only [Array.size_append, List.size_toArray, zc1, List.nil_append, List.length_singleton, e9, Nat.mul_one]
          simp only [List.length_nil, Nat.zero_add] at hgo ⊢
          omega
        · simp
      · refine (Any2.slices_Insert_string_grow Tryz.laysNm222 g 0 xs.length cap 0 vb 0 1 vc (xs.map Value.string) [.string u] w (by omega) (by omega) hnc (by omega) (by omega) (by simp) rfl
          (fun j x hj => by
            have hj2 : j < xs.length := by have := (List.getElem?_eq_some_iff.1 hj).1; simpa using this
            rw [Nat.zero_add, cell0 hh, hcur j hj2]; exact hj) hvs h1x h1u).mono ?_
        rintro e w' ⟨rfl, rfl⟩
        have hnew := heap_alloc_new w (.cells (((xs.map Value.string).take 0).toArray ++ Builtin.zeroCells (Value.string ⟨#[]⟩).cells (xs.length + 1 - 0) ++ Builtin.zeroCells (Value.string ⟨#[]⟩).cells (grownCap w (xs.length + 1) cap 9 - (xs.length + 1))) 9)
        obtain ⟨arr1, p1, p2, p3⟩ := heap_setCells (g := w.heap.size) [.string u] 0 (w.alloc (.cells (((xs.map Value.string).take 0).toArray ++ Builtin.zeroCells (Value.string ⟨#[]⟩).cells (xs.length + 1 - 0) ++ Builtin.zeroCells (Value.string ⟨#[]⟩).cells (grownCap w (xs.length + 1) cap 9 - (xs.length + 1))) 9)).drew _ hnew
        obtain ⟨arr', q1, q2, q3⟩ := heap_setCells (g := w.heap.size) ((xs.map Value.string).drop 0) (0 + 1) (((w.alloc (.cells (((xs.map Value.string).take 0).toArray ++ Builtin.zeroCells (Value.string ⟨#[]⟩).cells (xs.length + 1 - 0) ++ Builtin.zeroCells (Value.string ⟨#[]⟩).cells (grownCap w (xs.length + 1) cap 9 - (xs.length + 1))) 9)).drew.setCells w.heap.size 0 [.string u]).drew) arr1 p1
        have hsz0 : arr1.size = grownCap w (xs.length + 1) cap 9 := by
          rw [p2]
          simp only [Array.size_append, List.size_toArray, zc1, List.take_zero, List.length_nil]
          omega
        refine ins_fin ⟨by simp, .inr ⟨w.heap.size, _, arr', rfl, Nat.zero_le _, q1, hgo, hmo, by rw [q2, hsz0, e9]; omega, ?_⟩⟩
          (since_setCells (.inl (Nat.le_refl _)) _ _ _ (since_setCells (.inl (Nat.le_refl _)) _ _ _ (Since.of (below_alloc w _)).drew).drew) (fun b hb => by cases hb; exact .inr (Nat.le_refl _))
        apply List.ext_getElem?
        intro j
        rw [List.getElem?_take]
        by_cases hj : j < (xs.length + 1) * 1
        · rw [if_pos hj, Array.getElem?_toList]
          match j with
          | 0 =>
            rw [q3 0, if_neg (by omega), p3 0, if_pos ⟨by omega, by simp, by rw [← p2, hsz0]; omega⟩]; rfl
          | j + 1 =>
            rw [q3 (j + 1), if_pos ⟨by omega, by simp; omega, by omega⟩]
            simp
        · rw [if_neg hj, List.getElem?_eq_none (by simp; omega)]
theorem con97 : ∀ xs avs ys, m97.f xs avs = some ys → ConB P D.tab 97 m97 xs avs ys := by
  intro xs avs ys h
  unfold m97 at h
  dsimp only at h
  split at h
  · rename_i i us
    obtain ⟨hg, hy⟩ := bif_some h
    cases hy
    simp only [Bool.and_eq_true, decide_eq_true_eq] at hg
    obtain ⟨rfl, hus, hxs⟩ := hg
    intro w N v fl vs hN hNv hG hown h1 hre hl hr hown2
    have hown : w.ownsRow 0 9 1 v (List.length (α := ByteArray) xs) fl := hown
    have hre : ∀ (i : Nat) (x : ByteArray), (xs : List ByteArray)[i]? = some x → (fl.drop (i * 1)).take 1 = [Value.string x] := hre
    change List ByteArray at xs
    obtain ⟨a, b, rfl⟩ := two_vals hl
    have ea : a = .int .i64 0 := hr 0 _ a rfl rfl
    subst ea
    obtain ⟨A, vc, rfl, hvc, hx⟩ : RepL w _ .str b us := hr 1 _ b rfl rfl
    match us, hus with
    | [u], _ =>
      obtain ⟨vb, voff, cs, hA, hFb, hsz, hcell, hre2⟩ := hx 0 u rfl
      have hcs : cs = [.string u] := hre2
      subst hcs
      subst hA
      have hu0 := hcell 0 (.string u) rfl
      simp only [Ty.size, Nat.mul_one, Nat.add_zero] at hu0
      obtain ⟨u1, e2, sz2, n2, fl2, hu1, ho2⟩ := hown2 1 (List.mem_singleton.2 rfl)
      cases hu1
      obtain ⟨g2, cap2, cur2, hv2, hh2⟩ : ∃ g2 cap2 cur2, (Value.slice (some ⟨vb, voff, none⟩) 1 vc) = .slice (some ⟨g2, 0, none⟩) n2 cap2 ∧ w.heap[g2]? = some (.cells cur2 e2 (0, 0)) := by
        rcases ho2.2 with ⟨hn, _⟩ | ⟨g, cap, cur, hv, _, hh, _⟩
        · cases hn
        · exact ⟨g, cap, cur, hv, hh⟩
      cases hv2
      have hvs : ∀ j x, [Value.string u][j]? = some x → w.cell? ⟨vb, 0 + j, none⟩ = some x := fun j x hj => by
        match j with
        | 0 => cases hj; simpa using hu0
        | j + 1 => simp at hj
      have hlen : fl.length = xs.length := by have := hown.1; omega
      have hfl : fl = xs.map Value.string := by
        apply List.ext_getElem?
        intro j
        by_cases hj : j < xs.length
        · have h3 := hre j xs[j] (List.getElem?_eq_getElem hj)
          rw [Nat.mul_one, List.drop_eq_getElem_cons (by omega)] at h3
          simp only [List.take_succ_cons, List.take_zero, List.cons.injEq, and_true] at h3
          rw [List.getElem?_map, List.getElem?_eq_getElem hj, List.getElem?_eq_getElem (by omega), h3]; rfl
        · rw [List.getElem?_eq_none (by omega), List.getElem?_eq_none (by simp; omega)]
      subst hfl
      exact ins97 hxs (fun e => hFb (.inr e)) hown hh2 hvs
  · cases h
theorem ent97 : Iv.Enters P 97 := ⟨Tryz.f97, by kernel_rfl, by kernel_rfl, by kernel_rfl⟩
end Go.Proofs.YtpdmeafoofkpaaaGreatDoor
