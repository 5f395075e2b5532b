/- Texts of this proof, joined: Sp4 Pu3 Pl3. -/
import Derived.Test.YtpdmeafoofkpaaaGreatDoorHa
set_option linter.unusedVariables false
set_option linter.unusedSimpArgs false
/- What the functions on mails compute. -/
namespace Go.Iv
open Go.Lib

def bigM (f : ByteArray) (to ls : List ByteArray) : Bool := decide ((f.size : Int) ≤ 2147483648) && (allBig to && allBig ls)
def hasPre (s p : ByteArray) : Bool := decide (p.size ≤ s.size) && decide (s.extract 0 p.size = p)
def adrOk (n l d : ByteArray) : Bool := (textValid n && decide (n.size ≤ 40)) && (localOk l && domainOk d)
def boxOk (s : ByteArray) : Bool := (cutQ 64 s).2.2 && adrOk ⟨#[]⟩ (cutQ 64 s).1 (lowerText (cutQ 64 s).2.1)
def draftOk (f : ByteArray) (to ls : List ByteArray) (a b : Int) : Bool :=
  fromOk f && (decide (a ≤ (to.length : Int)) && (decide ((to.length : Int) ≤ 10) && (to.all pathOk && textsOk ls b)))
def recvd : ByteArray := ⟨#[114, 101, 99, 101, 105, 118, 101, 100, 58]⟩
def isHop (s : ByteArray) : Bool := hasPre (lowerText s) recvd
def hopsOf : List ByteArray → Int
  | [] => 0
  | x :: r => if x = ⟨#[]⟩ then 0 else (if isHop x = true then 1 else 0) + hopsOf r

theorem bigM_at {f : ByteArray} {to ls : List ByteArray} (h : bigM f to ls = true) : f.size ≤ 2147483648 ∧ allBig to = true ∧ allBig ls = true := by
  unfold bigM at h
  simp only [Bool.and_eq_true, decide_eq_true_eq] at h
  exact ⟨by omega, h.2.1, h.2.2⟩
theorem hopsOf_range : ∀ ls, 0 ≤ hopsOf ls ∧ hopsOf ls ≤ ls.length
  | [] => by simp [hopsOf]
  | x :: r => by
    have := hopsOf_range r
    rw [hopsOf]
    simp only [List.length_cons]
    split
    · omega
    · split <;> omega

def lowU (b : UInt8) : UInt8 := UInt8.ofNat (lowI (ub b)).toNat
theorem bl_lower (s : ByteArray) : bl (lowerText s) = (bl s).map lowU := by
  unfold lowerText bl
  rw [strOfNums_data]
  unfold bytesOf
  simp only [List.map_map]; rfl
theorem lower_size (s : ByteArray) : (lowerText s).size = s.size := by
  rw [← bl_len, ← bl_len, bl_lower, List.length_map]
theorem lowU_fix {b : UInt8} (h : lowI (ub b) = ub b) : lowU b = b := by
  unfold lowU
  rw [h]
  unfold ub
  rw [Int.toNat_natCast]
  exact UInt8.ofNat_toNat

theorem mem_partsL (c : UInt8) : ∀ (l : List UInt8) (x : UInt8), x ∈ l → x = c ∨ ∃ p ∈ partsL c l, x ∈ p
  | y :: l, x, h => by
    rw [partsL]
    by_cases hy : y = c
    · rw [if_pos hy]
      rcases List.mem_cons.1 h with rfl | h
      · exact .inl hy
      · rcases mem_partsL c l x h with h | ⟨p, hp, hx⟩
        · exact .inl h
        · exact .inr ⟨p, List.mem_cons_of_mem _ hp, hx⟩
    · rw [if_neg hy]
      obtain ⟨hd, t, e⟩ := partsL_ne c l
      rw [e]
      rcases List.mem_cons.1 h with rfl | h
      · exact .inr ⟨_, List.mem_cons_self .., List.mem_cons_self ..⟩
      · rcases mem_partsL c l x h with h | ⟨p, hp, hx⟩
        · exact .inl h
        · rw [e] at hp
          rcases List.mem_cons.1 hp with rfl | hp
          · exact .inr ⟨_, List.mem_cons_self .., List.mem_cons_of_mem _ hx⟩
          · exact .inr ⟨p, List.mem_cons_of_mem _ hp, hx⟩

theorem allFrom_mem {p : Int → Bool} {s : ByteArray} (h : allFrom p s 0 = true) {x : UInt8} (hx : x ∈ bl s) : p (ub x) = true := by
  unfold allFrom at h
  rw [List.drop_zero, List.all_eq_true] at h
  exact h x hx

theorem parts_bytes {p : Int → Bool} {ok : ByteArray → Bool} (hok : ∀ s, ok s = true → allFrom p s 0 = true) {s : ByteArray} (h : (parts 46 s).all ok = true) {x : UInt8} (hx : x ∈ bl s) : x = 46 ∨ p (ub x) = true := by
  have e := parts_L 46 s
  rw [show ub 46 = 46 from rfl] at e
  rcases mem_partsL 46 (bl s) x hx with h1 | ⟨q, hq, hxq⟩
  · exact .inl h1
  · right
    rw [← e] at hq
    obtain ⟨y, hy, rfl⟩ := List.mem_map.1 hq
    exact allFrom_mem (hok y (List.all_eq_true.1 h y hy)) hxq

theorem local_bytes {s : ByteArray} (h : localOk s = true) {x : UInt8} (hx : x ∈ bl s) : ub x ≠ 34 ∧ ub x ≠ 64 := by
  unfold localOk at h
  rw [Bool.and_eq_true] at h
  rcases parts_bytes (p := atomByte) (fun t ht => by unfold atomValid at ht; simp only [Bool.and_eq_true] at ht; exact ht.2.2) h.2 hx with rfl | h1
  · decide
  · constructor
    · intro e; rw [e] at h1; revert h1; decide
    · intro e; rw [e] at h1; revert h1; decide

theorem domain_lower {s : ByteArray} (h : domainOk s = true) : lowerText s = s := by
  unfold domainOk at h
  rw [Bool.and_eq_true] at h
  apply bl_inj
  rw [bl_lower]
  conv => rhs; rw [← List.map_id (bl s)]
  refine List.map_congr_left fun x hx => ?_
  refine lowU_fix ?_
  rcases parts_bytes (p := labelByte) (fun t ht => by unfold labelOk at ht; simp only [Bool.and_eq_true] at ht; exact ht.2.2.2) h.2 hx with rfl | h1
  · rfl
  · unfold lowI
    rw [if_neg]
    rintro ⟨h2, h3⟩
    unfold labelByte digit at h1
    simp only [Bool.or_eq_true, Bool.and_eq_true, decide_eq_true_eq] at h1
    omega

theorem index_mid (b : UInt8) : ∀ (l r : List UInt8), (∀ x ∈ l, x ≠ b) → index (l ++ b :: r) [b] = l.length
  | [], r, _ => by rw [List.nil_append, index_cons, if_pos rfl]; rfl
  | x :: l, r, h => by
    have ih := index_mid b l r fun y hy => h y (List.mem_cons_of_mem _ hy)
    rw [List.cons_append, index_cons, if_neg (h x (List.mem_cons_self ..)), ih, if_neg (by omega)]
    simp

theorem bl_append (a b : ByteArray) : bl (a ++ b) = bl a ++ bl b := by
  unfold bl
  rw [ByteArray.data_append, Array.toList_append]

theorem cutAt_mid {l d : ByteArray} (h : ∀ x ∈ bl l, ub x ≠ 64) : cutAt 64 (l ++ (⟨#[64]⟩ : ByteArray) ++ d) = (l, d, true) := by
  have hb : bl (l ++ (⟨#[64]⟩ : ByteArray) ++ d) = bl l ++ 64 :: bl d := by rw [bl_append, bl_append]; simp [bl]
  have hs : (l ++ (⟨#[64]⟩ : ByteArray) ++ d).size = l.size + 1 + d.size := by rw [app_size, app_size]; rfl
  have hf := findFrom_index 64 (l ++ (⟨#[64]⟩ : ByteArray) ++ d) _ 0 (Nat.zero_add _)
  rw [List.drop_zero, hb, index_mid 64 (bl l) (bl d) (fun x hx e => h x hx (by rw [e]; rfl)), if_neg (by omega), Nat.zero_add, Int.toNat_natCast, bl_len] at hf
  unfold cutAt
  rw [show (64 : Int) = ub 64 from rfl, hf]
  have h1 : (l ++ (⟨#[64]⟩ : ByteArray) ++ d).extract 0 l.size = l := by
    apply bl_inj
    rw [bl_extract, hb, List.drop_zero, List.take_append_of_le_length (by rw [bl_len]; exact Nat.le_refl _), List.take_of_length_le (by rw [bl_len]; exact Nat.le_refl _)]
  have h2 : (l ++ (⟨#[64]⟩ : ByteArray) ++ d).extract (l.size + 1) (l ++ (⟨#[64]⟩ : ByteArray) ++ d).size = d := by
    apply bl_inj
    rw [bl_extract, hb, hs, List.take_of_length_le (by simp [bl_len]; omega), ← bl_len l, ← List.drop_drop, List.drop_left]; rfl
  dsimp only
  rw [h1, h2]

theorem cutAt_split {s : ByteArray} (h : (cutAt 64 s).2.2 = true) : ∃ i, i < s.size ∧ bt s (i : Int) = 64 ∧ cutAt 64 s = (s.extract 0 i, s.extract (i + 1) s.size, true) ∧ findFrom 64 s s.size 0 = some i := by
  have key : ∀ d i j, findFrom 64 s d i = some j → i ≤ j ∧ j < i + d ∧ bt s (j : Int) = 64 := by
    intro d
    induction d with
    | zero => intro i j h; cases h
    | succ d ih =>
      intro i j h
      rw [findFrom] at h
      split at h
      · cases h; exact ⟨Nat.le_refl _, by omega, by assumption⟩
      · have := ih (i + 1) j h; exact ⟨by omega, by omega, this.2.2⟩
  unfold cutAt at h ⊢
  cases hf : findFrom 64 s s.size 0 with
  | none => rw [hf] at h; cases h
  | some i =>
    have := key _ _ _ hf
    exact ⟨i, by omega, this.2.2, rfl, rfl⟩

theorem cutF_plain (s : ByteArray) (i : Nat) (hi : i < s.size) (h64 : bt s (i : Int) = 64) : ∀ (d j : Nat), j ≤ i → i < j + d → (∀ k, j ≤ k → k < i → bt s (k : Int) ≠ 34 ∧ bt s (k : Int) ≠ 64) →
    cutF 64 s d j = (s.extract 0 i, s.extract (i + 1) s.size, true)
  | 0, j, h1, h2, _ => by omega
  | d + 1, j, h1, h2, h3 => by
    rw [cutF, if_pos (by omega)]
    by_cases hj : j = i
    · subst hj
      rw [if_neg (by omega), if_pos h64]
    · obtain ⟨a, b⟩ := h3 j (Nat.le_refl _) (by omega)
      rw [if_neg a, if_neg b]
      exact cutF_plain s i hi h64 d (j + 1) (by omega) (by omega) fun k hk => h3 k (by omega)

theorem join_split {s : ByteArray} {i : Nat} (hi : i < s.size) (h64 : bt s (i : Int) = 64) : s.extract 0 i ++ (⟨#[64]⟩ : ByteArray) ++ s.extract (i + 1) s.size = s := by
  apply bl_inj
  have hl := bl_len s
  have e1 : (bl s).take s.size = bl s := List.take_of_length_le (by omega)
  rw [bl_append, bl_append, bl_extract, bl_extract, List.drop_zero, e1]
  have hb : (bl s)[i]'(by omega) = 64 := by
    have := bt_nat s i hi
    rw [h64] at this
    exact ub_inj.1 this.symm
  have : bl (⟨#[64]⟩ : ByteArray) = [(bl s)[i]'(by omega)] := by rw [hb]
  rw [this, List.append_assoc, List.singleton_append, ← List.drop_eq_getElem_cons, List.take_append_drop]

/-- THE TWO WAYS TO SAY WHAT A PATH IS. -/
theorem box_path (s : ByteArray) : (boxOk s && decide ((cutQ 64 s).1 ++ (⟨#[64]⟩ : ByteArray) ++ lowerText (cutQ 64 s).2.1 = s)) = pathOk s := by
  have hempty : (textValid (⟨#[]⟩ : ByteArray) && decide ((⟨#[]⟩ : ByteArray).size ≤ 40)) = true := by decide
  rw [Bool.eq_iff_iff]
  constructor
  · intro h
    rw [Bool.and_eq_true, decide_eq_true_eq] at h
    obtain ⟨hb, he⟩ := h
    unfold boxOk adrOk at hb
    simp only [Bool.and_eq_true] at hb
    obtain ⟨h1, _, h3, h4⟩ := hb
    have hc := cutAt_mid (d := lowerText (cutQ 64 s).2.1) fun x hx => (local_bytes h3 hx).2
    rw [he] at hc
    unfold pathOk
    rw [hc]
    simp [h3, h4]
  · intro h
    unfold pathOk at h
    simp only [Bool.and_eq_true] at h
    obtain ⟨h1, h2, h3⟩ := h
    obtain ⟨i, hi, h64, hc, hf⟩ := cutAt_split h1
    rw [hc] at h2 h3
    dsimp only at h2 h3
    have hq : cutQ 64 s = (s.extract 0 i, s.extract (i + 1) s.size, true) := by
      refine cutF_plain s i hi h64 (s.size + 1) 0 (Nat.zero_le _) (by omega) fun k _ hk => ?_
      have hl := bl_len s
      have hm : (bl s)[k]'(by omega) ∈ bl (s.extract 0 i) := by
        rw [bl_extract, List.drop_zero]
        exact List.mem_take_iff_getElem.2 ⟨k, by omega, rfl⟩
      have := local_bytes h2 hm
      rw [bt_nat s k (by omega)]
      exact this
    rw [Bool.and_eq_true, decide_eq_true_eq]
    unfold boxOk adrOk
    rw [hq]
    dsimp only
    rw [domain_lower h3]
    refine ⟨?_, join_split hi h64⟩
    rw [hempty, h2, h3]; rfl
end Go.Iv

/- What functions come to. -/
namespace Go.Iv
set_option maxRecDepth 4000
noncomputable def m275 : List AV → CT
  | [.one (.sc (.string s)), .one (.sc (.string p))] => (.ret (.one (.one (.fc (.sc (.bool (hasPre s p)))))))
  | _ => .no
/-! 275: internal/stringslite.HasPrefix -/
def T275 (N : Nat) (s : ByteArray) (p : ByteArray) : Option RV :=
  (bif (decide (((s).size : Int) ≥ ((p).size : Int))) then
  (bif (cutOk (s).size none (some ((p).size : Int))) then
    some (.one (.one (.fc (.sc (.bool ((cutS s none (some ((p).size : Int))).toList == p.toList))))))
    else none)
  else
  some (.one (.one (.fc (.sc (.bool false))))))
noncomputable def m192 : List AV → CT
  | [.one (.sc (.string s)), .one (.sc (.string p))] => (.ret (.one (.one (.fc (.sc (.bool (hasPre s p)))))))
  | _ => .no
/-! 192: strings.HasPrefix -/
def T192 (N : Nat) (s : ByteArray) (p : ByteArray) : Option RV :=
  some (.one (.one (.fc (.sc (.bool (hasPre s p))))))
noncomputable def m215 : List AV → CT
  | [.one (.sc (.string s))] => (.br (decide (((s).size : Int) ≤ 2147483648)) (.ret (.one (.one (.fc (.sc (.bool (textValid s && decide (s.size ≤ 40)))))))) .no)
  | _ => .no
/-! 215: spec.l2Name -/
def T215 (N : Nat) (s : ByteArray) : Option RV :=
  (bif (decide (((s).size : Int) ≤ 2147483648)) then
  (bif (textValid s) then
    some (.one (.one (.fc (.sc (.bool (decide (((s).size : Int) ≤ (40 : Int))))))))
    else
    some (.one (.one (.fc (.sc (.bool false))))))
  else none)
noncomputable def m128 : List AV → CT
  | [.agg [.sc (.string n), .sc (.string l), .sc (.string d)]] => (.br (decide (((n).size : Int) ≤ 2147483648) && decide (((l).size : Int) ≤ 2147483648) && decide (((d).size : Int) ≤ 2147483648)) (.ret (.one (.one (.fc (.sc (.bool (adrOk n l d))))))) .no)
  | _ => .no
/-! 128: spec.AddressValid -/
def T128 (N : Nat) (n : ByteArray) (l : ByteArray) (d : ByteArray) : Option RV :=
  (bif (decide (((n).size : Int) ≤ 2147483648)) then
  (bif (textValid n && decide (n.size ≤ 40)) then
    (bif (decide (((l).size : Int) ≤ (30 : Int))) then
      (bif (decide (((l).size : Int) ≤ 2147483648)) then
        (bif (localOk l) then
          (bif (decide (((d).size : Int) ≤ (40 : Int))) then
            (bif (decide (((d).size : Int) ≤ 2147483648)) then
              some (.one (.one (.fc (.sc (.bool (domainOk d))))))
              else none)
            else
            some (.one (.one (.fc (.sc (.bool false))))))
          else
          some (.one (.one (.fc (.sc (.bool false))))))
        else none)
      else
      some (.one (.one (.fc (.sc (.bool false))))))
    else
    some (.one (.one (.fc (.sc (.bool false))))))
  else none)
noncomputable def m146 : List AV → CT
  | [.one (.sc (.string s))] => (.br (decide (((s).size : Int) ≤ 2147483648)) (.ret (.multi [.agg [.fc (.sc (.string ((⟨#[]⟩ : ByteArray)))), .fc (.sc (.string ((cutQ 64 s).1))), .fc (.sc (.string (lowerText (cutQ 64 s).2.1)))], .one (.fc (.sc (.bool (boxOk s))))])) .no)
  | _ => .no
/-! 146: spec.l2Box -/
def T146 (N : Nat) (s : ByteArray) : Option RV :=
  (bif (decide (((s).size : Int) ≤ 2147483648)) then
  (bif (decide (((((cutQ (64 : Int) s).2.1)).size : Int) ≤ 2147483648)) then
    (bif ((cutQ (64 : Int) s).2.2) then
      (bif (decide ((((⟨#[]⟩ : ByteArray)).size : Int) ≤ 2147483648) && decide (((((cutQ (64 : Int) s).1)).size : Int) ≤ 2147483648) && decide ((((lowerText ((cutQ (64 : Int) s).2.1))).size : Int) ≤ 2147483648)) then
        some (.multi [.agg [.fc (.sc (.string (⟨#[]⟩ : ByteArray))), .fc (.sc (.string ((cutQ (64 : Int) s).1))), .fc (.sc (.string (lowerText ((cutQ (64 : Int) s).2.1))))], .one (.fc (.sc (.bool (adrOk (⟨#[]⟩ : ByteArray) ((cutQ (64 : Int) s).1) (lowerText ((cutQ (64 : Int) s).2.1))))))])
        else none)
      else
      some (.multi [.agg [.fc (.sc (.string (⟨#[]⟩ : ByteArray))), .fc (.sc (.string ((cutQ (64 : Int) s).1))), .fc (.sc (.string (lowerText ((cutQ (64 : Int) s).2.1))))], .one (.fc (.sc (.bool false)))]))
    else none)
  else none)
noncomputable def m171 : List AV → CT
  | [.one (.sc (.string s))] => (.br (decide (((s).size : Int) ≤ 2147483648)) (.ret (.one (.one (.fc (.sc (.bool (pathOk s))))))) .no)
  | _ => .no
/-! 171: spec.l10Box -/
def T171 (N : Nat) (s : ByteArray) : Option RV :=
  (bif (decide (((s).size : Int) ≤ 2147483648)) then
  (bif (boxOk s) then
    (bif (Nat.ble (((cutQ 64 s).1).size + (⟨#[64]⟩ : ByteArray).size) 9223372036854775807) then
      (bif (Nat.ble ((((cutQ 64 s).1) ++ (⟨#[64]⟩ : ByteArray)).size + (lowerText (cutQ 64 s).2.1).size) 9223372036854775807) then
        some (.one (.one (.fc (.sc (.bool (((((cutQ 64 s).1) ++ (⟨#[64]⟩ : ByteArray)) ++ (lowerText (cutQ 64 s).2.1)).toList == s.toList))))))
        else none)
      else none)
    else
    some (.one (.one (.fc (.sc (.bool false))))))
  else none)
noncomputable def m196 : List AV → CT
  | [.agg [.sc (.string f), .list .str to, .list .str ls]] => (.br (bigM f to ls) (.ret (.one (.one (.fc (.sc (.bool (draftOk f to ls 0 31))))))) .no)
  | _ => .no
/-! 196: spec.l10Draft -/
def L196_0_0 {R : Type} : Nat → Int → ByteArray → List ByteArray → List ByteArray → (Bool → Option R) → (ByteArray → List ByteArray → List ByteArray → Option R) → Option R
  | 0, _, _, _, _, _, _ => none
  | n + 1, x0, x1, x2, x3, k0, k1 => (bif (decide (x0 < ((x2).length : Int))) then
    (bif (inb x0 (x2).length) then
      (bif (decide (((((x2).getD (x0).toNat (⟨#[]⟩ : ByteArray))).size : Int) ≤ 2147483648)) then
        (bif (!(pathOk ((x2).getD (x0).toNat (⟨#[]⟩ : ByteArray)))) then
          (k0 false)
          else
          (L196_0_0 n (IntKind.i64.wrap (x0 + (1 : Int))) x1 x2 x3 k0 k1))
        else none)
      else none)
    else
    (k1 x1 x2 x3))
def L196_2_0 {R : Type} : Nat → Int → ByteArray → List ByteArray → List ByteArray → (Bool → Option R) → (Unit → Option R) → Option R
  | 0, _, _, _, _, _, _ => none
  | n + 1, x0, x1, x2, x3, k0, k1 => (bif (decide (x0 < ((x3).length : Int))) then
    (bif (inb x0 (x3).length) then
      (bif (decide (((((x3).getD (x0).toNat (⟨#[]⟩ : ByteArray))).size : Int) ≤ 2147483648)) then
        (bif (!(textValid ((x3).getD (x0).toNat (⟨#[]⟩ : ByteArray)))) then
          (k0 false)
          else
          (L196_2_0 n (IntKind.i64.wrap (x0 + (1 : Int))) x1 x2 x3 k0 k1))
        else none)
      else none)
    else
    (k1 ()))
def T196 (N : Nat) (f : ByteArray) (to : List ByteArray) (ls : List ByteArray) : Option RV :=
  (bif (!(f.toList == (⟨#[]⟩ : ByteArray).toList)) then
  (bif (decide (((f).size : Int) ≤ 2147483648)) then
    (bif (!(pathOk f)) then
      some (.one (.one (.fc (.sc (.bool false)))))
      else
      (bif (decide (((to).length : Int) > (10 : Int))) then
        some (.one (.one (.fc (.sc (.bool false)))))
        else
        (bif (decide (((ls).length : Int) > (31 : Int))) then
          some (.one (.one (.fc (.sc (.bool false)))))
          else
          (L196_0_0 N (0 : Int) f to ls
            (fun (z1_0 : Bool) => some (.one (.one (.fc (.sc (.bool z1_0))))))
            (fun (z2_0 : ByteArray) (z2_1 : List ByteArray) (z2_2 : List ByteArray) => (L196_2_0 N (0 : Int) z2_0 z2_1 z2_2
              (fun (z3_0 : Bool) => some (.one (.one (.fc (.sc (.bool z3_0))))))
              (fun (_ : Unit) => some (.one (.one (.fc (.sc (.bool true))))))))))))
    else none)
  else
  (bif (decide (((to).length : Int) > (10 : Int))) then
    some (.one (.one (.fc (.sc (.bool false)))))
    else
    (bif (decide (((ls).length : Int) > (31 : Int))) then
      some (.one (.one (.fc (.sc (.bool false)))))
      else
      (L196_0_0 N (0 : Int) f to ls
        (fun (z5_0 : Bool) => some (.one (.one (.fc (.sc (.bool z5_0))))))
        (fun (z6_0 : ByteArray) (z6_1 : List ByteArray) (z6_2 : List ByteArray) => (L196_2_0 N (0 : Int) z6_0 z6_1 z6_2
          (fun (z7_0 : Bool) => some (.one (.one (.fc (.sc (.bool z7_0))))))
          (fun (_ : Unit) => some (.one (.one (.fc (.sc (.bool true))))))))))))
noncomputable def m98 : List AV → CT
  | [.agg [.sc (.string f), .list .str to, .list .str ls]] => (.br (bigM f to ls) (.ret (.one (.one (.fc (.sc (.bool (draftOk f to ls 1 30))))))) .no)
  | _ => .no
/-! 98: spec.MailValid -/
def T98 (N : Nat) (f : ByteArray) (to : List ByteArray) (ls : List ByteArray) : Option RV :=
  (bif (bigM f to ls) then
  (bif (draftOk f to ls 0 31) then
    (bif (decide (((to).length : Int) > (0 : Int))) then
      some (.one (.one (.fc (.sc (.bool (decide (((ls).length : Int) ≤ (30 : Int))))))))
      else
      some (.one (.one (.fc (.sc (.bool false))))))
    else
    some (.one (.one (.fc (.sc (.bool false))))))
  else none)
noncomputable def m111 : List AV → CT
  | [.agg [.sc (.string f), .list .str to, .list .str ls], .one (.sc (.int .i64 a)), .one (.sc (.int .i64 b))] => (.br (bigM f to ls) (.ret (.one (.one (.fc (.sc (.bool (draftOk f to ls a b))))))) .no)
  | _ => .no
/-! 111: impl.draftValid -/
def T111 (N : Nat) (f : ByteArray) (to : List ByteArray) (ls : List ByteArray) (a : Int) (b : Int) : Option RV :=
  (bif (decide (((f).size : Int) ≤ 2147483648)) then
  (bif (fromOk f) then
    (bif (decide (((to).length : Int) ≥ a)) then
      (bif (decide (((to).length : Int) ≤ (10 : Int))) then
        (bif (allBig to) then
          (bif (!(!(to.all pathOk))) then
            (bif (allBig ls) then
              some (.one (.one (.fc (.sc (.bool (textsOk ls b))))))
              else none)
            else
            some (.one (.one (.fc (.sc (.bool false))))))
          else none)
        else
        some (.one (.one (.fc (.sc (.bool false))))))
      else
      some (.one (.one (.fc (.sc (.bool false))))))
    else
    some (.one (.one (.fc (.sc (.bool false))))))
  else none)
noncomputable def m40 : List AV → CT
  | [.agg [.sc (.string f), .list .str to, .list .str ls]] => (.br (bigM f to ls) (.ret (.one (.one (.fc (.sc (.bool (draftOk f to ls 1 30))))))) .no)
  | _ => .no
/-! 40: impl.MailValid -/
def T40 (N : Nat) (f : ByteArray) (to : List ByteArray) (ls : List ByteArray) : Option RV :=
  (bif (bigM f to ls) then
  some (.one (.one (.fc (.sc (.bool (draftOk f to ls (1 : Int) (30 : Int)))))))
  else none)
noncomputable def m96 : List AV → CT
  | [.agg [.sc (.string f), .list .str to, .list .str ls]] => (.br (bigM f to ls) (.ret (.one (.agg [.fc (.sc (.string (f))), .buf .str 9 (to), .buf .str 9 (ls)]))) .no)
  | _ => .no
/-! 96: impl.copyMail -/
def T96 (N : Nat) (f : ByteArray) (to : List ByteArray) (ls : List ByteArray) : Option RV :=
  (bif (decide (to.length ≤ 2147483648)) then
  (bif (decide (ls.length ≤ 2147483648)) then
    some (.one (.agg [.fc (.sc (.string f)), .buf .str 9 (to), .buf .str 9 (ls)]))
    else none)
  else none)
noncomputable def m102 : List AV → CT
  | [.agg [.sc (.string f), .list .str to, .list .str ls]] => (.br (bigM f to ls) (.ret (.one (.agg [.fc (.sc (.string (f))), .buf .str 9 (to), .buf .str 9 (ls)]))) .no)
  | _ => .no
/-! 102: spec.l10Mail -/
def T102 (N : Nat) (f : ByteArray) (to : List ByteArray) (ls : List ByteArray) : Option RV :=
  (bif (Nat.ble (0 + to.length) 1099511627776) then
  (bif (Nat.ble (0 + ls.length) 1099511627776) then
    some (.one (.agg [.fc (.sc (.string f)), .buf .str 9 (([] : List ByteArray) ++ to), .buf .str 9 (([] : List ByteArray) ++ ls)]))
    else none)
  else none)
noncomputable def m103 : List AV → CT
  | [.one (.list .str xs), .one (.list .str ys)] => (.br (decide (xs.length ≤ 2147483648)) (.ret (.one (.one (.fc (.sc (.bool (decide (xs = ys)))))))) .no)
  | _ => .no
/-! 103: slices.Equal[[]string,string] -/
def L103_0_0 {R : Type} : Nat → List ByteArray → List ByteArray → Int → Int → (Bool → Option R) → (Unit → Option R) → Option R
  | 0, _, _, _, _, _, _ => none
  | n + 1, x0, x1, x2, x3, k0, k1 => (bif (decide (x3 < x2)) then
    (bif (inb x3 (x0).length) then
      (bif (inb x3 (x1).length) then
        (bif (!(((x0).getD (x3).toNat (⟨#[]⟩ : ByteArray)).toList == ((x1).getD (x3).toNat (⟨#[]⟩ : ByteArray)).toList)) then
          (k0 false)
          else
          (L103_0_0 n x0 x1 x2 (IntKind.i64.wrap (x3 + (1 : Int))) k0 k1))
        else none)
      else none)
    else
    (k1 ()))
def T103 (N : Nat) (xs : List ByteArray) (ys : List ByteArray) : Option RV :=
  (bif (((xs).length : Int) != ((ys).length : Int)) then
  some (.one (.one (.fc (.sc (.bool false)))))
  else
  (L103_0_0 N xs ys ((xs).length : Int) (0 : Int)
    (fun (z1_0 : Bool) => some (.one (.one (.fc (.sc (.bool z1_0))))))
    (fun (_ : Unit) => some (.one (.one (.fc (.sc (.bool true))))))))
noncomputable def m38 : List AV → CT
  | [.one (.list .str xs), .one (.list .str ys)] => (.br (decide (xs.length ≤ 2147483648)) (.ret (.one (.one (.fc (.sc (.bool (decide (xs = ys)))))))) .no)
  | _ => .no
/-! 38: laws.mwTexts -/
def L38_0_0 {R : Type} : Nat → List ByteArray → List ByteArray → Int → (Bool → Option R) → (Unit → Option R) → Option R
  | 0, _, _, _, _, _ => none
  | n + 1, x0, x1, x2, k0, k1 => (bif (decide (x2 < ((x0).length : Int))) then
    (bif (inb x2 (x0).length) then
      (bif (inb x2 (x1).length) then
        (bif (!(((x0).getD (x2).toNat (⟨#[]⟩ : ByteArray)).toList == ((x1).getD (x2).toNat (⟨#[]⟩ : ByteArray)).toList)) then
          (k0 false)
          else
          (L38_0_0 n x0 x1 (IntKind.i64.wrap (x2 + (1 : Int))) k0 k1))
        else none)
      else none)
    else
    (k1 ()))
def T38 (N : Nat) (xs : List ByteArray) (ys : List ByteArray) : Option RV :=
  (bif (((xs).length : Int) != ((ys).length : Int)) then
  some (.one (.one (.fc (.sc (.bool false)))))
  else
  (L38_0_0 N xs ys (0 : Int)
    (fun (z1_0 : Bool) => some (.one (.one (.fc (.sc (.bool z1_0))))))
    (fun (_ : Unit) => some (.one (.one (.fc (.sc (.bool true))))))))
noncomputable def m30 : List AV → CT
  | [.agg [.sc (.string f), .list .str to, .list .str ls], .agg [.sc (.string g), .list .str ti, .list .str ms]] => (.br (decide (to.length ≤ 2147483648) && decide (ls.length ≤ 2147483648)) (.ret (.one (.one (.fc (.sc (.bool (decide (f = g) && (decide (to = ti) && decide (ls = ms))))))))) .no)
  | _ => .no
/-! 30: impl.MailSame -/
def T30 (N : Nat) (f : ByteArray) (to : List ByteArray) (ls : List ByteArray) (g : ByteArray) (ti : List ByteArray) (ms : List ByteArray) : Option RV :=
  (bif (f.toList == g.toList) then
  (bif (decide (to.length ≤ 2147483648)) then
    (bif (decide (to = ti)) then
      (bif (decide (ls.length ≤ 2147483648)) then
        some (.one (.one (.fc (.sc (.bool (decide (ls = ms)))))))
        else none)
      else
      some (.one (.one (.fc (.sc (.bool false))))))
    else none)
  else
  some (.one (.one (.fc (.sc (.bool false))))))
noncomputable def m200 : List AV → CT
  | [.one (.sc (.string s))] => (.br (decide (((s).size : Int) ≤ 2147483648)) (.ret (.one (.one (.fc (.sc (.bool (isHop s))))))) .no)
  | _ => .no
/-! 200: spec.l11Hop -/
def T200 (N : Nat) (s : ByteArray) : Option RV :=
  (bif (decide (((s).size : Int) ≥ (9 : Int))) then
  (bif (cutOk (s).size none (some (9 : Int))) then
    (bif (decide ((((cutS s none (some (9 : Int)))).size : Int) ≤ 2147483648) && decide ((((⟨#[82, 101, 99, 101, 105, 118, 101, 100, 58]⟩ : ByteArray)).size : Int) ≤ 2147483648)) then
      some (.one (.one (.fc (.sc (.bool (sameText (cutS s none (some (9 : Int))) (⟨#[82, 101, 99, 101, 105, 118, 101, 100, 58]⟩ : ByteArray)))))))
      else none)
    else none)
  else
  some (.one (.one (.fc (.sc (.bool false))))))
noncomputable def m101 : List AV → CT
  | [.one (.list .str ls)] => (.br (allBig ls) (.ret (.one (.one (.fc (.sc (.int .i64 (hopsOf ls))))))) .no)
  | _ => .no
/-! 101: spec.l11Hops -/
def L101_0_0 {R : Type} : Nat → List ByteArray → Int → Int → (Int → Option R) → Option R
  | 0, _, _, _, _ => none
  | n + 1, x0, x1, x2, k0 => (bif (decide (x2 < ((x0).length : Int))) then
    (bif (inb x2 (x0).length) then
      (bif (!(((x0).getD (x2).toNat (⟨#[]⟩ : ByteArray)).toList == (⟨#[]⟩ : ByteArray).toList)) then
        (bif (inb x2 (x0).length) then
          (bif (decide (((((x0).getD (x2).toNat (⟨#[]⟩ : ByteArray))).size : Int) ≤ 2147483648)) then
            (bif (isHop ((x0).getD (x2).toNat (⟨#[]⟩ : ByteArray))) then
              (L101_0_0 n x0 (IntKind.i64.wrap (x1 + (1 : Int))) (IntKind.i64.wrap (x2 + (1 : Int))) k0)
              else
              (L101_0_0 n x0 x1 (IntKind.i64.wrap (x2 + (1 : Int))) k0))
            else none)
          else none)
        else
        (k0 x1))
      else none)
    else
    (k0 x1))
def T101 (N : Nat) (ls : List ByteArray) : Option RV :=
  (L101_0_0 N ls (0 : Int) (0 : Int)
  (fun (z1_0 : Int) => some (.one (.one (.fc (.sc (.int .i64 z1_0)))))))
noncomputable def m95 : List AV → CT
  | [.agg [.sc (.string f), .list .str to, .list .str ls]] => (.br (allBig ls) (.ret (.one (.one (.fc (.sc (.int .i64 (hopsOf ls))))))) .no)
  | _ => .no
/-! 95: impl.hops -/
def L95_0_0 {R : Type} : Nat → Int → List ByteArray → Int → Int → (Int → Option R) → Option R
  | 0, _, _, _, _, _ => none
  | n + 1, x0, x1, x2, x3, k0 => (bif (decide (x3 < x2)) then
    (bif (inb x3 (x1).length) then
      (bif (((x1).getD (x3).toNat (⟨#[]⟩ : ByteArray)).toList == (⟨#[]⟩ : ByteArray).toList) then
        (k0 x0)
        else
        (bif (decide (((((x1).getD (x3).toNat (⟨#[]⟩ : ByteArray))).size : Int) ≤ 2147483648)) then
          (bif (hasPre (lowerText ((x1).getD (x3).toNat (⟨#[]⟩ : ByteArray))) (⟨#[114, 101, 99, 101, 105, 118, 101, 100, 58]⟩ : ByteArray)) then
            (L95_0_0 n (IntKind.i64.wrap (x0 + (1 : Int))) x1 x2 (IntKind.i64.wrap (x3 + (1 : Int))) k0)
            else
            (L95_0_0 n x0 x1 x2 (IntKind.i64.wrap (x3 + (1 : Int))) k0))
          else none))
      else none)
    else
    (k0 x0))
def T95 (N : Nat) (f : ByteArray) (to : List ByteArray) (ls : List ByteArray) : Option RV :=
  (L95_0_0 N (0 : Int) ls ((ls).length : Int) (0 : Int)
  (fun (z1_0 : Int) => some (.one (.one (.fc (.sc (.int .i64 z1_0)))))))
noncomputable def m39 : List AV → CT
  | [.agg [.sc (.string f), .list .str to, .list .str ls]] => (.br (bigM f to ls) (.ret (.multi [.one (.fc (.sc (.int .i64 ((bif draftOk f to ls 1 30 then hopsOf ls else 0))))), .one (.fc (.sc (.bool (draftOk f to ls 1 30))))])) .no)
  | _ => .no
/-! 39: impl.CountHops -/
def T39 (N : Nat) (f : ByteArray) (to : List ByteArray) (ls : List ByteArray) : Option RV :=
  (bif (bigM f to ls) then
  (bif (!(draftOk f to ls 1 30)) then
    some (.multi [.one (.fc (.sc (.int .i64 (0 : Int)))), .one (.fc (.sc (.bool false)))])
    else
    (bif (allBig ls) then
      some (.multi [.one (.fc (.sc (.int .i64 (hopsOf ls)))), .one (.fc (.sc (.bool true)))])
      else none))
  else none)
end Go.Iv

/- ... and that it is what was said. -/
namespace Go.Iv

theorem pl275 : ∀ (s : ByteArray) (p : ByteArray) res, (m275 [.one (.sc (.string s)), .one (.sc (.string p))]).val = some res → ∃ N, T275 N s p = some res := by
  intro s p res h
  cases h
  refine ⟨0, ?_⟩
  unfold T275 hasPre
  rw [eq_toList, cutS_to]
  by_cases h : p.size ≤ s.size
  · rw [show decide ((s.size : Int) ≥ (p.size : Int)) = true from decide_eq_true (by omega), cutOk_to h, decide_eq_true h]; rfl
  · rw [show decide ((s.size : Int) ≥ (p.size : Int)) = false from decide_eq_false (by omega), decide_eq_false h]; rfl
theorem pl192 : ∀ (s : ByteArray) (p : ByteArray) res, (m192 [.one (.sc (.string s)), .one (.sc (.string p))]).val = some res → ∃ N, T192 N s p = some res := by
  intro s p res h
  cases h
  exact ⟨0, rfl⟩
theorem pl215 : ∀ (s : ByteArray) res, (m215 [.one (.sc (.string s))]).val = some res → ∃ N, T215 N s = some res := by
  intro s res h
  obtain ⟨h1, h2⟩ := br_val h
  cases h2
  refine ⟨0, ?_⟩
  unfold T215
  rw [h1, show decide ((s.size : Int) ≤ (40 : Int)) = decide (s.size ≤ 40) from le_nat _ 40]
  cases textValid s <;> cases decide (s.size ≤ 40) <;> rfl
theorem pl128 : ∀ (n : ByteArray) (l : ByteArray) (d : ByteArray) res, (m128 [.agg [.sc (.string n), .sc (.string l), .sc (.string d)]]).val = some res → ∃ N, T128 N n l d = some res := by
  intro n l d res h
  obtain ⟨h1, h2, h3, h4⟩ := br3_val h
  cases h4
  refine ⟨0, ?_⟩
  unfold T128 adrOk
  have e1 : localOk l = (decide ((l.size : Int) ≤ (30 : Int)) && localOk l) := by
    rw [show decide ((l.size : Int) ≤ (30 : Int)) = decide (l.size ≤ 30) from le_nat _ 30]
    unfold localOk
    cases decide (l.size ≤ 30) <;> rfl
  have e2 : domainOk d = (decide ((d.size : Int) ≤ (40 : Int)) && domainOk d) := by
    rw [show decide ((d.size : Int) ≤ (40 : Int)) = decide (d.size ≤ 40) from le_nat _ 40]
    unfold domainOk
    cases decide (d.size ≤ 40) <;> rfl
  rw [h1, h2, h3, e1, e2]
  cases (textValid n && decide (n.size ≤ 40)) <;> cases decide ((l.size : Int) ≤ (30 : Int)) <;> cases localOk l <;> cases decide ((d.size : Int) ≤ (40 : Int)) <;> cases domainOk d <;> rfl

theorem cutF_size (c : Int) (s : ByteArray) : ∀ (d i : Nat), (cutF c s d i).1.size ≤ s.size ∧ (cutF c s d i).2.1.size ≤ s.size
  | 0, i => ⟨Nat.le_refl _, Nat.zero_le _⟩
  | d + 1, i => by
    rw [cutF]
    split
    · split
      · split
        · exact ⟨Nat.le_refl _, Nat.zero_le _⟩
        · exact cutF_size c s d _
      · split
        · exact ⟨ext_size _ _ _, ext_size _ _ _⟩
        · exact cutF_size c s d _
    · exact ⟨Nat.le_refl _, Nat.zero_le _⟩
theorem cutQ_size (c : Int) (s : ByteArray) : (cutQ c s).1.size ≤ s.size ∧ (cutQ c s).2.1.size ≤ s.size := cutF_size c s _ _

theorem pl146 : ∀ (s : ByteArray) res, (m146 [.one (.sc (.string s))]).val = some res → ∃ N, T146 N s = some res := by
  intro s res h
  obtain ⟨h1, h2⟩ := br_val h
  cases h2
  refine ⟨0, ?_⟩
  have hs := big_of h1
  obtain ⟨c1, c2⟩ := cutQ_size 64 s
  have hl := lower_size (cutQ 64 s).2.1
  unfold T146 boxOk
  rw [h1, big_t (s := (cutQ 64 s).2.1) (by omega), big_t (s := (cutQ 64 s).1) (by omega), big_t (s := lowerText (cutQ 64 s).2.1) (by omega)]
  cases (cutQ 64 s).2.2 <;> rfl
theorem pl171 : ∀ (s : ByteArray) res, (m171 [.one (.sc (.string s))]).val = some res → ∃ N, T171 N s = some res := by
  intro s res h
  obtain ⟨h1, h2⟩ := br_val h
  cases h2
  refine ⟨0, ?_⟩
  have hs := big_of h1
  obtain ⟨c1, c2⟩ := cutQ_size 64 s
  have hl := lower_size (cutQ 64 s).2.1
  have h64 : (⟨#[64]⟩ : ByteArray).size = 1 := rfl
  unfold T171
  rw [h1, fit_t (n := (cutQ 64 s).1.size + (⟨#[64]⟩ : ByteArray).size) (by omega), fit_t (n := ((cutQ 64 s).1 ++ (⟨#[64]⟩ : ByteArray)).size + (lowerText (cutQ 64 s).2.1).size) (by rw [app_size]; omega), eq_toList, ← box_path]
  cases boxOk s <;> rfl

theorem L196a {R : Type} (f : ByteArray) (xs ls : List ByteArray) (k0 : Bool → Option R) (k1 : ByteArray → List ByteArray → List ByteArray → Option R) (hl : xs.length ≤ 2147483649) (hx : ∀ x ∈ xs, x.size ≤ 2147483648) : ∀ (d n i : Nat), i + d = xs.length → d < n →
    L196_0_0 n (i : Int) f xs ls k0 k1 = bif (xs.drop i).all pathOk then k1 f xs ls else k0 false := by
  intro d
  induction d with
  | zero =>
    intro n i hi hn
    obtain ⟨n, rfl⟩ : ∃ m, n = m + 1 := ⟨n - 1, by omega⟩
    rw [L196_0_0, lt_f (by omega), List.drop_eq_nil_of_le (by omega)]; rfl
  | succ d ih =>
    intro n i hi hn
    obtain ⟨n, rfl⟩ : ∃ m, n = m + 1 := ⟨n - 1, by omega⟩
    have hlt : i < xs.length := by omega
    rw [L196_0_0, lt_t hlt, inb_t hlt, wrap_s (by omega), getDN_at xs i _ hlt, big_t (hx _ (List.getElem_mem hlt)), ih n (i + 1) (by omega) (by omega), List.drop_eq_getElem_cons hlt, List.all_cons]
    cases pathOk xs[i] <;> rfl
theorem L196b {R : Type} (f : ByteArray) (ts xs : List ByteArray) (k0 : Bool → Option R) (k1 : Unit → Option R) (hl : xs.length ≤ 2147483649) (hx : ∀ x ∈ xs, x.size ≤ 2147483648) : ∀ (d n i : Nat), i + d = xs.length → d < n →
    L196_2_0 n (i : Int) f ts xs k0 k1 = bif (xs.drop i).all textValid then k1 () else k0 false := by
  intro d
  induction d with
  | zero =>
    intro n i hi hn
    obtain ⟨n, rfl⟩ : ∃ m, n = m + 1 := ⟨n - 1, by omega⟩
    rw [L196_2_0, lt_f (by omega), List.drop_eq_nil_of_le (by omega)]; rfl
  | succ d ih =>
    intro n i hi hn
    obtain ⟨n, rfl⟩ : ∃ m, n = m + 1 := ⟨n - 1, by omega⟩
    have hlt : i < xs.length := by omega
    rw [L196_2_0, lt_t hlt, inb_t hlt, wrap_s (by omega), getDN_at xs i _ hlt, big_t (hx _ (List.getElem_mem hlt)), ih n (i + 1) (by omega) (by omega), List.drop_eq_getElem_cons hlt, List.all_cons]
    cases textValid xs[i] <;> rfl
theorem pl196 : ∀ (f : ByteArray) (to : List ByteArray) (ls : List ByteArray) res, (m196 [.agg [.sc (.string f), .list .str to, .list .str ls]]).val = some res → ∃ N, T196 N f to ls = some res := by
  intro f to ls res h
  obtain ⟨h1, h2⟩ := br_val h
  cases h2
  obtain ⟨hf, hto, hls⟩ := bigM_at h1
  obtain ⟨l1, x1⟩ := allBig_at hto
  obtain ⟨l2, x2⟩ := allBig_at hls
  refine ⟨2147483650, ?_⟩
  have key : ∀ k0 : Bool → Option RV, ∀ k1 : Unit → Option RV, L196_0_0 2147483650 (0 : Int) f to ls k0 (fun z2_0 z2_1 z2_2 => L196_2_0 2147483650 (0 : Int) z2_0 z2_1 z2_2 k0 k1) = bif to.all pathOk then (bif ls.all textValid then k1 () else k0 false) else k0 false := by
    intro k0 k1
    have e1 := L196a f to ls k0 (fun z2_0 z2_1 z2_2 => L196_2_0 2147483650 (0 : Int) z2_0 z2_1 z2_2 k0 k1) (by omega) x1 to.length 2147483650 0 (by omega) (by omega)
    have e2 := L196b f to ls k0 k1 (by omega) x2 ls.length 2147483650 0 (by omega) (by omega)
    rw [List.drop_zero] at e1 e2
    exact e1.trans (by rw [show ((0 : Nat) : Int) = 0 from rfl] at e2; rw [e2])
  unfold T196 draftOk fromOk textsOk
  rw [empty_iff, big_t hf, key, show decide ((0 : Int) ≤ (to.length : Int)) = true from decide_eq_true (by omega)]
  have e3 : decide ((to.length : Int) > (10 : Int)) = !decide ((to.length : Int) ≤ 10) := by rw [← decide_not]; exact decide_eq_decide.2 (by omega)
  have e4 : decide ((ls.length : Int) > (31 : Int)) = !decide ((ls.length : Int) ≤ 31) := by rw [← decide_not]; exact decide_eq_decide.2 (by omega)
  rw [e3, e4]
  cases decide (f = ⟨#[]⟩) <;> cases pathOk f <;> cases decide ((to.length : Int) ≤ 10) <;> cases decide ((ls.length : Int) ≤ 31) <;> cases to.all pathOk <;> cases ls.all textValid <;> rfl
theorem pl98 : ∀ (f : ByteArray) (to : List ByteArray) (ls : List ByteArray) res, (m98 [.agg [.sc (.string f), .list .str to, .list .str ls]]).val = some res → ∃ N, T98 N f to ls = some res := by
  intro f to ls res h
  obtain ⟨h1, h2⟩ := br_val h
  cases h2
  refine ⟨0, ?_⟩
  unfold T98 draftOk textsOk
  rw [h1, show decide ((0 : Int) ≤ (to.length : Int)) = true from decide_eq_true (by omega), show decide ((to.length : Int) > 0) = decide ((1 : Int) ≤ (to.length : Int)) from decide_eq_decide.2 (by omega)]
  have e : decide ((ls.length : Int) ≤ 30) = (decide ((ls.length : Int) ≤ 31) && decide ((ls.length : Int) ≤ 30)) := by
    rw [← Bool.decide_and]; exact decide_eq_decide.2 (by omega)
  rw [e]
  cases fromOk f <;> cases decide ((1 : Int) ≤ (to.length : Int)) <;> cases decide ((to.length : Int) ≤ 10) <;> cases decide ((ls.length : Int) ≤ 31) <;> cases decide ((ls.length : Int) ≤ 30) <;> cases to.all pathOk <;> cases ls.all textValid <;> rfl
theorem pl111 : ∀ (f : ByteArray) (to : List ByteArray) (ls : List ByteArray) (a : Int) (b : Int) res, (m111 [.agg [.sc (.string f), .list .str to, .list .str ls], .one (.sc (.int .i64 a)), .one (.sc (.int .i64 b))]).val = some res → ∃ N, T111 N f to ls a b = some res := by
  intro f to ls a b res h
  obtain ⟨h1, h2⟩ := br_val h
  cases h2
  obtain ⟨hf, hto, hls⟩ := bigM_at h1
  refine ⟨0, ?_⟩
  unfold T111 draftOk
  rw [big_t hf, hto, hls, show decide ((to.length : Int) ≥ a) = decide (a ≤ (to.length : Int)) from rfl]
  cases fromOk f <;> cases decide (a ≤ (to.length : Int)) <;> cases decide ((to.length : Int) ≤ 10) <;> cases to.all pathOk <;> cases textsOk ls b <;> rfl
theorem pl40 : ∀ (f : ByteArray) (to : List ByteArray) (ls : List ByteArray) res, (m40 [.agg [.sc (.string f), .list .str to, .list .str ls]]).val = some res → ∃ N, T40 N f to ls = some res := by
  intro f to ls res h
  obtain ⟨h1, h2⟩ := br_val h
  cases h2
  exact ⟨0, by unfold T40; rw [h1]; rfl⟩
theorem pl96 : ∀ (f : ByteArray) (to : List ByteArray) (ls : List ByteArray) res, (m96 [.agg [.sc (.string f), .list .str to, .list .str ls]]).val = some res → ∃ N, T96 N f to ls = some res := by
  intro f to ls res h
  obtain ⟨h1, h2⟩ := br_val h
  cases h2
  obtain ⟨hf, hto, hls⟩ := bigM_at h1
  exact ⟨0, by unfold T96; rw [decide_eq_true (allBig_at hto).1, decide_eq_true (allBig_at hls).1]; rfl⟩
theorem pl102 : ∀ (f : ByteArray) (to : List ByteArray) (ls : List ByteArray) res, (m102 [.agg [.sc (.string f), .list .str to, .list .str ls]]).val = some res → ∃ N, T102 N f to ls = some res := by
  intro f to ls res h
  obtain ⟨h1, h2⟩ := br_val h
  cases h2
  obtain ⟨hf, hto, hls⟩ := bigM_at h1
  have a := (allBig_at hto).1
  have b := (allBig_at hls).1
  exact ⟨0, by unfold T102; rw [Nat.ble_eq_true_of_le (by omega), Nat.ble_eq_true_of_le (by omega)]; rfl⟩

theorem cons_ext {xs ys : List ByteArray} (hl : xs.length = ys.length) (i : Nat) (h : i < xs.length) : (xs.drop i = ys.drop i) ↔ (xs[i] = ys[i]'(by omega) ∧ xs.drop (i + 1) = ys.drop (i + 1)) := by
  rw [List.drop_eq_getElem_cons h, List.drop_eq_getElem_cons (by omega : i < ys.length), List.cons.injEq]
theorem L103_eq {R : Type} (xs ys : List ByteArray) (k0 : Bool → Option R) (k1 : Unit → Option R) (hl : xs.length = ys.length) (hb : xs.length ≤ 2147483648) : ∀ (d n i : Nat), i + d = xs.length → d < n →
    L103_0_0 n xs ys (xs.length : Int) (i : Int) k0 k1 = bif decide (xs.drop i = ys.drop i) then k1 () else k0 false := by
  intro d
  induction d with
  | zero =>
    intro n i hi hn
    obtain ⟨n, rfl⟩ : ∃ m, n = m + 1 := ⟨n - 1, by omega⟩
    rw [L103_0_0, lt_f (by omega), List.drop_eq_nil_of_le (by omega), List.drop_eq_nil_of_le (by omega)]; rfl
  | succ d ih =>
    intro n i hi hn
    obtain ⟨n, rfl⟩ : ∃ m, n = m + 1 := ⟨n - 1, by omega⟩
    have hlt : i < xs.length := by omega
    rw [L103_0_0, lt_t hlt, inb_t hlt, inb_t (by omega), wrap_s (by omega), getDN_at xs i _ hlt, getDN_at ys i _ (by omega), eq_toList, ih n (i + 1) (by omega) (by omega)]
    rw [show decide (xs.drop i = ys.drop i) = (decide (xs[i] = ys[i]'(by omega)) && decide (xs.drop (i + 1) = ys.drop (i + 1))) from by rw [← Bool.decide_and]; exact decide_eq_decide.2 (cons_ext hl i hlt)]
    cases decide (xs[i] = ys[i]'(by omega)) <;> rfl
theorem pl103 : ∀ (xs : List ByteArray) (ys : List ByteArray) res, (m103 [.one (.list .str xs), .one (.list .str ys)]).val = some res → ∃ N, T103 N xs ys = some res := by
  intro xs ys res h
  obtain ⟨h1, h2⟩ := br_val h
  cases h2
  have hb := of_decide_eq_true h1
  refine ⟨xs.length + 1, ?_⟩
  unfold T103
  by_cases hl : xs.length = ys.length
  · rw [bne_f (by omega), cond_false]
    refine (L103_eq xs ys _ _ hl hb xs.length (xs.length + 1) 0 (by omega) (by omega)).trans ?_
    rw [List.drop_zero, List.drop_zero]
    cases decide (xs = ys) <;> rfl
  · rw [bne_t (by omega), decide_eq_false fun e => hl (by rw [e])]; rfl
theorem L38_eq {R : Type} (xs ys : List ByteArray) (k0 : Bool → Option R) (k1 : Unit → Option R) (hl : xs.length = ys.length) (hb : xs.length ≤ 2147483648) : ∀ (d n i : Nat), i + d = xs.length → d < n →
    L38_0_0 n xs ys (i : Int) k0 k1 = bif decide (xs.drop i = ys.drop i) then k1 () else k0 false := by
  intro d
  induction d with
  | zero =>
    intro n i hi hn
    obtain ⟨n, rfl⟩ : ∃ m, n = m + 1 := ⟨n - 1, by omega⟩
    rw [L38_0_0, lt_f (by omega), List.drop_eq_nil_of_le (by omega), List.drop_eq_nil_of_le (by omega)]; rfl
  | succ d ih =>
    intro n i hi hn
    obtain ⟨n, rfl⟩ : ∃ m, n = m + 1 := ⟨n - 1, by omega⟩
    have hlt : i < xs.length := by omega
    rw [L38_0_0, lt_t hlt, inb_t hlt, inb_t (by omega), wrap_s (by omega), getDN_at xs i _ hlt, getDN_at ys i _ (by omega), eq_toList, ih n (i + 1) (by omega) (by omega)]
    rw [show decide (xs.drop i = ys.drop i) = (decide (xs[i] = ys[i]'(by omega)) && decide (xs.drop (i + 1) = ys.drop (i + 1))) from by rw [← Bool.decide_and]; exact decide_eq_decide.2 (cons_ext hl i hlt)]
    cases decide (xs[i] = ys[i]'(by omega)) <;> rfl
theorem pl38 : ∀ (xs : List ByteArray) (ys : List ByteArray) res, (m38 [.one (.list .str xs), .one (.list .str ys)]).val = some res → ∃ N, T38 N xs ys = some res := by
  intro xs ys res h
  obtain ⟨h1, h2⟩ := br_val h
  cases h2
  have hb := of_decide_eq_true h1
  refine ⟨xs.length + 1, ?_⟩
  unfold T38
  by_cases hl : xs.length = ys.length
  · rw [bne_f (by omega), cond_false]
    refine (L38_eq xs ys _ _ hl hb xs.length (xs.length + 1) 0 (by omega) (by omega)).trans ?_
    rw [List.drop_zero, List.drop_zero]
    cases decide (xs = ys) <;> rfl
  · rw [bne_t (by omega), decide_eq_false fun e => hl (by rw [e])]; rfl
theorem pl30 : ∀ (f : ByteArray) (to : List ByteArray) (ls : List ByteArray) (g : ByteArray) (ti : List ByteArray) (ms : List ByteArray) res, (m30 [.agg [.sc (.string f), .list .str to, .list .str ls], .agg [.sc (.string g), .list .str ti, .list .str ms]]).val = some res → ∃ N, T30 N f to ls g ti ms = some res := by
  intro f to ls g ti ms res h
  obtain ⟨h1, h2, h3⟩ := br2_val h
  cases h3
  refine ⟨0, ?_⟩
  unfold T30
  rw [h1, h2, eq_toList]
  cases decide (f = g) <;> cases decide (to = ti) <;> rfl

theorem take_lower (s : ByteArray) (n : Nat) : lowerText (s.extract 0 n) = (lowerText s).extract 0 n := by
  apply bl_inj
  rw [bl_lower, bl_extract, bl_extract, bl_lower, List.drop_zero, List.drop_zero, List.map_take]
theorem pl200 : ∀ (s : ByteArray) res, (m200 [.one (.sc (.string s))]).val = some res → ∃ N, T200 N s = some res := by
  intro s res h
  obtain ⟨h1, h2⟩ := br_val h
  cases h2
  have hs := big_of h1
  refine ⟨0, ?_⟩
  unfold T200 isHop hasPre
  have hr : recvd.size = 9 := rfl
  have hlow : lowerText (⟨#[82, 101, 99, 101, 105, 118, 101, 100, 58]⟩ : ByteArray) = recvd := by apply bl_inj; rw [bl_lower]; decide
  rw [show cutS s none (some (9 : Int)) = s.extract 0 9 from cutS_to s 9, lower_size, hr]
  by_cases h9 : 9 ≤ s.size
  · have := ext_size s 0 9
    rw [show decide ((s.size : Int) ≥ (9 : Int)) = true from decide_eq_true (by omega), show cutOk s.size none (some (9 : Int)) = true from cutOk_to (b := 9) h9, big_t (by omega), decide_eq_true h9]
    unfold sameText
    rw [take_lower, hlow]; rfl
  · rw [show decide ((s.size : Int) ≥ (9 : Int)) = false from decide_eq_false (by omega), decide_eq_false h9]; rfl

theorem wrap_n {n : Int} (h0 : 0 ≤ n) (h : n < 9223372036854775807) : IntKind.i64.wrap (n + (1 : Int)) = n + 1 := wrap_id (by omega) (by omega)
theorem L101_eq {R : Type} (xs : List ByteArray) (k0 : Int → Option R) (hl : xs.length ≤ 2147483648) (hx : ∀ x ∈ xs, x.size ≤ 2147483648) : ∀ (d n i : Nat) (c : Int), i + d = xs.length → d < n → 0 ≤ c → c ≤ i →
    L101_0_0 n xs c (i : Int) k0 = k0 (c + hopsOf (xs.drop i)) := by
  intro d
  induction d with
  | zero =>
    intro n i c hi hn h0 hc
    obtain ⟨n, rfl⟩ : ∃ m, n = m + 1 := ⟨n - 1, by omega⟩
    rw [L101_0_0, lt_f (by omega), List.drop_eq_nil_of_le (by omega)]
    show k0 c = k0 (c + 0)
    rw [Int.add_zero]
  | succ d ih =>
    intro n i c hi hn h0 hc
    obtain ⟨n, rfl⟩ : ∃ m, n = m + 1 := ⟨n - 1, by omega⟩
    have hlt : i < xs.length := by omega
    rw [L101_0_0, lt_t hlt, inb_t hlt, wrap_s (by omega), wrap_n h0 (by omega), getDN_at xs i _ hlt, big_t (hx _ (List.getElem_mem hlt)), empty_iff, ih n (i + 1) c (by omega) (by omega) h0 (by omega), ih n (i + 1) (c + 1) (by omega) (by omega) (by omega) (by omega), List.drop_eq_getElem_cons hlt, hopsOf]
    by_cases he : xs[i] = ⟨#[]⟩
    · rw [decide_eq_true he, if_pos he, Int.add_zero]; rfl
    · rw [decide_eq_false he, if_neg he]
      cases isHop xs[i]
      · simp
      · simp only [if_true, ← Int.add_assoc]; rfl
theorem pl101 : ∀ (ls : List ByteArray) res, (m101 [.one (.list .str ls)]).val = some res → ∃ N, T101 N ls = some res := by
  intro ls res h
  obtain ⟨h1, h2⟩ := br_val h
  cases h2
  obtain ⟨hl, hx⟩ := allBig_at h1
  refine ⟨ls.length + 1, ?_⟩
  unfold T101
  refine (L101_eq ls _ hl hx ls.length (ls.length + 1) 0 0 (by omega) (by omega) (by omega) (by omega)).trans ?_
  rw [List.drop_zero, Int.zero_add]
theorem L95_eq {R : Type} (xs : List ByteArray) (k0 : Int → Option R) (hl : xs.length ≤ 2147483648) (hx : ∀ x ∈ xs, x.size ≤ 2147483648) : ∀ (d n i : Nat) (c : Int), i + d = xs.length → d < n → 0 ≤ c → c ≤ i →
    L95_0_0 n c xs (xs.length : Int) (i : Int) k0 = k0 (c + hopsOf (xs.drop i)) := by
  intro d
  induction d with
  | zero =>
    intro n i c hi hn h0 hc
    obtain ⟨n, rfl⟩ : ∃ m, n = m + 1 := ⟨n - 1, by omega⟩
    rw [L95_0_0, lt_f (by omega), List.drop_eq_nil_of_le (by omega)]
    show k0 c = k0 (c + 0)
    rw [Int.add_zero]
  | succ d ih =>
    intro n i c hi hn h0 hc
    obtain ⟨n, rfl⟩ : ∃ m, n = m + 1 := ⟨n - 1, by omega⟩
    have hlt : i < xs.length := by omega
    rw [L95_0_0, lt_t hlt, inb_t hlt, wrap_s (by omega), wrap_n h0 (by omega), getDN_at xs i _ hlt, big_t (hx _ (List.getElem_mem hlt)), empty_iff, ih n (i + 1) c (by omega) (by omega) h0 (by omega), ih n (i + 1) (c + 1) (by omega) (by omega) (by omega) (by omega), List.drop_eq_getElem_cons hlt, hopsOf]
    rw [show hasPre (lowerText xs[i]) (⟨#[114, 101, 99, 101, 105, 118, 101, 100, 58]⟩ : ByteArray) = isHop xs[i] from rfl]
    by_cases he : xs[i] = ⟨#[]⟩
    · rw [decide_eq_true he, if_pos he, Int.add_zero]; rfl
    · rw [decide_eq_false he, if_neg he]
      cases isHop xs[i]
      · simp
      · simp only [if_true, ← Int.add_assoc]; rfl
theorem pl95 : ∀ (f : ByteArray) (to : List ByteArray) (ls : List ByteArray) res, (m95 [.agg [.sc (.string f), .list .str to, .list .str ls]]).val = some res → ∃ N, T95 N f to ls = some res := by
  intro f to ls res h
  obtain ⟨h1, h2⟩ := br_val h
  cases h2
  obtain ⟨hl, hx⟩ := allBig_at h1
  refine ⟨ls.length + 1, ?_⟩
  unfold T95
  refine (L95_eq ls _ hl hx ls.length (ls.length + 1) 0 0 (by omega) (by omega) (by omega) (by omega)).trans ?_
  rw [List.drop_zero, Int.zero_add]
theorem pl39 : ∀ (f : ByteArray) (to : List ByteArray) (ls : List ByteArray) res, (m39 [.agg [.sc (.string f), .list .str to, .list .str ls]]).val = some res → ∃ N, T39 N f to ls = some res := by
  intro f to ls res h
  obtain ⟨h1, h2⟩ := br_val h
  cases h2
  refine ⟨0, ?_⟩
  unfold T39
  rw [h1, (bigM_at h1).2.2]
  cases draftOk f to ls 1 30 <;> rfl
end Go.Iv
