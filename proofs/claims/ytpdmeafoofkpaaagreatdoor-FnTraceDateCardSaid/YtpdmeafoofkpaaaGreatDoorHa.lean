/- Texts of this proof, joined: Sp1 Pu1 Pl1 Sp2 Pu2 Pl2 Sp3 Ph1. -/
import Derived.Test.YtpdmeafoofkpaaaGreatDoorGh
import Derived.Lib.Split
import Derived.Lib.CutLaws
set_option linter.unusedVariables false
set_option linter.unusedSimpArgs false
/- What the functions on texts compute. -/
namespace Go.Iv

abbrev bl (s : ByteArray) : List UInt8 := s.data.toList
abbrev ub (b : UInt8) : Int := (b.toNat : Int)
def allFrom (p : Int → Bool) (s : ByteArray) (i : Nat) : Bool := ((bl s).drop i).all fun b => p (ub b)
def textByte (c : Int) : Bool := decide (32 ≤ c) && decide (c ≤ 126)
def textValid (s : ByteArray) : Bool := allFrom textByte s 0 && decide (s.size ≤ 200)
def letter (c : Int) : Bool := (decide (97 ≤ c) && decide (c ≤ 122)) || (decide (65 ≤ c) && decide (c ≤ 90))
def digit (c : Int) : Bool := decide (48 ≤ c) && decide (c ≤ 57)
def atomByte (c : Int) : Bool := letter c || (digit c || (decide (c = 33) || ((decide (35 ≤ c) && decide (c ≤ 39)) || (decide (c = 42) || (decide (c = 43) || (decide (c = 45) || (decide (c = 47) || (decide (c = 61) || (decide (c = 63) ||
  ((decide (94 ≤ c) && decide (c ≤ 96)) || (decide (123 ≤ c) && decide (c ≤ 126))))))))))))
def labelByte (c : Int) : Bool := (decide (97 ≤ c) && decide (c ≤ 122)) || (digit c || decide (c = 45))
def atomValid (s : ByteArray) : Bool := decide (1 ≤ s.size) && (decide (s.size ≤ 40) && allFrom atomByte s 0)
def lowI (c : Int) : Int := if 65 ≤ c ∧ c ≤ 90 then c + 32 else c
def lowerText (s : ByteArray) : ByteArray := strOfNums ((bytesOf s).map lowI)
def sameText (a b : ByteArray) : Bool := decide (lowerText a = lowerText b)

theorem bl_len (s : ByteArray) : (bl s).length = s.size := Array.length_toList
theorem bt_nat (s : ByteArray) (i : Nat) (h : i < s.size) : bt s (i : Int) = ub ((bl s)[i]'(by rw [bl_len]; exact h)) := by
  unfold bt
  rw [Int.toNat_natCast, List.getD_eq_getElem?_getD, List.getElem?_eq_getElem (by rw [bl_len]; exact h)]; rfl
theorem bt_range (s : ByteArray) (i : Int) : 0 ≤ bt s i ∧ bt s i ≤ 255 := by
  unfold bt
  have := UInt8.toNat_lt (List.getD s.data.toList i.toNat 0)
  omega
theorem allFrom_step (p : Int → Bool) (s : ByteArray) (i : Nat) (h : i < s.size) : allFrom p s i = (p (bt s (i : Int)) && allFrom p s (i + 1)) := by
  have hl : i < (bl s).length := by rw [bl_len]; exact h
  unfold allFrom
  rw [List.drop_eq_getElem_cons hl, List.all_cons, bt_nat s i h]
theorem allFrom_end (p : Int → Bool) (s : ByteArray) (i : Nat) (h : s.size ≤ i) : allFrom p s i = true := by
  unfold allFrom
  rw [List.drop_eq_nil_of_le (by rw [bl_len]; exact h)]; rfl
theorem inb_t {i n : Nat} (h : i < n) : inb (i : Int) n = true := by simp [inb, h]
theorem lt_t {i n : Nat} (h : i < n) : decide ((i : Int) < (n : Int)) = true := by simp [h]
theorem lt_f {i n : Nat} (h : ¬ i < n) : decide ((i : Int) < (n : Int)) = false := by simp; omega
theorem wrap_s {i : Nat} (h : i < 9223372036854775807) : IntKind.i64.wrap ((i : Int) + (1 : Int)) = ((i + 1 : Nat) : Int) := by
  rw [wrap_id (by omega) (by omega)]; simp
theorem eq_toList (a b : ByteArray) : (a.toList == b.toList) = decide (a = b) := by
  by_cases h : a = b
  · subst h; simp
  · have : a.toList ≠ b.toList := fun e => h (by
      have e1 : a.data.toList = b.data.toList := by simpa [ByteArray.toList_eq] using e
      cases a; cases b; simp_all)
    simp [h, this]
end Go.Iv

/- What functions come to. -/
namespace Go.Iv
set_option maxRecDepth 4000
noncomputable def m133 : List AV → CT
  | [.one (.sc (.string s))] => (.br (decide (((s).size : Int) ≤ 2147483648)) (.ret (.one (.one (.fc (.sc (.bool (textValid s))))))) .no)
  | _ => .no
/-! 133: impl.TextValid -/
def L133_0_0 {R : Type} : Nat → ByteArray → Int → Int → (Bool → Option R) → (ByteArray → Option R) → Option R
  | 0, _, _, _, _, _ => none
  | n + 1, x0, x1, x2, k0, k1 => (bif (decide (x2 < x1)) then
    (bif (inb x2 (x0).size) then
      (bif (decide ((bt x0 x2) < (32 : Int))) then
        (k0 false)
        else
        (bif (inb x2 (x0).size) then
          (bif (decide ((bt x0 x2) > (126 : Int))) then
            (k0 false)
            else
            (L133_0_0 n x0 x1 (IntKind.i64.wrap (x2 + (1 : Int))) k0 k1))
          else none))
      else none)
    else
    (k1 x0))
def T133 (N : Nat) (s : ByteArray) : Option RV :=
  (L133_0_0 N s ((s).size : Int) (0 : Int)
  (fun (z1_0 : Bool) => some (.one (.one (.fc (.sc (.bool z1_0))))))
  (fun (z2_0 : ByteArray) => some (.one (.one (.fc (.sc (.bool (decide (((z2_0).size : Int) ≤ (200 : Int))))))))))
noncomputable def m134 : List AV → CT
  | [.one (.sc (.string s))] => (.br (decide (((s).size : Int) ≤ 2147483648)) (.ret (.one (.one (.fc (.sc (.bool (textValid s))))))) .no)
  | _ => .no
/-! 134: spec.TextValid -/
def L134_0_0 {R : Type} : Nat → ByteArray → Int → (Bool → Option R) → (ByteArray → Option R) → Option R
  | 0, _, _, _, _ => none
  | n + 1, x0, x1, k0, k1 => (bif (decide (x1 < ((x0).size : Int))) then
    (bif (decide (x1 ≤ (200 : Int))) then
      (bif (inb x1 (x0).size) then
        (bif (decide ((bt x0 x1) < (32 : Int))) then
          (k0 false)
          else
          (bif (inb x1 (x0).size) then
            (bif (decide ((bt x0 x1) > (126 : Int))) then
              (k0 false)
              else
              (L134_0_0 n x0 (IntKind.i64.wrap (x1 + (1 : Int))) k0 k1))
            else none))
        else none)
      else
      (k1 x0))
    else
    (k1 x0))
def T134 (N : Nat) (s : ByteArray) : Option RV :=
  (L134_0_0 N s (0 : Int)
  (fun (z1_0 : Bool) => some (.one (.one (.fc (.sc (.bool z1_0))))))
  (fun (z2_0 : ByteArray) => some (.one (.one (.fc (.sc (.bool (decide (((z2_0).size : Int) ≤ (200 : Int))))))))))
noncomputable def m280 : List AV → CT
  | [.one (.sc (.int .u8 c))] => (.ret (.one (.one (.fc (.sc (.bool (letter c)))))))
  | _ => .no
/-! 280: impl.isLetter -/
def T280 (N : Nat) (c : Int) : Option RV :=
  (bif (decide (c ≥ (97 : Int))) then
  (bif (decide (c ≤ (122 : Int))) then
    some (.one (.one (.fc (.sc (.bool true)))))
    else
    (bif (decide (c ≥ (65 : Int))) then
      some (.one (.one (.fc (.sc (.bool (decide (c ≤ (90 : Int))))))))
      else
      some (.one (.one (.fc (.sc (.bool false)))))))
  else
  (bif (decide (c ≥ (65 : Int))) then
    some (.one (.one (.fc (.sc (.bool (decide (c ≤ (90 : Int))))))))
    else
    some (.one (.one (.fc (.sc (.bool false)))))))
noncomputable def m274 : List AV → CT
  | [.one (.sc (.int .u8 c))] => (.ret (.one (.one (.fc (.sc (.bool (digit c)))))))
  | _ => .no
/-! 274: impl.isDigit -/
def T274 (N : Nat) (c : Int) : Option RV :=
  (bif (decide (c ≥ (48 : Int))) then
  some (.one (.one (.fc (.sc (.bool (decide (c ≤ (57 : Int))))))))
  else
  some (.one (.one (.fc (.sc (.bool false))))))
noncomputable def m229 : List AV → CT
  | [.one (.sc (.int .u8 c))] => (.ret (.one (.one (.fc (.sc (.bool (atomByte c)))))))
  | _ => .no
/-! 229: impl.isAtomByte -/
def T229 (N : Nat) (c : Int) : Option RV :=
  (bif (letter c) then
  some (.one (.one (.fc (.sc (.bool true)))))
  else
  (bif (digit c) then
    some (.one (.one (.fc (.sc (.bool true)))))
    else
    (bif (c == (33 : Int)) then
      some (.one (.one (.fc (.sc (.bool true)))))
      else
      (bif (decide (c ≥ (35 : Int))) then
        (bif (decide (c ≤ (39 : Int))) then
          some (.one (.one (.fc (.sc (.bool true)))))
          else
          (bif (c == (42 : Int)) then
            some (.one (.one (.fc (.sc (.bool true)))))
            else
            (bif (c == (43 : Int)) then
              some (.one (.one (.fc (.sc (.bool true)))))
              else
              (bif (c == (45 : Int)) then
                some (.one (.one (.fc (.sc (.bool true)))))
                else
                (bif (c == (47 : Int)) then
                  some (.one (.one (.fc (.sc (.bool true)))))
                  else
                  (bif (c == (61 : Int)) then
                    some (.one (.one (.fc (.sc (.bool true)))))
                    else
                    (bif (c == (63 : Int)) then
                      some (.one (.one (.fc (.sc (.bool true)))))
                      else
                      (bif (decide (c ≥ (94 : Int))) then
                        (bif (decide (c ≤ (96 : Int))) then
                          some (.one (.one (.fc (.sc (.bool true)))))
                          else
                          (bif (decide (c ≥ (123 : Int))) then
                            some (.one (.one (.fc (.sc (.bool (decide (c ≤ (126 : Int))))))))
                            else
                            some (.one (.one (.fc (.sc (.bool false)))))))
                        else
                        (bif (decide (c ≥ (123 : Int))) then
                          some (.one (.one (.fc (.sc (.bool (decide (c ≤ (126 : Int))))))))
                          else
                          some (.one (.one (.fc (.sc (.bool false))))))))))))))
        else
        (bif (c == (42 : Int)) then
          some (.one (.one (.fc (.sc (.bool true)))))
          else
          (bif (c == (43 : Int)) then
            some (.one (.one (.fc (.sc (.bool true)))))
            else
            (bif (c == (45 : Int)) then
              some (.one (.one (.fc (.sc (.bool true)))))
              else
              (bif (c == (47 : Int)) then
                some (.one (.one (.fc (.sc (.bool true)))))
                else
                (bif (c == (61 : Int)) then
                  some (.one (.one (.fc (.sc (.bool true)))))
                  else
                  (bif (c == (63 : Int)) then
                    some (.one (.one (.fc (.sc (.bool true)))))
                    else
                    (bif (decide (c ≥ (94 : Int))) then
                      (bif (decide (c ≤ (96 : Int))) then
                        some (.one (.one (.fc (.sc (.bool true)))))
                        else
                        (bif (decide (c ≥ (123 : Int))) then
                          some (.one (.one (.fc (.sc (.bool (decide (c ≤ (126 : Int))))))))
                          else
                          some (.one (.one (.fc (.sc (.bool false)))))))
                      else
                      (bif (decide (c ≥ (123 : Int))) then
                        some (.one (.one (.fc (.sc (.bool (decide (c ≤ (126 : Int))))))))
                        else
                        some (.one (.one (.fc (.sc (.bool false)))))))))))))))))
noncomputable def m197 : List AV → CT
  | [.one (.sc (.int .u8 c))] => (.ret (.one (.one (.fc (.sc (.bool (letter c || digit c)))))))
  | _ => .no
/-! 197: spec.l1Letter -/
def T197 (N : Nat) (c : Int) : Option RV :=
  (bif (decide (c ≥ (97 : Int))) then
  (bif (decide (c ≤ (122 : Int))) then
    some (.one (.one (.fc (.sc (.bool true)))))
    else
    (bif (decide (c ≥ (65 : Int))) then
      (bif (decide (c ≤ (90 : Int))) then
        some (.one (.one (.fc (.sc (.bool true)))))
        else
        (bif (decide (c ≥ (48 : Int))) then
          some (.one (.one (.fc (.sc (.bool (decide (c ≤ (57 : Int))))))))
          else
          some (.one (.one (.fc (.sc (.bool false)))))))
      else
      (bif (decide (c ≥ (48 : Int))) then
        some (.one (.one (.fc (.sc (.bool (decide (c ≤ (57 : Int))))))))
        else
        some (.one (.one (.fc (.sc (.bool false))))))))
  else
  (bif (decide (c ≥ (65 : Int))) then
    (bif (decide (c ≤ (90 : Int))) then
      some (.one (.one (.fc (.sc (.bool true)))))
      else
      (bif (decide (c ≥ (48 : Int))) then
        some (.one (.one (.fc (.sc (.bool (decide (c ≤ (57 : Int))))))))
        else
        some (.one (.one (.fc (.sc (.bool false)))))))
    else
    (bif (decide (c ≥ (48 : Int))) then
      some (.one (.one (.fc (.sc (.bool (decide (c ≤ (57 : Int))))))))
      else
      some (.one (.one (.fc (.sc (.bool false))))))))
noncomputable def m232 : List AV → CT
  | [.one (.sc (.int .u8 c))] => (.ret (.one (.one (.fc (.sc (.bool (atomByte c)))))))
  | _ => .no
/-! 232: spec.l1Atom -/
def L232_0_0 {R : Type} : Nat → Int → Int → (Bool → Option R) → (Int → Option R) → Option R
  | 0, _, _, _, _ => none
  | n + 1, x0, x1, k0, k1 => (bif (decide (x1 < (19 : Int))) then
    (bif (inb x1 ((⟨#[33, 35, 36, 37, 38, 39, 42, 43, 45, 47, 61, 63, 94, 95, 96, 123, 124, 125, 126]⟩ : ByteArray)).size) then
      (bif (x0 == (bt (⟨#[33, 35, 36, 37, 38, 39, 42, 43, 45, 47, 61, 63, 94, 95, 96, 123, 124, 125, 126]⟩ : ByteArray) x1)) then
        (k0 true)
        else
        (L232_0_0 n x0 (IntKind.i64.wrap (x1 + (1 : Int))) k0 k1))
      else none)
    else
    (k1 x0))
def T232 (N : Nat) (c : Int) : Option RV :=
  (L232_0_0 N c (0 : Int)
  (fun (z1_0 : Bool) => some (.one (.one (.fc (.sc (.bool z1_0))))))
  (fun (z2_0 : Int) => some (.one (.one (.fc (.sc (.bool (letter z2_0 || digit z2_0))))))))
noncomputable def m273 : List AV → CT
  | [.one (.sc (.int .u8 c))] => (.ret (.one (.one (.fc (.sc (.bool (labelByte c)))))))
  | _ => .no
/-! 273: impl.isLabel$1 -/
def T273 (N : Nat) (c : Int) : Option RV :=
  (bif (decide (c ≥ (97 : Int))) then
  (bif (decide (c ≤ (122 : Int))) then
    some (.one (.one (.fc (.sc (.bool true)))))
    else
    (bif (digit c) then
      some (.one (.one (.fc (.sc (.bool true)))))
      else
      some (.one (.one (.fc (.sc (.bool (c == (45 : Int)))))))))
  else
  (bif (digit c) then
    some (.one (.one (.fc (.sc (.bool true)))))
    else
    some (.one (.one (.fc (.sc (.bool (c == (45 : Int)))))))))
noncomputable def m272v0 : List AV → CT
  | [.one (.sc (.string s)), .one (.sc (.func (.func 229) f0a f0b))] => (funE f0a f0b (.br (decide (((s).size : Int) ≤ 2147483648)) (.ret (.one (.one (.fc (.sc (.bool (allFrom atomByte s 0))))))) .no))
  | _ => .no
/-! 272: impl.allBytes -/
def L272v0_0_0 {R : Type} : Nat → ByteArray → Int → Int → (Bool → Option R) → (Unit → Option R) → Option R
  | 0, _, _, _, _, _ => none
  | n + 1, x0, x1, x2, k0, k1 => (bif (decide (x2 < x1)) then
    (bif (inb x2 (x0).size) then
      (bif (!(atomByte (bt x0 x2))) then
        (k0 false)
        else
        (L272v0_0_0 n x0 x1 (IntKind.i64.wrap (x2 + (1 : Int))) k0 k1))
      else none)
    else
    (k1 ()))
def T272v0 (N : Nat) (s : ByteArray) : Option RV :=
  (L272v0_0_0 N s ((s).size : Int) (0 : Int)
  (fun (z1_0 : Bool) => some (.one (.one (.fc (.sc (.bool z1_0))))))
  (fun (_ : Unit) => some (.one (.one (.fc (.sc (.bool true)))))))
noncomputable def m272v1 : List AV → CT
  | [.one (.sc (.string s)), .one (.sc (.func (.func 274) f0a f0b))] => (funE f0a f0b (.br (decide (((s).size : Int) ≤ 2147483648)) (.ret (.one (.one (.fc (.sc (.bool (allFrom digit s 0))))))) .no))
  | _ => .no
/-! 272: impl.allBytes -/
def L272v1_0_0 {R : Type} : Nat → ByteArray → Int → Int → (Bool → Option R) → (Unit → Option R) → Option R
  | 0, _, _, _, _, _ => none
  | n + 1, x0, x1, x2, k0, k1 => (bif (decide (x2 < x1)) then
    (bif (inb x2 (x0).size) then
      (bif (!(digit (bt x0 x2))) then
        (k0 false)
        else
        (L272v1_0_0 n x0 x1 (IntKind.i64.wrap (x2 + (1 : Int))) k0 k1))
      else none)
    else
    (k1 ()))
def T272v1 (N : Nat) (s : ByteArray) : Option RV :=
  (L272v1_0_0 N s ((s).size : Int) (0 : Int)
  (fun (z1_0 : Bool) => some (.one (.one (.fc (.sc (.bool z1_0))))))
  (fun (_ : Unit) => some (.one (.one (.fc (.sc (.bool true)))))))
noncomputable def m272v2 : List AV → CT
  | [.one (.sc (.string s)), .one (.sc (.func (.func 273) f0a f0b))] => (funE f0a f0b (.br (decide (((s).size : Int) ≤ 2147483648)) (.ret (.one (.one (.fc (.sc (.bool (allFrom labelByte s 0))))))) .no))
  | _ => .no
/-! 272: impl.allBytes -/
def L272v2_0_0 {R : Type} : Nat → ByteArray → Int → Int → (Bool → Option R) → (Unit → Option R) → Option R
  | 0, _, _, _, _, _ => none
  | n + 1, x0, x1, x2, k0, k1 => (bif (decide (x2 < x1)) then
    (bif (inb x2 (x0).size) then
      (bif (!(labelByte (bt x0 x2))) then
        (k0 false)
        else
        (L272v2_0_0 n x0 x1 (IntKind.i64.wrap (x2 + (1 : Int))) k0 k1))
      else none)
    else
    (k1 ()))
def T272v2 (N : Nat) (s : ByteArray) : Option RV :=
  (L272v2_0_0 N s ((s).size : Int) (0 : Int)
  (fun (z1_0 : Bool) => some (.one (.one (.fc (.sc (.bool z1_0))))))
  (fun (_ : Unit) => some (.one (.one (.fc (.sc (.bool true)))))))
noncomputable def m233 : List AV → CT
  | [.one (.sc (.string s))] => (.br (decide (((s).size : Int) ≤ 2147483648)) (.ret (.one (.one (.fc (.sc (.bool (atomValid s))))))) .no)
  | _ => .no
/-! 233: impl.AtomValid -/
def T233 (N : Nat) (s : ByteArray) : Option RV :=
  (bif (decide (((s).size : Int) ≥ (1 : Int))) then
  (bif (decide (((s).size : Int) ≤ (40 : Int))) then
    (bif (decide (((s).size : Int) ≤ 2147483648)) then
      some (.one (.one (.fc (.sc (.bool (allFrom atomByte s 0))))))
      else none)
    else
    some (.one (.one (.fc (.sc (.bool false))))))
  else
  some (.one (.one (.fc (.sc (.bool false))))))
noncomputable def m285 : List AV → CT
  | [.one (.sc (.string s))] => (.br (decide (((s).size : Int) ≤ 2147483648)) (.ret (.one (.one (.fc (.sc (.bool (atomValid s))))))) .no)
  | _ => .no
/-! 285: spec.AtomValid -/
def L285_0_0 {R : Type} : Nat → ByteArray → Int → (Bool → Option R) → (ByteArray → Option R) → Option R
  | 0, _, _, _, _ => none
  | n + 1, x0, x1, k0, k1 => (bif (decide (x1 < ((x0).size : Int))) then
    (bif (decide (x1 ≤ (40 : Int))) then
      (bif (inb x1 (x0).size) then
        (bif (!(atomByte (bt x0 x1))) then
          (k0 false)
          else
          (L285_0_0 n x0 (IntKind.i64.wrap (x1 + (1 : Int))) k0 k1))
        else none)
      else
      (k1 x0))
    else
    (k1 x0))
def T285 (N : Nat) (s : ByteArray) : Option RV :=
  (L285_0_0 N s (0 : Int)
  (fun (z1_0 : Bool) => some (.one (.one (.fc (.sc (.bool z1_0))))))
  (fun (z2_0 : ByteArray) => (bif (decide (((z2_0).size : Int) ≥ (1 : Int))) then
    some (.one (.one (.fc (.sc (.bool (decide (((z2_0).size : Int) ≤ (40 : Int))))))))
    else
    some (.one (.one (.fc (.sc (.bool false))))))))
noncomputable def m154 : List AV → CT
  | [.one (.sc (.string s))] => (.br (decide (((s).size : Int) ≤ 2147483648)) (.ret (.one (.one (.fc (.sc (.string (lowerText s))))))) .no)
  | _ => .no
/-! 154: impl.LowerText -/
def L154_0_0 {R : Type} : Nat → Int → Int → List Int → (List Int → Option R) → Option R
  | 0, _, _, _, _ => none
  | n + 1, x0, x1, x2, k0 => (bif (decide (x1 < x0)) then
    (bif (inb x1 (x2).length) then
      (bif (decide (((x2).getD (x1).toNat 0) ≥ (65 : Int))) then
        (bif (decide (((x2).getD (x1).toNat 0) ≤ (90 : Int))) then
          (bif (inb x1 (x2).length) then
            (bif (inb x1 (x2).length) then
              (L154_0_0 n x0 (IntKind.i64.wrap (x1 + (1 : Int))) (x2.set (x1).toNat (IntKind.u8.wrap (((x2).getD (x1).toNat 0) + (32 : Int)))) k0)
              else none)
            else none)
          else
          (L154_0_0 n x0 (IntKind.i64.wrap (x1 + (1 : Int))) x2 k0))
        else
        (L154_0_0 n x0 (IntKind.i64.wrap (x1 + (1 : Int))) x2 k0))
      else none)
    else
    (k0 x2))
def T154 (N : Nat) (s : ByteArray) : Option RV :=
  (bif (Nat.ble (s).size 9223372036854775807) then
  (L154_0_0 N (((bytesOf s)).length : Int) (0 : Int) (bytesOf s)
    (fun (z1_0 : List Int) => some (.one (.one (.fc (.sc (.string (strOfNums z1_0))))))))
  else none)
noncomputable def m156 : List AV → CT
  | [.one (.sc (.string s))] => (.br (decide (((s).size : Int) ≤ 2147483648)) (.ret (.one (.one (.fc (.sc (.string (lowerText s))))))) .no)
  | _ => .no
/-! 156: spec.LowerText -/
def L156_0_0 {R : Type} : Nat → Int → List Int → (List Int → Option R) → Option R
  | 0, _, _, _ => none
  | n + 1, x0, x1, k0 => (bif (decide (x0 < ((x1).length : Int))) then
    (bif (inb x0 (x1).length) then
      (bif (decide (((x1).getD (x0).toNat 0) ≥ (65 : Int))) then
        (bif (inb x0 (x1).length) then
          (bif (decide (((x1).getD (x0).toNat 0) ≤ (90 : Int))) then
            (bif (inb x0 (x1).length) then
              (bif (inb x0 (x1).length) then
                (L156_0_0 n (IntKind.i64.wrap (x0 + (1 : Int))) (x1.set (x0).toNat (IntKind.u8.wrap (((x1).getD (x0).toNat 0) + (32 : Int)))) k0)
                else none)
              else none)
            else
            (L156_0_0 n (IntKind.i64.wrap (x0 + (1 : Int))) x1 k0))
          else none)
        else
        (L156_0_0 n (IntKind.i64.wrap (x0 + (1 : Int))) x1 k0))
      else none)
    else
    (k0 x1))
def T156 (N : Nat) (s : ByteArray) : Option RV :=
  (bif (Nat.ble (s).size 9223372036854775807) then
  (L156_0_0 N (0 : Int) (bytesOf s)
    (fun (z1_0 : List Int) => some (.one (.one (.fc (.sc (.string (strOfNums z1_0))))))))
  else none)
noncomputable def m278 : List AV → CT
  | [.one (.sc (.string a)), .one (.sc (.string b))] => (.br (decide (((a).size : Int) ≤ 2147483648) && decide (((b).size : Int) ≤ 2147483648)) (.ret (.one (.one (.fc (.sc (.bool (sameText a b))))))) .no)
  | _ => .no
/-! 278: spec.SameText -/
def T278 (N : Nat) (a : ByteArray) (b : ByteArray) : Option RV :=
  (bif (decide (((a).size : Int) ≤ 2147483648)) then
  (bif (decide (((b).size : Int) ≤ 2147483648)) then
    some (.one (.one (.fc (.sc (.bool ((lowerText a).toList == (lowerText b).toList))))))
    else none)
  else none)
end Go.Iv

/- ... and that it is what was said. -/
namespace Go.Iv

theorem cond_iteB {α : Type} (c : Bool) (a b : α) : (bif c then a else b) = if c = true then a else b := by cases c <;> rfl
/-- from a contract's value -/
theorem br_val {c : Bool} {a : CT} {res : RV} (h : (CT.br c a .no).val = some res) : c = true ∧ a.val = some res := by
  cases c with
  | true => exact ⟨rfl, h⟩
  | false => cases h
theorem brP_val {c : Bool} {a : CTP} {res : RV × List RC} (h : (CTP.br c a .no).val = some res) : c = true ∧ a.val = some res := by
  cases c with
  | true => exact ⟨rfl, h⟩
  | false => cases h

theorem L133_eq {R : Type} (s : ByteArray) (k0 : Bool → Option R) (k1 : ByteArray → Option R) (hs : s.size ≤ 2147483648) : ∀ (d n i : Nat), i + d = s.size → d < n →
    L133_0_0 n s (s.size : Int) (i : Int) k0 k1 = bif allFrom textByte s i then k1 s else k0 false := by
  intro d
  induction d with
  | zero =>
    intro n i hi hn
    obtain ⟨n, rfl⟩ : ∃ m, n = m + 1 := ⟨n - 1, by omega⟩
    rw [L133_0_0, lt_f (by omega), allFrom_end _ _ _ (by omega)]; rfl
  | succ d ih =>
    intro n i hi hn
    obtain ⟨n, rfl⟩ : ∃ m, n = m + 1 := ⟨n - 1, by omega⟩
    rw [L133_0_0, lt_t (by omega), inb_t (by omega), wrap_s (by omega), ih n (i + 1) (by omega) (by omega), allFrom_step textByte s i (by omega)]
    unfold textByte
    by_cases h1 : bt s i < 32
    · simp [h1, show ¬ (32 ≤ bt s i) by omega]
    · by_cases h2 : bt s i > 126
      · simp [h1, h2, show ¬ (bt s i ≤ 126) by omega]
      · simp [h1, h2, show 32 ≤ bt s i by omega, show bt s i ≤ 126 by omega]

theorem pl133 : ∀ (s : ByteArray) res, (m133 [.one (.sc (.string s))]).val = some res → ∃ N, T133 N s = some res := by
  intro s res h
  obtain ⟨h1, h2⟩ := br_val h
  cases h2
  have hs : s.size ≤ 2147483648 := by have := of_decide_eq_true h1; omega
  refine ⟨s.size + 1, ?_⟩
  unfold T133
  have := L133_eq (R := RV) s (fun z => some (.one (.one (.fc (.sc (.bool z)))))) (fun z => some (.one (.one (.fc (.sc (.bool (decide ((z.size : Int) ≤ (200 : Int)))))))) ) hs s.size (s.size + 1) 0 (by omega) (by omega)
  rw [show ((0 : Nat) : Int) = (0 : Int) from rfl] at this
  rw [this]
  unfold textValid
  have e : decide ((s.size : Int) ≤ 200) = decide (s.size ≤ 200) := decide_eq_decide.2 (by omega)
  cases allFrom textByte s 0 <;> simp [e]

theorem cond_rvB (c a b : Bool) : (bif c then some (RV.one (.one (.fc (.sc (.bool a))))) else some (RV.one (.one (.fc (.sc (.bool b)))))) = some (RV.one (.one (.fc (.sc (.bool (bif c then a else b)))))) := by cases c <;> rfl
theorem cond_t (c a b : Bool) : ((bif c then a else b) = true) ↔ (c = true ∧ a = true) ∨ (¬ c = true ∧ b = true) := by cases c <;> simp
theorem rvB_eq {a b : Bool} (h : a = true ↔ b = true) : some (RV.one (.one (.fc (.sc (.bool a))))) = some (RV.one (.one (.fc (.sc (.bool b))))) := by rw [Bool.eq_iff_iff.2 h]

theorem pl280 : ∀ (c : Int) res, (m280 [.one (.sc (.int .u8 c))]).val = some res → ∃ N, T280 N c = some res := by
  intro c res h
  cases h
  refine ⟨0, ?_⟩
  unfold T280 letter
  simp only [cond_rvB]
  refine rvB_eq ?_
  simp only [cond_t, decide_eq_true_eq, Bool.or_eq_true, Bool.and_eq_true, Bool.false_eq_true, and_false, false_and, or_false, false_or, and_true, true_and]
  omega

theorem pl274 : ∀ (c : Int) res, (m274 [.one (.sc (.int .u8 c))]).val = some res → ∃ N, T274 N c = some res := by
  intro c res h
  cases h
  refine ⟨0, ?_⟩
  unfold T274 digit
  simp only [cond_rvB]
  refine rvB_eq ?_
  simp only [cond_t, decide_eq_true_eq, Bool.or_eq_true, Bool.and_eq_true, Bool.false_eq_true, and_false, false_and, or_false, false_or, and_true, true_and]

theorem pl273 : ∀ (c : Int) res, (m273 [.one (.sc (.int .u8 c))]).val = some res → ∃ N, T273 N c = some res := by
  intro c res h
  cases h
  refine ⟨0, ?_⟩
  unfold T273 labelByte digit
  simp only [cond_rvB]
  refine rvB_eq ?_
  simp only [cond_t, decide_eq_true_eq, Bool.or_eq_true, Bool.and_eq_true, Bool.false_eq_true, beq_iff_eq, and_false, false_and, or_false, false_or, and_true, true_and]
  omega

theorem pl197 : ∀ (c : Int) res, (m197 [.one (.sc (.int .u8 c))]).val = some res → ∃ N, T197 N c = some res := by
  intro c res h
  cases h
  refine ⟨0, ?_⟩
  unfold T197 letter digit
  simp only [cond_rvB]
  refine rvB_eq ?_
  simp only [cond_t, decide_eq_true_eq, Bool.or_eq_true, Bool.and_eq_true, Bool.false_eq_true, and_false, false_and, or_false, false_or, and_true, true_and]
  omega

theorem pl229 : ∀ (c : Int) res, (m229 [.one (.sc (.int .u8 c))]).val = some res → ∃ N, T229 N c = some res := by
  intro c res h
  cases h
  refine ⟨0, ?_⟩
  unfold T229 atomByte
  simp only [cond_rvB]
  refine rvB_eq ?_
  cases letter c
  · cases digit c
    · simp only [cond_t, decide_eq_true_eq, Bool.or_eq_true, Bool.and_eq_true, Bool.false_eq_true, beq_iff_eq, cond_false, and_false, false_and, or_false, false_or, and_true, true_and]
      omega
    · simp
  · simp

theorem L272v0_eq {R : Type} (s : ByteArray) (k0 : Bool → Option R) (k1 : Unit → Option R) (hs : s.size ≤ 2147483648) : ∀ (d n i : Nat), i + d = s.size → d < n →
    L272v0_0_0 n s (s.size : Int) (i : Int) k0 k1 = bif allFrom atomByte s i then k1 () else k0 false := by
  intro d
  induction d with
  | zero =>
    intro n i hi hn
    obtain ⟨n, rfl⟩ : ∃ m, n = m + 1 := ⟨n - 1, by omega⟩
    rw [L272v0_0_0, lt_f (by omega), allFrom_end _ _ _ (by omega)]; rfl
  | succ d ih =>
    intro n i hi hn
    obtain ⟨n, rfl⟩ : ∃ m, n = m + 1 := ⟨n - 1, by omega⟩
    rw [L272v0_0_0, lt_t (by omega), inb_t (by omega), wrap_s (by omega), ih n (i + 1) (by omega) (by omega), allFrom_step atomByte s i (by omega)]
    cases atomByte (bt s i) <;> rfl

theorem pl272v0 : ∀ (s : ByteArray) res, (m272v0 [.one (.sc (.string s)), .one (.sc (.func (.func 229) #[] #[]))]).val = some res → ∃ N, T272v0 N s = some res := by
  intro s res h
  obtain ⟨h1, h2⟩ := br_val h
  cases h2
  have hs : s.size ≤ 2147483648 := by have := of_decide_eq_true h1; omega
  refine ⟨s.size + 1, ?_⟩
  unfold T272v0
  refine (L272v0_eq s _ _ hs s.size (s.size + 1) 0 (by omega) (by omega)).trans ?_
  cases allFrom atomByte s 0 <;> rfl

theorem L272v1_eq {R : Type} (s : ByteArray) (k0 : Bool → Option R) (k1 : Unit → Option R) (hs : s.size ≤ 2147483648) : ∀ (d n i : Nat), i + d = s.size → d < n →
    L272v1_0_0 n s (s.size : Int) (i : Int) k0 k1 = bif allFrom digit s i then k1 () else k0 false := by
  intro d
  induction d with
  | zero =>
    intro n i hi hn
    obtain ⟨n, rfl⟩ : ∃ m, n = m + 1 := ⟨n - 1, by omega⟩
    rw [L272v1_0_0, lt_f (by omega), allFrom_end _ _ _ (by omega)]; rfl
  | succ d ih =>
    intro n i hi hn
    obtain ⟨n, rfl⟩ : ∃ m, n = m + 1 := ⟨n - 1, by omega⟩
    rw [L272v1_0_0, lt_t (by omega), inb_t (by omega), wrap_s (by omega), ih n (i + 1) (by omega) (by omega), allFrom_step digit s i (by omega)]
    cases digit (bt s i) <;> rfl

theorem pl272v1 : ∀ (s : ByteArray) res, (m272v1 [.one (.sc (.string s)), .one (.sc (.func (.func 274) #[] #[]))]).val = some res → ∃ N, T272v1 N s = some res := by
  intro s res h
  obtain ⟨h1, h2⟩ := br_val h
  cases h2
  have hs : s.size ≤ 2147483648 := by have := of_decide_eq_true h1; omega
  refine ⟨s.size + 1, ?_⟩
  unfold T272v1
  refine (L272v1_eq s _ _ hs s.size (s.size + 1) 0 (by omega) (by omega)).trans ?_
  cases allFrom digit s 0 <;> rfl

theorem L272v2_eq {R : Type} (s : ByteArray) (k0 : Bool → Option R) (k1 : Unit → Option R) (hs : s.size ≤ 2147483648) : ∀ (d n i : Nat), i + d = s.size → d < n →
    L272v2_0_0 n s (s.size : Int) (i : Int) k0 k1 = bif allFrom labelByte s i then k1 () else k0 false := by
  intro d
  induction d with
  | zero =>
    intro n i hi hn
    obtain ⟨n, rfl⟩ : ∃ m, n = m + 1 := ⟨n - 1, by omega⟩
    rw [L272v2_0_0, lt_f (by omega), allFrom_end _ _ _ (by omega)]; rfl
  | succ d ih =>
    intro n i hi hn
    obtain ⟨n, rfl⟩ : ∃ m, n = m + 1 := ⟨n - 1, by omega⟩
    rw [L272v2_0_0, lt_t (by omega), inb_t (by omega), wrap_s (by omega), ih n (i + 1) (by omega) (by omega), allFrom_step labelByte s i (by omega)]
    cases labelByte (bt s i) <;> rfl

theorem pl272v2 : ∀ (s : ByteArray) res, (m272v2 [.one (.sc (.string s)), .one (.sc (.func (.func 273) #[] #[]))]).val = some res → ∃ N, T272v2 N s = some res := by
  intro s res h
  obtain ⟨h1, h2⟩ := br_val h
  cases h2
  have hs : s.size ≤ 2147483648 := by have := of_decide_eq_true h1; omega
  refine ⟨s.size + 1, ?_⟩
  unfold T272v2
  refine (L272v2_eq s _ _ hs s.size (s.size + 1) 0 (by omega) (by omega)).trans ?_
  cases allFrom labelByte s 0 <;> rfl

theorem L134_eq {R : Type} (s : ByteArray) (k0 : Bool → Option R) (k1 : ByteArray → Option R) (hs : s.size ≤ 200) : ∀ (d n i : Nat), i + d = s.size → d < n →
    L134_0_0 n s (i : Int) k0 k1 = bif allFrom textByte s i then k1 s else k0 false := by
  intro d
  induction d with
  | zero =>
    intro n i hi hn
    obtain ⟨n, rfl⟩ : ∃ m, n = m + 1 := ⟨n - 1, by omega⟩
    rw [L134_0_0, lt_f (by omega), allFrom_end _ _ _ (by omega)]; rfl
  | succ d ih =>
    intro n i hi hn
    obtain ⟨n, rfl⟩ : ∃ m, n = m + 1 := ⟨n - 1, by omega⟩
    rw [L134_0_0, lt_t (by omega), show decide ((i : Int) ≤ (200 : Int)) = true from decide_eq_true (by omega), inb_t (by omega), wrap_s (by omega), ih n (i + 1) (by omega) (by omega), allFrom_step textByte s i (by omega)]
    unfold textByte
    by_cases h1 : bt s i < 32
    · simp [h1, show ¬ (32 ≤ bt s i) by omega]
    · by_cases h2 : bt s i > 126
      · simp [h1, h2, show ¬ (bt s i ≤ 126) by omega]
      · simp [h1, h2, show 32 ≤ bt s i by omega, show bt s i ≤ 126 by omega]
theorem L134_big {R : Type} (s : ByteArray) (k0 : Bool → Option R) (k1 : ByteArray → Option R) (hs : 200 < s.size) : ∀ (d n i : Nat), i + d = 200 + 1 → d < n →
    L134_0_0 n s (i : Int) k0 k1 = k1 s ∨ L134_0_0 n s (i : Int) k0 k1 = k0 false := by
  intro d
  induction d with
  | zero =>
    intro n i hi hn
    obtain ⟨n, rfl⟩ : ∃ m, n = m + 1 := ⟨n - 1, by omega⟩
    left
    rw [L134_0_0, show decide ((i : Int) ≤ (200 : Int)) = false from decide_eq_false (by omega)]
    cases decide ((i : Int) < (s.size : Int)) <;> rfl
  | succ d ih =>
    intro n i hi hn
    obtain ⟨n, rfl⟩ : ∃ m, n = m + 1 := ⟨n - 1, by omega⟩
    rw [L134_0_0, lt_t (by omega), show decide ((i : Int) ≤ (200 : Int)) = true from decide_eq_true (by omega), inb_t (by omega), wrap_s (by omega)]
    have := ih n (i + 1) (by omega) (by omega)
    cases decide (bt s i < 32)
    · cases decide (bt s i > 126)
      · exact this
      · exact .inr rfl
    · exact .inr rfl

theorem L285_eq {R : Type} (s : ByteArray) (k0 : Bool → Option R) (k1 : ByteArray → Option R) (hs : s.size ≤ 40) : ∀ (d n i : Nat), i + d = s.size → d < n →
    L285_0_0 n s (i : Int) k0 k1 = bif allFrom atomByte s i then k1 s else k0 false := by
  intro d
  induction d with
  | zero =>
    intro n i hi hn
    obtain ⟨n, rfl⟩ : ∃ m, n = m + 1 := ⟨n - 1, by omega⟩
    rw [L285_0_0, lt_f (by omega), allFrom_end _ _ _ (by omega)]; rfl
  | succ d ih =>
    intro n i hi hn
    obtain ⟨n, rfl⟩ : ∃ m, n = m + 1 := ⟨n - 1, by omega⟩
    rw [L285_0_0, lt_t (by omega), show decide ((i : Int) ≤ (40 : Int)) = true from decide_eq_true (by omega), inb_t (by omega), wrap_s (by omega), ih n (i + 1) (by omega) (by omega), allFrom_step atomByte s i (by omega)]
    cases atomByte (bt s i) <;> rfl
theorem L285_big {R : Type} (s : ByteArray) (k0 : Bool → Option R) (k1 : ByteArray → Option R) (hs : 40 < s.size) : ∀ (d n i : Nat), i + d = 40 + 1 → d < n →
    L285_0_0 n s (i : Int) k0 k1 = k1 s ∨ L285_0_0 n s (i : Int) k0 k1 = k0 false := by
  intro d
  induction d with
  | zero =>
    intro n i hi hn
    obtain ⟨n, rfl⟩ : ∃ m, n = m + 1 := ⟨n - 1, by omega⟩
    left
    rw [L285_0_0, show decide ((i : Int) ≤ (40 : Int)) = false from decide_eq_false (by omega)]
    cases decide ((i : Int) < (s.size : Int)) <;> rfl
  | succ d ih =>
    intro n i hi hn
    obtain ⟨n, rfl⟩ : ∃ m, n = m + 1 := ⟨n - 1, by omega⟩
    rw [L285_0_0, lt_t (by omega), show decide ((i : Int) ≤ (40 : Int)) = true from decide_eq_true (by omega), inb_t (by omega), wrap_s (by omega)]
    have := ih n (i + 1) (by omega) (by omega)
    cases atomByte (bt s i)
    · exact .inr rfl
    · exact this

theorem pl134 : ∀ (s : ByteArray) res, (m134 [.one (.sc (.string s))]).val = some res → ∃ N, T134 N s = some res := by
  intro s res h
  obtain ⟨h1, h2⟩ := br_val h
  cases h2
  unfold textValid
  by_cases hs : s.size ≤ 200
  · refine ⟨s.size + 1, ?_⟩
    unfold T134
    refine (L134_eq s _ _ hs s.size (s.size + 1) 0 (by omega) (by omega)).trans ?_
    have e : decide ((s.size : Int) ≤ 200) = true := decide_eq_true (by omega)
    cases allFrom textByte s 0 <;> simp [hs, e]
  · refine ⟨202, ?_⟩
    unfold T134
    have e : decide ((s.size : Int) ≤ 200) = false := decide_eq_false (by omega)
    rcases L134_big s (fun (z1_0 : Bool) => some (RV.one (.one (.fc (.sc (.bool z1_0)))))) (fun (z2_0 : ByteArray) => some (.one (.one (.fc (.sc (.bool (decide (((z2_0).size : Int) ≤ (200 : Int)))))))))  (by omega) 201 202 0 (by omega) (by omega) with h | h
    · refine Eq.trans h ?_; simp [hs, e]
    · refine Eq.trans h ?_; simp [hs]

theorem pl285 : ∀ (s : ByteArray) res, (m285 [.one (.sc (.string s))]).val = some res → ∃ N, T285 N s = some res := by
  intro s res h
  obtain ⟨h1, h2⟩ := br_val h
  cases h2
  unfold atomValid
  by_cases hs : s.size ≤ 40
  · refine ⟨s.size + 1, ?_⟩
    unfold T285
    refine (L285_eq s _ _ hs s.size (s.size + 1) 0 (by omega) (by omega)).trans ?_
    have e : decide ((s.size : Int) ≤ 40) = true := decide_eq_true (by omega)
    have e1 : decide ((s.size : Int) ≥ 1) = decide (1 ≤ s.size) := decide_eq_decide.2 (by omega)
    cases allFrom atomByte s 0 <;> cases h : decide (1 ≤ s.size) <;> simp [hs, e, e1, h]
  · refine ⟨42, ?_⟩
    unfold T285
    have e : decide ((s.size : Int) ≤ 40) = false := decide_eq_false (by omega)
    have e1 : decide ((s.size : Int) ≥ 1) = true := decide_eq_true (by omega)
    rcases L285_big s (fun (z1_0 : Bool) => some (RV.one (.one (.fc (.sc (.bool z1_0)))))) (fun (z2_0 : ByteArray) => (bif (decide (((z2_0).size : Int) ≥ (1 : Int))) then
      some (RV.one (.one (.fc (.sc (.bool (decide (((z2_0).size : Int) ≤ (40 : Int))))))))
      else
      some (.one (.one (.fc (.sc (.bool false)))))))  (by omega) 41 42 0 (by omega) (by omega) with h | h
    · refine Eq.trans h ?_; simp [hs, e, e1]
    · refine Eq.trans h ?_; simp [hs]

theorem pl233 : ∀ (s : ByteArray) res, (m233 [.one (.sc (.string s))]).val = some res → ∃ N, T233 N s = some res := by
  intro s res h
  obtain ⟨h1, h2⟩ := br_val h
  cases h2
  refine ⟨0, ?_⟩
  unfold T233 atomValid
  rw [h1]
  have e : decide ((s.size : Int) ≤ 40) = decide (s.size ≤ 40) := decide_eq_decide.2 (by omega)
  have e1 : decide ((s.size : Int) ≥ 1) = decide (1 ≤ s.size) := decide_eq_decide.2 (by omega)
  rw [e, e1]
  cases decide (1 ≤ s.size) <;> cases decide (s.size ≤ 40) <;> rfl

def atomSigns : ByteArray := ⟨#[33, 35, 36, 37, 38, 39, 42, 43, 45, 47, 61, 63, 94, 95, 96, 123, 124, 125, 126]⟩
theorem L232_eq {R : Type} (c : Int) (k0 : Bool → Option R) (k1 : Int → Option R) : ∀ (d n i : Nat), i + d = 19 → d < n →
    L232_0_0 n c (i : Int) k0 k1 = bif allFrom (fun b => !(c == b)) atomSigns i then k1 c else k0 true := by
  have hsz : atomSigns.size = 19 := rfl
  intro d
  induction d with
  | zero =>
    intro n i hi hn
    obtain ⟨n, rfl⟩ : ∃ m, n = m + 1 := ⟨n - 1, by omega⟩
    rw [L232_0_0, show decide ((i : Int) < (19 : Int)) = false from decide_eq_false (by omega), allFrom_end _ _ _ (by omega)]; rfl
  | succ d ih =>
    intro n i hi hn
    obtain ⟨n, rfl⟩ : ∃ m, n = m + 1 := ⟨n - 1, by omega⟩
    rw [L232_0_0, show decide ((i : Int) < (19 : Int)) = true from decide_eq_true (by omega)]
    show (bif true then (bif inb (i : Int) atomSigns.size then (bif (c == bt atomSigns i) then k0 true else L232_0_0 n c (IntKind.i64.wrap ((i : Int) + 1)) k0 k1) else none) else k1 c) = _
    rw [inb_t (by omega), wrap_s (by omega), ih n (i + 1) (by omega) (by omega), allFrom_step (fun b => !(c == b)) atomSigns i (by omega)]
    cases (c == bt atomSigns i) <;> rfl
theorem pl232 : ∀ (c : Int) res, (m232 [.one (.sc (.int .u8 c))]).val = some res → ∃ N, T232 N c = some res := by
  intro c res h
  cases h
  refine ⟨20, ?_⟩
  unfold T232
  refine (L232_eq c _ _ 19 20 0 (by omega) (by omega)).trans ?_
  simp only [cond_rvB]
  refine rvB_eq ?_
  unfold atomByte allFrom
  cases letter c
  · cases digit c
    · simp only [atomSigns, bl, ub, List.drop_zero, List.all_cons, List.all_nil, cond_t, decide_eq_true_eq, Bool.or_eq_true, Bool.and_eq_true, Bool.false_eq_true, beq_iff_eq, cond_false, and_false, false_and, or_false, false_or, and_true, true_and, Bool.not_eq_true', beq_eq_false_iff_ne]
      simp only [UInt8.reduceToNat, ne_eq]
      omega
    · simp
  · simp

def lowFrom (ys : List Int) (i : Nat) : List Int := (ys.take i).map lowI ++ ys.drop i
theorem lowFrom_len (ys : List Int) (i : Nat) : (lowFrom ys i).length = ys.length := by simp [lowFrom]; omega
theorem lowFrom_at (ys : List Int) (i : Nat) (h : i < ys.length) : (lowFrom ys i).getD i 0 = ys[i] := by
  unfold lowFrom
  rw [List.getD_eq_getElem?_getD, List.getElem?_append_right (by simp; omega)]
  simp [Nat.min_eq_left (Nat.le_of_lt h), h]
theorem lowFrom_set (ys : List Int) (i : Nat) (h : i < ys.length) : (lowFrom ys i).set i (lowI ys[i]) = lowFrom ys (i + 1) := by
  unfold lowFrom
  rw [List.drop_eq_getElem_cons h, List.set_append_right _ _ (by simp; omega)]
  simp only [List.length_map, List.length_take, Nat.min_eq_left (Nat.le_of_lt h), Nat.sub_self, List.set_cons_zero]
  rw [List.take_succ_eq_append_getElem h, List.map_append, List.append_assoc]; rfl
theorem lowFrom_keep (ys : List Int) (i : Nat) (h : i < ys.length) (hl : lowI ys[i] = ys[i]) : lowFrom ys (i + 1) = lowFrom ys i := by
  unfold lowFrom
  rw [List.drop_eq_getElem_cons h, List.take_succ_eq_append_getElem h, List.map_append, List.append_assoc]
  simp [hl]
theorem lowFrom_zero (ys : List Int) : lowFrom ys 0 = ys := by simp [lowFrom]
theorem lowFrom_all (ys : List Int) : lowFrom ys ys.length = ys.map lowI := by simp [lowFrom]
theorem wrap8 {x : Int} (h : 65 ≤ x) (h2 : x ≤ 90) : IntKind.u8.wrap (x + (32 : Int)) = x + 32 := by
  have e : (x + 32) % 256 = x + 32 := Int.emod_eq_of_lt (by omega) (by omega)
  simpa [IntKind.wrap, IntKind.bits, IntKind.signed] using e

theorem L154_eq {R : Type} (ys : List Int) (k0 : List Int → Option R) (hs : ys.length ≤ 2147483648) : ∀ (d n i : Nat), i + d = ys.length → d < n →
    L154_0_0 n (ys.length : Int) (i : Int) (lowFrom ys i) k0 = k0 (ys.map lowI) := by
  intro d
  induction d with
  | zero =>
    intro n i hi hn
    obtain ⟨n, rfl⟩ : ∃ m, n = m + 1 := ⟨n - 1, by omega⟩
    have : i = ys.length := by omega
    subst this
    rw [L154_0_0, lt_f (by omega), lowFrom_all]; rfl
  | succ d ih =>
    intro n i hi hn
    obtain ⟨n, rfl⟩ : ∃ m, n = m + 1 := ⟨n - 1, by omega⟩
    have hl : i < ys.length := by omega
    have ih' := ih n (i + 1) (by omega) (by omega)
    rw [L154_0_0, lt_t (by omega), inb_t (by rw [lowFrom_len]; omega), wrap_s (by omega), Int.toNat_natCast, lowFrom_at ys i hl]
    by_cases h1 : 65 ≤ ys[i]
    · by_cases h2 : ys[i] ≤ 90
      · rw [wrap8 h1 h2, show ys[i] + 32 = lowI ys[i] from by unfold lowI; rw [if_pos ⟨h1, h2⟩], lowFrom_set ys i hl, ih']
        simp [h1, h2]
      · rw [lowFrom_keep ys i hl (by unfold lowI; rw [if_neg (by omega)])] at ih'
        rw [ih']
        simp [h1, h2]
    · rw [lowFrom_keep ys i hl (by unfold lowI; rw [if_neg (by omega)])] at ih'
      rw [ih']
      simp [h1]
theorem L156_eq {R : Type} (ys : List Int) (k0 : List Int → Option R) (hs : ys.length ≤ 2147483648) : ∀ (d n i : Nat), i + d = ys.length → d < n →
    L156_0_0 n (i : Int) (lowFrom ys i) k0 = k0 (ys.map lowI) := by
  intro d
  induction d with
  | zero =>
    intro n i hi hn
    obtain ⟨n, rfl⟩ : ∃ m, n = m + 1 := ⟨n - 1, by omega⟩
    have : i = ys.length := by omega
    subst this
    rw [L156_0_0, lowFrom_len, lt_f (by omega), lowFrom_all]; rfl
  | succ d ih =>
    intro n i hi hn
    obtain ⟨n, rfl⟩ : ∃ m, n = m + 1 := ⟨n - 1, by omega⟩
    have hl : i < ys.length := by omega
    have ih' := ih n (i + 1) (by omega) (by omega)
    rw [L156_0_0, lowFrom_len, lt_t (by omega), inb_t (by omega), wrap_s (by omega), Int.toNat_natCast, lowFrom_at ys i hl]
    by_cases h1 : 65 ≤ ys[i]
    · by_cases h2 : ys[i] ≤ 90
      · rw [wrap8 h1 h2, show ys[i] + 32 = lowI ys[i] from by unfold lowI; rw [if_pos ⟨h1, h2⟩], lowFrom_set ys i hl, ih']
        simp [h1, h2]
      · rw [lowFrom_keep ys i hl (by unfold lowI; rw [if_neg (by omega)])] at ih'
        rw [ih']
        simp [h1, h2]
    · rw [lowFrom_keep ys i hl (by unfold lowI; rw [if_neg (by omega)])] at ih'
      rw [ih']
      simp [h1]
theorem pl154 : ∀ (s : ByteArray) res, (m154 [.one (.sc (.string s))]).val = some res → ∃ N, T154 N s = some res := by
  intro s res h
  obtain ⟨h1, h2⟩ := br_val h
  cases h2
  have hs : s.size ≤ 2147483648 := by have := of_decide_eq_true h1; omega
  refine ⟨s.size + 1, ?_⟩
  unfold T154
  rw [Nat.ble_eq_true_of_le (by omega)]
  have := L154_eq (bytesOf s) (fun (z1_0 : List Int) => some (RV.one (.one (.fc (.sc (.string (strOfNums z1_0))))))) (by rw [bytesOf_len]; exact hs) (bytesOf s).length (s.size + 1) 0 (by omega) (by rw [bytesOf_len]; omega)
  rw [lowFrom_zero] at this
  exact this
theorem pl156 : ∀ (s : ByteArray) res, (m156 [.one (.sc (.string s))]).val = some res → ∃ N, T156 N s = some res := by
  intro s res h
  obtain ⟨h1, h2⟩ := br_val h
  cases h2
  have hs : s.size ≤ 2147483648 := by have := of_decide_eq_true h1; omega
  refine ⟨s.size + 1, ?_⟩
  unfold T156
  rw [Nat.ble_eq_true_of_le (by omega)]
  have := L156_eq (bytesOf s) (fun (z1_0 : List Int) => some (RV.one (.one (.fc (.sc (.string (strOfNums z1_0))))))) (by rw [bytesOf_len]; exact hs) (bytesOf s).length (s.size + 1) 0 (by omega) (by rw [bytesOf_len]; omega)
  rw [lowFrom_zero] at this
  exact this
theorem br2_val {c d : Bool} {a : CT} {res : RV} (h : (CT.br (c && d) a .no).val = some res) : c = true ∧ d = true ∧ a.val = some res := by
  cases c with
  | true => cases d with
    | true => exact ⟨rfl, rfl, h⟩
    | false => cases h
  | false => cases h
theorem pl278 : ∀ (a b : ByteArray) res, (m278 [.one (.sc (.string a)), .one (.sc (.string b))]).val = some res → ∃ N, T278 N a b = some res := by
  intro a b res h
  obtain ⟨h1, h2, h3⟩ := br2_val h
  cases h3
  refine ⟨0, ?_⟩
  unfold T278
  rw [h1, h2, eq_toList]; rfl
end Go.Iv

/- What the functions on lists of texts, on domains and paths compute. -/
namespace Go.Iv

def allBig (xs : List ByteArray) : Bool := decide (xs.length ≤ 2147483648) && xs.all fun x => decide (x.size ≤ 2147483648)
def idxFrom (p : ByteArray → Bool) : List ByteArray → Nat → Int
  | [], _ => -1
  | x :: r, i => bif p x then idxFrom p r (i + 1) else (i : Int)
def idxNot (p : ByteArray → Bool) (xs : List ByteArray) : Int := idxFrom p xs 0
def labelOk (s : ByteArray) : Bool := decide (1 ≤ s.size) && (!decide (bt s 0 = 45) && (!decide (bt s ((s.size - 1 : Nat) : Int) = 45) && allFrom labelByte s 0))
def partsFrom (c : Int) (s : ByteArray) : Nat → Nat → Nat → List ByteArray
  | 0, _, st => [s.extract st s.size]
  | d + 1, i, st => if bt s (i : Int) = c then s.extract st i :: partsFrom c s d (i + 1) (i + 1) else partsFrom c s d (i + 1) st
def parts (c : Int) (s : ByteArray) : List ByteArray := partsFrom c s s.size 0 0
def domainOk (s : ByteArray) : Bool := decide (s.size ≤ 40) && (parts 46 s).all labelOk
def localOk (s : ByteArray) : Bool := decide (s.size ≤ 30) && (parts 46 s).all atomValid
def findFrom (c : Int) (s : ByteArray) : Nat → Nat → Option Nat
  | 0, _ => none
  | d + 1, i => if bt s (i : Int) = c then some i else findFrom c s d (i + 1)
def cutAt (c : Int) (s : ByteArray) : ByteArray × ByteArray × Bool :=
  match findFrom c s s.size 0 with
  | some i => (s.extract 0 i, s.extract (i + 1) s.size, true)
  | none => (s, ⟨#[]⟩, false)
def pathOk (s : ByteArray) : Bool := (cutAt 64 s).2.2 && (localOk (cutAt 64 s).1 && domainOk (cutAt 64 s).2.1)
def fromOk (s : ByteArray) : Bool := decide (s = ⟨#[]⟩) || pathOk s
def textsOk (xs : List ByteArray) (n : Int) : Bool := decide ((xs.length : Int) ≤ n) && xs.all textValid
def readF (s : ByteArray) : Nat → Nat → ByteArray → ByteArray × Int
  | 0, _, _ => (⟨#[]⟩, -1)
  | d + 1, i, acc => if i < s.size then
      if bt s (i : Int) = 34 then (acc, ((i + 1 : Nat) : Int))
      else if bt s (i : Int) = 92 then (if i + 1 = s.size then (⟨#[]⟩, -1) else readF s d (i + 2) (acc ++ s.extract (i + 1) (i + 2)))
      else readF s d (i + 1) (acc ++ s.extract i (i + 1))
    else (⟨#[]⟩, -1)
def readQ (s : ByteArray) (i : Int) : ByteArray × Int := readF s (s.size + 1) (i.toNat + 1) ⟨#[]⟩
def cutF (c : Int) (s : ByteArray) : Nat → Nat → ByteArray × ByteArray × Bool
  | 0, _ => (s, ⟨#[]⟩, false)
  | d + 1, i => if i < s.size then
      if bt s (i : Int) = 34 then (if (readQ s (i : Int)).2 < 0 then (s, ⟨#[]⟩, false) else cutF c s d (readQ s (i : Int)).2.toNat)
      else if bt s (i : Int) = c then (s.extract 0 i, s.extract (i + 1) s.size, true)
      else cutF c s d (i + 1)
    else (s, ⟨#[]⟩, false)
def cutQ (c : Int) (s : ByteArray) : ByteArray × ByteArray × Bool := cutF c s (s.size + 1) 0

theorem ext_size (s : ByteArray) (a b : Nat) : (s.extract a b).size ≤ s.size := by rw [ByteArray.size_extract]; omega
theorem cutAt_size (c : Int) (s : ByteArray) : (cutAt c s).1.size ≤ s.size ∧ (cutAt c s).2.1.size ≤ s.size := by
  unfold cutAt
  split
  · exact ⟨ext_size _ _ _, ext_size _ _ _⟩
  · exact ⟨Nat.le_refl _, Nat.zero_le _⟩
theorem partsFrom_size (c : Int) (s : ByteArray) : ∀ (d i st : Nat), ∀ x ∈ partsFrom c s d i st, x.size ≤ s.size
  | 0, i, st, x, hx => by simp only [partsFrom, List.mem_singleton] at hx; subst hx; exact ext_size _ _ _
  | d + 1, i, st, x, hx => by
    rw [partsFrom] at hx
    split at hx
    · rcases List.mem_cons.1 hx with rfl | hx
      · exact ext_size _ _ _
      · exact partsFrom_size c s d _ _ x hx
    · exact partsFrom_size c s d _ _ x hx
theorem partsFrom_len (c : Int) (s : ByteArray) : ∀ (d i st : Nat), (partsFrom c s d i st).length ≤ d + 1
  | 0, i, st => by simp [partsFrom]
  | d + 1, i, st => by
    rw [partsFrom]
    split
    · have := partsFrom_len c s d (i + 1) (i + 1); simp only [List.length_cons]; omega
    · have := partsFrom_len c s d (i + 1) st; omega
theorem parts_big {c : Int} {s : ByteArray} (h : s.size < 2147483648) : allBig (parts c s) = true := by
  unfold allBig
  rw [Bool.and_eq_true, decide_eq_true_eq, List.all_eq_true]
  refine ⟨?_, fun x hx => decide_eq_true ?_⟩
  · have := partsFrom_len c s s.size 0 0; unfold parts; omega
  · have := partsFrom_size c s s.size 0 0 x hx; omega
theorem allBig_at {xs : List ByteArray} (h : allBig xs = true) : xs.length ≤ 2147483648 ∧ ∀ x ∈ xs, x.size ≤ 2147483648 := by
  unfold allBig at h
  rw [Bool.and_eq_true, decide_eq_true_eq, List.all_eq_true] at h
  exact ⟨h.1, fun x hx => of_decide_eq_true (h.2 x hx)⟩
theorem idxFrom_nonneg (p : ByteArray → Bool) : ∀ (xs : List ByteArray) (i : Nat), (0 ≤ idxFrom p xs i) ↔ ¬ xs.all p = true
  | [], i => by simp [idxFrom]
  | x :: xs, i => by
    have ih := idxFrom_nonneg p xs (i + 1)
    rw [idxFrom, List.all_cons]
    cases p x
    · simp
    · simpa using ih
theorem getDN_at {α : Type} (xs : List α) (i : Nat) (d : α) (h : i < xs.length) : xs.getD (i : Int).toNat d = xs[i] := by
  rw [Int.toNat_natCast, List.getD_eq_getElem?_getD, List.getElem?_eq_getElem h]; rfl
theorem cutOk_lt {n a b : Nat} (h1 : a ≤ b) (h2 : b ≤ n) : cutOk n (some (a : Int)) (some (b : Int)) = true := by
  simp [cutOk]; omega
theorem cutOk_from {n a : Nat} (h1 : a ≤ n) : cutOk n (some (a : Int)) none = true := by
  simp [cutOk]; omega
theorem cutOk_to {n b : Nat} (h1 : b ≤ n) : cutOk n none (some (b : Int)) = true := by
  simp [cutOk]; omega
theorem cutS_lt (s : ByteArray) (a b : Nat) : cutS s (some (a : Int)) (some (b : Int)) = s.extract a b := by simp [cutS]
theorem cutS_from (s : ByteArray) (a : Nat) : cutS s (some (a : Int)) none = s.extract a s.size := by simp [cutS]
theorem cutS_to (s : ByteArray) (b : Nat) : cutS s none (some (b : Int)) = s.extract 0 b := by simp [cutS]
end Go.Iv

/- What functions come to. -/
namespace Go.Iv
set_option maxRecDepth 4000
noncomputable def m83 : List AV → CT
  | [.one (.sc (.string s)), .one (.sc (.int .u8 c))] => (.br (decide (((s).size : Int) ≤ 2147483648)) (.ret (.one (.one (.buf .str 9 (parts c s))))) .no)
  | _ => .no
/-! 83: spec.l2Parts -/
def L83_0_0 {R : Type} : Nat → ByteArray → Int → Int → Int → List ByteArray → (ByteArray → Int → List ByteArray → Option R) → Option R
  | 0, _, _, _, _, _, _ => none
  | n + 1, x0, x1, x2, x3, x4, k0 => (bif (decide (x3 < ((x0).size : Int))) then
    (bif (inb x3 (x0).size) then
      (bif ((bt x0 x3) == x1) then
        (bif (cutOk (x0).size (some x2) (some x3)) then
          (bif (Nat.ble (x4.length + 1) 1099511627776) then
            (L83_0_0 n x0 x1 (IntKind.i64.wrap (x3 + (1 : Int))) (IntKind.i64.wrap (x3 + (1 : Int))) (x4 ++ ([(cutS x0 (some x2) (some x3))] : List ByteArray)) k0)
            else none)
          else none)
        else
        (L83_0_0 n x0 x1 x2 (IntKind.i64.wrap (x3 + (1 : Int))) x4 k0))
      else none)
    else
    (k0 x0 x2 x4))
def T83 (N : Nat) (s : ByteArray) (c : Int) : Option RV :=
  (L83_0_0 N s c (0 : Int) (0 : Int) ([] : List ByteArray)
  (fun (z1_0 : ByteArray) (z1_1 : Int) (z1_2 : List ByteArray) => (bif (cutOk (z1_0).size (some z1_1) none) then
    (bif (Nat.ble (z1_2.length + 1) 1099511627776) then
      some (.one (.one (.buf .str 9 (z1_2 ++ ([(cutS z1_0 (some z1_1) none)] : List ByteArray)))))
      else none)
    else none)))
noncomputable def m191 : List AV → CT
  | [.one (.sc (.string s))] => (.br (decide (((s).size : Int) ≤ 2147483648)) (.ret (.one (.one (.fc (.sc (.bool (labelOk s))))))) .no)
  | _ => .no
/-! 191: impl.isLabel -/
def T191 (N : Nat) (s : ByteArray) : Option RV :=
  (bif (!(s.toList == (⟨#[]⟩ : ByteArray).toList)) then
  (bif (inb (0 : Int) (s).size) then
    (bif ((bt s (0 : Int)) != (45 : Int)) then
      (bif (inb (IntKind.i64.wrap (((s).size : Int) - (1 : Int))) (s).size) then
        (bif ((bt s (IntKind.i64.wrap (((s).size : Int) - (1 : Int)))) != (45 : Int)) then
          (bif (decide (((s).size : Int) ≤ 2147483648)) then
            some (.one (.one (.fc (.sc (.bool (allFrom labelByte s 0))))))
            else none)
          else
          some (.one (.one (.fc (.sc (.bool false))))))
        else none)
      else
      some (.one (.one (.fc (.sc (.bool false))))))
    else none)
  else
  some (.one (.one (.fc (.sc (.bool false))))))
noncomputable def m190 : List AV → CT
  | [.one (.sc (.string s))] => (.br (decide (((s).size : Int) ≤ 2147483648)) (.ret (.one (.one (.fc (.sc (.bool (!(labelOk s)))))))) .no)
  | _ => .no
/-! 190: impl.isDomain$1 -/
def T190 (N : Nat) (s : ByteArray) : Option RV :=
  (bif (decide (((s).size : Int) ≤ 2147483648)) then
  some (.one (.one (.fc (.sc (.bool (!(labelOk s)))))))
  else none)
noncomputable def m243 : List AV → CT
  | [.one (.sc (.string s))] => (.br (decide (((s).size : Int) ≤ 2147483648)) (.ret (.one (.one (.fc (.sc (.bool (!(atomValid s)))))))) .no)
  | _ => .no
/-! 243: impl.isLocal$1 -/
def T243 (N : Nat) (s : ByteArray) : Option RV :=
  (bif (decide (((s).size : Int) ≤ 2147483648)) then
  some (.one (.one (.fc (.sc (.bool (!(atomValid s)))))))
  else none)
noncomputable def m279 : List AV → CT
  | [.one (.sc (.string s))] => (.br (decide (((s).size : Int) ≤ 2147483648)) (.ret (.one (.one (.fc (.sc (.bool (!(textValid s)))))))) .no)
  | _ => .no
/-! 279: impl.areTexts$1 -/
def T279 (N : Nat) (s : ByteArray) : Option RV :=
  (bif (decide (((s).size : Int) ≤ 2147483648)) then
  some (.one (.one (.fc (.sc (.bool (!(textValid s)))))))
  else none)
noncomputable def m218v0 : List AV → CT
  | [.one (.list .str xs), .one (.sc (.func (.func 190) f0a f0b))] => (funE f0a f0b (.br (allBig xs) (.ret (.one (.one (.fc (.sc (.int .i64 (idxNot labelOk xs))))))) .no))
  | _ => .no
/-! 218: slices.IndexFunc[[]string,string] -/
def L218v0_0_0 {R : Type} : Nat → List ByteArray → Int → Int → (Int → Option R) → (Unit → Option R) → Option R
  | 0, _, _, _, _, _ => none
  | n + 1, x0, x1, x2, k0, k1 => (bif (decide (x2 < x1)) then
    (bif (inb x2 (x0).length) then
      (bif (decide (((((x0).getD (x2).toNat (⟨#[]⟩ : ByteArray))).size : Int) ≤ 2147483648)) then
        (bif (!(labelOk ((x0).getD (x2).toNat (⟨#[]⟩ : ByteArray)))) then
          (k0 x2)
          else
          (L218v0_0_0 n x0 x1 (IntKind.i64.wrap (x2 + (1 : Int))) k0 k1))
        else none)
      else none)
    else
    (k1 ()))
def T218v0 (N : Nat) (xs : List ByteArray) : Option RV :=
  (L218v0_0_0 N xs ((xs).length : Int) (0 : Int)
  (fun (z1_0 : Int) => some (.one (.one (.fc (.sc (.int .i64 z1_0))))))
  (fun (_ : Unit) => some (.one (.one (.fc (.sc (.int .i64 (-1 : Int))))))))
noncomputable def m218v1 : List AV → CT
  | [.one (.list .str xs), .one (.sc (.func (.func 243) f0a f0b))] => (funE f0a f0b (.br (allBig xs) (.ret (.one (.one (.fc (.sc (.int .i64 (idxNot atomValid xs))))))) .no))
  | _ => .no
/-! 218: slices.IndexFunc[[]string,string] -/
def L218v1_0_0 {R : Type} : Nat → List ByteArray → Int → Int → (Int → Option R) → (Unit → Option R) → Option R
  | 0, _, _, _, _, _ => none
  | n + 1, x0, x1, x2, k0, k1 => (bif (decide (x2 < x1)) then
    (bif (inb x2 (x0).length) then
      (bif (decide (((((x0).getD (x2).toNat (⟨#[]⟩ : ByteArray))).size : Int) ≤ 2147483648)) then
        (bif (!(atomValid ((x0).getD (x2).toNat (⟨#[]⟩ : ByteArray)))) then
          (k0 x2)
          else
          (L218v1_0_0 n x0 x1 (IntKind.i64.wrap (x2 + (1 : Int))) k0 k1))
        else none)
      else none)
    else
    (k1 ()))
def T218v1 (N : Nat) (xs : List ByteArray) : Option RV :=
  (L218v1_0_0 N xs ((xs).length : Int) (0 : Int)
  (fun (z1_0 : Int) => some (.one (.one (.fc (.sc (.int .i64 z1_0))))))
  (fun (_ : Unit) => some (.one (.one (.fc (.sc (.int .i64 (-1 : Int))))))))
noncomputable def m218v2 : List AV → CT
  | [.one (.list .str xs), .one (.sc (.func (.func 204) f0a f0b))] => (funE f0a f0b (.br (allBig xs) (.ret (.one (.one (.fc (.sc (.int .i64 (idxNot pathOk xs))))))) .no))
  | _ => .no
/-! 218: slices.IndexFunc[[]string,string] -/
def L218v2_0_0 {R : Type} : Nat → List ByteArray → Int → Int → (Int → Option R) → (Unit → Option R) → Option R
  | 0, _, _, _, _, _ => none
  | n + 1, x0, x1, x2, k0, k1 => (bif (decide (x2 < x1)) then
    (bif (inb x2 (x0).length) then
      (bif (decide (((((x0).getD (x2).toNat (⟨#[]⟩ : ByteArray))).size : Int) ≤ 2147483648)) then
        (bif (!(pathOk ((x0).getD (x2).toNat (⟨#[]⟩ : ByteArray)))) then
          (k0 x2)
          else
          (L218v2_0_0 n x0 x1 (IntKind.i64.wrap (x2 + (1 : Int))) k0 k1))
        else none)
      else none)
    else
    (k1 ()))
def T218v2 (N : Nat) (xs : List ByteArray) : Option RV :=
  (L218v2_0_0 N xs ((xs).length : Int) (0 : Int)
  (fun (z1_0 : Int) => some (.one (.one (.fc (.sc (.int .i64 z1_0))))))
  (fun (_ : Unit) => some (.one (.one (.fc (.sc (.int .i64 (-1 : Int))))))))
noncomputable def m218v3 : List AV → CT
  | [.one (.list .str xs), .one (.sc (.func (.func 279) f0a f0b))] => (funE f0a f0b (.br (allBig xs) (.ret (.one (.one (.fc (.sc (.int .i64 (idxNot textValid xs))))))) .no))
  | _ => .no
/-! 218: slices.IndexFunc[[]string,string] -/
def L218v3_0_0 {R : Type} : Nat → List ByteArray → Int → Int → (Int → Option R) → (Unit → Option R) → Option R
  | 0, _, _, _, _, _ => none
  | n + 1, x0, x1, x2, k0, k1 => (bif (decide (x2 < x1)) then
    (bif (inb x2 (x0).length) then
      (bif (decide (((((x0).getD (x2).toNat (⟨#[]⟩ : ByteArray))).size : Int) ≤ 2147483648)) then
        (bif (!(textValid ((x0).getD (x2).toNat (⟨#[]⟩ : ByteArray)))) then
          (k0 x2)
          else
          (L218v3_0_0 n x0 x1 (IntKind.i64.wrap (x2 + (1 : Int))) k0 k1))
        else none)
      else none)
    else
    (k1 ()))
def T218v3 (N : Nat) (xs : List ByteArray) : Option RV :=
  (L218v3_0_0 N xs ((xs).length : Int) (0 : Int)
  (fun (z1_0 : Int) => some (.one (.one (.fc (.sc (.int .i64 z1_0))))))
  (fun (_ : Unit) => some (.one (.one (.fc (.sc (.int .i64 (-1 : Int))))))))
noncomputable def m131v0 : List AV → CT
  | [.one (.list .str xs), .one (.sc (.func (.func 190) f0a f0b))] => (funE f0a f0b (.br (allBig xs) (.ret (.one (.one (.fc (.sc (.bool (!(xs.all labelOk)))))))) .no))
  | _ => .no
/-! 131: slices.ContainsFunc[[]string,string] -/
def T131v0 (N : Nat) (xs : List ByteArray) : Option RV :=
  (bif (allBig xs) then
  some (.one (.one (.fc (.sc (.bool (decide ((idxNot labelOk xs) ≥ (0 : Int))))))))
  else none)
noncomputable def m131v1 : List AV → CT
  | [.one (.list .str xs), .one (.sc (.func (.func 243) f0a f0b))] => (funE f0a f0b (.br (allBig xs) (.ret (.one (.one (.fc (.sc (.bool (!(xs.all atomValid)))))))) .no))
  | _ => .no
/-! 131: slices.ContainsFunc[[]string,string] -/
def T131v1 (N : Nat) (xs : List ByteArray) : Option RV :=
  (bif (allBig xs) then
  some (.one (.one (.fc (.sc (.bool (decide ((idxNot atomValid xs) ≥ (0 : Int))))))))
  else none)
noncomputable def m131v2 : List AV → CT
  | [.one (.list .str xs), .one (.sc (.func (.func 204) f0a f0b))] => (funE f0a f0b (.br (allBig xs) (.ret (.one (.one (.fc (.sc (.bool (!(xs.all pathOk)))))))) .no))
  | _ => .no
/-! 131: slices.ContainsFunc[[]string,string] -/
def T131v2 (N : Nat) (xs : List ByteArray) : Option RV :=
  (bif (allBig xs) then
  some (.one (.one (.fc (.sc (.bool (decide ((idxNot pathOk xs) ≥ (0 : Int))))))))
  else none)
noncomputable def m131v3 : List AV → CT
  | [.one (.list .str xs), .one (.sc (.func (.func 279) f0a f0b))] => (funE f0a f0b (.br (allBig xs) (.ret (.one (.one (.fc (.sc (.bool (!(xs.all textValid)))))))) .no))
  | _ => .no
/-! 131: slices.ContainsFunc[[]string,string] -/
def T131v3 (N : Nat) (xs : List ByteArray) : Option RV :=
  (bif (allBig xs) then
  some (.one (.one (.fc (.sc (.bool (decide ((idxNot textValid xs) ≥ (0 : Int))))))))
  else none)
noncomputable def m94 : List AV → CT
  | [.one (.sc (.string s))] => (.br (decide (((s).size : Int) ≤ 2147483648)) (.ret (.one (.one (.fc (.sc (.bool (domainOk s))))))) .no)
  | _ => .no
/-! 94: impl.isDomain -/
def T94 (N : Nat) (s : ByteArray) : Option RV :=
  (bif (decide (((s).size : Int) ≤ (40 : Int))) then
  (bif (decide (((s).size : Int) ≤ 2147483648) && Nat.beq ((⟨#[46]⟩ : ByteArray)).size 1) then
    (bif (allBig (parts (bt (⟨#[46]⟩ : ByteArray) 0) s)) then
      some (.one (.one (.fc (.sc (.bool (!(!((parts (bt (⟨#[46]⟩ : ByteArray) 0) s).all labelOk))))))))
      else none)
    else none)
  else
  some (.one (.one (.fc (.sc (.bool false))))))
noncomputable def m99 : List AV → CT
  | [.one (.sc (.string s))] => (.br (decide (((s).size : Int) ≤ 2147483648)) (.ret (.one (.one (.fc (.sc (.bool (domainOk s))))))) .no)
  | _ => .no
/-! 99: spec.l2Domain -/
def L99_2_0 {R : Type} : Nat → ByteArray → Int → ByteArray → Int → List ByteArray → (Bool → Option R) → (ByteArray → Int → List ByteArray → Option R) → Option R
  | 0, _, _, _, _, _, _, _ => none
  | n + 1, x0, x1, x2, x3, x4, k0, k1 => (bif (decide (x3 < ((x2).size : Int))) then
    (bif (inb x3 (x2).size) then
      (bif (!(letter (bt x2 x3) || digit (bt x2 x3))) then
        (bif (inb x3 (x2).size) then
          (bif ((bt x2 x3) != (45 : Int)) then
            (k0 false)
            else
            (bif (inb x3 (x2).size) then
              (bif (decide ((bt x2 x3) ≥ (65 : Int))) then
                (bif (inb x3 (x2).size) then
                  (bif (decide ((bt x2 x3) ≤ (90 : Int))) then
                    (k0 false)
                    else
                    (L99_2_0 n x0 x1 x2 (IntKind.i64.wrap (x3 + (1 : Int))) x4 k0 k1))
                  else none)
                else
                (L99_2_0 n x0 x1 x2 (IntKind.i64.wrap (x3 + (1 : Int))) x4 k0 k1))
              else none))
          else none)
        else
        (bif (inb x3 (x2).size) then
          (bif (decide ((bt x2 x3) ≥ (65 : Int))) then
            (bif (inb x3 (x2).size) then
              (bif (decide ((bt x2 x3) ≤ (90 : Int))) then
                (k0 false)
                else
                (L99_2_0 n x0 x1 x2 (IntKind.i64.wrap (x3 + (1 : Int))) x4 k0 k1))
              else none)
            else
            (L99_2_0 n x0 x1 x2 (IntKind.i64.wrap (x3 + (1 : Int))) x4 k0 k1))
          else none))
      else none)
    else
    (k1 x0 x1 x4))
def L99_0_0 {R : Type} (N : Nat) : Nat → ByteArray → Int → List ByteArray → (Bool → Option R) → (ByteArray → Option R) → Option R
  | 0, _, _, _, _, _ => none
  | n + 1, x0, x1, x2, k0, k1 => (bif (decide (x1 < ((x2).length : Int))) then
    (bif (inb x1 (x2).length) then
      (bif (((x2).getD (x1).toNat (⟨#[]⟩ : ByteArray)).toList == (⟨#[]⟩ : ByteArray).toList) then
        (k0 false)
        else
        (bif (inb (0 : Int) (((x2).getD (x1).toNat (⟨#[]⟩ : ByteArray))).size) then
          (bif ((bt ((x2).getD (x1).toNat (⟨#[]⟩ : ByteArray)) (0 : Int)) == (45 : Int)) then
            (k0 false)
            else
            (bif (inb (IntKind.i64.wrap (((((x2).getD (x1).toNat (⟨#[]⟩ : ByteArray))).size : Int) - (1 : Int))) (((x2).getD (x1).toNat (⟨#[]⟩ : ByteArray))).size) then
              (bif ((bt ((x2).getD (x1).toNat (⟨#[]⟩ : ByteArray)) (IntKind.i64.wrap (((((x2).getD (x1).toNat (⟨#[]⟩ : ByteArray))).size : Int) - (1 : Int)))) == (45 : Int)) then
                (k0 false)
                else
                (L99_2_0 N x0 x1 ((x2).getD (x1).toNat (⟨#[]⟩ : ByteArray)) (0 : Int) x2
                  (fun (z1_0 : Bool) => (k0 z1_0))
                  (fun (z2_0 : ByteArray) (z2_1 : Int) (z2_2 : List ByteArray) => (L99_0_0 N n z2_0 (IntKind.i64.wrap (z2_1 + (1 : Int))) z2_2 k0 k1))))
              else none))
          else none))
      else none)
    else
    (k1 x0))
def T99 (N : Nat) (s : ByteArray) : Option RV :=
  (bif (decide (((s).size : Int) ≤ 2147483648)) then
  (L99_0_0 N N s (0 : Int) (parts (46 : Int) s)
    (fun (z3_0 : Bool) => some (.one (.one (.fc (.sc (.bool z3_0))))))
    (fun (z4_0 : ByteArray) => some (.one (.one (.fc (.sc (.bool (decide (((z4_0).size : Int) ≤ (40 : Int))))))))))
  else none)
noncomputable def m166 : List AV → CT
  | [.one (.sc (.string s))] => (.br (decide (((s).size : Int) ≤ 2147483648)) (.ret (.one (.one (.fc (.sc (.bool (localOk s))))))) .no)
  | _ => .no
/-! 166: impl.isLocal -/
def T166 (N : Nat) (s : ByteArray) : Option RV :=
  (bif (decide (((s).size : Int) ≤ (30 : Int))) then
  (bif (decide (((s).size : Int) ≤ 2147483648) && Nat.beq ((⟨#[46]⟩ : ByteArray)).size 1) then
    (bif (allBig (parts (bt (⟨#[46]⟩ : ByteArray) 0) s)) then
      some (.one (.one (.fc (.sc (.bool (!(!((parts (bt (⟨#[46]⟩ : ByteArray) 0) s).all atomValid))))))))
      else none)
    else none)
  else
  some (.one (.one (.fc (.sc (.bool false))))))
noncomputable def m216 : List AV → CT
  | [.one (.sc (.string s))] => (.br (decide (((s).size : Int) ≤ 2147483648)) (.ret (.one (.one (.fc (.sc (.bool (localOk s))))))) .no)
  | _ => .no
/-! 216: spec.l2Local -/
def L216_0_0 {R : Type} : Nat → ByteArray → Int → List ByteArray → (Bool → Option R) → (ByteArray → Option R) → Option R
  | 0, _, _, _, _, _ => none
  | n + 1, x0, x1, x2, k0, k1 => (bif (decide (x1 < ((x2).length : Int))) then
    (bif (inb x1 (x2).length) then
      (bif (decide (((((x2).getD (x1).toNat (⟨#[]⟩ : ByteArray))).size : Int) ≤ 2147483648)) then
        (bif (!(atomValid ((x2).getD (x1).toNat (⟨#[]⟩ : ByteArray)))) then
          (k0 false)
          else
          (L216_0_0 n x0 (IntKind.i64.wrap (x1 + (1 : Int))) x2 k0 k1))
        else none)
      else none)
    else
    (k1 x0))
def T216 (N : Nat) (s : ByteArray) : Option RV :=
  (bif (decide (((s).size : Int) ≤ 2147483648)) then
  (L216_0_0 N s (0 : Int) (parts (46 : Int) s)
    (fun (z1_0 : Bool) => some (.one (.one (.fc (.sc (.bool z1_0))))))
    (fun (z2_0 : ByteArray) => some (.one (.one (.fc (.sc (.bool (decide (((z2_0).size : Int) ≤ (30 : Int))))))))))
  else none)
noncomputable def m71 : List AV → CT
  | [.one (.sc (.string s))] => (.br (decide (((s).size : Int) ≤ 2147483648)) (.ret (.one (.one (.fc (.sc (.bool (pathOk s))))))) .no)
  | _ => .no
/-! 71: impl.isPath -/
def T71 (N : Nat) (s : ByteArray) : Option RV :=
  (bif (decide (((s).size : Int) ≤ 2147483648) && Nat.beq ((⟨#[64]⟩ : ByteArray)).size 1) then
  (bif ((cutAt (bt (⟨#[64]⟩ : ByteArray) 0) s).2.2) then
    (bif (decide (((((cutAt (bt (⟨#[64]⟩ : ByteArray) 0) s).1)).size : Int) ≤ 2147483648)) then
      (bif (localOk ((cutAt (bt (⟨#[64]⟩ : ByteArray) 0) s).1)) then
        (bif (decide (((((cutAt (bt (⟨#[64]⟩ : ByteArray) 0) s).2.1)).size : Int) ≤ 2147483648)) then
          some (.one (.one (.fc (.sc (.bool (domainOk ((cutAt (bt (⟨#[64]⟩ : ByteArray) 0) s).2.1)))))))
          else none)
        else
        some (.one (.one (.fc (.sc (.bool false))))))
      else none)
    else
    some (.one (.one (.fc (.sc (.bool false))))))
  else none)
noncomputable def m203 : List AV → CT
  | [.one (.sc (.string s))] => (.br (decide (((s).size : Int) ≤ 2147483648)) (.ret (.one (.one (.fc (.sc (.bool (fromOk s))))))) .no)
  | _ => .no
/-! 203: impl.isFrom -/
def T203 (N : Nat) (s : ByteArray) : Option RV :=
  (bif (s.toList == (⟨#[]⟩ : ByteArray).toList) then
  some (.one (.one (.fc (.sc (.bool true)))))
  else
  (bif (decide (((s).size : Int) ≤ 2147483648)) then
    some (.one (.one (.fc (.sc (.bool (pathOk s))))))
    else none))
noncomputable def m204 : List AV → CT
  | [.one (.sc (.string s))] => (.br (decide (((s).size : Int) ≤ 2147483648)) (.ret (.one (.one (.fc (.sc (.bool (!(pathOk s)))))))) .no)
  | _ => .no
/-! 204: impl.draftValid$1 -/
def T204 (N : Nat) (s : ByteArray) : Option RV :=
  (bif (decide (((s).size : Int) ≤ 2147483648)) then
  some (.one (.one (.fc (.sc (.bool (!(pathOk s)))))))
  else none)
noncomputable def m205 : List AV → CT
  | [.one (.list .str xs), .one (.sc (.int .i64 n))] => (.br (allBig xs) (.ret (.one (.one (.fc (.sc (.bool (textsOk xs n))))))) .no)
  | _ => .no
/-! 205: impl.areTexts -/
def T205 (N : Nat) (xs : List ByteArray) (n : Int) : Option RV :=
  (bif (decide (((xs).length : Int) ≤ n)) then
  (bif (allBig xs) then
    some (.one (.one (.fc (.sc (.bool (!(!(xs.all textValid))))))))
    else none)
  else
  some (.one (.one (.fc (.sc (.bool false))))))
noncomputable def m231 : List AV → CT
  | [.one (.sc (.string s)), .one (.sc (.int .i64 i))] => (.br (decide (((s).size : Int) ≤ 2147483648) && decide (0 ≤ i) && decide (i ≤ 2147483648)) (.ret (.multi [.one (.fc (.sc (.string ((readQ s i).1)))), .one (.fc (.sc (.int .i64 ((readQ s i).2))))])) .no)
  | _ => .no
/-! 231: spec.l1Read -/
def L231_0_0 {R : Type} : Nat → ByteArray → ByteArray → Int → (ByteArray → Int → Option R) → (Unit → Option R) → Option R
  | 0, _, _, _, _, _ => none
  | n + 1, x0, x1, x2, k0, k1 => (bif (decide (x2 < ((x0).size : Int))) then
    (bif (inb x2 (x0).size) then
      (bif ((bt x0 x2) == (34 : Int)) then
        (k0 x1 (IntKind.i64.wrap (x2 + (1 : Int))))
        else
        (bif (inb x2 (x0).size) then
          (bif ((bt x0 x2) == (92 : Int)) then
            (bif ((IntKind.i64.wrap (x2 + (1 : Int))) == ((x0).size : Int)) then
              (k0 (⟨#[]⟩ : ByteArray) (-1 : Int))
              else
              (bif (cutOk (x0).size (some (IntKind.i64.wrap (x2 + (1 : Int)))) (some (IntKind.i64.wrap ((IntKind.i64.wrap (x2 + (1 : Int))) + (1 : Int))))) then
                (bif (Nat.ble (x1.size + (cutS x0 (some (IntKind.i64.wrap (x2 + (1 : Int)))) (some (IntKind.i64.wrap ((IntKind.i64.wrap (x2 + (1 : Int))) + (1 : Int))))).size) 9223372036854775807) then
                  (L231_0_0 n x0 (x1 ++ (cutS x0 (some (IntKind.i64.wrap (x2 + (1 : Int)))) (some (IntKind.i64.wrap ((IntKind.i64.wrap (x2 + (1 : Int))) + (1 : Int)))))) (IntKind.i64.wrap ((IntKind.i64.wrap (x2 + (1 : Int))) + (1 : Int))) k0 k1)
                  else none)
                else none))
            else
            (bif (cutOk (x0).size (some x2) (some (IntKind.i64.wrap (x2 + (1 : Int))))) then
              (bif (Nat.ble (x1.size + (cutS x0 (some x2) (some (IntKind.i64.wrap (x2 + (1 : Int))))).size) 9223372036854775807) then
                (L231_0_0 n x0 (x1 ++ (cutS x0 (some x2) (some (IntKind.i64.wrap (x2 + (1 : Int)))))) (IntKind.i64.wrap (x2 + (1 : Int))) k0 k1)
                else none)
              else none))
          else none))
      else none)
    else
    (k1 ()))
def T231 (N : Nat) (s : ByteArray) (i : Int) : Option RV :=
  (L231_0_0 N s (⟨#[]⟩ : ByteArray) (IntKind.i64.wrap (i + (1 : Int)))
  (fun (z1_0 : ByteArray) (z1_1 : Int) => some (.multi [.one (.fc (.sc (.string z1_0))), .one (.fc (.sc (.int .i64 z1_1)))]))
  (fun (_ : Unit) => some (.multi [.one (.fc (.sc (.string (⟨#[]⟩ : ByteArray)))), .one (.fc (.sc (.int .i64 (-1 : Int))))])))
noncomputable def m144 : List AV → CT
  | [.one (.sc (.string s)), .one (.sc (.int .u8 c))] => (.br (decide (((s).size : Int) ≤ 2147483648)) (.ret (.multi [.one (.fc (.sc (.string ((cutQ c s).1)))), .one (.fc (.sc (.string ((cutQ c s).2.1)))), .one (.fc (.sc (.bool ((cutQ c s).2.2))))])) .no)
  | _ => .no
/-! 144: spec.l2Cut -/
def L144_0_0 {R : Type} : Nat → ByteArray → Int → Int → (ByteArray → ByteArray → Bool → Option R) → (ByteArray → Option R) → Option R
  | 0, _, _, _, _, _ => none
  | n + 1, x0, x1, x2, k0, k1 => (bif (decide (x2 < ((x0).size : Int))) then
    (bif (inb x2 (x0).size) then
      (bif ((bt x0 x2) == (34 : Int)) then
        (bif (decide (((x0).size : Int) ≤ 2147483648) && decide (0 ≤ x2) && decide (x2 ≤ 2147483648)) then
          (bif (decide (((readQ x0 x2).2) < (0 : Int))) then
            (k0 x0 (⟨#[]⟩ : ByteArray) false)
            else
            (L144_0_0 n x0 x1 ((readQ x0 x2).2) k0 k1))
          else none)
        else
        (bif (inb x2 (x0).size) then
          (bif ((bt x0 x2) == x1) then
            (bif (cutOk (x0).size none (some x2)) then
              (bif (cutOk (x0).size (some (IntKind.i64.wrap (x2 + (1 : Int)))) none) then
                (k0 (cutS x0 none (some x2)) (cutS x0 (some (IntKind.i64.wrap (x2 + (1 : Int)))) none) true)
                else none)
              else none)
            else
            (L144_0_0 n x0 x1 (IntKind.i64.wrap (x2 + (1 : Int))) k0 k1))
          else none))
      else none)
    else
    (k1 x0))
def T144 (N : Nat) (s : ByteArray) (c : Int) : Option RV :=
  (L144_0_0 N s c (0 : Int)
  (fun (z1_0 : ByteArray) (z1_1 : ByteArray) (z1_2 : Bool) => some (.multi [.one (.fc (.sc (.string z1_0))), .one (.fc (.sc (.string z1_1))), .one (.fc (.sc (.bool z1_2)))]))
  (fun (z2_0 : ByteArray) => some (.multi [.one (.fc (.sc (.string z2_0))), .one (.fc (.sc (.string (⟨#[]⟩ : ByteArray)))), .one (.fc (.sc (.bool false)))])))
end Go.Iv

/- ... and that it is what was said. -/
namespace Go.Iv

theorem br3_val {c d e : Bool} {a : CT} {res : RV} (h : (CT.br (c && d && e) a .no).val = some res) : c = true ∧ d = true ∧ e = true ∧ a.val = some res := by
  cases c with
  | true => cases d with
    | true => cases e with
      | true => exact ⟨rfl, rfl, rfl, h⟩
      | false => cases h
    | false => cases h
  | false => cases h
theorem big_of {s : ByteArray} (h : decide ((s.size : Int) ≤ 2147483648) = true) : s.size ≤ 2147483648 := by have := of_decide_eq_true h; omega
theorem big_t {s : ByteArray} (h : s.size ≤ 2147483648) : decide ((s.size : Int) ≤ 2147483648) = true := decide_eq_true (by omega)
theorem empty_iff (s : ByteArray) : (s.toList == (⟨#[]⟩ : ByteArray).toList) = decide (s = ⟨#[]⟩) := eq_toList s ⟨#[]⟩
theorem size0_iff (s : ByteArray) : s = ⟨#[]⟩ ↔ s.size = 0 := by
  constructor
  · intro h; subst h; rfl
  · intro h
    have : s.data = #[] := Array.eq_empty_of_size_eq_zero h
    cases s; simp_all
theorem beq_f {a b : Int} (h : ¬ a = b) : (a == b) = false := by simp [h]
theorem bne_t {a b : Int} (h : ¬ a = b) : (a != b) = true := by simp [h]
theorem beq_t {a b : Int} (h : a = b) : (a == b) = true := by simp [h]
theorem bne_f {a b : Int} (h : a = b) : (a != b) = false := by simp [h]
theorem wrap_sub1 {n : Nat} (h : 1 ≤ n) (h2 : n ≤ 2147483648) : IntKind.i64.wrap ((n : Int) - (1 : Int)) = ((n - 1 : Nat) : Int) := by
  rw [wrap_id (by omega) (by omega)]; omega

theorem L83_eq {R : Type} (s : ByteArray) (c : Int) (hs : s.size ≤ 2147483648) (k : List ByteArray → Option R) : ∀ (d n i st : Nat) (acc : List ByteArray), i + d = s.size → st ≤ i → acc.length ≤ i → d < n →
    L83_0_0 n s c (st : Int) (i : Int) acc (fun (z1_0 : ByteArray) (z1_1 : Int) (z1_2 : List ByteArray) => (bif (cutOk (z1_0).size (some z1_1) none) then
    (bif (Nat.ble (z1_2.length + 1) 1099511627776) then k (z1_2 ++ ([(cutS z1_0 (some z1_1) none)] : List ByteArray)) else none) else none)) = k (acc ++ partsFrom c s d i st) := by
  intro d
  induction d with
  | zero =>
    intro n i st acc hi hst ha hn
    obtain ⟨n, rfl⟩ : ∃ m, n = m + 1 := ⟨n - 1, by omega⟩
    rw [L83_0_0, lt_f (by omega)]
    show (bif (cutOk s.size (some (st : Int)) none) then _ else _) = _
    rw [cutOk_from (by omega), Nat.ble_eq_true_of_le (by omega), cutS_from]; rfl
  | succ d ih =>
    intro n i st acc hi hst ha hn
    obtain ⟨n, rfl⟩ : ∃ m, n = m + 1 := ⟨n - 1, by omega⟩
    rw [L83_0_0, lt_t (by omega), inb_t (by omega), wrap_s (by omega), cutOk_lt hst (by omega), Nat.ble_eq_true_of_le (by omega), cutS_lt, partsFrom]
    by_cases h : bt s i = c
    · rw [if_pos h, show (bt s (i : Int) == c) = true from by simp [h]]
      have := ih n (i + 1) (i + 1) (acc ++ [s.extract st i]) (by omega) (by omega) (by simp; omega) (by omega)
      simp only [cond_true]
      rw [this, List.append_assoc]; rfl
    · rw [if_neg h, show (bt s (i : Int) == c) = false from by simp [h]]
      exact ih n (i + 1) st acc (by omega) (by omega) (by omega) (by omega)
theorem pl83 : ∀ (s : ByteArray) (c : Int) res, (m83 [.one (.sc (.string s)), .one (.sc (.int .u8 c))]).val = some res → ∃ N, T83 N s c = some res := by
  intro s c res h
  obtain ⟨h1, h2⟩ := br_val h
  cases h2
  refine ⟨s.size + 1, ?_⟩
  unfold T83 parts
  exact (L83_eq s c (big_of h1) (fun x => some (RV.one (.one (.buf .str 9 x)))) s.size (s.size + 1) 0 0 [] (by omega) (by omega) (by simp) (by omega)).trans (by simp)

theorem pl191 : ∀ (s : ByteArray) res, (m191 [.one (.sc (.string s))]).val = some res → ∃ N, T191 N s = some res := by
  intro s res h
  obtain ⟨h1, h2⟩ := br_val h
  cases h2
  refine ⟨0, ?_⟩
  have hs := big_of h1
  unfold T191 labelOk
  rw [empty_iff, h1]
  by_cases h0 : s.size = 0
  · rw [show decide (s = ⟨#[]⟩) = true from decide_eq_true ((size0_iff s).2 h0), show decide (1 ≤ s.size) = false from decide_eq_false (by omega)]; rfl
  · rw [show decide (s = ⟨#[]⟩) = false from decide_eq_false fun e => h0 ((size0_iff s).1 e), show decide (1 ≤ s.size) = true from decide_eq_true (by omega), wrap_sub1 (by omega) hs,
      show inb (0 : Int) s.size = true from inb_t (i := 0) (by omega), inb_t (by omega)]
    by_cases ha : bt s 0 = 45
    · rw [bne_f ha, decide_eq_true ha]; rfl
    · rw [bne_t ha, decide_eq_false ha]
      by_cases hb : bt s ((s.size - 1 : Nat) : Int) = 45
      · rw [bne_f hb, decide_eq_true hb]; rfl
      · rw [bne_t hb, decide_eq_false hb]; rfl

theorem pl190 : ∀ (s : ByteArray) res, (m190 [.one (.sc (.string s))]).val = some res → ∃ N, T190 N s = some res := by
  intro s res h
  obtain ⟨h1, h2⟩ := br_val h
  cases h2
  exact ⟨0, by unfold T190; rw [h1]; rfl⟩
theorem pl243 : ∀ (s : ByteArray) res, (m243 [.one (.sc (.string s))]).val = some res → ∃ N, T243 N s = some res := by
  intro s res h
  obtain ⟨h1, h2⟩ := br_val h
  cases h2
  exact ⟨0, by unfold T243; rw [h1]; rfl⟩
theorem pl279 : ∀ (s : ByteArray) res, (m279 [.one (.sc (.string s))]).val = some res → ∃ N, T279 N s = some res := by
  intro s res h
  obtain ⟨h1, h2⟩ := br_val h
  cases h2
  exact ⟨0, by unfold T279; rw [h1]; rfl⟩
theorem pl204 : ∀ (s : ByteArray) res, (m204 [.one (.sc (.string s))]).val = some res → ∃ N, T204 N s = some res := by
  intro s res h
  obtain ⟨h1, h2⟩ := br_val h
  cases h2
  exact ⟨0, by unfold T204; rw [h1]; rfl⟩

theorem L218v0_eq {R : Type} (xs : List ByteArray) (k0 : Int → Option R) (k1 : Unit → Option R) (hb : allBig xs = true) : ∀ (d n i : Nat), i + d = xs.length → d < n →
    L218v0_0_0 n xs (xs.length : Int) (i : Int) k0 k1 = bif (xs.drop i).all labelOk then k1 () else k0 (idxFrom labelOk (xs.drop i) i) := by
  obtain ⟨hl, hx⟩ := allBig_at hb
  intro d
  induction d with
  | zero =>
    intro n i hi hn
    obtain ⟨n, rfl⟩ : ∃ m, n = m + 1 := ⟨n - 1, by omega⟩
    rw [L218v0_0_0, lt_f (by omega), List.drop_eq_nil_of_le (by omega)]; rfl
  | succ d ih =>
    intro n i hi hn
    obtain ⟨n, rfl⟩ : ∃ m, n = m + 1 := ⟨n - 1, by omega⟩
    have hlt : i < xs.length := by omega
    rw [L218v0_0_0, lt_t hlt, inb_t hlt, wrap_s (by omega), getDN_at xs i _ hlt, big_t (hx _ (List.getElem_mem hlt)), ih n (i + 1) (by omega) (by omega), List.drop_eq_getElem_cons hlt, List.all_cons, idxFrom]
    cases labelOk xs[i] <;> rfl
theorem pl218v0 : ∀ (xs : List ByteArray) res, (m218v0 [.one (.list .str xs), .one (.sc (.func (.func 190) #[] #[]))]).val = some res → ∃ N, T218v0 N xs = some res := by
  intro xs res h
  obtain ⟨h1, h2⟩ := br_val h
  cases h2
  refine ⟨xs.length + 1, ?_⟩
  unfold T218v0 idxNot
  refine (L218v0_eq xs _ _ h1 xs.length (xs.length + 1) 0 (by omega) (by omega)).trans ?_
  rw [List.drop_zero]
  cases ha : xs.all labelOk
  · rfl
  · have : idxFrom labelOk xs 0 = -1 := by
      have h3 := idxFrom_nonneg labelOk xs 0
      have h4 : ∀ (ys : List ByteArray) (i : Nat), ys.all labelOk = true → idxFrom labelOk ys i = -1 := by
        intro ys
        induction ys with
        | nil => intro i _; rfl
        | cons y ys ih =>
          intro i hy
          rw [List.all_cons, Bool.and_eq_true] at hy
          rw [idxFrom, hy.1]; exact ih (i + 1) hy.2
      exact h4 xs 0 ha
    rw [this]; rfl
theorem pl131v0 : ∀ (xs : List ByteArray) res, (m131v0 [.one (.list .str xs), .one (.sc (.func (.func 190) #[] #[]))]).val = some res → ∃ N, T131v0 N xs = some res := by
  intro xs res h
  obtain ⟨h1, h2⟩ := br_val h
  cases h2
  refine ⟨0, ?_⟩
  unfold T131v0 idxNot
  rw [h1]
  have h3 := idxFrom_nonneg labelOk xs 0
  cases ha : xs.all labelOk
  · rw [ha] at h3; simp [h3]
  · rw [ha] at h3
    have : ¬ 0 ≤ idxFrom labelOk xs 0 := fun h => (h3.1 h) rfl
    simp [this]

theorem L218v1_eq {R : Type} (xs : List ByteArray) (k0 : Int → Option R) (k1 : Unit → Option R) (hb : allBig xs = true) : ∀ (d n i : Nat), i + d = xs.length → d < n →
    L218v1_0_0 n xs (xs.length : Int) (i : Int) k0 k1 = bif (xs.drop i).all atomValid then k1 () else k0 (idxFrom atomValid (xs.drop i) i) := by
  obtain ⟨hl, hx⟩ := allBig_at hb
  intro d
  induction d with
  | zero =>
    intro n i hi hn
    obtain ⟨n, rfl⟩ : ∃ m, n = m + 1 := ⟨n - 1, by omega⟩
    rw [L218v1_0_0, lt_f (by omega), List.drop_eq_nil_of_le (by omega)]; rfl
  | succ d ih =>
    intro n i hi hn
    obtain ⟨n, rfl⟩ : ∃ m, n = m + 1 := ⟨n - 1, by omega⟩
    have hlt : i < xs.length := by omega
    rw [L218v1_0_0, lt_t hlt, inb_t hlt, wrap_s (by omega), getDN_at xs i _ hlt, big_t (hx _ (List.getElem_mem hlt)), ih n (i + 1) (by omega) (by omega), List.drop_eq_getElem_cons hlt, List.all_cons, idxFrom]
    cases atomValid xs[i] <;> rfl
theorem pl218v1 : ∀ (xs : List ByteArray) res, (m218v1 [.one (.list .str xs), .one (.sc (.func (.func 243) #[] #[]))]).val = some res → ∃ N, T218v1 N xs = some res := by
  intro xs res h
  obtain ⟨h1, h2⟩ := br_val h
  cases h2
  refine ⟨xs.length + 1, ?_⟩
  unfold T218v1 idxNot
  refine (L218v1_eq xs _ _ h1 xs.length (xs.length + 1) 0 (by omega) (by omega)).trans ?_
  rw [List.drop_zero]
  cases ha : xs.all atomValid
  · rfl
  · have : idxFrom atomValid xs 0 = -1 := by
      have h3 := idxFrom_nonneg atomValid xs 0
      have h4 : ∀ (ys : List ByteArray) (i : Nat), ys.all atomValid = true → idxFrom atomValid ys i = -1 := by
        intro ys
        induction ys with
        | nil => intro i _; rfl
        | cons y ys ih =>
          intro i hy
          rw [List.all_cons, Bool.and_eq_true] at hy
          rw [idxFrom, hy.1]; exact ih (i + 1) hy.2
      exact h4 xs 0 ha
    rw [this]; rfl
theorem pl131v1 : ∀ (xs : List ByteArray) res, (m131v1 [.one (.list .str xs), .one (.sc (.func (.func 243) #[] #[]))]).val = some res → ∃ N, T131v1 N xs = some res := by
  intro xs res h
  obtain ⟨h1, h2⟩ := br_val h
  cases h2
  refine ⟨0, ?_⟩
  unfold T131v1 idxNot
  rw [h1]
  have h3 := idxFrom_nonneg atomValid xs 0
  cases ha : xs.all atomValid
  · rw [ha] at h3; simp [h3]
  · rw [ha] at h3
    have : ¬ 0 ≤ idxFrom atomValid xs 0 := fun h => (h3.1 h) rfl
    simp [this]

theorem L218v2_eq {R : Type} (xs : List ByteArray) (k0 : Int → Option R) (k1 : Unit → Option R) (hb : allBig xs = true) : ∀ (d n i : Nat), i + d = xs.length → d < n →
    L218v2_0_0 n xs (xs.length : Int) (i : Int) k0 k1 = bif (xs.drop i).all pathOk then k1 () else k0 (idxFrom pathOk (xs.drop i) i) := by
  obtain ⟨hl, hx⟩ := allBig_at hb
  intro d
  induction d with
  | zero =>
    intro n i hi hn
    obtain ⟨n, rfl⟩ : ∃ m, n = m + 1 := ⟨n - 1, by omega⟩
    rw [L218v2_0_0, lt_f (by omega), List.drop_eq_nil_of_le (by omega)]; rfl
  | succ d ih =>
    intro n i hi hn
    obtain ⟨n, rfl⟩ : ∃ m, n = m + 1 := ⟨n - 1, by omega⟩
    have hlt : i < xs.length := by omega
    rw [L218v2_0_0, lt_t hlt, inb_t hlt, wrap_s (by omega), getDN_at xs i _ hlt, big_t (hx _ (List.getElem_mem hlt)), ih n (i + 1) (by omega) (by omega), List.drop_eq_getElem_cons hlt, List.all_cons, idxFrom]
    cases pathOk xs[i] <;> rfl
theorem pl218v2 : ∀ (xs : List ByteArray) res, (m218v2 [.one (.list .str xs), .one (.sc (.func (.func 204) #[] #[]))]).val = some res → ∃ N, T218v2 N xs = some res := by
  intro xs res h
  obtain ⟨h1, h2⟩ := br_val h
  cases h2
  refine ⟨xs.length + 1, ?_⟩
  unfold T218v2 idxNot
  refine (L218v2_eq xs _ _ h1 xs.length (xs.length + 1) 0 (by omega) (by omega)).trans ?_
  rw [List.drop_zero]
  cases ha : xs.all pathOk
  · rfl
  · have : idxFrom pathOk xs 0 = -1 := by
      have h3 := idxFrom_nonneg pathOk xs 0
      have h4 : ∀ (ys : List ByteArray) (i : Nat), ys.all pathOk = true → idxFrom pathOk ys i = -1 := by
        intro ys
        induction ys with
        | nil => intro i _; rfl
        | cons y ys ih =>
          intro i hy
          rw [List.all_cons, Bool.and_eq_true] at hy
          rw [idxFrom, hy.1]; exact ih (i + 1) hy.2
      exact h4 xs 0 ha
    rw [this]; rfl
theorem pl131v2 : ∀ (xs : List ByteArray) res, (m131v2 [.one (.list .str xs), .one (.sc (.func (.func 204) #[] #[]))]).val = some res → ∃ N, T131v2 N xs = some res := by
  intro xs res h
  obtain ⟨h1, h2⟩ := br_val h
  cases h2
  refine ⟨0, ?_⟩
  unfold T131v2 idxNot
  rw [h1]
  have h3 := idxFrom_nonneg pathOk xs 0
  cases ha : xs.all pathOk
  · rw [ha] at h3; simp [h3]
  · rw [ha] at h3
    have : ¬ 0 ≤ idxFrom pathOk xs 0 := fun h => (h3.1 h) rfl
    simp [this]

theorem L218v3_eq {R : Type} (xs : List ByteArray) (k0 : Int → Option R) (k1 : Unit → Option R) (hb : allBig xs = true) : ∀ (d n i : Nat), i + d = xs.length → d < n →
    L218v3_0_0 n xs (xs.length : Int) (i : Int) k0 k1 = bif (xs.drop i).all textValid then k1 () else k0 (idxFrom textValid (xs.drop i) i) := by
  obtain ⟨hl, hx⟩ := allBig_at hb
  intro d
  induction d with
  | zero =>
    intro n i hi hn
    obtain ⟨n, rfl⟩ : ∃ m, n = m + 1 := ⟨n - 1, by omega⟩
    rw [L218v3_0_0, lt_f (by omega), List.drop_eq_nil_of_le (by omega)]; rfl
  | succ d ih =>
    intro n i hi hn
    obtain ⟨n, rfl⟩ : ∃ m, n = m + 1 := ⟨n - 1, by omega⟩
    have hlt : i < xs.length := by omega
    rw [L218v3_0_0, lt_t hlt, inb_t hlt, wrap_s (by omega), getDN_at xs i _ hlt, big_t (hx _ (List.getElem_mem hlt)), ih n (i + 1) (by omega) (by omega), List.drop_eq_getElem_cons hlt, List.all_cons, idxFrom]
    cases textValid xs[i] <;> rfl
theorem pl218v3 : ∀ (xs : List ByteArray) res, (m218v3 [.one (.list .str xs), .one (.sc (.func (.func 279) #[] #[]))]).val = some res → ∃ N, T218v3 N xs = some res := by
  intro xs res h
  obtain ⟨h1, h2⟩ := br_val h
  cases h2
  refine ⟨xs.length + 1, ?_⟩
  unfold T218v3 idxNot
  refine (L218v3_eq xs _ _ h1 xs.length (xs.length + 1) 0 (by omega) (by omega)).trans ?_
  rw [List.drop_zero]
  cases ha : xs.all textValid
  · rfl
  · have : idxFrom textValid xs 0 = -1 := by
      have h3 := idxFrom_nonneg textValid xs 0
      have h4 : ∀ (ys : List ByteArray) (i : Nat), ys.all textValid = true → idxFrom textValid ys i = -1 := by
        intro ys
        induction ys with
        | nil => intro i _; rfl
        | cons y ys ih =>
          intro i hy
          rw [List.all_cons, Bool.and_eq_true] at hy
          rw [idxFrom, hy.1]; exact ih (i + 1) hy.2
      exact h4 xs 0 ha
    rw [this]; rfl
theorem pl131v3 : ∀ (xs : List ByteArray) res, (m131v3 [.one (.list .str xs), .one (.sc (.func (.func 279) #[] #[]))]).val = some res → ∃ N, T131v3 N xs = some res := by
  intro xs res h
  obtain ⟨h1, h2⟩ := br_val h
  cases h2
  refine ⟨0, ?_⟩
  unfold T131v3 idxNot
  rw [h1]
  have h3 := idxFrom_nonneg textValid xs 0
  cases ha : xs.all textValid
  · rw [ha] at h3; simp [h3]
  · rw [ha] at h3
    have : ¬ 0 ≤ idxFrom textValid xs 0 := fun h => (h3.1 h) rfl
    simp [this]
theorem bt46 : bt (⟨#[46]⟩ : ByteArray) 0 = 46 := rfl
theorem bt64 : bt (⟨#[64]⟩ : ByteArray) 0 = 64 := rfl
theorem sz46 : Nat.beq (⟨#[46]⟩ : ByteArray).size 1 = true := rfl
theorem sz64 : Nat.beq (⟨#[64]⟩ : ByteArray).size 1 = true := rfl
theorem le_nat (n k : Nat) : decide ((n : Int) ≤ (k : Int)) = decide (n ≤ k) := decide_eq_decide.2 (by omega)

theorem pl94 : ∀ (s : ByteArray) res, (m94 [.one (.sc (.string s))]).val = some res → ∃ N, T94 N s = some res := by
  intro s res h
  obtain ⟨h1, h2⟩ := br_val h
  cases h2
  refine ⟨0, ?_⟩
  unfold T94 domainOk
  rw [h1, bt46, sz46, show decide ((s.size : Int) ≤ (40 : Int)) = decide (s.size ≤ 40) from le_nat _ 40]
  by_cases h40 : s.size ≤ 40
  · rw [parts_big (by omega)]; simp [h40]
  · simp [h40]
theorem pl166 : ∀ (s : ByteArray) res, (m166 [.one (.sc (.string s))]).val = some res → ∃ N, T166 N s = some res := by
  intro s res h
  obtain ⟨h1, h2⟩ := br_val h
  cases h2
  refine ⟨0, ?_⟩
  unfold T166 localOk
  rw [h1, bt46, sz46, show decide ((s.size : Int) ≤ (30 : Int)) = decide (s.size ≤ 30) from le_nat _ 30]
  by_cases h40 : s.size ≤ 30
  · rw [parts_big (by omega)]; simp [h40]
  · simp [h40]

theorem parts_at {s : ByteArray} (hs : s.size ≤ 2147483648) : (parts 46 s).length ≤ 2147483649 ∧ ∀ x ∈ parts 46 s, x.size ≤ 2147483648 :=
  ⟨by have := partsFrom_len 46 s s.size 0 0; unfold parts; omega, fun x hx => by have := partsFrom_size 46 s s.size 0 0 x hx; omega⟩

theorem L216_eq {R : Type} (s : ByteArray) (xs : List ByteArray) (k0 : Bool → Option R) (k1 : ByteArray → Option R) (hl : xs.length ≤ 2147483649) (hx : ∀ x ∈ xs, x.size ≤ 2147483648) : ∀ (d n i : Nat), i + d = xs.length → d < n →
    L216_0_0 n s (i : Int) xs k0 k1 = bif (xs.drop i).all atomValid then k1 s else k0 false := by
  intro d
  induction d with
  | zero =>
    intro n i hi hn
    obtain ⟨n, rfl⟩ : ∃ m, n = m + 1 := ⟨n - 1, by omega⟩
    rw [L216_0_0, lt_f (by omega), List.drop_eq_nil_of_le (by omega)]; rfl
  | succ d ih =>
    intro n i hi hn
    obtain ⟨n, rfl⟩ : ∃ m, n = m + 1 := ⟨n - 1, by omega⟩
    have hlt : i < xs.length := by omega
    rw [L216_0_0, lt_t hlt, inb_t hlt, wrap_s (by omega), getDN_at xs i _ hlt, big_t (hx _ (List.getElem_mem hlt)), ih n (i + 1) (by omega) (by omega), List.drop_eq_getElem_cons hlt, List.all_cons]
    cases atomValid xs[i] <;> rfl
theorem pl216 : ∀ (s : ByteArray) res, (m216 [.one (.sc (.string s))]).val = some res → ∃ N, T216 N s = some res := by
  intro s res h
  obtain ⟨h1, h2⟩ := br_val h
  cases h2
  obtain ⟨p1, p2⟩ := parts_at (big_of h1)
  refine ⟨(parts 46 s).length + 1, ?_⟩
  unfold T216 localOk
  rw [h1, cond_true]
  refine (L216_eq s (parts 46 s) _ _ p1 p2 (parts 46 s).length ((parts 46 s).length + 1) 0 (Nat.zero_add _) (Nat.lt_add_one _)).trans ?_
  rw [List.drop_zero, show decide ((s.size : Int) ≤ (30 : Int)) = decide (s.size ≤ 30) from le_nat _ 30]
  cases (parts 46 s).all atomValid <;> cases decide (s.size ≤ 30) <;> rfl

theorem L99_in {R : Type} (s : ByteArray) (j : Int) (x : ByteArray) (xs : List ByteArray) (k0 : Bool → Option R) (k1 : ByteArray → Int → List ByteArray → Option R) (hs : x.size ≤ 2147483648) : ∀ (d n i : Nat), i + d = x.size → d < n →
    L99_2_0 n s j x (i : Int) xs k0 k1 = bif allFrom labelByte x i then k1 s j xs else k0 false := by
  intro d
  induction d with
  | zero =>
    intro n i hi hn
    obtain ⟨n, rfl⟩ : ∃ m, n = m + 1 := ⟨n - 1, by omega⟩
    rw [L99_2_0, lt_f (by omega), allFrom_end _ _ _ (by omega)]; rfl
  | succ d ih =>
    intro n i hi hn
    obtain ⟨n, rfl⟩ : ∃ m, n = m + 1 := ⟨n - 1, by omega⟩
    rw [L99_2_0, lt_t (by omega), inb_t (by omega), wrap_s (by omega), ih n (i + 1) (by omega) (by omega), allFrom_step labelByte x i (by omega)]
    have key : labelByte (bt x i) = ((letter (bt x i) || digit (bt x i)) && !(decide (65 ≤ bt x i) && decide (bt x i ≤ 90)) || decide (bt x i = 45)) := by
      unfold labelByte letter digit
      rw [Bool.eq_iff_iff]
      simp only [decide_eq_true_eq, Bool.or_eq_true, Bool.and_eq_true, Bool.not_eq_true', Bool.and_eq_false_iff, decide_eq_false_iff_not]
      omega
    rw [key]
    by_cases hup : 65 ≤ bt x i
    · by_cases hup2 : bt x i ≤ 90
      · have h45 : ¬ bt x i = 45 := by omega
        cases hl : (letter (bt x i) || digit (bt x i)) <;> simp [hup, hup2, h45, hl, bne, beq_f]
      · have h45 : ¬ bt x i = 45 := by omega
        cases hl : (letter (bt x i) || digit (bt x i)) <;> simp [hup, hup2, h45, hl, bne, beq_f]
    · by_cases h45 : bt x i = 45
      · cases hl : (letter (bt x i) || digit (bt x i)) <;> simp [hup, h45, hl, bne, beq_f]
      · cases hl : (letter (bt x i) || digit (bt x i)) <;> simp [hup, h45, hl, bne, beq_f]
theorem L99_eq {R : Type} (N : Nat) (s : ByteArray) (xs : List ByteArray) (k0 : Bool → Option R) (k1 : ByteArray → Option R) (hN : 2147483648 < N) (hl : xs.length ≤ 2147483649) (hx : ∀ x ∈ xs, x.size ≤ 2147483648) : ∀ (d n i : Nat), i + d = xs.length → d < n →
    L99_0_0 N n s (i : Int) xs k0 k1 = bif (xs.drop i).all labelOk then k1 s else k0 false := by
  intro d
  induction d with
  | zero =>
    intro n i hi hn
    obtain ⟨n, rfl⟩ : ∃ m, n = m + 1 := ⟨n - 1, by omega⟩
    rw [L99_0_0, lt_f (by omega), List.drop_eq_nil_of_le (by omega)]; rfl
  | succ d ih =>
    intro n i hi hn
    obtain ⟨n, rfl⟩ : ∃ m, n = m + 1 := ⟨n - 1, by omega⟩
    have hlt : i < xs.length := by omega
    have hxs := hx _ (List.getElem_mem hlt)
    rw [L99_0_0, lt_t hlt, inb_t hlt, getDN_at xs i _ hlt, List.drop_eq_getElem_cons hlt, List.all_cons, empty_iff]
    unfold labelOk
    by_cases h0 : xs[i].size = 0
    · rw [show decide (xs[i] = ⟨#[]⟩) = true from decide_eq_true ((size0_iff _).2 h0), show decide (1 ≤ xs[i].size) = false from decide_eq_false (by omega)]; rfl
    · rw [show decide (xs[i] = ⟨#[]⟩) = false from decide_eq_false fun e => h0 ((size0_iff _).1 e), show decide (1 ≤ xs[i].size) = true from decide_eq_true (by omega), wrap_sub1 (by omega) hxs,
        show inb (0 : Int) xs[i].size = true from inb_t (i := 0) (by omega), inb_t (by omega)]
      have hin := L99_in s (i : Int) xs[i] xs (fun z1_0 => k0 z1_0) (fun z2_0 z2_1 z2_2 => L99_0_0 N n z2_0 (IntKind.i64.wrap (z2_1 + (1 : Int))) z2_2 k0 k1) hxs xs[i].size N 0 (by omega) (by omega)
      rw [show ((0 : Nat) : Int) = (0 : Int) from rfl] at hin
      rw [hin, wrap_s (by omega), ih n (i + 1) (by omega) (by omega)]
      by_cases ha : bt xs[i] 0 = 45
      · rw [beq_t ha, decide_eq_true ha]; rfl
      · rw [beq_f ha, decide_eq_false ha]
        by_cases hb : bt xs[i] ((xs[i].size - 1 : Nat) : Int) = 45
        · rw [beq_t hb, decide_eq_true hb]; rfl
        · rw [beq_f hb, decide_eq_false hb]
          cases allFrom labelByte xs[i] 0 <;> rfl
theorem pl99 : ∀ (s : ByteArray) res, (m99 [.one (.sc (.string s))]).val = some res → ∃ N, T99 N s = some res := by
  intro s res h
  obtain ⟨h1, h2⟩ := br_val h
  cases h2
  obtain ⟨p1, p2⟩ := parts_at (big_of h1)
  refine ⟨2147483651, ?_⟩
  unfold T99 domainOk
  rw [h1]
  refine (L99_eq 2147483651 s (parts 46 s) _ _ (by omega) p1 p2 _ _ 0 (Nat.zero_add _) (by omega)).trans ?_
  rw [List.drop_zero, show decide ((s.size : Int) ≤ (40 : Int)) = decide (s.size ≤ 40) from le_nat _ 40]
  cases (parts 46 s).all labelOk <;> cases decide (s.size ≤ 40) <;> rfl

theorem pl71 : ∀ (s : ByteArray) res, (m71 [.one (.sc (.string s))]).val = some res → ∃ N, T71 N s = some res := by
  intro s res h
  obtain ⟨h1, h2⟩ := br_val h
  cases h2
  refine ⟨0, ?_⟩
  have hc := cutAt_size 64 s
  have hs := big_of h1
  unfold T71 pathOk
  rw [h1, bt64, sz64, big_t (by omega), big_t (by omega)]
  cases (cutAt 64 s).2.2 <;> cases localOk (cutAt 64 s).1 <;> rfl
theorem pl203 : ∀ (s : ByteArray) res, (m203 [.one (.sc (.string s))]).val = some res → ∃ N, T203 N s = some res := by
  intro s res h
  obtain ⟨h1, h2⟩ := br_val h
  cases h2
  refine ⟨0, ?_⟩
  unfold T203 fromOk
  rw [h1, empty_iff]
  cases decide (s = ⟨#[]⟩) <;> rfl
theorem pl205 : ∀ (xs : List ByteArray) (n : Int) res, (m205 [.one (.list .str xs), .one (.sc (.int .i64 n))]).val = some res → ∃ N, T205 N xs n = some res := by
  intro xs n res h
  obtain ⟨h1, h2⟩ := br_val h
  cases h2
  refine ⟨0, ?_⟩
  unfold T205 textsOk
  rw [h1]
  cases decide ((xs.length : Int) ≤ n) <;> cases xs.all textValid <;> rfl

theorem wrap_s2 {i : Nat} (h : i < 9223372036854775806) : IntKind.i64.wrap (((i + 1 : Nat) : Int) + (1 : Int)) = ((i + 2 : Nat) : Int) := by
  rw [wrap_id (by omega) (by omega)]; omega
theorem app_size (a b : ByteArray) : (a ++ b).size = a.size + b.size := ByteArray.size_append
theorem ext_size_le (s : ByteArray) (a b : Nat) : (s.extract a b).size ≤ b - a := by rw [ByteArray.size_extract]; omega
theorem fit_t {n : Nat} (h : n ≤ 9223372036854775807) : Nat.ble n 9223372036854775807 = true := Nat.ble_eq_true_of_le h
theorem L231_eq {R : Type} (s : ByteArray) (k : ByteArray → Int → Option R) (hs : s.size ≤ 2147483648) : ∀ (d n i : Nat) (acc : ByteArray), s.size < i + d → acc.size ≤ i → i ≤ 2147483650 → d < n →
    L231_0_0 n s acc (i : Int) k (fun (_ : Unit) => k (⟨#[]⟩ : ByteArray) (-1 : Int)) = k (readF s d i acc).1 (readF s d i acc).2 := by
  intro d
  induction d with
  | zero =>
    intro n i acc hi ha hb hn
    obtain ⟨n, rfl⟩ : ∃ m, n = m + 1 := ⟨n - 1, by omega⟩
    rw [L231_0_0, lt_f (by omega)]; rfl
  | succ d ih =>
    intro n i acc hi ha hb hn
    obtain ⟨n, rfl⟩ : ∃ m, n = m + 1 := ⟨n - 1, by omega⟩
    rw [L231_0_0, readF]
    by_cases hlt : i < s.size
    · rw [lt_t hlt, inb_t hlt, wrap_s (by omega), wrap_s2 (by omega), if_pos hlt]
      by_cases h34 : bt s i = 34
      · rw [if_pos h34, show (bt s (i : Int) == 34) = true from by simp [h34]]; rfl
      · rw [if_neg h34, show (bt s (i : Int) == 34) = false from by simp [h34]]
        by_cases h92 : bt s i = 92
        · rw [if_pos h92, show (bt s (i : Int) == 92) = true from by simp [h92]]
          by_cases he : i + 1 = s.size
          · rw [if_pos he, show (((i + 1 : Nat) : Int) == (s.size : Int)) = true from by simp [he]]; rfl
          · rw [if_neg he, show (((i + 1 : Nat) : Int) == (s.size : Int)) = false from by simp; omega]
            simp only [cond_true, cond_false]
            rw [cutOk_lt (by omega) (by omega), cutS_lt]
            have h1 := ext_size_le s (i + 1) (i + 2)
            rw [fit_t (n := acc.size + (s.extract (i + 1) (i + 2)).size) (by omega), ih n (i + 2) (acc ++ s.extract (i + 1) (i + 2)) (by omega) (by rw [app_size]; omega) (by omega) (by omega)]; rfl
        · rw [if_neg h92, show (bt s (i : Int) == 92) = false from by simp [h92]]
          simp only [cond_true, cond_false]
          rw [cutOk_lt (by omega) (by omega), cutS_lt]
          have h1 := ext_size_le s i (i + 1)
          rw [fit_t (n := acc.size + (s.extract i (i + 1)).size) (by omega), ih n (i + 1) (acc ++ s.extract i (i + 1)) (by omega) (by rw [app_size]; omega) (by omega) (by omega)]; rfl
    · rw [lt_f hlt, if_neg hlt]; rfl
theorem pl231 : ∀ (s : ByteArray) (i : Int) res, (m231 [.one (.sc (.string s)), .one (.sc (.int .i64 i))]).val = some res → ∃ N, T231 N s i = some res := by
  intro s i res h
  obtain ⟨h1, h2, h3, h4⟩ := br3_val h
  cases h4
  have hs := big_of h1
  have h2 := of_decide_eq_true h2
  have h3 := of_decide_eq_true h3
  refine ⟨s.size + 2, ?_⟩
  unfold T231 readQ
  have e : IntKind.i64.wrap (i + (1 : Int)) = ((i.toNat + 1 : Nat) : Int) := by rw [wrap_id (by omega) (by omega)]; omega
  rw [e]
  exact L231_eq s (fun a b => some (RV.multi [.one (.fc (.sc (.string a))), .one (.fc (.sc (.int .i64 b)))])) hs (s.size + 1) (s.size + 2) (i.toNat + 1) ⟨#[]⟩ (by omega) (by simp [ByteArray.size]) (by omega) (by omega)

theorem readF_range (s : ByteArray) : ∀ (d i : Nat) (acc : ByteArray), (readF s d i acc).2 = -1 ∨ ((i : Int) < (readF s d i acc).2 ∧ (readF s d i acc).2 ≤ s.size)
  | 0, i, acc => .inl rfl
  | d + 1, i, acc => by
    rw [readF]
    split
    · split
      · right; constructor <;> dsimp only <;> omega
      · split
        · split
          · exact .inl rfl
          · rcases readF_range s d (i + 2) (acc ++ s.extract (i + 1) (i + 2)) with h | h
            · exact .inl h
            · right; omega
        · rcases readF_range s d (i + 1) (acc ++ s.extract i (i + 1)) with h | h
          · exact .inl h
          · right; omega
    · exact .inl rfl
theorem L144_eq {R : Type} (s : ByteArray) (c : Int) (k : ByteArray → ByteArray → Bool → Option R) (hs : s.size ≤ 2147483648) : ∀ (d n i : Nat), s.size < i + d → i ≤ s.size → d < n →
    L144_0_0 n s c (i : Int) k (fun z => k z ⟨#[]⟩ false) = k (cutF c s d i).1 (cutF c s d i).2.1 (cutF c s d i).2.2 := by
  intro d
  induction d with
  | zero =>
    intro n i hi hb hn
    omega
  | succ d ih =>
    intro n i hi hb hn
    obtain ⟨n, rfl⟩ : ∃ m, n = m + 1 := ⟨n - 1, by omega⟩
    rw [L144_0_0, cutF]
    by_cases hlt : i < s.size
    · rw [lt_t hlt, inb_t hlt, wrap_s (by omega), if_pos hlt, big_t hs, show decide (0 ≤ (i : Int)) = true from decide_eq_true (by omega), show decide ((i : Int) ≤ 2147483648) = true from decide_eq_true (by omega)]
      by_cases h34 : bt s i = 34
      · rw [if_pos h34, show (bt s (i : Int) == 34) = true from by simp [h34]]
        have hr := readF_range s (s.size + 1) ((i : Int).toNat + 1) ⟨#[]⟩
        rw [show readF s (s.size + 1) ((i : Int).toNat + 1) ⟨#[]⟩ = readQ s (i : Int) from rfl] at hr
        by_cases hneg : (readQ s (i : Int)).2 < 0
        · rw [if_pos hneg, decide_eq_true hneg]; rfl
        · rw [if_neg hneg, decide_eq_false hneg]
          have h2 : (readQ s (i : Int)).2 = (((readQ s (i : Int)).2.toNat : Nat) : Int) := by omega
          have := ih n (readQ s (i : Int)).2.toNat (by omega) (by omega) (by omega)
          rw [← h2] at this
          exact this
      · rw [if_neg h34, show (bt s (i : Int) == 34) = false from by simp [h34]]
        by_cases hc : bt s i = c
        · rw [if_pos hc, show (bt s (i : Int) == c) = true from by simp [hc], cutOk_to (by omega), cutOk_from (by omega), cutS_to, cutS_from]; rfl
        · rw [if_neg hc, show (bt s (i : Int) == c) = false from by simp [hc]]
          exact ih n (i + 1) (by omega) (by omega) (by omega)
    · rw [lt_f hlt, if_neg hlt]; rfl
theorem pl144 : ∀ (s : ByteArray) (c : Int) res, (m144 [.one (.sc (.string s)), .one (.sc (.int .u8 c))]).val = some res → ∃ N, T144 N s c = some res := by
  intro s c res h
  obtain ⟨h1, h2⟩ := br_val h
  cases h2
  have hs := big_of h1
  refine ⟨s.size + 2, ?_⟩
  unfold T144 cutQ
  exact L144_eq s c (fun a b d => some (RV.multi [.one (.fc (.sc (.string a))), .one (.fc (.sc (.string b))), .one (.fc (.sc (.bool d)))])) hs (s.size + 1) (s.size + 2) 0 (by omega) (by omega) (by omega)
end Go.Iv

/- The library's words for splitting and cutting, and ours. -/
namespace Go.Iv
open Go.Lib

def partsL (c : UInt8) : List UInt8 → List (List UInt8)
  | [] => [[]]
  | x :: l => if x = c then [] :: partsL c l else match partsL c l with
    | h :: t => (x :: h) :: t
    | [] => [[x]]
theorem partsL_ne (c : UInt8) (l : List UInt8) : ∃ h t, partsL c l = h :: t := by
  cases l with
  | nil => exact ⟨_, _, rfl⟩
  | cons x l =>
    rw [partsL]
    split
    · exact ⟨_, _, rfl⟩
    · split <;> exact ⟨_, _, rfl⟩
theorem ub_inj {a b : UInt8} : ub a = ub b ↔ a = b := by
  unfold ub
  constructor
  · intro h; exact UInt8.toNat_inj.1 (by omega)
  · rintro rfl; rfl
theorem bl_extract (s : ByteArray) (a b : Nat) : bl (s.extract a b) = ((bl s).take b).drop a := by
  unfold bl
  rw [ByteArray.data_extract]; simp [List.drop_take]
theorem bl_inj {a b : ByteArray} (h : bl a = bl b) : a = b := by
  cases a; cases b; simp_all [bl]
theorem partsFrom_L (b : UInt8) (s : ByteArray) : ∀ (d i st : Nat), i + d = s.size → st ≤ i →
    (partsFrom (ub b) s d i st).map bl = (match partsL b ((bl s).drop i) with
      | h :: t => (((bl s).take i).drop st ++ h) :: t
      | [] => [])
  | 0, i, st, hi, hst => by
    have hl := bl_len s
    rw [partsFrom, List.drop_eq_nil_of_le (by omega)]
    simp only [partsL, List.map_cons, List.map_nil, bl_extract, List.append_nil]
    rw [List.take_of_length_le (by omega), List.take_of_length_le (by omega)]
  | d + 1, i, st, hi, hst => by
    have hl := bl_len s
    have hlt : i < (bl s).length := by omega
    have ht : ((bl s).take (i + 1)).drop st = ((bl s).take i).drop st ++ [(bl s)[i]] := by
      rw [List.take_succ_eq_append_getElem hlt, List.drop_append_of_le_length (by rw [List.length_take]; omega)]
    rw [partsFrom, bt_nat s i (by omega), List.drop_eq_getElem_cons hlt, partsL]
    by_cases h : (bl s)[i] = b
    · rw [if_pos (ub_inj.2 h), if_pos h, List.map_cons, partsFrom_L b s d (i + 1) (i + 1) (by omega) (Nat.le_refl _)]
      obtain ⟨hd, t, e⟩ := partsL_ne b ((bl s).drop (i + 1))
      rw [e]
      simp only [bl_extract, List.append_nil]
      rw [List.drop_eq_nil_of_le (as := (bl s).take (i + 1)) (by rw [List.length_take]; omega)]; rfl
    · rw [if_neg (fun e => h (ub_inj.1 e)), if_neg h, partsFrom_L b s d (i + 1) st (by omega) (by omega)]
      obtain ⟨hd, t, e⟩ := partsL_ne b ((bl s).drop (i + 1))
      rw [e]
      simp only [ht, List.append_assoc, List.singleton_append]

theorem parts_L (b : UInt8) (s : ByteArray) : (parts (ub b) s).map bl = partsL b (bl s) := by
  unfold parts
  rw [partsFrom_L b s s.size 0 0 (by omega) (Nat.le_refl _), List.drop_zero]
  obtain ⟨hd, t, e⟩ := partsL_ne b (bl s)
  rw [e]; simp

theorem index_cons (b x : UInt8) (l : List UInt8) : index (x :: l) [b] = if x = b then 0 else if index l [b] = -1 then -1 else index l [b] + 1 := by
  rw [index]
  by_cases h : x = b
  · subst h; simp [List.isPrefixOf]
  · have : ([b].isPrefixOf (x :: l)) = false := by simp [List.isPrefixOf]; exact fun e => h e.symm
    rw [this, if_neg h]; simp

theorem partsL_miss (b : UInt8) : ∀ (l : List UInt8), index l [b] = -1 → partsL b l = [l]
  | [], _ => rfl
  | x :: l, h => by
    rw [index_cons] at h
    split at h
    · cases h
    · rename_i hx
      split at h
      · rename_i h2; rw [partsL, if_neg hx, partsL_miss b l h2]
      · have := index_ge l [b]; omega
theorem partsL_hit (b : UInt8) : ∀ (l : List UInt8) (i : Nat), index l [b] = i → partsL b l = l.take i :: partsL b (l.drop (i + 1))
  | [], i, h => by simp [index] at h
  | x :: l, i, h => by
    rw [index_cons] at h
    split at h
    · rename_i hx
      have : i = 0 := by omega
      subst this
      rw [partsL, if_pos hx]; rfl
    · rename_i hx
      split at h
      · omega
      · obtain ⟨j, rfl⟩ : ∃ j, i = j + 1 := ⟨i - 1, by have := index_ge l [b]; omega⟩
        rw [partsL, if_neg hx, partsL_hit b l j (by omega)]; rfl
theorem index_lt (b : UInt8) : ∀ (l : List UInt8) (i : Nat), index l [b] = i → i < l.length
  | [], i, h => by simp [index] at h
  | x :: l, i, h => by
    rw [index_cons] at h
    split at h
    · simp; omega
    · split at h
      · omega
      · have := index_lt b l (i - 1) (by have := index_ge l [b]; omega)
        simp; omega

theorem split_L (b : UInt8) : ∀ (n : Nat) (l : List UInt8), l.length < n → splitK [b] 0 (countFrom [b] n l) l = partsL b l
  | 0, l, h => by omega
  | n + 1, l, h => by
    rw [countFrom]
    by_cases hm : index l [b] = -1
    · rw [show (index l [b] == -1) = true from by simp [hm], if_pos rfl, partsL_miss b l hm]; rfl
    · have hge := index_ge l [b]
      obtain ⟨i, hi⟩ : ∃ i : Nat, index l [b] = i := ⟨(index l [b]).toNat, by omega⟩
      have hlt := index_lt b l i hi
      rw [show (index l [b] == -1) = false from by simp [hm]]
      simp only [Bool.false_eq_true, if_false]
      rw [Nat.add_comm, splitK, show (index l [b] == -1) = false from by simp [hm], hi]
      simp only [Bool.false_eq_true, if_false, Int.toNat_natCast, Nat.add_zero, List.length_singleton]
      rw [split_L b n (l.drop (i + 1)) (by rw [List.length_drop]; omega), partsL_hit b l i hi]

theorem one_byte {p : ByteArray} (h : p.size = 1) : ∃ b, p.data.toList = [b] ∧ bt p 0 = ub b := by
  have hl := bl_len p
  match hp : bl p, (by rw [hl, h] : (bl p).length = 1) with
  | [b], _ => exact ⟨b, hp, by unfold bt; rw [show p.data.toList = [b] from hp]; rfl⟩

theorem split_parts {p s : ByteArray} (h : p.size = 1) : splitB p 0 (countB s p) s = parts (bt p 0) s := by
  obtain ⟨b, hb, e⟩ := one_byte h
  have h1 : (splitB p 0 (countB s p) s).map bl = (parts (bt p 0) s).map bl := by
    rw [e, parts_L]
    have := splitB_data p 0 (countB s p) s
    rw [hb] at this
    refine this.trans ?_
    have hc : countB s p = count s.data.toList p.data.toList := rfl
    rw [hc, hb]
    exact split_L b _ _ (Nat.lt_succ_self _)
  have inj : ∀ (xs ys : List ByteArray), xs.map bl = ys.map bl → xs = ys := by
    intro xs
    induction xs with
    | nil => intro ys h; cases ys with
      | nil => rfl
      | cons y ys => cases h
    | cons x xs ih => intro ys h; cases ys with
      | nil => cases h
      | cons y ys =>
        simp only [List.map_cons, List.cons.injEq] at h
        rw [bl_inj h.1, ih ys h.2]
  exact inj _ _ h1

theorem findFrom_index (b : UInt8) (s : ByteArray) : ∀ (d i : Nat), i + d = s.size →
    findFrom (ub b) s d i = if index ((bl s).drop i) [b] = -1 then none else some (i + (index ((bl s).drop i) [b]).toNat)
  | 0, i, h => by
    have hl := bl_len s
    rw [findFrom, List.drop_eq_nil_of_le (by omega)]; rfl
  | d + 1, i, h => by
    have hl := bl_len s
    have hlt : i < (bl s).length := by omega
    rw [findFrom, bt_nat s i (by omega), List.drop_eq_getElem_cons hlt, index_cons]
    by_cases hx : (bl s)[i] = b
    · rw [if_pos (ub_inj.2 hx), if_pos hx]; rfl
    · rw [if_neg (fun e => hx (ub_inj.1 e)), if_neg hx, findFrom_index b s d (i + 1) (by omega)]
      have hge := index_ge ((bl s).drop (i + 1)) [b]
      by_cases h1 : index ((bl s).drop (i + 1)) [b] = -1
      · rw [if_pos h1, if_pos h1]; rfl
      · rw [if_neg h1, if_neg h1, if_neg (by omega)]
        congr 1; omega

theorem cut_cutAt {p s : ByteArray} (h : p.size = 1) : (⟨(cut s.data.toList p.data.toList).1.toArray⟩ : ByteArray) = (cutAt (bt p 0) s).1 ∧
    (⟨(cut s.data.toList p.data.toList).2.1.toArray⟩ : ByteArray) = (cutAt (bt p 0) s).2.1 ∧ (cut s.data.toList p.data.toList).2.2 = (cutAt (bt p 0) s).2.2 := by
  obtain ⟨b, hb, e⟩ := one_byte h
  have hf := findFrom_index b s s.size 0 (by omega)
  rw [List.drop_zero] at hf
  have hge := index_ge (bl s) [b]
  unfold cutAt cut
  rw [e, hf, hb]
  by_cases h1 : index (bl s) [b] = -1
  · rw [if_pos h1]
    rw [if_neg (by show ¬ 0 ≤ index (bl s) [b]; omega)]
    exact ⟨bl_inj (by simp [bl]), rfl, rfl⟩
  · rw [if_neg h1, if_pos (by show 0 ≤ index (bl s) [b]; omega)]
    refine ⟨bl_inj ?_, bl_inj ?_, rfl⟩
    · simp only [bl_extract, Nat.zero_add, List.drop_zero]
    · simp only [bl_extract, Nat.zero_add, List.length_singleton]
      rw [List.take_of_length_le (by rw [bl_len]; exact Nat.le_refl _)]
end Go.Iv

/- Contracts that are shown by hand: the models. -/
namespace Go.Iv
noncomputable def m80 : List AV → CT
  | [.one (.sc (.string s)), .one (.sc (.string p))] => (.br (decide (((s).size : Int) ≤ 2147483648) && Nat.beq (p).size 1) (.ret (.one (.one (.buf .str 9 (parts (bt p 0) s))))) .no)
  | _ => .no
noncomputable def m153 : List AV → CT
  | [.one (.sc (.string s)), .one (.sc (.string p))] => (.br (decide (((s).size : Int) ≤ 2147483648) && Nat.beq (p).size 1) (.ret (.multi [.one (.fc (.sc (.string ((cutAt (bt p 0) s).1)))), .one (.fc (.sc (.string ((cutAt (bt p 0) s).2.1)))), .one (.fc (.sc (.bool ((cutAt (bt p 0) s).2.2))))])) .no)
  | _ => .no
noncomputable def m193 : List AV → CT
  | [.one (.list .str xs)] => (.br (decide (xs.length ≤ 2147483648)) (.ret (.one (.one (.buf .str 9 (xs))))) .no)
  | _ => .no
noncomputable def m97 : BufF where
  t := .str
  e := 9
  f := fun xs avs => match avs with
    | [.one (.sc (.int .i64 i)), .one (.list .str vs)] => bif decide (i = 0) && (decide (vs.length = 1) && decide (xs.length ≤ 2147483648)) then some (vs ++ xs) else none
    | _ => none
  own := [1]
end Go.Iv
