/- Texts of this proof, joined: Sp5 Pu4 Pl4. -/
import Derived.Test.YtpdmeafoofkpaaaGreatDoorHf
set_option linter.unusedVariables false
set_option linter.unusedSimpArgs false
/- What the functions on dates come to. -/
namespace Go.Iv
/-! ### the calendar -/
def leap (y : Int) : Bool := (y.tmod 4 == 0) && ((y.tmod 100 != 0) || (y.tmod 400 == 0))
def mdays : List Int := [31, 28, 31, 30, 31, 30, 31, 31, 30, 31, 30, 31]
def daysOf (y m : Int) : Int :=
  bif decide (1970 ≤ y) && (decide (y ≤ 2099) && (decide (1 ≤ m) && decide (m ≤ 12))) then (bif (m == 2) && leap y then 29 else mdays.getD (m - 1).toNat 0) else 0
def monthsTo (y : Int) : Nat → Int
  | 0 => 0
  | k + 1 => monthsTo y k + daysOf y ((k : Int) + 1)
def yearsTo : Nat → Int
  | 0 => 0
  | k + 1 => yearsTo k + monthsTo (1970 + (k : Int)) 12
def dayNo (y m d : Int) : Int := d - 1 + yearsTo (y - 1970).toNat + monthsTo y (m - 1).toNat
def dayIn (y m d : Int) : Bool := decide (1970 ≤ y) && (decide (y ≤ 2099) && (decide (1 ≤ m) && (decide (m ≤ 12) && (decide (1 ≤ d) && decide (d ≤ 31)))))
def fieldsOk (y mo da h mi s z : Int) : Bool :=
  decide (1 ≤ da) && (decide (da ≤ daysOf y mo) && (decide (0 ≤ h) && (decide (h ≤ 23) && (decide (0 ≤ mi) && (decide (mi ≤ 59) && (decide (0 ≤ s) && (decide (s ≤ 59) && (decide (-720 ≤ z) && decide (z ≤ 840)))))))))
def secNo (y mo da h mi s z : Int) : Int := dayNo y mo da * 86400 + h * 3600 + mi * 60 + s - z * 60
def dateOk (y mo da h mi s z : Int) : Bool := fieldsOk y mo da h mi s z && (decide (0 ≤ secNo y mo da h mi s z) && decide (secNo y mo da h mi s z < 4102444800))
def wdays : List ByteArray := [⟨#[84, 104, 117]⟩, ⟨#[70, 114, 105]⟩, ⟨#[83, 97, 116]⟩, ⟨#[83, 117, 110]⟩, ⟨#[77, 111, 110]⟩, ⟨#[84, 117, 101]⟩, ⟨#[87, 101, 100]⟩]
def wday (n : Int) : ByteArray := wdays.getD (n.tmod 7).toNat ⟨#[]⟩
def months : List ByteArray := [⟨#[74, 97, 110]⟩, ⟨#[70, 101, 98]⟩, ⟨#[77, 97, 114]⟩, ⟨#[65, 112, 114]⟩, ⟨#[77, 97, 121]⟩, ⟨#[74, 117, 110]⟩, ⟨#[74, 117, 108]⟩, ⟨#[65, 117, 103]⟩, ⟨#[83, 101, 112]⟩, ⟨#[79, 99, 116]⟩, ⟨#[78, 111, 118]⟩, ⟨#[68, 101, 99]⟩]
/-! ### numbers in digits -/
def dig (d : Nat) : ByteArray := ⟨#[UInt8.ofNat (48 + d)]⟩
def decW : Nat → Nat → ByteArray → ByteArray
  | _, 0, acc => acc
  | n, k + 1, acc => decW (n / 10) k (dig (n % 10) ++ acc)
def ndig (n : Nat) : Nat := bif Nat.blt n 10 then 1 else bif Nat.blt n 100 then 2 else bif Nat.blt n 1000 then 3 else 4
def fmtD (y mo da h mi s z : Int) : ByteArray :=
  wday (dayNo y mo da) ++ ⟨#[44, 32]⟩ ++ decW da.toNat (ndig da.toNat) ⟨#[]⟩ ++ ⟨#[32]⟩ ++ months.getD (mo - 1).toNat ⟨#[]⟩ ++ ⟨#[32]⟩ ++ decW y.toNat (ndig y.toNat) ⟨#[]⟩ ++ ⟨#[32]⟩ ++ decW h.toNat 2 ⟨#[]⟩ ++ ⟨#[58]⟩ ++ decW mi.toNat 2 ⟨#[]⟩ ++ ⟨#[58]⟩ ++ decW s.toNat 2 ⟨#[]⟩ ++ ⟨#[32]⟩ ++
    (bif decide (z < 0) then ⟨#[45]⟩ else ⟨#[43]⟩) ++ decW (z.natAbs / 60) 2 ⟨#[]⟩ ++ decW (z.natAbs % 60) 2 ⟨#[]⟩

theorem daysOf_le (y m : Int) : 0 ≤ daysOf y m ∧ daysOf y m ≤ 31 := by
  unfold daysOf
  cases hc : decide (1970 ≤ y) && (decide (y ≤ 2099) && (decide (1 ≤ m) && decide (m ≤ 12))) with
  | false => simp
  | true =>
    simp only [Bool.and_eq_true, decide_eq_true_eq] at hc
    have h : m = 1 ∨ m = 2 ∨ m = 3 ∨ m = 4 ∨ m = 5 ∨ m = 6 ∨ m = 7 ∨ m = 8 ∨ m = 9 ∨ m = 10 ∨ m = 11 ∨ m = 12 := by omega
    cases leap y <;> (rcases h with rfl | rfl | rfl | rfl | rfl | rfl | rfl | rfl | rfl | rfl | rfl | rfl <;> decide)
theorem daysOf_pos {y m : Int} (h : 1 ≤ daysOf y m) : 1970 ≤ y ∧ y ≤ 2099 ∧ 1 ≤ m ∧ m ≤ 12 := by
  unfold daysOf at h
  cases hc : decide (1970 ≤ y) && (decide (y ≤ 2099) && (decide (1 ≤ m) && decide (m ≤ 12))) with
  | false => rw [hc, cond_false] at h; omega
  | true => simpa only [Bool.and_eq_true, decide_eq_true_eq] using hc
theorem monthsTo_le (y : Int) : ∀ k : Nat, 0 ≤ monthsTo y k ∧ monthsTo y k ≤ 31 * k
  | 0 => by simp [monthsTo]
  | k + 1 => by
    have h1 := monthsTo_le y k; have h2 := daysOf_le y (k + 1)
    unfold monthsTo; omega
theorem yearsTo_le : ∀ k : Nat, 0 ≤ yearsTo k ∧ yearsTo k ≤ 372 * k
  | 0 => by simp [yearsTo]
  | k + 1 => by
    have h1 := yearsTo_le k; have h2 := monthsTo_le (1970 + (k : Int)) 12
    unfold yearsTo; omega
theorem daysOf_in {y m : Int} (hy : 1970 ≤ y) (hy2 : y ≤ 2099) (h1 : 1 ≤ m) (h2 : m ≤ 12) : daysOf y m = bif (m == 2) && leap y then 29 else mdays.getD (m - 1).toNat 0 := by
  unfold daysOf; rw [decide_eq_true hy, decide_eq_true hy2, decide_eq_true h1, decide_eq_true h2]; rfl
theorem year_days {y : Int} (hy : 1970 ≤ y) (hy2 : y ≤ 2099) : monthsTo y 12 = bif leap y then 366 else 365 := by
  simp only [monthsTo]
  rw [daysOf_in hy hy2 (by decide) (by decide), daysOf_in hy hy2 (by decide) (by decide), daysOf_in hy hy2 (by decide) (by decide), daysOf_in hy hy2 (by decide) (by decide), daysOf_in hy hy2 (by decide) (by decide), daysOf_in hy hy2 (by decide) (by decide), daysOf_in hy hy2 (by decide) (by decide), daysOf_in hy hy2 (by decide) (by decide), daysOf_in hy hy2 (by decide) (by decide), daysOf_in hy hy2 (by decide) (by decide), daysOf_in hy hy2 (by decide) (by decide), daysOf_in hy hy2 (by decide) (by decide)]
  cases leap y <;> rfl
theorem dayNo_le {y m d : Int} (hy : 1970 ≤ y) (hy2 : y ≤ 2099) (h1 : 1 ≤ m) (h2 : m ≤ 12) (h3 : 1 ≤ d) (h4 : d ≤ 31) : 0 ≤ dayNo y m d ∧ dayNo y m d ≤ 60000 := by
  have a := yearsTo_le (y - 1970).toNat; have b := monthsTo_le y (m - 1).toNat
  unfold dayNo; omega
theorem dig_size (d : Nat) : (dig d).size = 1 := rfl
theorem decW_size : ∀ (k n : Nat) (acc : ByteArray), (decW n k acc).size = k + acc.size
  | 0, _, _ => by simp [decW]
  | k + 1, n, acc => by unfold decW; rw [decW_size k, ByteArray.size_append, dig_size]; omega
theorem ndig_le (n : Nat) : 1 ≤ ndig n ∧ ndig n ≤ 4 := by
  unfold ndig
  cases Nat.blt n 10 <;> cases Nat.blt n 100 <;> cases Nat.blt n 1000 <;> decide
theorem wday_size (n : Int) : (wday n).size ≤ 3 := by
  unfold wday
  rcases (n.tmod 7).toNat with _ | _ | _ | _ | _ | _ | _ | k <;> first | decide | exact Nat.zero_le _
theorem month_size (i : Nat) : (months.getD i ⟨#[]⟩).size ≤ 3 := by
  rcases i with _ | _ | _ | _ | _ | _ | _ | _ | _ | _ | _ | _ | k <;> first | decide | exact Nat.zero_le _
theorem tm (n : Nat) (k : Nat) : ((n : Int)).tmod (k : Int) = ((n % k : Nat) : Int) := (Int.ofNat_tmod n k).symm
theorem td (n : Nat) (k : Nat) : ((n : Int)).tdiv (k : Int) = ((n / k : Nat) : Int) := (Int.ofNat_tdiv n k).symm
theorem two_parts {n : Nat} (h : n < 100) : decW (n / 10) (ndig (n / 10)) ⟨#[]⟩ ++ decW (n % 10) (ndig (n % 10)) ⟨#[]⟩ = decW n 2 ⟨#[]⟩ := by
  have h1 : ndig (n / 10) = 1 := by unfold ndig; rw [show Nat.blt (n / 10) 10 = true from Nat.ble_eq_true_of_le (by omega)]; rfl
  have h2 : ndig (n % 10) = 1 := by unfold ndig; rw [show Nat.blt (n % 10) 10 = true from Nat.ble_eq_true_of_le (by omega)]; rfl
  rw [h1, h2]
  simp only [decW]
  rw [show n % 10 % 10 = n % 10 by omega, show (⟨#[]⟩ : ByteArray) = ByteArray.empty from rfl, ByteArray.append_empty, ByteArray.append_empty]
end Go.Iv

/- What functions come to. -/
namespace Go.Iv
set_option maxRecDepth 4000
noncomputable def m186 : List AV → CT
  | [.one (.sc (.int .i64 n)), .one (.sc (.int .i64 a)), .one (.sc (.int .i64 b))] => (.ret (.one (.one (.fc (.sc (.bool (decide (a ≤ n) && decide (n ≤ b))))))))
  | _ => .no
/-! 186: impl.between -/
def T186 (N : Nat) (n : Int) (a : Int) (b : Int) : Option RV :=
  (bif (decide (n ≥ a)) then
  some (.one (.one (.fc (.sc (.bool (decide (n ≤ b)))))))
  else
  some (.one (.one (.fc (.sc (.bool false))))))
noncomputable def m187 : List AV → CT
  | [.one (.sc (.int .i64 y)), .one (.sc (.int .i64 m))] => (.ret (.one (.one (.fc (.sc (.int .i64 (daysOf y m)))))))
  | _ => .no
/-! 187: impl.DaysOf -/
def T187 (N : Nat) (y : Int) (m : Int) : Option RV :=
  (bif (decide (y < (1970 : Int))) then
  some (.one (.one (.fc (.sc (.int .i64 (0 : Int))))))
  else
  (bif (decide (y > (2099 : Int))) then
    some (.one (.one (.fc (.sc (.int .i64 (0 : Int))))))
    else
    (bif (m == (1 : Int)) then
      (bif (m == (1 : Int)) then
        some (.one (.one (.fc (.sc (.int .i64 (31 : Int))))))
        else
        (bif (m == (4 : Int)) then
          (bif (m == (4 : Int)) then
            some (.one (.one (.fc (.sc (.int .i64 (30 : Int))))))
            else
            (bif (m == (2 : Int)) then
              (bif ((y.tmod (4 : Int)) == (0 : Int)) then
                (bif ((y.tmod (100 : Int)) != (0 : Int)) then
                  some (.one (.one (.fc (.sc (.int .i64 (29 : Int))))))
                  else
                  (bif ((y.tmod (400 : Int)) == (0 : Int)) then
                    some (.one (.one (.fc (.sc (.int .i64 (29 : Int))))))
                    else
                    some (.one (.one (.fc (.sc (.int .i64 (28 : Int))))))))
                else
                (bif ((y.tmod (400 : Int)) == (0 : Int)) then
                  some (.one (.one (.fc (.sc (.int .i64 (29 : Int))))))
                  else
                  some (.one (.one (.fc (.sc (.int .i64 (28 : Int))))))))
              else
              some (.one (.one (.fc (.sc (.int .i64 (0 : Int))))))))
          else
          (bif (m == (6 : Int)) then
            (bif (m == (6 : Int)) then
              some (.one (.one (.fc (.sc (.int .i64 (30 : Int))))))
              else
              (bif (m == (2 : Int)) then
                (bif ((y.tmod (4 : Int)) == (0 : Int)) then
                  (bif ((y.tmod (100 : Int)) != (0 : Int)) then
                    some (.one (.one (.fc (.sc (.int .i64 (29 : Int))))))
                    else
                    (bif ((y.tmod (400 : Int)) == (0 : Int)) then
                      some (.one (.one (.fc (.sc (.int .i64 (29 : Int))))))
                      else
                      some (.one (.one (.fc (.sc (.int .i64 (28 : Int))))))))
                  else
                  (bif ((y.tmod (400 : Int)) == (0 : Int)) then
                    some (.one (.one (.fc (.sc (.int .i64 (29 : Int))))))
                    else
                    some (.one (.one (.fc (.sc (.int .i64 (28 : Int))))))))
                else
                some (.one (.one (.fc (.sc (.int .i64 (0 : Int))))))))
            else
            (bif (m == (9 : Int)) then
              (bif (m == (9 : Int)) then
                some (.one (.one (.fc (.sc (.int .i64 (30 : Int))))))
                else
                (bif (m == (2 : Int)) then
                  (bif ((y.tmod (4 : Int)) == (0 : Int)) then
                    (bif ((y.tmod (100 : Int)) != (0 : Int)) then
                      some (.one (.one (.fc (.sc (.int .i64 (29 : Int))))))
                      else
                      (bif ((y.tmod (400 : Int)) == (0 : Int)) then
                        some (.one (.one (.fc (.sc (.int .i64 (29 : Int))))))
                        else
                        some (.one (.one (.fc (.sc (.int .i64 (28 : Int))))))))
                    else
                    (bif ((y.tmod (400 : Int)) == (0 : Int)) then
                      some (.one (.one (.fc (.sc (.int .i64 (29 : Int))))))
                      else
                      some (.one (.one (.fc (.sc (.int .i64 (28 : Int))))))))
                  else
                  some (.one (.one (.fc (.sc (.int .i64 (0 : Int))))))))
              else
              (bif (m == (11 : Int)) then
                some (.one (.one (.fc (.sc (.int .i64 (30 : Int))))))
                else
                (bif (m == (2 : Int)) then
                  (bif ((y.tmod (4 : Int)) == (0 : Int)) then
                    (bif ((y.tmod (100 : Int)) != (0 : Int)) then
                      some (.one (.one (.fc (.sc (.int .i64 (29 : Int))))))
                      else
                      (bif ((y.tmod (400 : Int)) == (0 : Int)) then
                        some (.one (.one (.fc (.sc (.int .i64 (29 : Int))))))
                        else
                        some (.one (.one (.fc (.sc (.int .i64 (28 : Int))))))))
                    else
                    (bif ((y.tmod (400 : Int)) == (0 : Int)) then
                      some (.one (.one (.fc (.sc (.int .i64 (29 : Int))))))
                      else
                      some (.one (.one (.fc (.sc (.int .i64 (28 : Int))))))))
                  else
                  some (.one (.one (.fc (.sc (.int .i64 (0 : Int))))))))))))
      else
      (bif (m == (3 : Int)) then
        (bif (m == (3 : Int)) then
          some (.one (.one (.fc (.sc (.int .i64 (31 : Int))))))
          else
          (bif (m == (4 : Int)) then
            (bif (m == (4 : Int)) then
              some (.one (.one (.fc (.sc (.int .i64 (30 : Int))))))
              else
              (bif (m == (2 : Int)) then
                (bif ((y.tmod (4 : Int)) == (0 : Int)) then
                  (bif ((y.tmod (100 : Int)) != (0 : Int)) then
                    some (.one (.one (.fc (.sc (.int .i64 (29 : Int))))))
                    else
                    (bif ((y.tmod (400 : Int)) == (0 : Int)) then
                      some (.one (.one (.fc (.sc (.int .i64 (29 : Int))))))
                      else
                      some (.one (.one (.fc (.sc (.int .i64 (28 : Int))))))))
                  else
                  (bif ((y.tmod (400 : Int)) == (0 : Int)) then
                    some (.one (.one (.fc (.sc (.int .i64 (29 : Int))))))
                    else
                    some (.one (.one (.fc (.sc (.int .i64 (28 : Int))))))))
                else
                some (.one (.one (.fc (.sc (.int .i64 (0 : Int))))))))
            else
            (bif (m == (6 : Int)) then
              (bif (m == (6 : Int)) then
                some (.one (.one (.fc (.sc (.int .i64 (30 : Int))))))
                else
                (bif (m == (2 : Int)) then
                  (bif ((y.tmod (4 : Int)) == (0 : Int)) then
                    (bif ((y.tmod (100 : Int)) != (0 : Int)) then
                      some (.one (.one (.fc (.sc (.int .i64 (29 : Int))))))
                      else
                      (bif ((y.tmod (400 : Int)) == (0 : Int)) then
                        some (.one (.one (.fc (.sc (.int .i64 (29 : Int))))))
                        else
                        some (.one (.one (.fc (.sc (.int .i64 (28 : Int))))))))
                    else
                    (bif ((y.tmod (400 : Int)) == (0 : Int)) then
                      some (.one (.one (.fc (.sc (.int .i64 (29 : Int))))))
                      else
                      some (.one (.one (.fc (.sc (.int .i64 (28 : Int))))))))
                  else
                  some (.one (.one (.fc (.sc (.int .i64 (0 : Int))))))))
              else
              (bif (m == (9 : Int)) then
                (bif (m == (9 : Int)) then
                  some (.one (.one (.fc (.sc (.int .i64 (30 : Int))))))
                  else
                  (bif (m == (2 : Int)) then
                    (bif ((y.tmod (4 : Int)) == (0 : Int)) then
                      (bif ((y.tmod (100 : Int)) != (0 : Int)) then
                        some (.one (.one (.fc (.sc (.int .i64 (29 : Int))))))
                        else
                        (bif ((y.tmod (400 : Int)) == (0 : Int)) then
                          some (.one (.one (.fc (.sc (.int .i64 (29 : Int))))))
                          else
                          some (.one (.one (.fc (.sc (.int .i64 (28 : Int))))))))
                      else
                      (bif ((y.tmod (400 : Int)) == (0 : Int)) then
                        some (.one (.one (.fc (.sc (.int .i64 (29 : Int))))))
                        else
                        some (.one (.one (.fc (.sc (.int .i64 (28 : Int))))))))
                    else
                    some (.one (.one (.fc (.sc (.int .i64 (0 : Int))))))))
                else
                (bif (m == (11 : Int)) then
                  some (.one (.one (.fc (.sc (.int .i64 (30 : Int))))))
                  else
                  (bif (m == (2 : Int)) then
                    (bif ((y.tmod (4 : Int)) == (0 : Int)) then
                      (bif ((y.tmod (100 : Int)) != (0 : Int)) then
                        some (.one (.one (.fc (.sc (.int .i64 (29 : Int))))))
                        else
                        (bif ((y.tmod (400 : Int)) == (0 : Int)) then
                          some (.one (.one (.fc (.sc (.int .i64 (29 : Int))))))
                          else
                          some (.one (.one (.fc (.sc (.int .i64 (28 : Int))))))))
                      else
                      (bif ((y.tmod (400 : Int)) == (0 : Int)) then
                        some (.one (.one (.fc (.sc (.int .i64 (29 : Int))))))
                        else
                        some (.one (.one (.fc (.sc (.int .i64 (28 : Int))))))))
                    else
                    some (.one (.one (.fc (.sc (.int .i64 (0 : Int))))))))))))
        else
        (bif (m == (5 : Int)) then
          (bif (m == (5 : Int)) then
            some (.one (.one (.fc (.sc (.int .i64 (31 : Int))))))
            else
            (bif (m == (4 : Int)) then
              (bif (m == (4 : Int)) then
                some (.one (.one (.fc (.sc (.int .i64 (30 : Int))))))
                else
                (bif (m == (2 : Int)) then
                  (bif ((y.tmod (4 : Int)) == (0 : Int)) then
                    (bif ((y.tmod (100 : Int)) != (0 : Int)) then
                      some (.one (.one (.fc (.sc (.int .i64 (29 : Int))))))
                      else
                      (bif ((y.tmod (400 : Int)) == (0 : Int)) then
                        some (.one (.one (.fc (.sc (.int .i64 (29 : Int))))))
                        else
                        some (.one (.one (.fc (.sc (.int .i64 (28 : Int))))))))
                    else
                    (bif ((y.tmod (400 : Int)) == (0 : Int)) then
                      some (.one (.one (.fc (.sc (.int .i64 (29 : Int))))))
                      else
                      some (.one (.one (.fc (.sc (.int .i64 (28 : Int))))))))
                  else
                  some (.one (.one (.fc (.sc (.int .i64 (0 : Int))))))))
              else
              (bif (m == (6 : Int)) then
                (bif (m == (6 : Int)) then
                  some (.one (.one (.fc (.sc (.int .i64 (30 : Int))))))
                  else
                  (bif (m == (2 : Int)) then
                    (bif ((y.tmod (4 : Int)) == (0 : Int)) then
                      (bif ((y.tmod (100 : Int)) != (0 : Int)) then
                        some (.one (.one (.fc (.sc (.int .i64 (29 : Int))))))
                        else
                        (bif ((y.tmod (400 : Int)) == (0 : Int)) then
                          some (.one (.one (.fc (.sc (.int .i64 (29 : Int))))))
                          else
                          some (.one (.one (.fc (.sc (.int .i64 (28 : Int))))))))
                      else
                      (bif ((y.tmod (400 : Int)) == (0 : Int)) then
                        some (.one (.one (.fc (.sc (.int .i64 (29 : Int))))))
                        else
                        some (.one (.one (.fc (.sc (.int .i64 (28 : Int))))))))
                    else
                    some (.one (.one (.fc (.sc (.int .i64 (0 : Int))))))))
                else
                (bif (m == (9 : Int)) then
                  (bif (m == (9 : Int)) then
                    some (.one (.one (.fc (.sc (.int .i64 (30 : Int))))))
                    else
                    (bif (m == (2 : Int)) then
                      (bif ((y.tmod (4 : Int)) == (0 : Int)) then
                        (bif ((y.tmod (100 : Int)) != (0 : Int)) then
                          some (.one (.one (.fc (.sc (.int .i64 (29 : Int))))))
                          else
                          (bif ((y.tmod (400 : Int)) == (0 : Int)) then
                            some (.one (.one (.fc (.sc (.int .i64 (29 : Int))))))
                            else
                            some (.one (.one (.fc (.sc (.int .i64 (28 : Int))))))))
                        else
                        (bif ((y.tmod (400 : Int)) == (0 : Int)) then
                          some (.one (.one (.fc (.sc (.int .i64 (29 : Int))))))
                          else
                          some (.one (.one (.fc (.sc (.int .i64 (28 : Int))))))))
                      else
                      some (.one (.one (.fc (.sc (.int .i64 (0 : Int))))))))
                  else
                  (bif (m == (11 : Int)) then
                    some (.one (.one (.fc (.sc (.int .i64 (30 : Int))))))
                    else
                    (bif (m == (2 : Int)) then
                      (bif ((y.tmod (4 : Int)) == (0 : Int)) then
                        (bif ((y.tmod (100 : Int)) != (0 : Int)) then
                          some (.one (.one (.fc (.sc (.int .i64 (29 : Int))))))
                          else
                          (bif ((y.tmod (400 : Int)) == (0 : Int)) then
                            some (.one (.one (.fc (.sc (.int .i64 (29 : Int))))))
                            else
                            some (.one (.one (.fc (.sc (.int .i64 (28 : Int))))))))
                        else
                        (bif ((y.tmod (400 : Int)) == (0 : Int)) then
                          some (.one (.one (.fc (.sc (.int .i64 (29 : Int))))))
                          else
                          some (.one (.one (.fc (.sc (.int .i64 (28 : Int))))))))
                      else
                      some (.one (.one (.fc (.sc (.int .i64 (0 : Int))))))))))))
          else
          (bif (m == (7 : Int)) then
            (bif (m == (7 : Int)) then
              some (.one (.one (.fc (.sc (.int .i64 (31 : Int))))))
              else
              (bif (m == (4 : Int)) then
                (bif (m == (4 : Int)) then
                  some (.one (.one (.fc (.sc (.int .i64 (30 : Int))))))
                  else
                  (bif (m == (2 : Int)) then
                    (bif ((y.tmod (4 : Int)) == (0 : Int)) then
                      (bif ((y.tmod (100 : Int)) != (0 : Int)) then
                        some (.one (.one (.fc (.sc (.int .i64 (29 : Int))))))
                        else
                        (bif ((y.tmod (400 : Int)) == (0 : Int)) then
                          some (.one (.one (.fc (.sc (.int .i64 (29 : Int))))))
                          else
                          some (.one (.one (.fc (.sc (.int .i64 (28 : Int))))))))
                      else
                      (bif ((y.tmod (400 : Int)) == (0 : Int)) then
                        some (.one (.one (.fc (.sc (.int .i64 (29 : Int))))))
                        else
                        some (.one (.one (.fc (.sc (.int .i64 (28 : Int))))))))
                    else
                    some (.one (.one (.fc (.sc (.int .i64 (0 : Int))))))))
                else
                (bif (m == (6 : Int)) then
                  (bif (m == (6 : Int)) then
                    some (.one (.one (.fc (.sc (.int .i64 (30 : Int))))))
                    else
                    (bif (m == (2 : Int)) then
                      (bif ((y.tmod (4 : Int)) == (0 : Int)) then
                        (bif ((y.tmod (100 : Int)) != (0 : Int)) then
                          some (.one (.one (.fc (.sc (.int .i64 (29 : Int))))))
                          else
                          (bif ((y.tmod (400 : Int)) == (0 : Int)) then
                            some (.one (.one (.fc (.sc (.int .i64 (29 : Int))))))
                            else
                            some (.one (.one (.fc (.sc (.int .i64 (28 : Int))))))))
                        else
                        (bif ((y.tmod (400 : Int)) == (0 : Int)) then
                          some (.one (.one (.fc (.sc (.int .i64 (29 : Int))))))
                          else
                          some (.one (.one (.fc (.sc (.int .i64 (28 : Int))))))))
                      else
                      some (.one (.one (.fc (.sc (.int .i64 (0 : Int))))))))
                  else
                  (bif (m == (9 : Int)) then
                    (bif (m == (9 : Int)) then
                      some (.one (.one (.fc (.sc (.int .i64 (30 : Int))))))
                      else
                      (bif (m == (2 : Int)) then
                        (bif ((y.tmod (4 : Int)) == (0 : Int)) then
                          (bif ((y.tmod (100 : Int)) != (0 : Int)) then
                            some (.one (.one (.fc (.sc (.int .i64 (29 : Int))))))
                            else
                            (bif ((y.tmod (400 : Int)) == (0 : Int)) then
                              some (.one (.one (.fc (.sc (.int .i64 (29 : Int))))))
                              else
                              some (.one (.one (.fc (.sc (.int .i64 (28 : Int))))))))
                          else
                          (bif ((y.tmod (400 : Int)) == (0 : Int)) then
                            some (.one (.one (.fc (.sc (.int .i64 (29 : Int))))))
                            else
                            some (.one (.one (.fc (.sc (.int .i64 (28 : Int))))))))
                        else
                        some (.one (.one (.fc (.sc (.int .i64 (0 : Int))))))))
                    else
                    (bif (m == (11 : Int)) then
                      some (.one (.one (.fc (.sc (.int .i64 (30 : Int))))))
                      else
                      (bif (m == (2 : Int)) then
                        (bif ((y.tmod (4 : Int)) == (0 : Int)) then
                          (bif ((y.tmod (100 : Int)) != (0 : Int)) then
                            some (.one (.one (.fc (.sc (.int .i64 (29 : Int))))))
                            else
                            (bif ((y.tmod (400 : Int)) == (0 : Int)) then
                              some (.one (.one (.fc (.sc (.int .i64 (29 : Int))))))
                              else
                              some (.one (.one (.fc (.sc (.int .i64 (28 : Int))))))))
                          else
                          (bif ((y.tmod (400 : Int)) == (0 : Int)) then
                            some (.one (.one (.fc (.sc (.int .i64 (29 : Int))))))
                            else
                            some (.one (.one (.fc (.sc (.int .i64 (28 : Int))))))))
                        else
                        some (.one (.one (.fc (.sc (.int .i64 (0 : Int))))))))))))
            else
            (bif (m == (8 : Int)) then
              (bif (m == (8 : Int)) then
                some (.one (.one (.fc (.sc (.int .i64 (31 : Int))))))
                else
                (bif (m == (4 : Int)) then
                  (bif (m == (4 : Int)) then
                    some (.one (.one (.fc (.sc (.int .i64 (30 : Int))))))
                    else
                    (bif (m == (2 : Int)) then
                      (bif ((y.tmod (4 : Int)) == (0 : Int)) then
                        (bif ((y.tmod (100 : Int)) != (0 : Int)) then
                          some (.one (.one (.fc (.sc (.int .i64 (29 : Int))))))
                          else
                          (bif ((y.tmod (400 : Int)) == (0 : Int)) then
                            some (.one (.one (.fc (.sc (.int .i64 (29 : Int))))))
                            else
                            some (.one (.one (.fc (.sc (.int .i64 (28 : Int))))))))
                        else
                        (bif ((y.tmod (400 : Int)) == (0 : Int)) then
                          some (.one (.one (.fc (.sc (.int .i64 (29 : Int))))))
                          else
                          some (.one (.one (.fc (.sc (.int .i64 (28 : Int))))))))
                      else
                      some (.one (.one (.fc (.sc (.int .i64 (0 : Int))))))))
                  else
                  (bif (m == (6 : Int)) then
                    (bif (m == (6 : Int)) then
                      some (.one (.one (.fc (.sc (.int .i64 (30 : Int))))))
                      else
                      (bif (m == (2 : Int)) then
                        (bif ((y.tmod (4 : Int)) == (0 : Int)) then
                          (bif ((y.tmod (100 : Int)) != (0 : Int)) then
                            some (.one (.one (.fc (.sc (.int .i64 (29 : Int))))))
                            else
                            (bif ((y.tmod (400 : Int)) == (0 : Int)) then
                              some (.one (.one (.fc (.sc (.int .i64 (29 : Int))))))
                              else
                              some (.one (.one (.fc (.sc (.int .i64 (28 : Int))))))))
                          else
                          (bif ((y.tmod (400 : Int)) == (0 : Int)) then
                            some (.one (.one (.fc (.sc (.int .i64 (29 : Int))))))
                            else
                            some (.one (.one (.fc (.sc (.int .i64 (28 : Int))))))))
                        else
                        some (.one (.one (.fc (.sc (.int .i64 (0 : Int))))))))
                    else
                    (bif (m == (9 : Int)) then
                      (bif (m == (9 : Int)) then
                        some (.one (.one (.fc (.sc (.int .i64 (30 : Int))))))
                        else
                        (bif (m == (2 : Int)) then
                          (bif ((y.tmod (4 : Int)) == (0 : Int)) then
                            (bif ((y.tmod (100 : Int)) != (0 : Int)) then
                              some (.one (.one (.fc (.sc (.int .i64 (29 : Int))))))
                              else
                              (bif ((y.tmod (400 : Int)) == (0 : Int)) then
                                some (.one (.one (.fc (.sc (.int .i64 (29 : Int))))))
                                else
                                some (.one (.one (.fc (.sc (.int .i64 (28 : Int))))))))
                            else
                            (bif ((y.tmod (400 : Int)) == (0 : Int)) then
                              some (.one (.one (.fc (.sc (.int .i64 (29 : Int))))))
                              else
                              some (.one (.one (.fc (.sc (.int .i64 (28 : Int))))))))
                          else
                          some (.one (.one (.fc (.sc (.int .i64 (0 : Int))))))))
                      else
                      (bif (m == (11 : Int)) then
                        some (.one (.one (.fc (.sc (.int .i64 (30 : Int))))))
                        else
                        (bif (m == (2 : Int)) then
                          (bif ((y.tmod (4 : Int)) == (0 : Int)) then
                            (bif ((y.tmod (100 : Int)) != (0 : Int)) then
                              some (.one (.one (.fc (.sc (.int .i64 (29 : Int))))))
                              else
                              (bif ((y.tmod (400 : Int)) == (0 : Int)) then
                                some (.one (.one (.fc (.sc (.int .i64 (29 : Int))))))
                                else
                                some (.one (.one (.fc (.sc (.int .i64 (28 : Int))))))))
                            else
                            (bif ((y.tmod (400 : Int)) == (0 : Int)) then
                              some (.one (.one (.fc (.sc (.int .i64 (29 : Int))))))
                              else
                              some (.one (.one (.fc (.sc (.int .i64 (28 : Int))))))))
                          else
                          some (.one (.one (.fc (.sc (.int .i64 (0 : Int))))))))))))
              else
              (bif (m == (10 : Int)) then
                (bif (m == (10 : Int)) then
                  some (.one (.one (.fc (.sc (.int .i64 (31 : Int))))))
                  else
                  (bif (m == (4 : Int)) then
                    (bif (m == (4 : Int)) then
                      some (.one (.one (.fc (.sc (.int .i64 (30 : Int))))))
                      else
                      (bif (m == (2 : Int)) then
                        (bif ((y.tmod (4 : Int)) == (0 : Int)) then
                          (bif ((y.tmod (100 : Int)) != (0 : Int)) then
                            some (.one (.one (.fc (.sc (.int .i64 (29 : Int))))))
                            else
                            (bif ((y.tmod (400 : Int)) == (0 : Int)) then
                              some (.one (.one (.fc (.sc (.int .i64 (29 : Int))))))
                              else
                              some (.one (.one (.fc (.sc (.int .i64 (28 : Int))))))))
                          else
                          (bif ((y.tmod (400 : Int)) == (0 : Int)) then
                            some (.one (.one (.fc (.sc (.int .i64 (29 : Int))))))
                            else
                            some (.one (.one (.fc (.sc (.int .i64 (28 : Int))))))))
                        else
                        some (.one (.one (.fc (.sc (.int .i64 (0 : Int))))))))
                    else
                    (bif (m == (6 : Int)) then
                      (bif (m == (6 : Int)) then
                        some (.one (.one (.fc (.sc (.int .i64 (30 : Int))))))
                        else
                        (bif (m == (2 : Int)) then
                          (bif ((y.tmod (4 : Int)) == (0 : Int)) then
                            (bif ((y.tmod (100 : Int)) != (0 : Int)) then
                              some (.one (.one (.fc (.sc (.int .i64 (29 : Int))))))
                              else
                              (bif ((y.tmod (400 : Int)) == (0 : Int)) then
                                some (.one (.one (.fc (.sc (.int .i64 (29 : Int))))))
                                else
                                some (.one (.one (.fc (.sc (.int .i64 (28 : Int))))))))
                            else
                            (bif ((y.tmod (400 : Int)) == (0 : Int)) then
                              some (.one (.one (.fc (.sc (.int .i64 (29 : Int))))))
                              else
                              some (.one (.one (.fc (.sc (.int .i64 (28 : Int))))))))
                          else
                          some (.one (.one (.fc (.sc (.int .i64 (0 : Int))))))))
                      else
                      (bif (m == (9 : Int)) then
                        (bif (m == (9 : Int)) then
                          some (.one (.one (.fc (.sc (.int .i64 (30 : Int))))))
                          else
                          (bif (m == (2 : Int)) then
                            (bif ((y.tmod (4 : Int)) == (0 : Int)) then
                              (bif ((y.tmod (100 : Int)) != (0 : Int)) then
                                some (.one (.one (.fc (.sc (.int .i64 (29 : Int))))))
                                else
                                (bif ((y.tmod (400 : Int)) == (0 : Int)) then
                                  some (.one (.one (.fc (.sc (.int .i64 (29 : Int))))))
                                  else
                                  some (.one (.one (.fc (.sc (.int .i64 (28 : Int))))))))
                              else
                              (bif ((y.tmod (400 : Int)) == (0 : Int)) then
                                some (.one (.one (.fc (.sc (.int .i64 (29 : Int))))))
                                else
                                some (.one (.one (.fc (.sc (.int .i64 (28 : Int))))))))
                            else
                            some (.one (.one (.fc (.sc (.int .i64 (0 : Int))))))))
                        else
                        (bif (m == (11 : Int)) then
                          some (.one (.one (.fc (.sc (.int .i64 (30 : Int))))))
                          else
                          (bif (m == (2 : Int)) then
                            (bif ((y.tmod (4 : Int)) == (0 : Int)) then
                              (bif ((y.tmod (100 : Int)) != (0 : Int)) then
                                some (.one (.one (.fc (.sc (.int .i64 (29 : Int))))))
                                else
                                (bif ((y.tmod (400 : Int)) == (0 : Int)) then
                                  some (.one (.one (.fc (.sc (.int .i64 (29 : Int))))))
                                  else
                                  some (.one (.one (.fc (.sc (.int .i64 (28 : Int))))))))
                              else
                              (bif ((y.tmod (400 : Int)) == (0 : Int)) then
                                some (.one (.one (.fc (.sc (.int .i64 (29 : Int))))))
                                else
                                some (.one (.one (.fc (.sc (.int .i64 (28 : Int))))))))
                            else
                            some (.one (.one (.fc (.sc (.int .i64 (0 : Int))))))))))))
                else
                (bif (m == (12 : Int)) then
                  some (.one (.one (.fc (.sc (.int .i64 (31 : Int))))))
                  else
                  (bif (m == (4 : Int)) then
                    (bif (m == (4 : Int)) then
                      some (.one (.one (.fc (.sc (.int .i64 (30 : Int))))))
                      else
                      (bif (m == (2 : Int)) then
                        (bif ((y.tmod (4 : Int)) == (0 : Int)) then
                          (bif ((y.tmod (100 : Int)) != (0 : Int)) then
                            some (.one (.one (.fc (.sc (.int .i64 (29 : Int))))))
                            else
                            (bif ((y.tmod (400 : Int)) == (0 : Int)) then
                              some (.one (.one (.fc (.sc (.int .i64 (29 : Int))))))
                              else
                              some (.one (.one (.fc (.sc (.int .i64 (28 : Int))))))))
                          else
                          (bif ((y.tmod (400 : Int)) == (0 : Int)) then
                            some (.one (.one (.fc (.sc (.int .i64 (29 : Int))))))
                            else
                            some (.one (.one (.fc (.sc (.int .i64 (28 : Int))))))))
                        else
                        some (.one (.one (.fc (.sc (.int .i64 (0 : Int))))))))
                    else
                    (bif (m == (6 : Int)) then
                      (bif (m == (6 : Int)) then
                        some (.one (.one (.fc (.sc (.int .i64 (30 : Int))))))
                        else
                        (bif (m == (2 : Int)) then
                          (bif ((y.tmod (4 : Int)) == (0 : Int)) then
                            (bif ((y.tmod (100 : Int)) != (0 : Int)) then
                              some (.one (.one (.fc (.sc (.int .i64 (29 : Int))))))
                              else
                              (bif ((y.tmod (400 : Int)) == (0 : Int)) then
                                some (.one (.one (.fc (.sc (.int .i64 (29 : Int))))))
                                else
                                some (.one (.one (.fc (.sc (.int .i64 (28 : Int))))))))
                            else
                            (bif ((y.tmod (400 : Int)) == (0 : Int)) then
                              some (.one (.one (.fc (.sc (.int .i64 (29 : Int))))))
                              else
                              some (.one (.one (.fc (.sc (.int .i64 (28 : Int))))))))
                          else
                          some (.one (.one (.fc (.sc (.int .i64 (0 : Int))))))))
                      else
                      (bif (m == (9 : Int)) then
                        (bif (m == (9 : Int)) then
                          some (.one (.one (.fc (.sc (.int .i64 (30 : Int))))))
                          else
                          (bif (m == (2 : Int)) then
                            (bif ((y.tmod (4 : Int)) == (0 : Int)) then
                              (bif ((y.tmod (100 : Int)) != (0 : Int)) then
                                some (.one (.one (.fc (.sc (.int .i64 (29 : Int))))))
                                else
                                (bif ((y.tmod (400 : Int)) == (0 : Int)) then
                                  some (.one (.one (.fc (.sc (.int .i64 (29 : Int))))))
                                  else
                                  some (.one (.one (.fc (.sc (.int .i64 (28 : Int))))))))
                              else
                              (bif ((y.tmod (400 : Int)) == (0 : Int)) then
                                some (.one (.one (.fc (.sc (.int .i64 (29 : Int))))))
                                else
                                some (.one (.one (.fc (.sc (.int .i64 (28 : Int))))))))
                            else
                            some (.one (.one (.fc (.sc (.int .i64 (0 : Int))))))))
                        else
                        (bif (m == (11 : Int)) then
                          some (.one (.one (.fc (.sc (.int .i64 (30 : Int))))))
                          else
                          (bif (m == (2 : Int)) then
                            (bif ((y.tmod (4 : Int)) == (0 : Int)) then
                              (bif ((y.tmod (100 : Int)) != (0 : Int)) then
                                some (.one (.one (.fc (.sc (.int .i64 (29 : Int))))))
                                else
                                (bif ((y.tmod (400 : Int)) == (0 : Int)) then
                                  some (.one (.one (.fc (.sc (.int .i64 (29 : Int))))))
                                  else
                                  some (.one (.one (.fc (.sc (.int .i64 (28 : Int))))))))
                              else
                              (bif ((y.tmod (400 : Int)) == (0 : Int)) then
                                some (.one (.one (.fc (.sc (.int .i64 (29 : Int))))))
                                else
                                some (.one (.one (.fc (.sc (.int .i64 (28 : Int))))))))
                            else
                            some (.one (.one (.fc (.sc (.int .i64 (0 : Int))))))))))))))))))))
noncomputable def m188 : List AV → CT
  | [.one (.sc (.int .i64 z))] => (.ret (.one (.one (.fc (.sc (.bool (decide (-720 ≤ z) && decide (z ≤ 840))))))))
  | _ => .no
/-! 188: impl.isZone -/
def T188 (N : Nat) (z : Int) : Option RV :=
  some (.one (.one (.fc (.sc (.bool (decide ((-720 : Int) ≤ z) && decide (z ≤ (840 : Int))))))))
noncomputable def m261 : List AV → CT
  | [.one (.sc (.int .i64 z))] => (.ret (.one (.one (.fc (.sc (.bool (decide (-720 ≤ z) && decide (z ≤ 840))))))))
  | _ => .no
/-! 261: spec.l4Zone -/
def T261 (N : Nat) (z : Int) : Option RV :=
  (bif (decide (z ≥ (-720 : Int))) then
  some (.one (.one (.fc (.sc (.bool (decide (z ≤ (840 : Int))))))))
  else
  some (.one (.one (.fc (.sc (.bool false))))))
noncomputable def m262 : List AV → CT
  | [.one (.sc (.int .i64 y)), .one (.sc (.int .i64 m))] => (.ret (.one (.one (.fc (.sc (.int .i64 (daysOf y m)))))))
  | _ => .no
/-! 262: spec.DaysOf -/
def T262 (N : Nat) (y : Int) (m : Int) : Option RV :=
  (bif (decide (y < (1970 : Int))) then
  some (.one (.one (.fc (.sc (.int .i64 (0 : Int))))))
  else
  (bif (decide (y > (2099 : Int))) then
    some (.one (.one (.fc (.sc (.int .i64 (0 : Int))))))
    else
    (bif (decide (m < (1 : Int))) then
      some (.one (.one (.fc (.sc (.int .i64 (0 : Int))))))
      else
      (bif (decide (m > (12 : Int))) then
        some (.one (.one (.fc (.sc (.int .i64 (0 : Int))))))
        else
        (bif (m == (2 : Int)) then
          (bif (leap y) then
            some (.one (.one (.fc (.sc (.int .i64 (29 : Int))))))
            else
            (bif (inb (IntKind.i64.wrap (m - (1 : Int))) 12) then
              some (.one (.one (.fc (.sc (.int .i64 ((([(31 : Int), (28 : Int), (31 : Int), (30 : Int), (31 : Int), (30 : Int), (31 : Int), (31 : Int), (30 : Int), (31 : Int), (30 : Int), (31 : Int)] : List Int)).getD ((IntKind.i64.wrap (m - (1 : Int)))).toNat (0 : Int)))))))
              else none))
          else
          (bif (inb (IntKind.i64.wrap (m - (1 : Int))) 12) then
            some (.one (.one (.fc (.sc (.int .i64 ((([(31 : Int), (28 : Int), (31 : Int), (30 : Int), (31 : Int), (30 : Int), (31 : Int), (31 : Int), (30 : Int), (31 : Int), (30 : Int), (31 : Int)] : List Int)).getD ((IntKind.i64.wrap (m - (1 : Int)))).toNat (0 : Int)))))))
            else none))))))
noncomputable def m277 : List AV → CT
  | [.one (.sc (.int .i64 y))] => (.ret (.one (.one (.fc (.sc (.bool (leap y)))))))
  | _ => .no
/-! 277: spec.l4Leap -/
def T277 (N : Nat) (y : Int) : Option RV :=
  (bif ((y.tmod (4 : Int)) == (0 : Int)) then
  (bif ((y.tmod (100 : Int)) != (0 : Int)) then
    some (.one (.one (.fc (.sc (.bool true)))))
    else
    some (.one (.one (.fc (.sc (.bool ((y.tmod (400 : Int)) == (0 : Int))))))))
  else
  some (.one (.one (.fc (.sc (.bool false))))))
noncomputable def m202 : List AV → CT
  | [.one (.sc (.int .i64 y)), .one (.sc (.int .i64 m)), .one (.sc (.int .i64 d))] => (.br (dayIn y m d) (.ret (.one (.one (.fc (.sc (.int .i64 (dayNo y m d))))))) .no)
  | _ => .no
/-! 202: impl.daysBefore -/
def L202_2_0 {R : Type} : Nat → Int → Int → Int → Int → Int → (Int → Int → Int → Int → Option R) → Option R
  | 0, _, _, _, _, _, _ => none
  | n + 1, x0, x1, x2, x3, x4, k0 => (bif (decide (x4 ≤ (12 : Int))) then
    (bif (decide (x3 < x0)) then
      (L202_2_0 n x0 x1 (IntKind.i64.wrap (x2 + (daysOf x3 x4))) x3 (IntKind.i64.wrap (x4 + (1 : Int))) k0)
      else
      (bif (decide (x4 < x1)) then
        (L202_2_0 n x0 x1 (IntKind.i64.wrap (x2 + (daysOf x3 x4))) x3 (IntKind.i64.wrap (x4 + (1 : Int))) k0)
        else
        (k0 x0 x1 x2 x3)))
    else
    (k0 x0 x1 x2 x3))
def L202_0_0 {R : Type} (N : Nat) : Nat → Int → Int → Int → Int → (Int → Option R) → Option R
  | 0, _, _, _, _, _ => none
  | n + 1, x0, x1, x2, x3, k0 => (bif (decide (x3 ≤ x0)) then
    (L202_2_0 N x0 x1 x2 x3 (1 : Int)
      (fun (z1_0 : Int) (z1_1 : Int) (z1_2 : Int) (z1_3 : Int) => (L202_0_0 N n z1_0 z1_1 z1_2 (IntKind.i64.wrap (z1_3 + (1 : Int))) k0)))
    else
    (k0 x2))
def T202 (N : Nat) (y : Int) (m : Int) (d : Int) : Option RV :=
  (L202_0_0 N N y m (IntKind.i64.wrap (d - (1 : Int))) (1970 : Int)
  (fun (z2_0 : Int) => some (.one (.one (.fc (.sc (.int .i64 z2_0)))))))
noncomputable def m198 : List AV → CT
  | [.agg [.sc (.int .i64 y), .sc (.int .i64 mo), .sc (.int .i64 da), .sc (.int .i64 h), .sc (.int .i64 mi), .sc (.int .i64 s), .sc (.int .i64 z)]] => (.ret (.one (.one (.fc (.sc (.bool (fieldsOk y mo da h mi s z)))))))
  | _ => .no
/-! 198: spec.l4Fields -/
def T198 (N : Nat) (y : Int) (mo : Int) (da : Int) (h : Int) (mi : Int) (s : Int) (z : Int) : Option RV :=
  (bif (decide (da ≥ (1 : Int))) then
  (bif (decide (da ≤ (daysOf y mo))) then
    (bif (decide (h ≥ (0 : Int))) then
      (bif (decide (h ≤ (23 : Int))) then
        (bif (decide (mi ≥ (0 : Int))) then
          (bif (decide (mi ≤ (59 : Int))) then
            (bif (decide (s ≥ (0 : Int))) then
              (bif (decide (s ≤ (59 : Int))) then
                some (.one (.one (.fc (.sc (.bool (decide (-720 ≤ z) && decide (z ≤ 840)))))))
                else
                some (.one (.one (.fc (.sc (.bool false))))))
              else
              some (.one (.one (.fc (.sc (.bool false))))))
            else
            some (.one (.one (.fc (.sc (.bool false))))))
          else
          some (.one (.one (.fc (.sc (.bool false))))))
        else
        some (.one (.one (.fc (.sc (.bool false))))))
      else
      some (.one (.one (.fc (.sc (.bool false))))))
    else
    some (.one (.one (.fc (.sc (.bool false))))))
  else
  some (.one (.one (.fc (.sc (.bool false))))))
noncomputable def m199 : List AV → CT
  | [.agg [.sc (.int .i64 y), .sc (.int .i64 mo), .sc (.int .i64 da), .sc (.int .i64 h), .sc (.int .i64 mi), .sc (.int .i64 s), .sc (.int .i64 z)]] => (.br (fieldsOk y mo da h mi s z) (.ret (.one (.one (.fc (.sc (.int .i64 (secNo y mo da h mi s z))))))) .no)
  | _ => .no
/-! 199: spec.l4Seconds -/
def L199_0_0 {R : Type} : Nat → Int → Int → Int → Int → Int → Int → Int → Int → Int → (Int → Int → Int → Int → Int → Int → Int → Int → Option R) → Option R
  | 0, _, _, _, _, _, _, _, _, _, _ => none
  | n + 1, x0, x1, x2, x3, x4, x5, x6, x7, x8, k0 => (bif (decide (x1 < x2)) then
    (bif (leap x1) then
      (L199_0_0 n (IntKind.i64.wrap ((IntKind.i64.wrap (x0 + (365 : Int))) + (1 : Int))) (IntKind.i64.wrap (x1 + (1 : Int))) x2 x3 x4 x5 x6 x7 x8 k0)
      else
      (L199_0_0 n (IntKind.i64.wrap (x0 + (365 : Int))) (IntKind.i64.wrap (x1 + (1 : Int))) x2 x3 x4 x5 x6 x7 x8 k0))
    else
    (k0 x0 x2 x3 x4 x5 x6 x7 x8))
def L199_2_0 {R : Type} : Nat → Int → Int → Int → Int → Int → Int → Int → Int → Int → (Int → Int → Int → Int → Int → Int → Int → Int → Option R) → Option R
  | 0, _, _, _, _, _, _, _, _, _, _ => none
  | n + 1, x0, x1, x2, x3, x4, x5, x6, x7, x8, k0 => (bif (decide (x1 < x3)) then
    (L199_2_0 n (IntKind.i64.wrap (x0 + (daysOf x2 x1))) (IntKind.i64.wrap (x1 + (1 : Int))) x2 x3 x4 x5 x6 x7 x8 k0)
    else
    (k0 x0 x2 x3 x4 x5 x6 x7 x8))
def T199 (N : Nat) (y : Int) (mo : Int) (da : Int) (h : Int) (mi : Int) (s : Int) (z : Int) : Option RV :=
  (L199_0_0 N (IntKind.i64.wrap (da - (1 : Int))) (1970 : Int) y mo da h mi s z
  (fun (z1_0 : Int) (z1_1 : Int) (z1_2 : Int) (z1_3 : Int) (z1_4 : Int) (z1_5 : Int) (z1_6 : Int) (z1_7 : Int) => (L199_2_0 N z1_0 (1 : Int) z1_1 z1_2 z1_3 z1_4 z1_5 z1_6 z1_7
    (fun (z2_0 : Int) (z2_1 : Int) (z2_2 : Int) (z2_3 : Int) (z2_4 : Int) (z2_5 : Int) (z2_6 : Int) (z2_7 : Int) => some (.one (.one (.fc (.sc (.int .i64 (IntKind.i64.wrap ((IntKind.i64.wrap ((IntKind.i64.wrap ((IntKind.i64.wrap ((IntKind.i64.wrap (z2_0 * (86400 : Int))) + (IntKind.i64.wrap (z2_4 * (3600 : Int))))) + (IntKind.i64.wrap (z2_5 * (60 : Int))))) + z2_6)) - (IntKind.i64.wrap (z2_7 * (60 : Int))))))))))))))
noncomputable def m189 : List AV → CT
  | [.agg [.sc (.int .i64 y), .sc (.int .i64 mo), .sc (.int .i64 da), .sc (.int .i64 h), .sc (.int .i64 mi), .sc (.int .i64 s), .sc (.int .i64 z)]] => (.br (fieldsOk y mo da h mi s z) (.ret (.one (.one (.fc (.sc (.int .i64 (secNo y mo da h mi s z))))))) .no)
  | _ => .no
/-! 189: (impl.Date).seconds -/
def T189 (N : Nat) (y : Int) (mo : Int) (da : Int) (h : Int) (mi : Int) (s : Int) (z : Int) : Option RV :=
  (bif (dayIn y mo da) then
  some (.one (.one (.fc (.sc (.int .i64 (IntKind.i64.wrap ((IntKind.i64.wrap ((IntKind.i64.wrap ((IntKind.i64.wrap ((IntKind.i64.wrap ((dayNo y mo da) * (86400 : Int))) + (IntKind.i64.wrap (h * (3600 : Int))))) + (IntKind.i64.wrap (mi * (60 : Int))))) + s)) - (IntKind.i64.wrap (z * (60 : Int))))))))))
  else none)
noncomputable def m93 : List AV → CT
  | [.agg [.sc (.int .i64 y), .sc (.int .i64 mo), .sc (.int .i64 da), .sc (.int .i64 h), .sc (.int .i64 mi), .sc (.int .i64 s), .sc (.int .i64 z)]] => (.ret (.one (.one (.fc (.sc (.bool (dateOk y mo da h mi s z)))))))
  | _ => .no
/-! 93: impl.DateValid -/
def T93 (N : Nat) (y : Int) (mo : Int) (da : Int) (h : Int) (mi : Int) (s : Int) (z : Int) : Option RV :=
  (bif (decide ((1 : Int) ≤ da) && decide (da ≤ (daysOf y mo))) then
  (bif (decide ((0 : Int) ≤ h) && decide (h ≤ (23 : Int))) then
    (bif (decide ((0 : Int) ≤ mi) && decide (mi ≤ (59 : Int))) then
      (bif (decide ((0 : Int) ≤ s) && decide (s ≤ (59 : Int))) then
        (bif (decide (-720 ≤ z) && decide (z ≤ 840)) then
          (bif (fieldsOk y mo da h mi s z) then
            some (.one (.one (.fc (.sc (.bool (decide ((0 : Int) ≤ (secNo y mo da h mi s z)) && decide ((secNo y mo da h mi s z) ≤ (4102444799 : Int))))))))
            else none)
          else
          some (.one (.one (.fc (.sc (.bool false))))))
        else
        some (.one (.one (.fc (.sc (.bool false))))))
      else
      some (.one (.one (.fc (.sc (.bool false))))))
    else
    some (.one (.one (.fc (.sc (.bool false))))))
  else
  some (.one (.one (.fc (.sc (.bool false))))))
noncomputable def m100 : List AV → CT
  | [.agg [.sc (.int .i64 y), .sc (.int .i64 mo), .sc (.int .i64 da), .sc (.int .i64 h), .sc (.int .i64 mi), .sc (.int .i64 s), .sc (.int .i64 z)]] => (.ret (.one (.one (.fc (.sc (.bool (dateOk y mo da h mi s z)))))))
  | _ => .no
/-! 100: spec.DateValid -/
def T100 (N : Nat) (y : Int) (mo : Int) (da : Int) (h : Int) (mi : Int) (s : Int) (z : Int) : Option RV :=
  (bif (!(fieldsOk y mo da h mi s z)) then
  some (.one (.one (.fc (.sc (.bool false)))))
  else
  (bif (fieldsOk y mo da h mi s z) then
    (bif (decide ((secNo y mo da h mi s z) ≥ (0 : Int))) then
      some (.one (.one (.fc (.sc (.bool (decide ((secNo y mo da h mi s z) < (4102444800 : Int))))))))
      else
      some (.one (.one (.fc (.sc (.bool false))))))
    else none))
noncomputable def m109 : List AV → CT
  | [.agg [.sc (.int .i64 y), .sc (.int .i64 mo), .sc (.int .i64 da), .sc (.int .i64 h), .sc (.int .i64 mi), .sc (.int .i64 s), .sc (.int .i64 z)]] => (.ret (.one (.one (.fc (.sc (.string (bif dateOk y mo da h mi s z then wday (dayNo y mo da) else ⟨#[]⟩)))))))
  | _ => .no
/-! 109: impl.WeekdayOf -/
def T109 (N : Nat) (y : Int) (mo : Int) (da : Int) (h : Int) (mi : Int) (s : Int) (z : Int) : Option RV :=
  (bif (!(dateOk y mo da h mi s z)) then
  some (.one (.one (.fc (.sc (.string (⟨#[]⟩ : ByteArray))))))
  else
  (bif (dayIn y mo da) then
    (bif (inb ((dayNo y mo da).tmod (7 : Int)) 7) then
      some (.one (.one (.fc (.sc (.string ((([(⟨#[84, 104, 117]⟩ : ByteArray), (⟨#[70, 114, 105]⟩ : ByteArray), (⟨#[83, 97, 116]⟩ : ByteArray), (⟨#[83, 117, 110]⟩ : ByteArray), (⟨#[77, 111, 110]⟩ : ByteArray), (⟨#[84, 117, 101]⟩ : ByteArray), (⟨#[87, 101, 100]⟩ : ByteArray)] : List ByteArray)).getD (((dayNo y mo da).tmod (7 : Int))).toNat (⟨#[]⟩ : ByteArray)))))))
      else none)
    else none))
noncomputable def m120 : List AV → CT
  | [.agg [.sc (.int .i64 y), .sc (.int .i64 mo), .sc (.int .i64 da), .sc (.int .i64 h), .sc (.int .i64 mi), .sc (.int .i64 s), .sc (.int .i64 z)]] => (.ret (.one (.one (.fc (.sc (.string (bif dateOk y mo da h mi s z then wday (dayNo y mo da) else ⟨#[]⟩)))))))
  | _ => .no
/-! 120: spec.WeekdayOf -/
def T120 (N : Nat) (y : Int) (mo : Int) (da : Int) (h : Int) (mi : Int) (s : Int) (z : Int) : Option RV :=
  (bif (!(dateOk y mo da h mi s z)) then
  some (.one (.one (.fc (.sc (.string (⟨#[]⟩ : ByteArray))))))
  else
  (bif (fieldsOk y mo da h mi s z) then
    (bif (inb ((IntKind.i64.wrap ((IntKind.i64.wrap ((secNo y mo da h mi s z) + (IntKind.i64.wrap (z * (60 : Int))))).tdiv (86400 : Int))).tmod (7 : Int)) 7) then
      some (.one (.one (.fc (.sc (.string ((([(⟨#[84, 104, 117]⟩ : ByteArray), (⟨#[70, 114, 105]⟩ : ByteArray), (⟨#[83, 97, 116]⟩ : ByteArray), (⟨#[83, 117, 110]⟩ : ByteArray), (⟨#[77, 111, 110]⟩ : ByteArray), (⟨#[84, 117, 101]⟩ : ByteArray), (⟨#[87, 101, 100]⟩ : ByteArray)] : List ByteArray)).getD (((IntKind.i64.wrap ((IntKind.i64.wrap ((secNo y mo da h mi s z) + (IntKind.i64.wrap (z * (60 : Int))))).tdiv (86400 : Int))).tmod (7 : Int))).toNat (⟨#[]⟩ : ByteArray)))))))
      else none)
    else none))
noncomputable def m110 : List AV → CT
  | [.one (.sc (.int .i64 n)), .one (.sc (.int .i64 w))] => (.br (decide (0 ≤ n) && decide (n < 10000) && decide (1 ≤ w) && decide (w ≤ 4)) (.ret (.one (.one (.fc (.sc (.string (decW n.toNat (Nat.max w.toNat (ndig n.toNat)) ⟨#[]⟩))))))) .no)
  | _ => .no
/-! 110: impl.decimal -/
def L110_0_0 {R : Type} : Nat → Int → Int → ByteArray → (ByteArray → Option R) → Option R
  | 0, _, _, _, _ => none
  | n + 1, x0, x1, x2, k0 => (bif (decide (x0 > (0 : Int))) then
    (bif (cutOk ((⟨#[48, 49, 50, 51, 52, 53, 54, 55, 56, 57]⟩ : ByteArray)).size (some (x0.tmod (10 : Int))) (some (IntKind.i64.wrap ((x0.tmod (10 : Int)) + (1 : Int))))) then
      (bif (Nat.ble ((cutS (⟨#[48, 49, 50, 51, 52, 53, 54, 55, 56, 57]⟩ : ByteArray) (some (x0.tmod (10 : Int))) (some (IntKind.i64.wrap ((x0.tmod (10 : Int)) + (1 : Int))))).size + x2.size) 9223372036854775807) then
        (L110_0_0 n (IntKind.i64.wrap (x0.tdiv (10 : Int))) (IntKind.i64.wrap (x1 - (1 : Int))) ((cutS (⟨#[48, 49, 50, 51, 52, 53, 54, 55, 56, 57]⟩ : ByteArray) (some (x0.tmod (10 : Int))) (some (IntKind.i64.wrap ((x0.tmod (10 : Int)) + (1 : Int))))) ++ x2) k0)
        else none)
      else none)
    else
    (bif (decide (x1 > (0 : Int))) then
      (bif (cutOk ((⟨#[48, 49, 50, 51, 52, 53, 54, 55, 56, 57]⟩ : ByteArray)).size (some (x0.tmod (10 : Int))) (some (IntKind.i64.wrap ((x0.tmod (10 : Int)) + (1 : Int))))) then
        (bif (Nat.ble ((cutS (⟨#[48, 49, 50, 51, 52, 53, 54, 55, 56, 57]⟩ : ByteArray) (some (x0.tmod (10 : Int))) (some (IntKind.i64.wrap ((x0.tmod (10 : Int)) + (1 : Int))))).size + x2.size) 9223372036854775807) then
          (L110_0_0 n (IntKind.i64.wrap (x0.tdiv (10 : Int))) (IntKind.i64.wrap (x1 - (1 : Int))) ((cutS (⟨#[48, 49, 50, 51, 52, 53, 54, 55, 56, 57]⟩ : ByteArray) (some (x0.tmod (10 : Int))) (some (IntKind.i64.wrap ((x0.tmod (10 : Int)) + (1 : Int))))) ++ x2) k0)
          else none)
        else none)
      else
      (k0 x2)))
def T110 (N : Nat) (n : Int) (w : Int) : Option RV :=
  (L110_0_0 N n w (⟨#[]⟩ : ByteArray)
  (fun (z1_0 : ByteArray) => some (.one (.one (.fc (.sc (.string z1_0)))))))
noncomputable def m121 : List AV → CT
  | [.one (.sc (.int .i64 n))] => (.br (decide (0 ≤ n) && decide (n < 10000)) (.ret (.one (.one (.fc (.sc (.string (decW n.toNat (ndig n.toNat) ⟨#[]⟩))))))) .no)
  | _ => .no
/-! 121: spec.l13Dec -/
def L121_0_0 {R : Type} : Nat → Int → ByteArray → (Int → ByteArray → Option R) → Option R
  | 0, _, _, _ => none
  | n + 1, x0, x1, k0 => (bif (decide (x0 > (9 : Int))) then
    (bif (Nat.ble ((strOfNums ([(IntKind.u8.wrap (IntKind.i64.wrap ((48 : Int) + (x0.tmod (10 : Int)))))] : List Int)).size + x1.size) 9223372036854775807) then
      (L121_0_0 n (IntKind.i64.wrap (x0.tdiv (10 : Int))) ((strOfNums ([(IntKind.u8.wrap (IntKind.i64.wrap ((48 : Int) + (x0.tmod (10 : Int)))))] : List Int)) ++ x1) k0)
      else none)
    else
    (k0 x0 x1))
def T121 (N : Nat) (n : Int) : Option RV :=
  (bif (decide (n < (-9223372036854775807 : Int))) then
  some (.one (.one (.fc (.sc (.string (⟨#[45, 57, 50, 50, 51, 51, 55, 50, 48, 51, 54, 56, 53, 52, 55, 55, 53, 56, 48, 56]⟩ : ByteArray))))))
  else
  (bif (decide (n < (0 : Int))) then
    none
    else
    (L121_0_0 N n (⟨#[]⟩ : ByteArray)
      (fun (z1_0 : Int) (z1_1 : ByteArray) => (bif (Nat.ble ((strOfNums ([(IntKind.u8.wrap (IntKind.i64.wrap ((48 : Int) + z1_0)))] : List Int)).size + z1_1.size) 9223372036854775807) then
        some (.one (.one (.fc (.sc (.string ((strOfNums ([(IntKind.u8.wrap (IntKind.i64.wrap ((48 : Int) + z1_0)))] : List Int)) ++ z1_1))))))
        else none)))))
noncomputable def m122 : List AV → CT
  | [] => (.ret (.one (.one (.buf .str 9 (months)))))
  | _ => .no
/-! 122: spec.l4Months -/
def T122 (N : Nat)  : Option RV :=
  some (.one (.one (.buf .str 9 ([(⟨#[74, 97, 110]⟩ : ByteArray), (⟨#[70, 101, 98]⟩ : ByteArray), (⟨#[77, 97, 114]⟩ : ByteArray), (⟨#[65, 112, 114]⟩ : ByteArray), (⟨#[77, 97, 121]⟩ : ByteArray), (⟨#[74, 117, 110]⟩ : ByteArray), (⟨#[74, 117, 108]⟩ : ByteArray), (⟨#[65, 117, 103]⟩ : ByteArray), (⟨#[83, 101, 112]⟩ : ByteArray), (⟨#[79, 99, 116]⟩ : ByteArray), (⟨#[78, 111, 118]⟩ : ByteArray), (⟨#[68, 101, 99]⟩ : ByteArray)] : List ByteArray))))
noncomputable def m123 : List AV → CT
  | [.one (.sc (.int .i64 n))] => (.br (decide (0 ≤ n) && decide (n < 100)) (.ret (.one (.one (.fc (.sc (.string (decW n.toNat 2 ⟨#[]⟩))))))) .no)
  | _ => .no
/-! 123: spec.l4Two -/
def T123 (N : Nat) (n : Int) : Option RV :=
  (bif (decide (0 ≤ (IntKind.i64.wrap (n.tdiv (10 : Int)))) && decide ((IntKind.i64.wrap (n.tdiv (10 : Int))) < 10000)) then
  (bif (decide (0 ≤ (n.tmod (10 : Int))) && decide ((n.tmod (10 : Int)) < 10000)) then
    (bif (Nat.ble ((decW (IntKind.i64.wrap (n.tdiv (10 : Int))).toNat (ndig (IntKind.i64.wrap (n.tdiv (10 : Int))).toNat) ⟨#[]⟩).size + (decW (n.tmod (10 : Int)).toNat (ndig (n.tmod (10 : Int)).toNat) ⟨#[]⟩).size) 9223372036854775807) then
      some (.one (.one (.fc (.sc (.string ((decW (IntKind.i64.wrap (n.tdiv (10 : Int))).toNat (ndig (IntKind.i64.wrap (n.tdiv (10 : Int))).toNat) ⟨#[]⟩) ++ (decW (n.tmod (10 : Int)).toNat (ndig (n.tmod (10 : Int)).toNat) ⟨#[]⟩)))))))
      else none)
    else none)
  else none)
noncomputable def m37 : List AV → CT
  | [.agg [.sc (.int .i64 y), .sc (.int .i64 mo), .sc (.int .i64 da), .sc (.int .i64 h), .sc (.int .i64 mi), .sc (.int .i64 s), .sc (.int .i64 z)]] => (.ret (.one (.one (.fc (.sc (.string (bif dateOk y mo da h mi s z then fmtD y mo da h mi s z else ⟨#[]⟩)))))))
  | _ => .no
/-! 37: impl.FormatDate -/
def T37 (N : Nat) (y : Int) (mo : Int) (da : Int) (h : Int) (mi : Int) (s : Int) (z : Int) : Option RV :=
  (bif (!(dateOk y mo da h mi s z)) then
  some (.one (.one (.fc (.sc (.string (⟨#[]⟩ : ByteArray))))))
  else
  (bif (decide (z < (0 : Int))) then
    (bif (inb (IntKind.i64.wrap (mo - (1 : Int))) 12) then
      (bif (decide ((0 + ((IntKind.i64.wrap (mo - (1 : Int)))).toNat * 1) < 12)) then
        (bif (Nat.ble ((bif dateOk y mo da h mi s z then wday (dayNo y mo da) else ⟨#[]⟩).size + (⟨#[44, 32]⟩ : ByteArray).size) 9223372036854775807) then
          (bif (decide (0 ≤ da) && decide (da < 10000) && decide (1 ≤ (1 : Int)) && decide ((1 : Int) ≤ 4)) then
            (bif (Nat.ble (((bif dateOk y mo da h mi s z then wday (dayNo y mo da) else ⟨#[]⟩) ++ (⟨#[44, 32]⟩ : ByteArray)).size + (decW da.toNat (Nat.max (1 : Int).toNat (ndig da.toNat)) ⟨#[]⟩).size) 9223372036854775807) then
              (bif (Nat.ble ((((bif dateOk y mo da h mi s z then wday (dayNo y mo da) else ⟨#[]⟩) ++ (⟨#[44, 32]⟩ : ByteArray)) ++ (decW da.toNat (Nat.max (1 : Int).toNat (ndig da.toNat)) ⟨#[]⟩)).size + (⟨#[32]⟩ : ByteArray).size) 9223372036854775807) then
                (bif (Nat.ble (((((bif dateOk y mo da h mi s z then wday (dayNo y mo da) else ⟨#[]⟩) ++ (⟨#[44, 32]⟩ : ByteArray)) ++ (decW da.toNat (Nat.max (1 : Int).toNat (ndig da.toNat)) ⟨#[]⟩)) ++ (⟨#[32]⟩ : ByteArray)).size + ((([(⟨#[74, 97, 110]⟩ : ByteArray), (⟨#[70, 101, 98]⟩ : ByteArray), (⟨#[77, 97, 114]⟩ : ByteArray), (⟨#[65, 112, 114]⟩ : ByteArray), (⟨#[77, 97, 121]⟩ : ByteArray), (⟨#[74, 117, 110]⟩ : ByteArray), (⟨#[74, 117, 108]⟩ : ByteArray), (⟨#[65, 117, 103]⟩ : ByteArray), (⟨#[83, 101, 112]⟩ : ByteArray), (⟨#[79, 99, 116]⟩ : ByteArray), (⟨#[78, 111, 118]⟩ : ByteArray), (⟨#[68, 101, 99]⟩ : ByteArray)] : List ByteArray)).getD (0 + ((IntKind.i64.wrap (mo - (1 : Int)))).toNat * 1) (⟨#[]⟩ : ByteArray)).size) 9223372036854775807) then
                  (bif (Nat.ble ((((((bif dateOk y mo da h mi s z then wday (dayNo y mo da) else ⟨#[]⟩) ++ (⟨#[44, 32]⟩ : ByteArray)) ++ (decW da.toNat (Nat.max (1 : Int).toNat (ndig da.toNat)) ⟨#[]⟩)) ++ (⟨#[32]⟩ : ByteArray)) ++ ((([(⟨#[74, 97, 110]⟩ : ByteArray), (⟨#[70, 101, 98]⟩ : ByteArray), (⟨#[77, 97, 114]⟩ : ByteArray), (⟨#[65, 112, 114]⟩ : ByteArray), (⟨#[77, 97, 121]⟩ : ByteArray), (⟨#[74, 117, 110]⟩ : ByteArray), (⟨#[74, 117, 108]⟩ : ByteArray), (⟨#[65, 117, 103]⟩ : ByteArray), (⟨#[83, 101, 112]⟩ : ByteArray), (⟨#[79, 99, 116]⟩ : ByteArray), (⟨#[78, 111, 118]⟩ : ByteArray), (⟨#[68, 101, 99]⟩ : ByteArray)] : List ByteArray)).getD (0 + ((IntKind.i64.wrap (mo - (1 : Int)))).toNat * 1) (⟨#[]⟩ : ByteArray))).size + (⟨#[32]⟩ : ByteArray).size) 9223372036854775807) then
                    (bif (decide (0 ≤ y) && decide (y < 10000) && decide (1 ≤ (4 : Int)) && decide ((4 : Int) ≤ 4)) then
                      (bif (Nat.ble (((((((bif dateOk y mo da h mi s z then wday (dayNo y mo da) else ⟨#[]⟩) ++ (⟨#[44, 32]⟩ : ByteArray)) ++ (decW da.toNat (Nat.max (1 : Int).toNat (ndig da.toNat)) ⟨#[]⟩)) ++ (⟨#[32]⟩ : ByteArray)) ++ ((([(⟨#[74, 97, 110]⟩ : ByteArray), (⟨#[70, 101, 98]⟩ : ByteArray), (⟨#[77, 97, 114]⟩ : ByteArray), (⟨#[65, 112, 114]⟩ : ByteArray), (⟨#[77, 97, 121]⟩ : ByteArray), (⟨#[74, 117, 110]⟩ : ByteArray), (⟨#[74, 117, 108]⟩ : ByteArray), (⟨#[65, 117, 103]⟩ : ByteArray), (⟨#[83, 101, 112]⟩ : ByteArray), (⟨#[79, 99, 116]⟩ : ByteArray), (⟨#[78, 111, 118]⟩ : ByteArray), (⟨#[68, 101, 99]⟩ : ByteArray)] : List ByteArray)).getD (0 + ((IntKind.i64.wrap (mo - (1 : Int)))).toNat * 1) (⟨#[]⟩ : ByteArray))) ++ (⟨#[32]⟩ : ByteArray)).size + (decW y.toNat (Nat.max (4 : Int).toNat (ndig y.toNat)) ⟨#[]⟩).size) 9223372036854775807) then
                        (bif (Nat.ble ((((((((bif dateOk y mo da h mi s z then wday (dayNo y mo da) else ⟨#[]⟩) ++ (⟨#[44, 32]⟩ : ByteArray)) ++ (decW da.toNat (Nat.max (1 : Int).toNat (ndig da.toNat)) ⟨#[]⟩)) ++ (⟨#[32]⟩ : ByteArray)) ++ ((([(⟨#[74, 97, 110]⟩ : ByteArray), (⟨#[70, 101, 98]⟩ : ByteArray), (⟨#[77, 97, 114]⟩ : ByteArray), (⟨#[65, 112, 114]⟩ : ByteArray), (⟨#[77, 97, 121]⟩ : ByteArray), (⟨#[74, 117, 110]⟩ : ByteArray), (⟨#[74, 117, 108]⟩ : ByteArray), (⟨#[65, 117, 103]⟩ : ByteArray), (⟨#[83, 101, 112]⟩ : ByteArray), (⟨#[79, 99, 116]⟩ : ByteArray), (⟨#[78, 111, 118]⟩ : ByteArray), (⟨#[68, 101, 99]⟩ : ByteArray)] : List ByteArray)).getD (0 + ((IntKind.i64.wrap (mo - (1 : Int)))).toNat * 1) (⟨#[]⟩ : ByteArray))) ++ (⟨#[32]⟩ : ByteArray)) ++ (decW y.toNat (Nat.max (4 : Int).toNat (ndig y.toNat)) ⟨#[]⟩)).size + (⟨#[32]⟩ : ByteArray).size) 9223372036854775807) then
                          (bif (decide (0 ≤ h) && decide (h < 10000) && decide (1 ≤ (2 : Int)) && decide ((2 : Int) ≤ 4)) then
                            (bif (Nat.ble (((((((((bif dateOk y mo da h mi s z then wday (dayNo y mo da) else ⟨#[]⟩) ++ (⟨#[44, 32]⟩ : ByteArray)) ++ (decW da.toNat (Nat.max (1 : Int).toNat (ndig da.toNat)) ⟨#[]⟩)) ++ (⟨#[32]⟩ : ByteArray)) ++ ((([(⟨#[74, 97, 110]⟩ : ByteArray), (⟨#[70, 101, 98]⟩ : ByteArray), (⟨#[77, 97, 114]⟩ : ByteArray), (⟨#[65, 112, 114]⟩ : ByteArray), (⟨#[77, 97, 121]⟩ : ByteArray), (⟨#[74, 117, 110]⟩ : ByteArray), (⟨#[74, 117, 108]⟩ : ByteArray), (⟨#[65, 117, 103]⟩ : ByteArray), (⟨#[83, 101, 112]⟩ : ByteArray), (⟨#[79, 99, 116]⟩ : ByteArray), (⟨#[78, 111, 118]⟩ : ByteArray), (⟨#[68, 101, 99]⟩ : ByteArray)] : List ByteArray)).getD (0 + ((IntKind.i64.wrap (mo - (1 : Int)))).toNat * 1) (⟨#[]⟩ : ByteArray))) ++ (⟨#[32]⟩ : ByteArray)) ++ (decW y.toNat (Nat.max (4 : Int).toNat (ndig y.toNat)) ⟨#[]⟩)) ++ (⟨#[32]⟩ : ByteArray)).size + (decW h.toNat (Nat.max (2 : Int).toNat (ndig h.toNat)) ⟨#[]⟩).size) 9223372036854775807) then
                              (bif (Nat.ble ((((((((((bif dateOk y mo da h mi s z then wday (dayNo y mo da) else ⟨#[]⟩) ++ (⟨#[44, 32]⟩ : ByteArray)) ++ (decW da.toNat (Nat.max (1 : Int).toNat (ndig da.toNat)) ⟨#[]⟩)) ++ (⟨#[32]⟩ : ByteArray)) ++ ((([(⟨#[74, 97, 110]⟩ : ByteArray), (⟨#[70, 101, 98]⟩ : ByteArray), (⟨#[77, 97, 114]⟩ : ByteArray), (⟨#[65, 112, 114]⟩ : ByteArray), (⟨#[77, 97, 121]⟩ : ByteArray), (⟨#[74, 117, 110]⟩ : ByteArray), (⟨#[74, 117, 108]⟩ : ByteArray), (⟨#[65, 117, 103]⟩ : ByteArray), (⟨#[83, 101, 112]⟩ : ByteArray), (⟨#[79, 99, 116]⟩ : ByteArray), (⟨#[78, 111, 118]⟩ : ByteArray), (⟨#[68, 101, 99]⟩ : ByteArray)] : List ByteArray)).getD (0 + ((IntKind.i64.wrap (mo - (1 : Int)))).toNat * 1) (⟨#[]⟩ : ByteArray))) ++ (⟨#[32]⟩ : ByteArray)) ++ (decW y.toNat (Nat.max (4 : Int).toNat (ndig y.toNat)) ⟨#[]⟩)) ++ (⟨#[32]⟩ : ByteArray)) ++ (decW h.toNat (Nat.max (2 : Int).toNat (ndig h.toNat)) ⟨#[]⟩)).size + (⟨#[58]⟩ : ByteArray).size) 9223372036854775807) then
                                (bif (decide (0 ≤ mi) && decide (mi < 10000) && decide (1 ≤ (2 : Int)) && decide ((2 : Int) ≤ 4)) then
                                  (bif (Nat.ble (((((((((((bif dateOk y mo da h mi s z then wday (dayNo y mo da) else ⟨#[]⟩) ++ (⟨#[44, 32]⟩ : ByteArray)) ++ (decW da.toNat (Nat.max (1 : Int).toNat (ndig da.toNat)) ⟨#[]⟩)) ++ (⟨#[32]⟩ : ByteArray)) ++ ((([(⟨#[74, 97, 110]⟩ : ByteArray), (⟨#[70, 101, 98]⟩ : ByteArray), (⟨#[77, 97, 114]⟩ : ByteArray), (⟨#[65, 112, 114]⟩ : ByteArray), (⟨#[77, 97, 121]⟩ : ByteArray), (⟨#[74, 117, 110]⟩ : ByteArray), (⟨#[74, 117, 108]⟩ : ByteArray), (⟨#[65, 117, 103]⟩ : ByteArray), (⟨#[83, 101, 112]⟩ : ByteArray), (⟨#[79, 99, 116]⟩ : ByteArray), (⟨#[78, 111, 118]⟩ : ByteArray), (⟨#[68, 101, 99]⟩ : ByteArray)] : List ByteArray)).getD (0 + ((IntKind.i64.wrap (mo - (1 : Int)))).toNat * 1) (⟨#[]⟩ : ByteArray))) ++ (⟨#[32]⟩ : ByteArray)) ++ (decW y.toNat (Nat.max (4 : Int).toNat (ndig y.toNat)) ⟨#[]⟩)) ++ (⟨#[32]⟩ : ByteArray)) ++ (decW h.toNat (Nat.max (2 : Int).toNat (ndig h.toNat)) ⟨#[]⟩)) ++ (⟨#[58]⟩ : ByteArray)).size + (decW mi.toNat (Nat.max (2 : Int).toNat (ndig mi.toNat)) ⟨#[]⟩).size) 9223372036854775807) then
                                    (bif (Nat.ble ((((((((((((bif dateOk y mo da h mi s z then wday (dayNo y mo da) else ⟨#[]⟩) ++ (⟨#[44, 32]⟩ : ByteArray)) ++ (decW da.toNat (Nat.max (1 : Int).toNat (ndig da.toNat)) ⟨#[]⟩)) ++ (⟨#[32]⟩ : ByteArray)) ++ ((([(⟨#[74, 97, 110]⟩ : ByteArray), (⟨#[70, 101, 98]⟩ : ByteArray), (⟨#[77, 97, 114]⟩ : ByteArray), (⟨#[65, 112, 114]⟩ : ByteArray), (⟨#[77, 97, 121]⟩ : ByteArray), (⟨#[74, 117, 110]⟩ : ByteArray), (⟨#[74, 117, 108]⟩ : ByteArray), (⟨#[65, 117, 103]⟩ : ByteArray), (⟨#[83, 101, 112]⟩ : ByteArray), (⟨#[79, 99, 116]⟩ : ByteArray), (⟨#[78, 111, 118]⟩ : ByteArray), (⟨#[68, 101, 99]⟩ : ByteArray)] : List ByteArray)).getD (0 + ((IntKind.i64.wrap (mo - (1 : Int)))).toNat * 1) (⟨#[]⟩ : ByteArray))) ++ (⟨#[32]⟩ : ByteArray)) ++ (decW y.toNat (Nat.max (4 : Int).toNat (ndig y.toNat)) ⟨#[]⟩)) ++ (⟨#[32]⟩ : ByteArray)) ++ (decW h.toNat (Nat.max (2 : Int).toNat (ndig h.toNat)) ⟨#[]⟩)) ++ (⟨#[58]⟩ : ByteArray)) ++ (decW mi.toNat (Nat.max (2 : Int).toNat (ndig mi.toNat)) ⟨#[]⟩)).size + (⟨#[58]⟩ : ByteArray).size) 9223372036854775807) then
                                      (bif (decide (0 ≤ s) && decide (s < 10000) && decide (1 ≤ (2 : Int)) && decide ((2 : Int) ≤ 4)) then
                                        (bif (Nat.ble (((((((((((((bif dateOk y mo da h mi s z then wday (dayNo y mo da) else ⟨#[]⟩) ++ (⟨#[44, 32]⟩ : ByteArray)) ++ (decW da.toNat (Nat.max (1 : Int).toNat (ndig da.toNat)) ⟨#[]⟩)) ++ (⟨#[32]⟩ : ByteArray)) ++ ((([(⟨#[74, 97, 110]⟩ : ByteArray), (⟨#[70, 101, 98]⟩ : ByteArray), (⟨#[77, 97, 114]⟩ : ByteArray), (⟨#[65, 112, 114]⟩ : ByteArray), (⟨#[77, 97, 121]⟩ : ByteArray), (⟨#[74, 117, 110]⟩ : ByteArray), (⟨#[74, 117, 108]⟩ : ByteArray), (⟨#[65, 117, 103]⟩ : ByteArray), (⟨#[83, 101, 112]⟩ : ByteArray), (⟨#[79, 99, 116]⟩ : ByteArray), (⟨#[78, 111, 118]⟩ : ByteArray), (⟨#[68, 101, 99]⟩ : ByteArray)] : List ByteArray)).getD (0 + ((IntKind.i64.wrap (mo - (1 : Int)))).toNat * 1) (⟨#[]⟩ : ByteArray))) ++ (⟨#[32]⟩ : ByteArray)) ++ (decW y.toNat (Nat.max (4 : Int).toNat (ndig y.toNat)) ⟨#[]⟩)) ++ (⟨#[32]⟩ : ByteArray)) ++ (decW h.toNat (Nat.max (2 : Int).toNat (ndig h.toNat)) ⟨#[]⟩)) ++ (⟨#[58]⟩ : ByteArray)) ++ (decW mi.toNat (Nat.max (2 : Int).toNat (ndig mi.toNat)) ⟨#[]⟩)) ++ (⟨#[58]⟩ : ByteArray)).size + (decW s.toNat (Nat.max (2 : Int).toNat (ndig s.toNat)) ⟨#[]⟩).size) 9223372036854775807) then
                                          (bif (Nat.ble ((((((((((((((bif dateOk y mo da h mi s z then wday (dayNo y mo da) else ⟨#[]⟩) ++ (⟨#[44, 32]⟩ : ByteArray)) ++ (decW da.toNat (Nat.max (1 : Int).toNat (ndig da.toNat)) ⟨#[]⟩)) ++ (⟨#[32]⟩ : ByteArray)) ++ ((([(⟨#[74, 97, 110]⟩ : ByteArray), (⟨#[70, 101, 98]⟩ : ByteArray), (⟨#[77, 97, 114]⟩ : ByteArray), (⟨#[65, 112, 114]⟩ : ByteArray), (⟨#[77, 97, 121]⟩ : ByteArray), (⟨#[74, 117, 110]⟩ : ByteArray), (⟨#[74, 117, 108]⟩ : ByteArray), (⟨#[65, 117, 103]⟩ : ByteArray), (⟨#[83, 101, 112]⟩ : ByteArray), (⟨#[79, 99, 116]⟩ : ByteArray), (⟨#[78, 111, 118]⟩ : ByteArray), (⟨#[68, 101, 99]⟩ : ByteArray)] : List ByteArray)).getD (0 + ((IntKind.i64.wrap (mo - (1 : Int)))).toNat * 1) (⟨#[]⟩ : ByteArray))) ++ (⟨#[32]⟩ : ByteArray)) ++ (decW y.toNat (Nat.max (4 : Int).toNat (ndig y.toNat)) ⟨#[]⟩)) ++ (⟨#[32]⟩ : ByteArray)) ++ (decW h.toNat (Nat.max (2 : Int).toNat (ndig h.toNat)) ⟨#[]⟩)) ++ (⟨#[58]⟩ : ByteArray)) ++ (decW mi.toNat (Nat.max (2 : Int).toNat (ndig mi.toNat)) ⟨#[]⟩)) ++ (⟨#[58]⟩ : ByteArray)) ++ (decW s.toNat (Nat.max (2 : Int).toNat (ndig s.toNat)) ⟨#[]⟩)).size + (⟨#[32, 45]⟩ : ByteArray).size) 9223372036854775807) then
                                            (bif (decide (0 ≤ (IntKind.i64.wrap ((IntKind.i64.wrap (0 - z)).tdiv (60 : Int)))) && decide ((IntKind.i64.wrap ((IntKind.i64.wrap (0 - z)).tdiv (60 : Int))) < 10000) && decide (1 ≤ (2 : Int)) && decide ((2 : Int) ≤ 4)) then
                                              (bif (Nat.ble (((((((((((((((bif dateOk y mo da h mi s z then wday (dayNo y mo da) else ⟨#[]⟩) ++ (⟨#[44, 32]⟩ : ByteArray)) ++ (decW da.toNat (Nat.max (1 : Int).toNat (ndig da.toNat)) ⟨#[]⟩)) ++ (⟨#[32]⟩ : ByteArray)) ++ ((([(⟨#[74, 97, 110]⟩ : ByteArray), (⟨#[70, 101, 98]⟩ : ByteArray), (⟨#[77, 97, 114]⟩ : ByteArray), (⟨#[65, 112, 114]⟩ : ByteArray), (⟨#[77, 97, 121]⟩ : ByteArray), (⟨#[74, 117, 110]⟩ : ByteArray), (⟨#[74, 117, 108]⟩ : ByteArray), (⟨#[65, 117, 103]⟩ : ByteArray), (⟨#[83, 101, 112]⟩ : ByteArray), (⟨#[79, 99, 116]⟩ : ByteArray), (⟨#[78, 111, 118]⟩ : ByteArray), (⟨#[68, 101, 99]⟩ : ByteArray)] : List ByteArray)).getD (0 + ((IntKind.i64.wrap (mo - (1 : Int)))).toNat * 1) (⟨#[]⟩ : ByteArray))) ++ (⟨#[32]⟩ : ByteArray)) ++ (decW y.toNat (Nat.max (4 : Int).toNat (ndig y.toNat)) ⟨#[]⟩)) ++ (⟨#[32]⟩ : ByteArray)) ++ (decW h.toNat (Nat.max (2 : Int).toNat (ndig h.toNat)) ⟨#[]⟩)) ++ (⟨#[58]⟩ : ByteArray)) ++ (decW mi.toNat (Nat.max (2 : Int).toNat (ndig mi.toNat)) ⟨#[]⟩)) ++ (⟨#[58]⟩ : ByteArray)) ++ (decW s.toNat (Nat.max (2 : Int).toNat (ndig s.toNat)) ⟨#[]⟩)) ++ (⟨#[32, 45]⟩ : ByteArray)).size + (decW (IntKind.i64.wrap ((IntKind.i64.wrap (0 - z)).tdiv (60 : Int))).toNat (Nat.max (2 : Int).toNat (ndig (IntKind.i64.wrap ((IntKind.i64.wrap (0 - z)).tdiv (60 : Int))).toNat)) ⟨#[]⟩).size) 9223372036854775807) then
                                                (bif (decide (0 ≤ ((IntKind.i64.wrap (0 - z)).tmod (60 : Int))) && decide (((IntKind.i64.wrap (0 - z)).tmod (60 : Int)) < 10000) && decide (1 ≤ (2 : Int)) && decide ((2 : Int) ≤ 4)) then
                                                  (bif (Nat.ble ((((((((((((((((bif dateOk y mo da h mi s z then wday (dayNo y mo da) else ⟨#[]⟩) ++ (⟨#[44, 32]⟩ : ByteArray)) ++ (decW da.toNat (Nat.max (1 : Int).toNat (ndig da.toNat)) ⟨#[]⟩)) ++ (⟨#[32]⟩ : ByteArray)) ++ ((([(⟨#[74, 97, 110]⟩ : ByteArray), (⟨#[70, 101, 98]⟩ : ByteArray), (⟨#[77, 97, 114]⟩ : ByteArray), (⟨#[65, 112, 114]⟩ : ByteArray), (⟨#[77, 97, 121]⟩ : ByteArray), (⟨#[74, 117, 110]⟩ : ByteArray), (⟨#[74, 117, 108]⟩ : ByteArray), (⟨#[65, 117, 103]⟩ : ByteArray), (⟨#[83, 101, 112]⟩ : ByteArray), (⟨#[79, 99, 116]⟩ : ByteArray), (⟨#[78, 111, 118]⟩ : ByteArray), (⟨#[68, 101, 99]⟩ : ByteArray)] : List ByteArray)).getD (0 + ((IntKind.i64.wrap (mo - (1 : Int)))).toNat * 1) (⟨#[]⟩ : ByteArray))) ++ (⟨#[32]⟩ : ByteArray)) ++ (decW y.toNat (Nat.max (4 : Int).toNat (ndig y.toNat)) ⟨#[]⟩)) ++ (⟨#[32]⟩ : ByteArray)) ++ (decW h.toNat (Nat.max (2 : Int).toNat (ndig h.toNat)) ⟨#[]⟩)) ++ (⟨#[58]⟩ : ByteArray)) ++ (decW mi.toNat (Nat.max (2 : Int).toNat (ndig mi.toNat)) ⟨#[]⟩)) ++ (⟨#[58]⟩ : ByteArray)) ++ (decW s.toNat (Nat.max (2 : Int).toNat (ndig s.toNat)) ⟨#[]⟩)) ++ (⟨#[32, 45]⟩ : ByteArray)) ++ (decW (IntKind.i64.wrap ((IntKind.i64.wrap (0 - z)).tdiv (60 : Int))).toNat (Nat.max (2 : Int).toNat (ndig (IntKind.i64.wrap ((IntKind.i64.wrap (0 - z)).tdiv (60 : Int))).toNat)) ⟨#[]⟩)).size + (decW ((IntKind.i64.wrap (0 - z)).tmod (60 : Int)).toNat (Nat.max (2 : Int).toNat (ndig ((IntKind.i64.wrap (0 - z)).tmod (60 : Int)).toNat)) ⟨#[]⟩).size) 9223372036854775807) then
                                                    some (.one (.one (.fc (.sc (.string ((((((((((((((((bif dateOk y mo da h mi s z then wday (dayNo y mo da) else ⟨#[]⟩) ++ (⟨#[44, 32]⟩ : ByteArray)) ++ (decW da.toNat (Nat.max (1 : Int).toNat (ndig da.toNat)) ⟨#[]⟩)) ++ (⟨#[32]⟩ : ByteArray)) ++ ((([(⟨#[74, 97, 110]⟩ : ByteArray), (⟨#[70, 101, 98]⟩ : ByteArray), (⟨#[77, 97, 114]⟩ : ByteArray), (⟨#[65, 112, 114]⟩ : ByteArray), (⟨#[77, 97, 121]⟩ : ByteArray), (⟨#[74, 117, 110]⟩ : ByteArray), (⟨#[74, 117, 108]⟩ : ByteArray), (⟨#[65, 117, 103]⟩ : ByteArray), (⟨#[83, 101, 112]⟩ : ByteArray), (⟨#[79, 99, 116]⟩ : ByteArray), (⟨#[78, 111, 118]⟩ : ByteArray), (⟨#[68, 101, 99]⟩ : ByteArray)] : List ByteArray)).getD (0 + ((IntKind.i64.wrap (mo - (1 : Int)))).toNat * 1) (⟨#[]⟩ : ByteArray))) ++ (⟨#[32]⟩ : ByteArray)) ++ (decW y.toNat (Nat.max (4 : Int).toNat (ndig y.toNat)) ⟨#[]⟩)) ++ (⟨#[32]⟩ : ByteArray)) ++ (decW h.toNat (Nat.max (2 : Int).toNat (ndig h.toNat)) ⟨#[]⟩)) ++ (⟨#[58]⟩ : ByteArray)) ++ (decW mi.toNat (Nat.max (2 : Int).toNat (ndig mi.toNat)) ⟨#[]⟩)) ++ (⟨#[58]⟩ : ByteArray)) ++ (decW s.toNat (Nat.max (2 : Int).toNat (ndig s.toNat)) ⟨#[]⟩)) ++ (⟨#[32, 45]⟩ : ByteArray)) ++ (decW (IntKind.i64.wrap ((IntKind.i64.wrap (0 - z)).tdiv (60 : Int))).toNat (Nat.max (2 : Int).toNat (ndig (IntKind.i64.wrap ((IntKind.i64.wrap (0 - z)).tdiv (60 : Int))).toNat)) ⟨#[]⟩)) ++ (decW ((IntKind.i64.wrap (0 - z)).tmod (60 : Int)).toNat (Nat.max (2 : Int).toNat (ndig ((IntKind.i64.wrap (0 - z)).tmod (60 : Int)).toNat)) ⟨#[]⟩)))))))
                                                    else none)
                                                  else none)
                                                else none)
                                              else none)
                                            else none)
                                          else none)
                                        else none)
                                      else none)
                                    else none)
                                  else none)
                                else none)
                              else none)
                            else none)
                          else none)
                        else none)
                      else none)
                    else none)
                  else none)
                else none)
              else none)
            else none)
          else none)
        else none)
      else none)
    else
    (bif (inb (IntKind.i64.wrap (mo - (1 : Int))) 12) then
      (bif (decide ((0 + ((IntKind.i64.wrap (mo - (1 : Int)))).toNat * 1) < 12)) then
        (bif (Nat.ble ((bif dateOk y mo da h mi s z then wday (dayNo y mo da) else ⟨#[]⟩).size + (⟨#[44, 32]⟩ : ByteArray).size) 9223372036854775807) then
          (bif (decide (0 ≤ da) && decide (da < 10000) && decide (1 ≤ (1 : Int)) && decide ((1 : Int) ≤ 4)) then
            (bif (Nat.ble (((bif dateOk y mo da h mi s z then wday (dayNo y mo da) else ⟨#[]⟩) ++ (⟨#[44, 32]⟩ : ByteArray)).size + (decW da.toNat (Nat.max (1 : Int).toNat (ndig da.toNat)) ⟨#[]⟩).size) 9223372036854775807) then
              (bif (Nat.ble ((((bif dateOk y mo da h mi s z then wday (dayNo y mo da) else ⟨#[]⟩) ++ (⟨#[44, 32]⟩ : ByteArray)) ++ (decW da.toNat (Nat.max (1 : Int).toNat (ndig da.toNat)) ⟨#[]⟩)).size + (⟨#[32]⟩ : ByteArray).size) 9223372036854775807) then
                (bif (Nat.ble (((((bif dateOk y mo da h mi s z then wday (dayNo y mo da) else ⟨#[]⟩) ++ (⟨#[44, 32]⟩ : ByteArray)) ++ (decW da.toNat (Nat.max (1 : Int).toNat (ndig da.toNat)) ⟨#[]⟩)) ++ (⟨#[32]⟩ : ByteArray)).size + ((([(⟨#[74, 97, 110]⟩ : ByteArray), (⟨#[70, 101, 98]⟩ : ByteArray), (⟨#[77, 97, 114]⟩ : ByteArray), (⟨#[65, 112, 114]⟩ : ByteArray), (⟨#[77, 97, 121]⟩ : ByteArray), (⟨#[74, 117, 110]⟩ : ByteArray), (⟨#[74, 117, 108]⟩ : ByteArray), (⟨#[65, 117, 103]⟩ : ByteArray), (⟨#[83, 101, 112]⟩ : ByteArray), (⟨#[79, 99, 116]⟩ : ByteArray), (⟨#[78, 111, 118]⟩ : ByteArray), (⟨#[68, 101, 99]⟩ : ByteArray)] : List ByteArray)).getD (0 + ((IntKind.i64.wrap (mo - (1 : Int)))).toNat * 1) (⟨#[]⟩ : ByteArray)).size) 9223372036854775807) then
                  (bif (Nat.ble ((((((bif dateOk y mo da h mi s z then wday (dayNo y mo da) else ⟨#[]⟩) ++ (⟨#[44, 32]⟩ : ByteArray)) ++ (decW da.toNat (Nat.max (1 : Int).toNat (ndig da.toNat)) ⟨#[]⟩)) ++ (⟨#[32]⟩ : ByteArray)) ++ ((([(⟨#[74, 97, 110]⟩ : ByteArray), (⟨#[70, 101, 98]⟩ : ByteArray), (⟨#[77, 97, 114]⟩ : ByteArray), (⟨#[65, 112, 114]⟩ : ByteArray), (⟨#[77, 97, 121]⟩ : ByteArray), (⟨#[74, 117, 110]⟩ : ByteArray), (⟨#[74, 117, 108]⟩ : ByteArray), (⟨#[65, 117, 103]⟩ : ByteArray), (⟨#[83, 101, 112]⟩ : ByteArray), (⟨#[79, 99, 116]⟩ : ByteArray), (⟨#[78, 111, 118]⟩ : ByteArray), (⟨#[68, 101, 99]⟩ : ByteArray)] : List ByteArray)).getD (0 + ((IntKind.i64.wrap (mo - (1 : Int)))).toNat * 1) (⟨#[]⟩ : ByteArray))).size + (⟨#[32]⟩ : ByteArray).size) 9223372036854775807) then
                    (bif (decide (0 ≤ y) && decide (y < 10000) && decide (1 ≤ (4 : Int)) && decide ((4 : Int) ≤ 4)) then
                      (bif (Nat.ble (((((((bif dateOk y mo da h mi s z then wday (dayNo y mo da) else ⟨#[]⟩) ++ (⟨#[44, 32]⟩ : ByteArray)) ++ (decW da.toNat (Nat.max (1 : Int).toNat (ndig da.toNat)) ⟨#[]⟩)) ++ (⟨#[32]⟩ : ByteArray)) ++ ((([(⟨#[74, 97, 110]⟩ : ByteArray), (⟨#[70, 101, 98]⟩ : ByteArray), (⟨#[77, 97, 114]⟩ : ByteArray), (⟨#[65, 112, 114]⟩ : ByteArray), (⟨#[77, 97, 121]⟩ : ByteArray), (⟨#[74, 117, 110]⟩ : ByteArray), (⟨#[74, 117, 108]⟩ : ByteArray), (⟨#[65, 117, 103]⟩ : ByteArray), (⟨#[83, 101, 112]⟩ : ByteArray), (⟨#[79, 99, 116]⟩ : ByteArray), (⟨#[78, 111, 118]⟩ : ByteArray), (⟨#[68, 101, 99]⟩ : ByteArray)] : List ByteArray)).getD (0 + ((IntKind.i64.wrap (mo - (1 : Int)))).toNat * 1) (⟨#[]⟩ : ByteArray))) ++ (⟨#[32]⟩ : ByteArray)).size + (decW y.toNat (Nat.max (4 : Int).toNat (ndig y.toNat)) ⟨#[]⟩).size) 9223372036854775807) then
                        (bif (Nat.ble ((((((((bif dateOk y mo da h mi s z then wday (dayNo y mo da) else ⟨#[]⟩) ++ (⟨#[44, 32]⟩ : ByteArray)) ++ (decW da.toNat (Nat.max (1 : Int).toNat (ndig da.toNat)) ⟨#[]⟩)) ++ (⟨#[32]⟩ : ByteArray)) ++ ((([(⟨#[74, 97, 110]⟩ : ByteArray), (⟨#[70, 101, 98]⟩ : ByteArray), (⟨#[77, 97, 114]⟩ : ByteArray), (⟨#[65, 112, 114]⟩ : ByteArray), (⟨#[77, 97, 121]⟩ : ByteArray), (⟨#[74, 117, 110]⟩ : ByteArray), (⟨#[74, 117, 108]⟩ : ByteArray), (⟨#[65, 117, 103]⟩ : ByteArray), (⟨#[83, 101, 112]⟩ : ByteArray), (⟨#[79, 99, 116]⟩ : ByteArray), (⟨#[78, 111, 118]⟩ : ByteArray), (⟨#[68, 101, 99]⟩ : ByteArray)] : List ByteArray)).getD (0 + ((IntKind.i64.wrap (mo - (1 : Int)))).toNat * 1) (⟨#[]⟩ : ByteArray))) ++ (⟨#[32]⟩ : ByteArray)) ++ (decW y.toNat (Nat.max (4 : Int).toNat (ndig y.toNat)) ⟨#[]⟩)).size + (⟨#[32]⟩ : ByteArray).size) 9223372036854775807) then
                          (bif (decide (0 ≤ h) && decide (h < 10000) && decide (1 ≤ (2 : Int)) && decide ((2 : Int) ≤ 4)) then
                            (bif (Nat.ble (((((((((bif dateOk y mo da h mi s z then wday (dayNo y mo da) else ⟨#[]⟩) ++ (⟨#[44, 32]⟩ : ByteArray)) ++ (decW da.toNat (Nat.max (1 : Int).toNat (ndig da.toNat)) ⟨#[]⟩)) ++ (⟨#[32]⟩ : ByteArray)) ++ ((([(⟨#[74, 97, 110]⟩ : ByteArray), (⟨#[70, 101, 98]⟩ : ByteArray), (⟨#[77, 97, 114]⟩ : ByteArray), (⟨#[65, 112, 114]⟩ : ByteArray), (⟨#[77, 97, 121]⟩ : ByteArray), (⟨#[74, 117, 110]⟩ : ByteArray), (⟨#[74, 117, 108]⟩ : ByteArray), (⟨#[65, 117, 103]⟩ : ByteArray), (⟨#[83, 101, 112]⟩ : ByteArray), (⟨#[79, 99, 116]⟩ : ByteArray), (⟨#[78, 111, 118]⟩ : ByteArray), (⟨#[68, 101, 99]⟩ : ByteArray)] : List ByteArray)).getD (0 + ((IntKind.i64.wrap (mo - (1 : Int)))).toNat * 1) (⟨#[]⟩ : ByteArray))) ++ (⟨#[32]⟩ : ByteArray)) ++ (decW y.toNat (Nat.max (4 : Int).toNat (ndig y.toNat)) ⟨#[]⟩)) ++ (⟨#[32]⟩ : ByteArray)).size + (decW h.toNat (Nat.max (2 : Int).toNat (ndig h.toNat)) ⟨#[]⟩).size) 9223372036854775807) then
                              (bif (Nat.ble ((((((((((bif dateOk y mo da h mi s z then wday (dayNo y mo da) else ⟨#[]⟩) ++ (⟨#[44, 32]⟩ : ByteArray)) ++ (decW da.toNat (Nat.max (1 : Int).toNat (ndig da.toNat)) ⟨#[]⟩)) ++ (⟨#[32]⟩ : ByteArray)) ++ ((([(⟨#[74, 97, 110]⟩ : ByteArray), (⟨#[70, 101, 98]⟩ : ByteArray), (⟨#[77, 97, 114]⟩ : ByteArray), (⟨#[65, 112, 114]⟩ : ByteArray), (⟨#[77, 97, 121]⟩ : ByteArray), (⟨#[74, 117, 110]⟩ : ByteArray), (⟨#[74, 117, 108]⟩ : ByteArray), (⟨#[65, 117, 103]⟩ : ByteArray), (⟨#[83, 101, 112]⟩ : ByteArray), (⟨#[79, 99, 116]⟩ : ByteArray), (⟨#[78, 111, 118]⟩ : ByteArray), (⟨#[68, 101, 99]⟩ : ByteArray)] : List ByteArray)).getD (0 + ((IntKind.i64.wrap (mo - (1 : Int)))).toNat * 1) (⟨#[]⟩ : ByteArray))) ++ (⟨#[32]⟩ : ByteArray)) ++ (decW y.toNat (Nat.max (4 : Int).toNat (ndig y.toNat)) ⟨#[]⟩)) ++ (⟨#[32]⟩ : ByteArray)) ++ (decW h.toNat (Nat.max (2 : Int).toNat (ndig h.toNat)) ⟨#[]⟩)).size + (⟨#[58]⟩ : ByteArray).size) 9223372036854775807) then
                                (bif (decide (0 ≤ mi) && decide (mi < 10000) && decide (1 ≤ (2 : Int)) && decide ((2 : Int) ≤ 4)) then
                                  (bif (Nat.ble (((((((((((bif dateOk y mo da h mi s z then wday (dayNo y mo da) else ⟨#[]⟩) ++ (⟨#[44, 32]⟩ : ByteArray)) ++ (decW da.toNat (Nat.max (1 : Int).toNat (ndig da.toNat)) ⟨#[]⟩)) ++ (⟨#[32]⟩ : ByteArray)) ++ ((([(⟨#[74, 97, 110]⟩ : ByteArray), (⟨#[70, 101, 98]⟩ : ByteArray), (⟨#[77, 97, 114]⟩ : ByteArray), (⟨#[65, 112, 114]⟩ : ByteArray), (⟨#[77, 97, 121]⟩ : ByteArray), (⟨#[74, 117, 110]⟩ : ByteArray), (⟨#[74, 117, 108]⟩ : ByteArray), (⟨#[65, 117, 103]⟩ : ByteArray), (⟨#[83, 101, 112]⟩ : ByteArray), (⟨#[79, 99, 116]⟩ : ByteArray), (⟨#[78, 111, 118]⟩ : ByteArray), (⟨#[68, 101, 99]⟩ : ByteArray)] : List ByteArray)).getD (0 + ((IntKind.i64.wrap (mo - (1 : Int)))).toNat * 1) (⟨#[]⟩ : ByteArray))) ++ (⟨#[32]⟩ : ByteArray)) ++ (decW y.toNat (Nat.max (4 : Int).toNat (ndig y.toNat)) ⟨#[]⟩)) ++ (⟨#[32]⟩ : ByteArray)) ++ (decW h.toNat (Nat.max (2 : Int).toNat (ndig h.toNat)) ⟨#[]⟩)) ++ (⟨#[58]⟩ : ByteArray)).size + (decW mi.toNat (Nat.max (2 : Int).toNat (ndig mi.toNat)) ⟨#[]⟩).size) 9223372036854775807) then
                                    (bif (Nat.ble ((((((((((((bif dateOk y mo da h mi s z then wday (dayNo y mo da) else ⟨#[]⟩) ++ (⟨#[44, 32]⟩ : ByteArray)) ++ (decW da.toNat (Nat.max (1 : Int).toNat (ndig da.toNat)) ⟨#[]⟩)) ++ (⟨#[32]⟩ : ByteArray)) ++ ((([(⟨#[74, 97, 110]⟩ : ByteArray), (⟨#[70, 101, 98]⟩ : ByteArray), (⟨#[77, 97, 114]⟩ : ByteArray), (⟨#[65, 112, 114]⟩ : ByteArray), (⟨#[77, 97, 121]⟩ : ByteArray), (⟨#[74, 117, 110]⟩ : ByteArray), (⟨#[74, 117, 108]⟩ : ByteArray), (⟨#[65, 117, 103]⟩ : ByteArray), (⟨#[83, 101, 112]⟩ : ByteArray), (⟨#[79, 99, 116]⟩ : ByteArray), (⟨#[78, 111, 118]⟩ : ByteArray), (⟨#[68, 101, 99]⟩ : ByteArray)] : List ByteArray)).getD (0 + ((IntKind.i64.wrap (mo - (1 : Int)))).toNat * 1) (⟨#[]⟩ : ByteArray))) ++ (⟨#[32]⟩ : ByteArray)) ++ (decW y.toNat (Nat.max (4 : Int).toNat (ndig y.toNat)) ⟨#[]⟩)) ++ (⟨#[32]⟩ : ByteArray)) ++ (decW h.toNat (Nat.max (2 : Int).toNat (ndig h.toNat)) ⟨#[]⟩)) ++ (⟨#[58]⟩ : ByteArray)) ++ (decW mi.toNat (Nat.max (2 : Int).toNat (ndig mi.toNat)) ⟨#[]⟩)).size + (⟨#[58]⟩ : ByteArray).size) 9223372036854775807) then
                                      (bif (decide (0 ≤ s) && decide (s < 10000) && decide (1 ≤ (2 : Int)) && decide ((2 : Int) ≤ 4)) then
                                        (bif (Nat.ble (((((((((((((bif dateOk y mo da h mi s z then wday (dayNo y mo da) else ⟨#[]⟩) ++ (⟨#[44, 32]⟩ : ByteArray)) ++ (decW da.toNat (Nat.max (1 : Int).toNat (ndig da.toNat)) ⟨#[]⟩)) ++ (⟨#[32]⟩ : ByteArray)) ++ ((([(⟨#[74, 97, 110]⟩ : ByteArray), (⟨#[70, 101, 98]⟩ : ByteArray), (⟨#[77, 97, 114]⟩ : ByteArray), (⟨#[65, 112, 114]⟩ : ByteArray), (⟨#[77, 97, 121]⟩ : ByteArray), (⟨#[74, 117, 110]⟩ : ByteArray), (⟨#[74, 117, 108]⟩ : ByteArray), (⟨#[65, 117, 103]⟩ : ByteArray), (⟨#[83, 101, 112]⟩ : ByteArray), (⟨#[79, 99, 116]⟩ : ByteArray), (⟨#[78, 111, 118]⟩ : ByteArray), (⟨#[68, 101, 99]⟩ : ByteArray)] : List ByteArray)).getD (0 + ((IntKind.i64.wrap (mo - (1 : Int)))).toNat * 1) (⟨#[]⟩ : ByteArray))) ++ (⟨#[32]⟩ : ByteArray)) ++ (decW y.toNat (Nat.max (4 : Int).toNat (ndig y.toNat)) ⟨#[]⟩)) ++ (⟨#[32]⟩ : ByteArray)) ++ (decW h.toNat (Nat.max (2 : Int).toNat (ndig h.toNat)) ⟨#[]⟩)) ++ (⟨#[58]⟩ : ByteArray)) ++ (decW mi.toNat (Nat.max (2 : Int).toNat (ndig mi.toNat)) ⟨#[]⟩)) ++ (⟨#[58]⟩ : ByteArray)).size + (decW s.toNat (Nat.max (2 : Int).toNat (ndig s.toNat)) ⟨#[]⟩).size) 9223372036854775807) then
                                          (bif (Nat.ble ((((((((((((((bif dateOk y mo da h mi s z then wday (dayNo y mo da) else ⟨#[]⟩) ++ (⟨#[44, 32]⟩ : ByteArray)) ++ (decW da.toNat (Nat.max (1 : Int).toNat (ndig da.toNat)) ⟨#[]⟩)) ++ (⟨#[32]⟩ : ByteArray)) ++ ((([(⟨#[74, 97, 110]⟩ : ByteArray), (⟨#[70, 101, 98]⟩ : ByteArray), (⟨#[77, 97, 114]⟩ : ByteArray), (⟨#[65, 112, 114]⟩ : ByteArray), (⟨#[77, 97, 121]⟩ : ByteArray), (⟨#[74, 117, 110]⟩ : ByteArray), (⟨#[74, 117, 108]⟩ : ByteArray), (⟨#[65, 117, 103]⟩ : ByteArray), (⟨#[83, 101, 112]⟩ : ByteArray), (⟨#[79, 99, 116]⟩ : ByteArray), (⟨#[78, 111, 118]⟩ : ByteArray), (⟨#[68, 101, 99]⟩ : ByteArray)] : List ByteArray)).getD (0 + ((IntKind.i64.wrap (mo - (1 : Int)))).toNat * 1) (⟨#[]⟩ : ByteArray))) ++ (⟨#[32]⟩ : ByteArray)) ++ (decW y.toNat (Nat.max (4 : Int).toNat (ndig y.toNat)) ⟨#[]⟩)) ++ (⟨#[32]⟩ : ByteArray)) ++ (decW h.toNat (Nat.max (2 : Int).toNat (ndig h.toNat)) ⟨#[]⟩)) ++ (⟨#[58]⟩ : ByteArray)) ++ (decW mi.toNat (Nat.max (2 : Int).toNat (ndig mi.toNat)) ⟨#[]⟩)) ++ (⟨#[58]⟩ : ByteArray)) ++ (decW s.toNat (Nat.max (2 : Int).toNat (ndig s.toNat)) ⟨#[]⟩)).size + (⟨#[32, 43]⟩ : ByteArray).size) 9223372036854775807) then
                                            (bif (decide (0 ≤ (IntKind.i64.wrap (z.tdiv (60 : Int)))) && decide ((IntKind.i64.wrap (z.tdiv (60 : Int))) < 10000) && decide (1 ≤ (2 : Int)) && decide ((2 : Int) ≤ 4)) then
                                              (bif (Nat.ble (((((((((((((((bif dateOk y mo da h mi s z then wday (dayNo y mo da) else ⟨#[]⟩) ++ (⟨#[44, 32]⟩ : ByteArray)) ++ (decW da.toNat (Nat.max (1 : Int).toNat (ndig da.toNat)) ⟨#[]⟩)) ++ (⟨#[32]⟩ : ByteArray)) ++ ((([(⟨#[74, 97, 110]⟩ : ByteArray), (⟨#[70, 101, 98]⟩ : ByteArray), (⟨#[77, 97, 114]⟩ : ByteArray), (⟨#[65, 112, 114]⟩ : ByteArray), (⟨#[77, 97, 121]⟩ : ByteArray), (⟨#[74, 117, 110]⟩ : ByteArray), (⟨#[74, 117, 108]⟩ : ByteArray), (⟨#[65, 117, 103]⟩ : ByteArray), (⟨#[83, 101, 112]⟩ : ByteArray), (⟨#[79, 99, 116]⟩ : ByteArray), (⟨#[78, 111, 118]⟩ : ByteArray), (⟨#[68, 101, 99]⟩ : ByteArray)] : List ByteArray)).getD (0 + ((IntKind.i64.wrap (mo - (1 : Int)))).toNat * 1) (⟨#[]⟩ : ByteArray))) ++ (⟨#[32]⟩ : ByteArray)) ++ (decW y.toNat (Nat.max (4 : Int).toNat (ndig y.toNat)) ⟨#[]⟩)) ++ (⟨#[32]⟩ : ByteArray)) ++ (decW h.toNat (Nat.max (2 : Int).toNat (ndig h.toNat)) ⟨#[]⟩)) ++ (⟨#[58]⟩ : ByteArray)) ++ (decW mi.toNat (Nat.max (2 : Int).toNat (ndig mi.toNat)) ⟨#[]⟩)) ++ (⟨#[58]⟩ : ByteArray)) ++ (decW s.toNat (Nat.max (2 : Int).toNat (ndig s.toNat)) ⟨#[]⟩)) ++ (⟨#[32, 43]⟩ : ByteArray)).size + (decW (IntKind.i64.wrap (z.tdiv (60 : Int))).toNat (Nat.max (2 : Int).toNat (ndig (IntKind.i64.wrap (z.tdiv (60 : Int))).toNat)) ⟨#[]⟩).size) 9223372036854775807) then
                                                (bif (decide (0 ≤ (z.tmod (60 : Int))) && decide ((z.tmod (60 : Int)) < 10000) && decide (1 ≤ (2 : Int)) && decide ((2 : Int) ≤ 4)) then
                                                  (bif (Nat.ble ((((((((((((((((bif dateOk y mo da h mi s z then wday (dayNo y mo da) else ⟨#[]⟩) ++ (⟨#[44, 32]⟩ : ByteArray)) ++ (decW da.toNat (Nat.max (1 : Int).toNat (ndig da.toNat)) ⟨#[]⟩)) ++ (⟨#[32]⟩ : ByteArray)) ++ ((([(⟨#[74, 97, 110]⟩ : ByteArray), (⟨#[70, 101, 98]⟩ : ByteArray), (⟨#[77, 97, 114]⟩ : ByteArray), (⟨#[65, 112, 114]⟩ : ByteArray), (⟨#[77, 97, 121]⟩ : ByteArray), (⟨#[74, 117, 110]⟩ : ByteArray), (⟨#[74, 117, 108]⟩ : ByteArray), (⟨#[65, 117, 103]⟩ : ByteArray), (⟨#[83, 101, 112]⟩ : ByteArray), (⟨#[79, 99, 116]⟩ : ByteArray), (⟨#[78, 111, 118]⟩ : ByteArray), (⟨#[68, 101, 99]⟩ : ByteArray)] : List ByteArray)).getD (0 + ((IntKind.i64.wrap (mo - (1 : Int)))).toNat * 1) (⟨#[]⟩ : ByteArray))) ++ (⟨#[32]⟩ : ByteArray)) ++ (decW y.toNat (Nat.max (4 : Int).toNat (ndig y.toNat)) ⟨#[]⟩)) ++ (⟨#[32]⟩ : ByteArray)) ++ (decW h.toNat (Nat.max (2 : Int).toNat (ndig h.toNat)) ⟨#[]⟩)) ++ (⟨#[58]⟩ : ByteArray)) ++ (decW mi.toNat (Nat.max (2 : Int).toNat (ndig mi.toNat)) ⟨#[]⟩)) ++ (⟨#[58]⟩ : ByteArray)) ++ (decW s.toNat (Nat.max (2 : Int).toNat (ndig s.toNat)) ⟨#[]⟩)) ++ (⟨#[32, 43]⟩ : ByteArray)) ++ (decW (IntKind.i64.wrap (z.tdiv (60 : Int))).toNat (Nat.max (2 : Int).toNat (ndig (IntKind.i64.wrap (z.tdiv (60 : Int))).toNat)) ⟨#[]⟩)).size + (decW (z.tmod (60 : Int)).toNat (Nat.max (2 : Int).toNat (ndig (z.tmod (60 : Int)).toNat)) ⟨#[]⟩).size) 9223372036854775807) then
                                                    some (.one (.one (.fc (.sc (.string ((((((((((((((((bif dateOk y mo da h mi s z then wday (dayNo y mo da) else ⟨#[]⟩) ++ (⟨#[44, 32]⟩ : ByteArray)) ++ (decW da.toNat (Nat.max (1 : Int).toNat (ndig da.toNat)) ⟨#[]⟩)) ++ (⟨#[32]⟩ : ByteArray)) ++ ((([(⟨#[74, 97, 110]⟩ : ByteArray), (⟨#[70, 101, 98]⟩ : ByteArray), (⟨#[77, 97, 114]⟩ : ByteArray), (⟨#[65, 112, 114]⟩ : ByteArray), (⟨#[77, 97, 121]⟩ : ByteArray), (⟨#[74, 117, 110]⟩ : ByteArray), (⟨#[74, 117, 108]⟩ : ByteArray), (⟨#[65, 117, 103]⟩ : ByteArray), (⟨#[83, 101, 112]⟩ : ByteArray), (⟨#[79, 99, 116]⟩ : ByteArray), (⟨#[78, 111, 118]⟩ : ByteArray), (⟨#[68, 101, 99]⟩ : ByteArray)] : List ByteArray)).getD (0 + ((IntKind.i64.wrap (mo - (1 : Int)))).toNat * 1) (⟨#[]⟩ : ByteArray))) ++ (⟨#[32]⟩ : ByteArray)) ++ (decW y.toNat (Nat.max (4 : Int).toNat (ndig y.toNat)) ⟨#[]⟩)) ++ (⟨#[32]⟩ : ByteArray)) ++ (decW h.toNat (Nat.max (2 : Int).toNat (ndig h.toNat)) ⟨#[]⟩)) ++ (⟨#[58]⟩ : ByteArray)) ++ (decW mi.toNat (Nat.max (2 : Int).toNat (ndig mi.toNat)) ⟨#[]⟩)) ++ (⟨#[58]⟩ : ByteArray)) ++ (decW s.toNat (Nat.max (2 : Int).toNat (ndig s.toNat)) ⟨#[]⟩)) ++ (⟨#[32, 43]⟩ : ByteArray)) ++ (decW (IntKind.i64.wrap (z.tdiv (60 : Int))).toNat (Nat.max (2 : Int).toNat (ndig (IntKind.i64.wrap (z.tdiv (60 : Int))).toNat)) ⟨#[]⟩)) ++ (decW (z.tmod (60 : Int)).toNat (Nat.max (2 : Int).toNat (ndig (z.tmod (60 : Int)).toNat)) ⟨#[]⟩)))))))
                                                    else none)
                                                  else none)
                                                else none)
                                              else none)
                                            else none)
                                          else none)
                                        else none)
                                      else none)
                                    else none)
                                  else none)
                                else none)
                              else none)
                            else none)
                          else none)
                        else none)
                      else none)
                    else none)
                  else none)
                else none)
              else none)
            else none)
          else none)
        else none)
      else none)))
noncomputable def m45 : List AV → CT
  | [.agg [.sc (.int .i64 y), .sc (.int .i64 mo), .sc (.int .i64 da), .sc (.int .i64 h), .sc (.int .i64 mi), .sc (.int .i64 s), .sc (.int .i64 z)]] => (.ret (.one (.one (.fc (.sc (.string (bif dateOk y mo da h mi s z then fmtD y mo da h mi s z else ⟨#[]⟩)))))))
  | _ => .no
/-! 45: spec.FormatDate -/
def T45 (N : Nat) (y : Int) (mo : Int) (da : Int) (h : Int) (mi : Int) (s : Int) (z : Int) : Option RV :=
  (bif (!(dateOk y mo da h mi s z)) then
  some (.one (.one (.fc (.sc (.string (⟨#[]⟩ : ByteArray))))))
  else
  (bif (decide (z < (0 : Int))) then
    (bif (Nat.ble ((bif dateOk y mo da h mi s z then wday (dayNo y mo da) else ⟨#[]⟩).size + (⟨#[44, 32]⟩ : ByteArray).size) 9223372036854775807) then
      (bif (decide (0 ≤ da) && decide (da < 10000)) then
        (bif (Nat.ble (((bif dateOk y mo da h mi s z then wday (dayNo y mo da) else ⟨#[]⟩) ++ (⟨#[44, 32]⟩ : ByteArray)).size + (decW da.toNat (ndig da.toNat) ⟨#[]⟩).size) 9223372036854775807) then
          (bif (Nat.ble ((((bif dateOk y mo da h mi s z then wday (dayNo y mo da) else ⟨#[]⟩) ++ (⟨#[44, 32]⟩ : ByteArray)) ++ (decW da.toNat (ndig da.toNat) ⟨#[]⟩)).size + (⟨#[32]⟩ : ByteArray).size) 9223372036854775807) then
            (bif (inb (IntKind.i64.wrap (mo - (1 : Int))) ((months)).length) then
              (bif (Nat.ble (((((bif dateOk y mo da h mi s z then wday (dayNo y mo da) else ⟨#[]⟩) ++ (⟨#[44, 32]⟩ : ByteArray)) ++ (decW da.toNat (ndig da.toNat) ⟨#[]⟩)) ++ (⟨#[32]⟩ : ByteArray)).size + (((months)).getD ((IntKind.i64.wrap (mo - (1 : Int)))).toNat (⟨#[]⟩ : ByteArray)).size) 9223372036854775807) then
                (bif (Nat.ble ((((((bif dateOk y mo da h mi s z then wday (dayNo y mo da) else ⟨#[]⟩) ++ (⟨#[44, 32]⟩ : ByteArray)) ++ (decW da.toNat (ndig da.toNat) ⟨#[]⟩)) ++ (⟨#[32]⟩ : ByteArray)) ++ (((months)).getD ((IntKind.i64.wrap (mo - (1 : Int)))).toNat (⟨#[]⟩ : ByteArray))).size + (⟨#[32]⟩ : ByteArray).size) 9223372036854775807) then
                  (bif (decide (0 ≤ y) && decide (y < 10000)) then
                    (bif (Nat.ble (((((((bif dateOk y mo da h mi s z then wday (dayNo y mo da) else ⟨#[]⟩) ++ (⟨#[44, 32]⟩ : ByteArray)) ++ (decW da.toNat (ndig da.toNat) ⟨#[]⟩)) ++ (⟨#[32]⟩ : ByteArray)) ++ (((months)).getD ((IntKind.i64.wrap (mo - (1 : Int)))).toNat (⟨#[]⟩ : ByteArray))) ++ (⟨#[32]⟩ : ByteArray)).size + (decW y.toNat (ndig y.toNat) ⟨#[]⟩).size) 9223372036854775807) then
                      (bif (Nat.ble ((((((((bif dateOk y mo da h mi s z then wday (dayNo y mo da) else ⟨#[]⟩) ++ (⟨#[44, 32]⟩ : ByteArray)) ++ (decW da.toNat (ndig da.toNat) ⟨#[]⟩)) ++ (⟨#[32]⟩ : ByteArray)) ++ (((months)).getD ((IntKind.i64.wrap (mo - (1 : Int)))).toNat (⟨#[]⟩ : ByteArray))) ++ (⟨#[32]⟩ : ByteArray)) ++ (decW y.toNat (ndig y.toNat) ⟨#[]⟩)).size + (⟨#[32]⟩ : ByteArray).size) 9223372036854775807) then
                        (bif (decide (0 ≤ h) && decide (h < 100)) then
                          (bif (Nat.ble (((((((((bif dateOk y mo da h mi s z then wday (dayNo y mo da) else ⟨#[]⟩) ++ (⟨#[44, 32]⟩ : ByteArray)) ++ (decW da.toNat (ndig da.toNat) ⟨#[]⟩)) ++ (⟨#[32]⟩ : ByteArray)) ++ (((months)).getD ((IntKind.i64.wrap (mo - (1 : Int)))).toNat (⟨#[]⟩ : ByteArray))) ++ (⟨#[32]⟩ : ByteArray)) ++ (decW y.toNat (ndig y.toNat) ⟨#[]⟩)) ++ (⟨#[32]⟩ : ByteArray)).size + (decW h.toNat 2 ⟨#[]⟩).size) 9223372036854775807) then
                            (bif (Nat.ble ((((((((((bif dateOk y mo da h mi s z then wday (dayNo y mo da) else ⟨#[]⟩) ++ (⟨#[44, 32]⟩ : ByteArray)) ++ (decW da.toNat (ndig da.toNat) ⟨#[]⟩)) ++ (⟨#[32]⟩ : ByteArray)) ++ (((months)).getD ((IntKind.i64.wrap (mo - (1 : Int)))).toNat (⟨#[]⟩ : ByteArray))) ++ (⟨#[32]⟩ : ByteArray)) ++ (decW y.toNat (ndig y.toNat) ⟨#[]⟩)) ++ (⟨#[32]⟩ : ByteArray)) ++ (decW h.toNat 2 ⟨#[]⟩)).size + (⟨#[58]⟩ : ByteArray).size) 9223372036854775807) then
                              (bif (decide (0 ≤ mi) && decide (mi < 100)) then
                                (bif (Nat.ble (((((((((((bif dateOk y mo da h mi s z then wday (dayNo y mo da) else ⟨#[]⟩) ++ (⟨#[44, 32]⟩ : ByteArray)) ++ (decW da.toNat (ndig da.toNat) ⟨#[]⟩)) ++ (⟨#[32]⟩ : ByteArray)) ++ (((months)).getD ((IntKind.i64.wrap (mo - (1 : Int)))).toNat (⟨#[]⟩ : ByteArray))) ++ (⟨#[32]⟩ : ByteArray)) ++ (decW y.toNat (ndig y.toNat) ⟨#[]⟩)) ++ (⟨#[32]⟩ : ByteArray)) ++ (decW h.toNat 2 ⟨#[]⟩)) ++ (⟨#[58]⟩ : ByteArray)).size + (decW mi.toNat 2 ⟨#[]⟩).size) 9223372036854775807) then
                                  (bif (Nat.ble ((((((((((((bif dateOk y mo da h mi s z then wday (dayNo y mo da) else ⟨#[]⟩) ++ (⟨#[44, 32]⟩ : ByteArray)) ++ (decW da.toNat (ndig da.toNat) ⟨#[]⟩)) ++ (⟨#[32]⟩ : ByteArray)) ++ (((months)).getD ((IntKind.i64.wrap (mo - (1 : Int)))).toNat (⟨#[]⟩ : ByteArray))) ++ (⟨#[32]⟩ : ByteArray)) ++ (decW y.toNat (ndig y.toNat) ⟨#[]⟩)) ++ (⟨#[32]⟩ : ByteArray)) ++ (decW h.toNat 2 ⟨#[]⟩)) ++ (⟨#[58]⟩ : ByteArray)) ++ (decW mi.toNat 2 ⟨#[]⟩)).size + (⟨#[58]⟩ : ByteArray).size) 9223372036854775807) then
                                    (bif (decide (0 ≤ s) && decide (s < 100)) then
                                      (bif (Nat.ble (((((((((((((bif dateOk y mo da h mi s z then wday (dayNo y mo da) else ⟨#[]⟩) ++ (⟨#[44, 32]⟩ : ByteArray)) ++ (decW da.toNat (ndig da.toNat) ⟨#[]⟩)) ++ (⟨#[32]⟩ : ByteArray)) ++ (((months)).getD ((IntKind.i64.wrap (mo - (1 : Int)))).toNat (⟨#[]⟩ : ByteArray))) ++ (⟨#[32]⟩ : ByteArray)) ++ (decW y.toNat (ndig y.toNat) ⟨#[]⟩)) ++ (⟨#[32]⟩ : ByteArray)) ++ (decW h.toNat 2 ⟨#[]⟩)) ++ (⟨#[58]⟩ : ByteArray)) ++ (decW mi.toNat 2 ⟨#[]⟩)) ++ (⟨#[58]⟩ : ByteArray)).size + (decW s.toNat 2 ⟨#[]⟩).size) 9223372036854775807) then
                                        (bif (Nat.ble ((((((((((((((bif dateOk y mo da h mi s z then wday (dayNo y mo da) else ⟨#[]⟩) ++ (⟨#[44, 32]⟩ : ByteArray)) ++ (decW da.toNat (ndig da.toNat) ⟨#[]⟩)) ++ (⟨#[32]⟩ : ByteArray)) ++ (((months)).getD ((IntKind.i64.wrap (mo - (1 : Int)))).toNat (⟨#[]⟩ : ByteArray))) ++ (⟨#[32]⟩ : ByteArray)) ++ (decW y.toNat (ndig y.toNat) ⟨#[]⟩)) ++ (⟨#[32]⟩ : ByteArray)) ++ (decW h.toNat 2 ⟨#[]⟩)) ++ (⟨#[58]⟩ : ByteArray)) ++ (decW mi.toNat 2 ⟨#[]⟩)) ++ (⟨#[58]⟩ : ByteArray)) ++ (decW s.toNat 2 ⟨#[]⟩)).size + (⟨#[32]⟩ : ByteArray).size) 9223372036854775807) then
                                          (bif (Nat.ble (((((((((((((((bif dateOk y mo da h mi s z then wday (dayNo y mo da) else ⟨#[]⟩) ++ (⟨#[44, 32]⟩ : ByteArray)) ++ (decW da.toNat (ndig da.toNat) ⟨#[]⟩)) ++ (⟨#[32]⟩ : ByteArray)) ++ (((months)).getD ((IntKind.i64.wrap (mo - (1 : Int)))).toNat (⟨#[]⟩ : ByteArray))) ++ (⟨#[32]⟩ : ByteArray)) ++ (decW y.toNat (ndig y.toNat) ⟨#[]⟩)) ++ (⟨#[32]⟩ : ByteArray)) ++ (decW h.toNat 2 ⟨#[]⟩)) ++ (⟨#[58]⟩ : ByteArray)) ++ (decW mi.toNat 2 ⟨#[]⟩)) ++ (⟨#[58]⟩ : ByteArray)) ++ (decW s.toNat 2 ⟨#[]⟩)) ++ (⟨#[32]⟩ : ByteArray)).size + (⟨#[45]⟩ : ByteArray).size) 9223372036854775807) then
                                            (bif (decide (0 ≤ (IntKind.i64.wrap ((IntKind.i64.wrap (0 - z)).tdiv (60 : Int)))) && decide ((IntKind.i64.wrap ((IntKind.i64.wrap (0 - z)).tdiv (60 : Int))) < 100)) then
                                              (bif (Nat.ble ((((((((((((((((bif dateOk y mo da h mi s z then wday (dayNo y mo da) else ⟨#[]⟩) ++ (⟨#[44, 32]⟩ : ByteArray)) ++ (decW da.toNat (ndig da.toNat) ⟨#[]⟩)) ++ (⟨#[32]⟩ : ByteArray)) ++ (((months)).getD ((IntKind.i64.wrap (mo - (1 : Int)))).toNat (⟨#[]⟩ : ByteArray))) ++ (⟨#[32]⟩ : ByteArray)) ++ (decW y.toNat (ndig y.toNat) ⟨#[]⟩)) ++ (⟨#[32]⟩ : ByteArray)) ++ (decW h.toNat 2 ⟨#[]⟩)) ++ (⟨#[58]⟩ : ByteArray)) ++ (decW mi.toNat 2 ⟨#[]⟩)) ++ (⟨#[58]⟩ : ByteArray)) ++ (decW s.toNat 2 ⟨#[]⟩)) ++ (⟨#[32]⟩ : ByteArray)) ++ (⟨#[45]⟩ : ByteArray)).size + (decW (IntKind.i64.wrap ((IntKind.i64.wrap (0 - z)).tdiv (60 : Int))).toNat 2 ⟨#[]⟩).size) 9223372036854775807) then
                                                (bif (decide (0 ≤ ((IntKind.i64.wrap (0 - z)).tmod (60 : Int))) && decide (((IntKind.i64.wrap (0 - z)).tmod (60 : Int)) < 100)) then
                                                  (bif (Nat.ble (((((((((((((((((bif dateOk y mo da h mi s z then wday (dayNo y mo da) else ⟨#[]⟩) ++ (⟨#[44, 32]⟩ : ByteArray)) ++ (decW da.toNat (ndig da.toNat) ⟨#[]⟩)) ++ (⟨#[32]⟩ : ByteArray)) ++ (((months)).getD ((IntKind.i64.wrap (mo - (1 : Int)))).toNat (⟨#[]⟩ : ByteArray))) ++ (⟨#[32]⟩ : ByteArray)) ++ (decW y.toNat (ndig y.toNat) ⟨#[]⟩)) ++ (⟨#[32]⟩ : ByteArray)) ++ (decW h.toNat 2 ⟨#[]⟩)) ++ (⟨#[58]⟩ : ByteArray)) ++ (decW mi.toNat 2 ⟨#[]⟩)) ++ (⟨#[58]⟩ : ByteArray)) ++ (decW s.toNat 2 ⟨#[]⟩)) ++ (⟨#[32]⟩ : ByteArray)) ++ (⟨#[45]⟩ : ByteArray)) ++ (decW (IntKind.i64.wrap ((IntKind.i64.wrap (0 - z)).tdiv (60 : Int))).toNat 2 ⟨#[]⟩)).size + (decW ((IntKind.i64.wrap (0 - z)).tmod (60 : Int)).toNat 2 ⟨#[]⟩).size) 9223372036854775807) then
                                                    some (.one (.one (.fc (.sc (.string (((((((((((((((((bif dateOk y mo da h mi s z then wday (dayNo y mo da) else ⟨#[]⟩) ++ (⟨#[44, 32]⟩ : ByteArray)) ++ (decW da.toNat (ndig da.toNat) ⟨#[]⟩)) ++ (⟨#[32]⟩ : ByteArray)) ++ (((months)).getD ((IntKind.i64.wrap (mo - (1 : Int)))).toNat (⟨#[]⟩ : ByteArray))) ++ (⟨#[32]⟩ : ByteArray)) ++ (decW y.toNat (ndig y.toNat) ⟨#[]⟩)) ++ (⟨#[32]⟩ : ByteArray)) ++ (decW h.toNat 2 ⟨#[]⟩)) ++ (⟨#[58]⟩ : ByteArray)) ++ (decW mi.toNat 2 ⟨#[]⟩)) ++ (⟨#[58]⟩ : ByteArray)) ++ (decW s.toNat 2 ⟨#[]⟩)) ++ (⟨#[32]⟩ : ByteArray)) ++ (⟨#[45]⟩ : ByteArray)) ++ (decW (IntKind.i64.wrap ((IntKind.i64.wrap (0 - z)).tdiv (60 : Int))).toNat 2 ⟨#[]⟩)) ++ (decW ((IntKind.i64.wrap (0 - z)).tmod (60 : Int)).toNat 2 ⟨#[]⟩)))))))
                                                    else none)
                                                  else none)
                                                else none)
                                              else none)
                                            else none)
                                          else none)
                                        else none)
                                      else none)
                                    else none)
                                  else none)
                                else none)
                              else none)
                            else none)
                          else none)
                        else none)
                      else none)
                    else none)
                  else none)
                else none)
              else none)
            else none)
          else none)
        else none)
      else none)
    else
    (bif (Nat.ble ((bif dateOk y mo da h mi s z then wday (dayNo y mo da) else ⟨#[]⟩).size + (⟨#[44, 32]⟩ : ByteArray).size) 9223372036854775807) then
      (bif (decide (0 ≤ da) && decide (da < 10000)) then
        (bif (Nat.ble (((bif dateOk y mo da h mi s z then wday (dayNo y mo da) else ⟨#[]⟩) ++ (⟨#[44, 32]⟩ : ByteArray)).size + (decW da.toNat (ndig da.toNat) ⟨#[]⟩).size) 9223372036854775807) then
          (bif (Nat.ble ((((bif dateOk y mo da h mi s z then wday (dayNo y mo da) else ⟨#[]⟩) ++ (⟨#[44, 32]⟩ : ByteArray)) ++ (decW da.toNat (ndig da.toNat) ⟨#[]⟩)).size + (⟨#[32]⟩ : ByteArray).size) 9223372036854775807) then
            (bif (inb (IntKind.i64.wrap (mo - (1 : Int))) ((months)).length) then
              (bif (Nat.ble (((((bif dateOk y mo da h mi s z then wday (dayNo y mo da) else ⟨#[]⟩) ++ (⟨#[44, 32]⟩ : ByteArray)) ++ (decW da.toNat (ndig da.toNat) ⟨#[]⟩)) ++ (⟨#[32]⟩ : ByteArray)).size + (((months)).getD ((IntKind.i64.wrap (mo - (1 : Int)))).toNat (⟨#[]⟩ : ByteArray)).size) 9223372036854775807) then
                (bif (Nat.ble ((((((bif dateOk y mo da h mi s z then wday (dayNo y mo da) else ⟨#[]⟩) ++ (⟨#[44, 32]⟩ : ByteArray)) ++ (decW da.toNat (ndig da.toNat) ⟨#[]⟩)) ++ (⟨#[32]⟩ : ByteArray)) ++ (((months)).getD ((IntKind.i64.wrap (mo - (1 : Int)))).toNat (⟨#[]⟩ : ByteArray))).size + (⟨#[32]⟩ : ByteArray).size) 9223372036854775807) then
                  (bif (decide (0 ≤ y) && decide (y < 10000)) then
                    (bif (Nat.ble (((((((bif dateOk y mo da h mi s z then wday (dayNo y mo da) else ⟨#[]⟩) ++ (⟨#[44, 32]⟩ : ByteArray)) ++ (decW da.toNat (ndig da.toNat) ⟨#[]⟩)) ++ (⟨#[32]⟩ : ByteArray)) ++ (((months)).getD ((IntKind.i64.wrap (mo - (1 : Int)))).toNat (⟨#[]⟩ : ByteArray))) ++ (⟨#[32]⟩ : ByteArray)).size + (decW y.toNat (ndig y.toNat) ⟨#[]⟩).size) 9223372036854775807) then
                      (bif (Nat.ble ((((((((bif dateOk y mo da h mi s z then wday (dayNo y mo da) else ⟨#[]⟩) ++ (⟨#[44, 32]⟩ : ByteArray)) ++ (decW da.toNat (ndig da.toNat) ⟨#[]⟩)) ++ (⟨#[32]⟩ : ByteArray)) ++ (((months)).getD ((IntKind.i64.wrap (mo - (1 : Int)))).toNat (⟨#[]⟩ : ByteArray))) ++ (⟨#[32]⟩ : ByteArray)) ++ (decW y.toNat (ndig y.toNat) ⟨#[]⟩)).size + (⟨#[32]⟩ : ByteArray).size) 9223372036854775807) then
                        (bif (decide (0 ≤ h) && decide (h < 100)) then
                          (bif (Nat.ble (((((((((bif dateOk y mo da h mi s z then wday (dayNo y mo da) else ⟨#[]⟩) ++ (⟨#[44, 32]⟩ : ByteArray)) ++ (decW da.toNat (ndig da.toNat) ⟨#[]⟩)) ++ (⟨#[32]⟩ : ByteArray)) ++ (((months)).getD ((IntKind.i64.wrap (mo - (1 : Int)))).toNat (⟨#[]⟩ : ByteArray))) ++ (⟨#[32]⟩ : ByteArray)) ++ (decW y.toNat (ndig y.toNat) ⟨#[]⟩)) ++ (⟨#[32]⟩ : ByteArray)).size + (decW h.toNat 2 ⟨#[]⟩).size) 9223372036854775807) then
                            (bif (Nat.ble ((((((((((bif dateOk y mo da h mi s z then wday (dayNo y mo da) else ⟨#[]⟩) ++ (⟨#[44, 32]⟩ : ByteArray)) ++ (decW da.toNat (ndig da.toNat) ⟨#[]⟩)) ++ (⟨#[32]⟩ : ByteArray)) ++ (((months)).getD ((IntKind.i64.wrap (mo - (1 : Int)))).toNat (⟨#[]⟩ : ByteArray))) ++ (⟨#[32]⟩ : ByteArray)) ++ (decW y.toNat (ndig y.toNat) ⟨#[]⟩)) ++ (⟨#[32]⟩ : ByteArray)) ++ (decW h.toNat 2 ⟨#[]⟩)).size + (⟨#[58]⟩ : ByteArray).size) 9223372036854775807) then
                              (bif (decide (0 ≤ mi) && decide (mi < 100)) then
                                (bif (Nat.ble (((((((((((bif dateOk y mo da h mi s z then wday (dayNo y mo da) else ⟨#[]⟩) ++ (⟨#[44, 32]⟩ : ByteArray)) ++ (decW da.toNat (ndig da.toNat) ⟨#[]⟩)) ++ (⟨#[32]⟩ : ByteArray)) ++ (((months)).getD ((IntKind.i64.wrap (mo - (1 : Int)))).toNat (⟨#[]⟩ : ByteArray))) ++ (⟨#[32]⟩ : ByteArray)) ++ (decW y.toNat (ndig y.toNat) ⟨#[]⟩)) ++ (⟨#[32]⟩ : ByteArray)) ++ (decW h.toNat 2 ⟨#[]⟩)) ++ (⟨#[58]⟩ : ByteArray)).size + (decW mi.toNat 2 ⟨#[]⟩).size) 9223372036854775807) then
                                  (bif (Nat.ble ((((((((((((bif dateOk y mo da h mi s z then wday (dayNo y mo da) else ⟨#[]⟩) ++ (⟨#[44, 32]⟩ : ByteArray)) ++ (decW da.toNat (ndig da.toNat) ⟨#[]⟩)) ++ (⟨#[32]⟩ : ByteArray)) ++ (((months)).getD ((IntKind.i64.wrap (mo - (1 : Int)))).toNat (⟨#[]⟩ : ByteArray))) ++ (⟨#[32]⟩ : ByteArray)) ++ (decW y.toNat (ndig y.toNat) ⟨#[]⟩)) ++ (⟨#[32]⟩ : ByteArray)) ++ (decW h.toNat 2 ⟨#[]⟩)) ++ (⟨#[58]⟩ : ByteArray)) ++ (decW mi.toNat 2 ⟨#[]⟩)).size + (⟨#[58]⟩ : ByteArray).size) 9223372036854775807) then
                                    (bif (decide (0 ≤ s) && decide (s < 100)) then
                                      (bif (Nat.ble (((((((((((((bif dateOk y mo da h mi s z then wday (dayNo y mo da) else ⟨#[]⟩) ++ (⟨#[44, 32]⟩ : ByteArray)) ++ (decW da.toNat (ndig da.toNat) ⟨#[]⟩)) ++ (⟨#[32]⟩ : ByteArray)) ++ (((months)).getD ((IntKind.i64.wrap (mo - (1 : Int)))).toNat (⟨#[]⟩ : ByteArray))) ++ (⟨#[32]⟩ : ByteArray)) ++ (decW y.toNat (ndig y.toNat) ⟨#[]⟩)) ++ (⟨#[32]⟩ : ByteArray)) ++ (decW h.toNat 2 ⟨#[]⟩)) ++ (⟨#[58]⟩ : ByteArray)) ++ (decW mi.toNat 2 ⟨#[]⟩)) ++ (⟨#[58]⟩ : ByteArray)).size + (decW s.toNat 2 ⟨#[]⟩).size) 9223372036854775807) then
                                        (bif (Nat.ble ((((((((((((((bif dateOk y mo da h mi s z then wday (dayNo y mo da) else ⟨#[]⟩) ++ (⟨#[44, 32]⟩ : ByteArray)) ++ (decW da.toNat (ndig da.toNat) ⟨#[]⟩)) ++ (⟨#[32]⟩ : ByteArray)) ++ (((months)).getD ((IntKind.i64.wrap (mo - (1 : Int)))).toNat (⟨#[]⟩ : ByteArray))) ++ (⟨#[32]⟩ : ByteArray)) ++ (decW y.toNat (ndig y.toNat) ⟨#[]⟩)) ++ (⟨#[32]⟩ : ByteArray)) ++ (decW h.toNat 2 ⟨#[]⟩)) ++ (⟨#[58]⟩ : ByteArray)) ++ (decW mi.toNat 2 ⟨#[]⟩)) ++ (⟨#[58]⟩ : ByteArray)) ++ (decW s.toNat 2 ⟨#[]⟩)).size + (⟨#[32]⟩ : ByteArray).size) 9223372036854775807) then
                                          (bif (Nat.ble (((((((((((((((bif dateOk y mo da h mi s z then wday (dayNo y mo da) else ⟨#[]⟩) ++ (⟨#[44, 32]⟩ : ByteArray)) ++ (decW da.toNat (ndig da.toNat) ⟨#[]⟩)) ++ (⟨#[32]⟩ : ByteArray)) ++ (((months)).getD ((IntKind.i64.wrap (mo - (1 : Int)))).toNat (⟨#[]⟩ : ByteArray))) ++ (⟨#[32]⟩ : ByteArray)) ++ (decW y.toNat (ndig y.toNat) ⟨#[]⟩)) ++ (⟨#[32]⟩ : ByteArray)) ++ (decW h.toNat 2 ⟨#[]⟩)) ++ (⟨#[58]⟩ : ByteArray)) ++ (decW mi.toNat 2 ⟨#[]⟩)) ++ (⟨#[58]⟩ : ByteArray)) ++ (decW s.toNat 2 ⟨#[]⟩)) ++ (⟨#[32]⟩ : ByteArray)).size + (⟨#[43]⟩ : ByteArray).size) 9223372036854775807) then
                                            (bif (decide (0 ≤ (IntKind.i64.wrap (z.tdiv (60 : Int)))) && decide ((IntKind.i64.wrap (z.tdiv (60 : Int))) < 100)) then
                                              (bif (Nat.ble ((((((((((((((((bif dateOk y mo da h mi s z then wday (dayNo y mo da) else ⟨#[]⟩) ++ (⟨#[44, 32]⟩ : ByteArray)) ++ (decW da.toNat (ndig da.toNat) ⟨#[]⟩)) ++ (⟨#[32]⟩ : ByteArray)) ++ (((months)).getD ((IntKind.i64.wrap (mo - (1 : Int)))).toNat (⟨#[]⟩ : ByteArray))) ++ (⟨#[32]⟩ : ByteArray)) ++ (decW y.toNat (ndig y.toNat) ⟨#[]⟩)) ++ (⟨#[32]⟩ : ByteArray)) ++ (decW h.toNat 2 ⟨#[]⟩)) ++ (⟨#[58]⟩ : ByteArray)) ++ (decW mi.toNat 2 ⟨#[]⟩)) ++ (⟨#[58]⟩ : ByteArray)) ++ (decW s.toNat 2 ⟨#[]⟩)) ++ (⟨#[32]⟩ : ByteArray)) ++ (⟨#[43]⟩ : ByteArray)).size + (decW (IntKind.i64.wrap (z.tdiv (60 : Int))).toNat 2 ⟨#[]⟩).size) 9223372036854775807) then
                                                (bif (decide (0 ≤ (z.tmod (60 : Int))) && decide ((z.tmod (60 : Int)) < 100)) then
                                                  (bif (Nat.ble (((((((((((((((((bif dateOk y mo da h mi s z then wday (dayNo y mo da) else ⟨#[]⟩) ++ (⟨#[44, 32]⟩ : ByteArray)) ++ (decW da.toNat (ndig da.toNat) ⟨#[]⟩)) ++ (⟨#[32]⟩ : ByteArray)) ++ (((months)).getD ((IntKind.i64.wrap (mo - (1 : Int)))).toNat (⟨#[]⟩ : ByteArray))) ++ (⟨#[32]⟩ : ByteArray)) ++ (decW y.toNat (ndig y.toNat) ⟨#[]⟩)) ++ (⟨#[32]⟩ : ByteArray)) ++ (decW h.toNat 2 ⟨#[]⟩)) ++ (⟨#[58]⟩ : ByteArray)) ++ (decW mi.toNat 2 ⟨#[]⟩)) ++ (⟨#[58]⟩ : ByteArray)) ++ (decW s.toNat 2 ⟨#[]⟩)) ++ (⟨#[32]⟩ : ByteArray)) ++ (⟨#[43]⟩ : ByteArray)) ++ (decW (IntKind.i64.wrap (z.tdiv (60 : Int))).toNat 2 ⟨#[]⟩)).size + (decW (z.tmod (60 : Int)).toNat 2 ⟨#[]⟩).size) 9223372036854775807) then
                                                    some (.one (.one (.fc (.sc (.string (((((((((((((((((bif dateOk y mo da h mi s z then wday (dayNo y mo da) else ⟨#[]⟩) ++ (⟨#[44, 32]⟩ : ByteArray)) ++ (decW da.toNat (ndig da.toNat) ⟨#[]⟩)) ++ (⟨#[32]⟩ : ByteArray)) ++ (((months)).getD ((IntKind.i64.wrap (mo - (1 : Int)))).toNat (⟨#[]⟩ : ByteArray))) ++ (⟨#[32]⟩ : ByteArray)) ++ (decW y.toNat (ndig y.toNat) ⟨#[]⟩)) ++ (⟨#[32]⟩ : ByteArray)) ++ (decW h.toNat 2 ⟨#[]⟩)) ++ (⟨#[58]⟩ : ByteArray)) ++ (decW mi.toNat 2 ⟨#[]⟩)) ++ (⟨#[58]⟩ : ByteArray)) ++ (decW s.toNat 2 ⟨#[]⟩)) ++ (⟨#[32]⟩ : ByteArray)) ++ (⟨#[43]⟩ : ByteArray)) ++ (decW (IntKind.i64.wrap (z.tdiv (60 : Int))).toNat 2 ⟨#[]⟩)) ++ (decW (z.tmod (60 : Int)).toNat 2 ⟨#[]⟩)))))))
                                                    else none)
                                                  else none)
                                                else none)
                                              else none)
                                            else none)
                                          else none)
                                        else none)
                                      else none)
                                    else none)
                                  else none)
                                else none)
                              else none)
                            else none)
                          else none)
                        else none)
                      else none)
                    else none)
                  else none)
                else none)
              else none)
            else none)
          else none)
        else none)
      else none)))
end Go.Iv

/- Plain laws of the functions on dates. -/
namespace Go.Iv
set_option maxRecDepth 4000
theorem pl186 : ∀ (n : Int) (a : Int) (b : Int) res, (m186 [.one (.sc (.int .i64 n)), .one (.sc (.int .i64 a)), .one (.sc (.int .i64 b))]).val = some res → ∃ N, T186 N n a b = some res := by
  intro n a b res h
  cases h
  refine ⟨0, ?_⟩
  unfold T186
  cases hc : decide (a ≤ n) with
  | true => rfl
  | false => rfl
theorem pl188 : ∀ (z : Int) res, (m188 [.one (.sc (.int .i64 z))]).val = some res → ∃ N, T188 N z = some res := by
  intro z res h
  cases h
  exact ⟨0, rfl⟩
theorem pl261 : ∀ (z : Int) res, (m261 [.one (.sc (.int .i64 z))]).val = some res → ∃ N, T261 N z = some res := by
  intro z res h
  cases h
  refine ⟨0, ?_⟩
  unfold T261
  cases hc : decide (-720 ≤ z) with
  | true => rfl
  | false => rfl
theorem pl277 : ∀ (y : Int) res, (m277 [.one (.sc (.int .i64 y))]).val = some res → ∃ N, T277 N y = some res := by
  intro y res h
  cases h
  refine ⟨0, ?_⟩
  unfold T277 leap
  cases (y.tmod 4 == 0) <;> cases (y.tmod 100 != 0) <;> cases (y.tmod 400 == 0) <;> rfl
theorem daysOf_out {y m : Int} (h : y < 1970 ∨ 2099 < y ∨ m < 1 ∨ 12 < m) : daysOf y m = 0 := by
  unfold daysOf
  have : (decide (1970 ≤ y) && (decide (y ≤ 2099) && (decide (1 ≤ m) && decide (m ≤ 12)))) = false := by
    rw [Bool.eq_false_iff]; simp only [ne_eq, Bool.and_eq_true, decide_eq_true_eq]; omega
  rw [this]; rfl
theorem pl187 : ∀ (y : Int) (m : Int) res, (m187 [.one (.sc (.int .i64 y)), .one (.sc (.int .i64 m))]).val = some res → ∃ N, T187 N y m = some res := by
  intro y m res h
  cases h
  refine ⟨0, ?_⟩
  unfold T187
  by_cases h1 : y < 1970
  · rw [decide_eq_true h1, daysOf_out (Or.inl h1)]; rfl
  by_cases h2 : y > 2099
  · rw [decide_eq_false h1, decide_eq_true h2, daysOf_out (Or.inr (Or.inl h2))]; rfl
  rw [decide_eq_false h1, decide_eq_false h2, cond_false, cond_false]
  by_cases h3 : m < 1 ∨ 12 < m
  · rw [daysOf_out (by omega), beq_f (a := m) (b := 1) (by omega), beq_f (a := m) (b := 3) (by omega), beq_f (a := m) (b := 5) (by omega), beq_f (a := m) (b := 7) (by omega), beq_f (a := m) (b := 8) (by omega), beq_f (a := m) (b := 10) (by omega), beq_f (a := m) (b := 12) (by omega), beq_f (a := m) (b := 4) (by omega), beq_f (a := m) (b := 6) (by omega), beq_f (a := m) (b := 9) (by omega), beq_f (a := m) (b := 11) (by omega), beq_f (a := m) (b := 2) (by omega)]; rfl
  · have h : m = 1 ∨ m = 2 ∨ m = 3 ∨ m = 4 ∨ m = 5 ∨ m = 6 ∨ m = 7 ∨ m = 8 ∨ m = 9 ∨ m = 10 ∨ m = 11 ∨ m = 12 := by omega
    rw [daysOf_in (by omega) (by omega) (by omega) (by omega)]
    unfold leap
    rcases h with rfl | rfl | rfl | rfl | rfl | rfl | rfl | rfl | rfl | rfl | rfl | rfl
    case inr.inl =>
      have h5 : (y.tmod 4 == 0) = false → (y.tmod 400 == 0) = false := by
        intro h5
        rw [Int.tmod_eq_emod_of_nonneg (by omega)] at *
        have := (beq_eq_false_iff_ne (a := y % 4) (b := 0)).1 h5
        exact beq_f (by omega)
      cases h6 : (y.tmod 4 == 0) with
      | false => rw [h5 h6]; cases (y.tmod 100 != 0) <;> rfl
      | true => cases (y.tmod 100 != 0) <;> cases (y.tmod 400 == 0) <;> rfl
    all_goals rfl
theorem pl262 : ∀ (y : Int) (m : Int) res, (m262 [.one (.sc (.int .i64 y)), .one (.sc (.int .i64 m))]).val = some res → ∃ N, T262 N y m = some res := by
  intro y m res h
  cases h
  refine ⟨0, ?_⟩
  unfold T262
  by_cases h1 : y < 1970
  · rw [decide_eq_true h1, daysOf_out (Or.inl h1)]; rfl
  by_cases h2 : y > 2099
  · rw [decide_eq_false h1, decide_eq_true h2, daysOf_out (Or.inr (Or.inl h2))]; rfl
  by_cases h3 : m < 1
  · rw [decide_eq_false h1, decide_eq_false h2, decide_eq_true h3, daysOf_out (by omega)]; rfl
  by_cases h4 : m > 12
  · rw [decide_eq_false h1, decide_eq_false h2, decide_eq_false h3, decide_eq_true h4, daysOf_out (by omega)]; rfl
  rw [decide_eq_false h1, decide_eq_false h2, decide_eq_false h3, decide_eq_false h4]
  have h : m = 1 ∨ m = 2 ∨ m = 3 ∨ m = 4 ∨ m = 5 ∨ m = 6 ∨ m = 7 ∨ m = 8 ∨ m = 9 ∨ m = 10 ∨ m = 11 ∨ m = 12 := by omega
  rw [daysOf_in (by omega) (by omega) (by omega) (by omega)]
  rcases h with rfl | rfl | rfl | rfl | rfl | rfl | rfl | rfl | rfl | rfl | rfl | rfl
  case inr.inl => cases leap y <;> rfl
  all_goals rfl
theorem L202_in {R : Type} (y m Y : Int) (k : Int → Int → Int → Int → Option R) (e : Nat) (he : e ≤ 12) (hY : (e = 12 ∧ Y < y) ∨ (Y = y ∧ (e : Int) + 1 = m)) : ∀ (d n j : Nat) (acc : Int), j + d = e → d < n → 0 ≤ acc → acc + 31 * d ≤ 1000000 →
    L202_2_0 n y m acc Y ((j : Int) + 1) k = k y m (acc + (monthsTo Y e - monthsTo Y j)) Y := by
  intro d
  induction d with
  | zero =>
    intro n j acc hj hn _ _
    obtain ⟨n, rfl⟩ : ∃ q, n = q + 1 := ⟨n - 1, by omega⟩
    obtain rfl : j = e := by omega
    rw [L202_2_0]
    rw [show acc + (monthsTo Y j - monthsTo Y j) = acc by omega]
    rcases hY with ⟨h1, h2⟩ | ⟨h1, h2⟩
    · rw [decide_eq_false (show ¬ (j : Int) + 1 ≤ 12 by omega)]; rfl
    · rw [decide_eq_false (show ¬ Y < y by omega), decide_eq_false (show ¬ (j : Int) + 1 < m by omega)]
      cases decide ((j : Int) + 1 ≤ 12) <;> rfl
  | succ d ih =>
    intro n j acc hj hn h0 h1
    obtain ⟨n, rfl⟩ : ∃ q, n = q + 1 := ⟨n - 1, by omega⟩
    have hd := daysOf_le Y ((j : Int) + 1)
    have hm : monthsTo Y (j + 1) = monthsTo Y j + daysOf Y ((j : Int) + 1) := rfl
    rw [L202_2_0, decide_eq_true (show (j : Int) + 1 ≤ 12 by omega), wrap_id (i := acc + daysOf Y ((j : Int) + 1)) (by omega) (by omega), wrap_id (i := (j : Int) + 1 + 1) (by omega) (by omega)]
    have h3 := ih n (j + 1) (acc + daysOf Y ((j : Int) + 1)) (by omega) (by omega) (by omega) (by omega)
    rw [show ((j + 1 : Nat) : Int) + 1 = (j : Int) + 1 + 1 by omega] at h3
    rw [h3, hm, show acc + daysOf Y ((j : Int) + 1) + (monthsTo Y e - (monthsTo Y j + daysOf Y ((j : Int) + 1))) = acc + (monthsTo Y e - monthsTo Y j) by omega]
    rcases hY with ⟨h4, h5⟩ | ⟨h4, h5⟩
    · rw [decide_eq_true h5]; rfl
    · rw [decide_eq_false (show ¬ Y < y by omega), decide_eq_true (show (j : Int) + 1 < m by omega)]; rfl
theorem L202_out {R : Type} (N : Nat) (y m : Int) (k : Int → Option R) (hN : 13 ≤ N) (hm1 : 1 ≤ m) (hm2 : m ≤ 12) (e : Nat) (he : 1970 + (e : Int) = y) (he2 : e ≤ 129) : ∀ (d n i : Nat) (acc : Int), i + d = e → d + 1 < n → 0 ≤ acc → acc + 372 * (d + 1) ≤ 100000 →
    L202_0_0 N n y m acc (1970 + (i : Int)) k = k (acc + (yearsTo e - yearsTo i) + monthsTo y (m - 1).toNat) := by
  intro d
  induction d with
  | zero =>
    intro n i acc hi hn h0 h1
    obtain ⟨n, rfl⟩ : ∃ q, n = q + 1 := ⟨n - 1, by omega⟩
    obtain ⟨n, rfl⟩ : ∃ q, n = q + 1 := ⟨n - 1, by omega⟩
    obtain rfl : i = e := by omega
    have hm := monthsTo_le y (m - 1).toNat
    rw [L202_0_0, decide_eq_true (show 1970 + (i : Int) ≤ y by omega), cond_true]
    refine (L202_in y m (1970 + (i : Int)) _ (m - 1).toNat (by omega) (Or.inr ⟨by omega, by omega⟩) (m - 1).toNat N 0 acc (by omega) (by omega) h0 (by omega)).trans ?_
    rw [wrap_id (i := 1970 + (i : Int) + 1) (by omega) (by omega), L202_0_0, decide_eq_false (show ¬ 1970 + (i : Int) + 1 ≤ y by omega), cond_false, he]
    congr 1
    simp only [monthsTo]; omega
  | succ d ih =>
    intro n i acc hi hn h0 h1
    obtain ⟨n, rfl⟩ : ∃ q, n = q + 1 := ⟨n - 1, by omega⟩
    have hm := monthsTo_le (1970 + (i : Int)) 12
    rw [L202_0_0, decide_eq_true (show 1970 + (i : Int) ≤ y by omega), cond_true]
    refine (L202_in y m (1970 + (i : Int)) _ 12 (by omega) (Or.inl ⟨rfl, by omega⟩) 12 N 0 acc (by omega) (by omega) h0 (by omega)).trans ?_
    rw [wrap_id (i := 1970 + (i : Int) + 1) (by omega) (by omega), show 1970 + (i : Int) + 1 = 1970 + ((i + 1 : Nat) : Int) by omega]
    rw [ih n (i + 1) _ (by omega) (by omega) (by simp only [monthsTo] at *; omega) (by simp only [monthsTo] at *; omega)]
    congr 1
    have h5 : yearsTo (i + 1) = yearsTo i + monthsTo (1970 + (i : Int)) 12 := rfl
    rw [h5, show monthsTo (1970 + (i : Int)) 0 = 0 from rfl]; omega
theorem dayIn_of {y m d : Int} (h : dayIn y m d = true) : 1970 ≤ y ∧ y ≤ 2099 ∧ 1 ≤ m ∧ m ≤ 12 ∧ 1 ≤ d ∧ d ≤ 31 := by
  unfold dayIn at h
  simpa only [Bool.and_eq_true, decide_eq_true_eq] using h
theorem pl202 : ∀ (y : Int) (m : Int) (d : Int) res, (m202 [.one (.sc (.int .i64 y)), .one (.sc (.int .i64 m)), .one (.sc (.int .i64 d))]).val = some res → ∃ N, T202 N y m d = some res := by
  intro y m d res h
  obtain ⟨h1, h2⟩ := br_val h
  cases h2
  obtain ⟨a, b, c, e, f, g⟩ := dayIn_of h1
  refine ⟨200, ?_⟩
  unfold T202
  rw [wrap_id (by omega) (by omega)]
  refine (L202_out 200 y m _ (by omega) c e (y - 1970).toNat (by omega) (by omega) (y - 1970).toNat 200 0 (d - 1) (by omega) (by omega) (by omega) (by omega)).trans ?_
  unfold dayNo
  rw [show yearsTo 0 = 0 from rfl, Int.sub_zero]
theorem L199_y {R : Type} (y mo h mi s z : Int) (k : Int → Int → Int → Int → Int → Int → Int → Int → Option R) (da : Int) (e : Nat) (he : 1970 + (e : Int) = y) (he2 : e ≤ 129) : ∀ (d n i : Nat) (acc : Int), i + d = e → d < n → 0 ≤ acc → acc + 372 * d ≤ 100000 →
    L199_0_0 n acc (1970 + (i : Int)) y mo da h mi s z k = k (acc + (yearsTo e - yearsTo i)) y mo da h mi s z := by
  intro d
  induction d with
  | zero =>
    intro n i acc hi hn h0 h1
    obtain ⟨n, rfl⟩ : ∃ q, n = q + 1 := ⟨n - 1, by omega⟩
    obtain rfl : i = e := by omega
    rw [L199_0_0, decide_eq_false (show ¬ 1970 + (i : Int) < y by omega), cond_false]
    congr 1; omega
  | succ d ih =>
    intro n i acc hi hn h0 h1
    obtain ⟨n, rfl⟩ : ∃ q, n = q + 1 := ⟨n - 1, by omega⟩
    have hy := year_days (y := 1970 + (i : Int)) (by omega) (by omega)
    have h5 : yearsTo (i + 1) = yearsTo i + monthsTo (1970 + (i : Int)) 12 := rfl
    rw [L199_0_0, decide_eq_true (show 1970 + (i : Int) < y by omega), cond_true, wrap_id (i := 1970 + (i : Int) + 1) (by omega) (by omega), wrap_id (i := acc + 365) (by omega) (by omega), wrap_id (i := acc + 365 + 1) (by omega) (by omega), show 1970 + (i : Int) + 1 = 1970 + ((i + 1 : Nat) : Int) by omega]
    rw [ih n (i + 1) _ (by omega) (by omega) (by omega) (by omega), ih n (i + 1) _ (by omega) (by omega) (by omega) (by omega), h5, hy]
    cases leap (1970 + (i : Int)) with
    | true => simp only [cond_true]; congr 1; omega
    | false => simp only [cond_false]; congr 1; omega
theorem L199_m {R : Type} (y mo h mi s z : Int) (k : Int → Int → Int → Int → Int → Int → Int → Int → Option R) (da : Int) (e : Nat) (he : (e : Int) + 1 = mo) (he2 : e ≤ 11) : ∀ (d n i : Nat) (acc : Int), i + d = e → d < n → 0 ≤ acc → acc + 31 * d ≤ 100000 →
    L199_2_0 n acc ((i : Int) + 1) y mo da h mi s z k = k (acc + (monthsTo y e - monthsTo y i)) y mo da h mi s z := by
  intro d
  induction d with
  | zero =>
    intro n i acc hi hn h0 h1
    obtain ⟨n, rfl⟩ : ∃ q, n = q + 1 := ⟨n - 1, by omega⟩
    obtain rfl : i = e := by omega
    rw [L199_2_0, decide_eq_false (show ¬ (i : Int) + 1 < mo by omega), cond_false]
    congr 1; omega
  | succ d ih =>
    intro n i acc hi hn h0 h1
    obtain ⟨n, rfl⟩ : ∃ q, n = q + 1 := ⟨n - 1, by omega⟩
    have hd := daysOf_le y ((i : Int) + 1)
    have h5 : monthsTo y (i + 1) = monthsTo y i + daysOf y ((i : Int) + 1) := rfl
    rw [L199_2_0, decide_eq_true (show (i : Int) + 1 < mo by omega), cond_true, wrap_id (i := (i : Int) + 1 + 1) (by omega) (by omega), wrap_id (i := acc + daysOf y ((i : Int) + 1)) (by omega) (by omega), show (i : Int) + 1 + 1 = ((i + 1 : Nat) : Int) + 1 by omega]
    rw [ih n (i + 1) _ (by omega) (by omega) (by omega) (by omega), h5]
    congr 1; omega
theorem fields_of {y mo da h mi s z : Int} (hf : fieldsOk y mo da h mi s z = true) : (1970 ≤ y ∧ y ≤ 2099 ∧ 1 ≤ mo ∧ mo ≤ 12 ∧ 1 ≤ da ∧ da ≤ 31) ∧ 0 ≤ h ∧ h ≤ 23 ∧ 0 ≤ mi ∧ mi ≤ 59 ∧ 0 ≤ s ∧ s ≤ 59 ∧ -720 ≤ z ∧ z ≤ 840 := by
  unfold fieldsOk at hf
  simp only [Bool.and_eq_true, decide_eq_true_eq] at hf
  have h1 := daysOf_pos (y := y) (m := mo) (by omega)
  have h2 := daysOf_le y mo
  omega
theorem pl199 : ∀ (y : Int) (mo : Int) (da : Int) (h : Int) (mi : Int) (s : Int) (z : Int) res, (m199 [.agg [.sc (.int .i64 y), .sc (.int .i64 mo), .sc (.int .i64 da), .sc (.int .i64 h), .sc (.int .i64 mi), .sc (.int .i64 s), .sc (.int .i64 z)]]).val = some res → ∃ N, T199 N y mo da h mi s z = some res := by
  intro y mo da h mi s z res hr
  obtain ⟨h1, h2⟩ := br_val hr
  cases h2
  obtain ⟨⟨a, b, c, e, f, g⟩, i1, i2, i3, i4, i5, i6, i7, i8⟩ := fields_of h1
  have hd := dayNo_le a b c e f g
  have hy := yearsTo_le (y - 1970).toNat
  have hm := monthsTo_le y (mo - 1).toNat
  refine ⟨200, ?_⟩
  unfold T199
  rw [wrap_id (i := da - 1) (by omega) (by omega)]
  refine (L199_y y mo h mi s z _ da (y - 1970).toNat (by omega) (by omega) (y - 1970).toNat 200 0 (da - 1) (by omega) (by omega) (by omega) (by omega)).trans ?_
  refine (L199_m y mo h mi s z _ da (mo - 1).toNat (by omega) (by omega) (mo - 1).toNat 200 0 _ (by omega) (by omega) (by rw [show yearsTo 0 = 0 from rfl]; omega) (by rw [show yearsTo 0 = 0 from rfl]; omega)).trans ?_
  rw [show da - 1 + (yearsTo (y - 1970).toNat - yearsTo 0) + (monthsTo y (mo - 1).toNat - monthsTo y 0) = dayNo y mo da by unfold dayNo; rw [show yearsTo 0 = 0 from rfl, show monthsTo y 0 = 0 from rfl]; omega]
  unfold secNo
  generalize dayNo y mo da = D at *
  rw [wrap_id (i := D * 86400) (by omega) (by omega), wrap_id (i := h * 3600) (by omega) (by omega), wrap_id (i := mi * 60) (by omega) (by omega), wrap_id (i := z * 60) (by omega) (by omega), wrap_id (i := D * 86400 + h * 3600) (by omega) (by omega), wrap_id (i := D * 86400 + h * 3600 + mi * 60) (by omega) (by omega), wrap_id (i := D * 86400 + h * 3600 + mi * 60 + s) (by omega) (by omega), wrap_id (i := D * 86400 + h * 3600 + mi * 60 + s - z * 60) (by omega) (by omega)]
theorem pl189 : ∀ (y : Int) (mo : Int) (da : Int) (h : Int) (mi : Int) (s : Int) (z : Int) res, (m189 [.agg [.sc (.int .i64 y), .sc (.int .i64 mo), .sc (.int .i64 da), .sc (.int .i64 h), .sc (.int .i64 mi), .sc (.int .i64 s), .sc (.int .i64 z)]]).val = some res → ∃ N, T189 N y mo da h mi s z = some res := by
  intro y mo da h mi s z res hr
  obtain ⟨h1, h2⟩ := br_val hr
  cases h2
  obtain ⟨⟨a, b, c, e, f, g⟩, i1, i2, i3, i4, i5, i6, i7, i8⟩ := fields_of h1
  have hd := dayNo_le a b c e f g
  have hin : dayIn y mo da = true := by
    unfold dayIn; simp only [Bool.and_eq_true, decide_eq_true_eq]; omega
  refine ⟨0, ?_⟩
  unfold T189 secNo
  rw [hin, cond_true]
  generalize dayNo y mo da = D at *
  rw [wrap_id (i := D * 86400) (by omega) (by omega), wrap_id (i := h * 3600) (by omega) (by omega), wrap_id (i := mi * 60) (by omega) (by omega), wrap_id (i := z * 60) (by omega) (by omega), wrap_id (i := D * 86400 + h * 3600) (by omega) (by omega), wrap_id (i := D * 86400 + h * 3600 + mi * 60) (by omega) (by omega), wrap_id (i := D * 86400 + h * 3600 + mi * 60 + s) (by omega) (by omega), wrap_id (i := D * 86400 + h * 3600 + mi * 60 + s - z * 60) (by omega) (by omega)]

theorem dateOk_iff {y mo da h mi s z : Int} : dateOk y mo da h mi s z = true ↔ fieldsOk y mo da h mi s z = true ∧ 0 ≤ secNo y mo da h mi s z ∧ secNo y mo da h mi s z < 4102444800 := by
  unfold dateOk; simp only [Bool.and_eq_true, decide_eq_true_eq]
theorem pl198 : ∀ (y : Int) (mo : Int) (da : Int) (h : Int) (mi : Int) (s : Int) (z : Int) res, (m198 [.agg [.sc (.int .i64 y), .sc (.int .i64 mo), .sc (.int .i64 da), .sc (.int .i64 h), .sc (.int .i64 mi), .sc (.int .i64 s), .sc (.int .i64 z)]]).val = some res → ∃ N, T198 N y mo da h mi s z = some res := by
  intro y mo da h mi s z res hr
  cases hr
  refine ⟨0, ?_⟩
  unfold T198
  simp only [cond_rvB]
  apply rvB_eq
  unfold fieldsOk
  simp only [cond_t, Bool.and_eq_true, decide_eq_true_eq, Bool.false_eq_true, and_false, or_false]
theorem pl93 : ∀ (y : Int) (mo : Int) (da : Int) (h : Int) (mi : Int) (s : Int) (z : Int) res, (m93 [.agg [.sc (.int .i64 y), .sc (.int .i64 mo), .sc (.int .i64 da), .sc (.int .i64 h), .sc (.int .i64 mi), .sc (.int .i64 s), .sc (.int .i64 z)]]).val = some res → ∃ N, T93 N y mo da h mi s z = some res := by
  intro y mo da h mi s z res hr
  cases hr
  refine ⟨0, ?_⟩
  unfold T93
  cases hf : fieldsOk y mo da h mi s z with
  | true =>
    simp only [cond_true, cond_rvB]
    apply rvB_eq
    rw [dateOk_iff, hf]
    unfold fieldsOk at hf
    simp only [Bool.and_eq_true, decide_eq_true_eq] at hf
    simp only [cond_t, Bool.and_eq_true, decide_eq_true_eq, Bool.false_eq_true, and_false, or_false, true_and, eq_self]
    omega
  | false =>
    have hd : dateOk y mo da h mi s z = false := by unfold dateOk; rw [hf]; rfl
    rw [hd]
    unfold fieldsOk at hf
    simp only [cond_false]
    cases h1 : decide (1 ≤ da) && decide (da ≤ daysOf y mo) with
    | false => rfl
    | true =>
      cases h2 : decide (0 ≤ h) && decide (h ≤ 23) with
      | false => rfl
      | true =>
        cases h3 : decide (0 ≤ mi) && decide (mi ≤ 59) with
        | false => rfl
        | true =>
          cases h4 : decide (0 ≤ s) && decide (s ≤ 59) with
          | false => rfl
          | true =>
            cases h5 : decide (-720 ≤ z) && decide (z ≤ 840) with
            | false => rfl
            | true =>
              exfalso
              rw [← Bool.not_eq_true] at hf
              simp only [Bool.and_eq_true, decide_eq_true_eq] at h1 h2 h3 h4 h5 hf
              omega
theorem pl100 : ∀ (y : Int) (mo : Int) (da : Int) (h : Int) (mi : Int) (s : Int) (z : Int) res, (m100 [.agg [.sc (.int .i64 y), .sc (.int .i64 mo), .sc (.int .i64 da), .sc (.int .i64 h), .sc (.int .i64 mi), .sc (.int .i64 s), .sc (.int .i64 z)]]).val = some res → ∃ N, T100 N y mo da h mi s z = some res := by
  intro y mo da h mi s z res hr
  cases hr
  refine ⟨0, ?_⟩
  unfold T100
  cases hf : fieldsOk y mo da h mi s z with
  | true =>
    simp only [Bool.not_true, cond_false, cond_true, cond_rvB]
    apply rvB_eq
    rw [dateOk_iff, hf]
    simp only [cond_t, Bool.and_eq_true, decide_eq_true_eq, Bool.false_eq_true, and_false, or_false, true_and, eq_self]
  | false =>
    have hd : dateOk y mo da h mi s z = false := by unfold dateOk; rw [hf]; rfl
    rw [hd]; rfl
theorem tmod7 {n : Int} (h : 0 ≤ n) : inb (n.tmod (7 : Int)) 7 = true := by
  rw [Int.tmod_eq_emod_of_nonneg h]
  unfold inb
  simp only [Bool.and_eq_true, decide_eq_true_eq]
  omega
theorem pl109 : ∀ (y : Int) (mo : Int) (da : Int) (h : Int) (mi : Int) (s : Int) (z : Int) res, (m109 [.agg [.sc (.int .i64 y), .sc (.int .i64 mo), .sc (.int .i64 da), .sc (.int .i64 h), .sc (.int .i64 mi), .sc (.int .i64 s), .sc (.int .i64 z)]]).val = some res → ∃ N, T109 N y mo da h mi s z = some res := by
  intro y mo da h mi s z res hr
  cases hr
  refine ⟨0, ?_⟩
  unfold T109
  cases hd : dateOk y mo da h mi s z with
  | false => rfl
  | true =>
    obtain ⟨hf, -⟩ := dateOk_iff.1 hd
    obtain ⟨⟨a, b, c, e, f, g⟩, i1, i2, i3, i4, i5, i6, i7, i8⟩ := fields_of hf
    have hin : dayIn y mo da = true := by
      unfold dayIn; simp only [Bool.and_eq_true, decide_eq_true_eq]; omega
    rw [hin, tmod7 (dayNo_le a b c e f g).1]; rfl
theorem pl120 : ∀ (y : Int) (mo : Int) (da : Int) (h : Int) (mi : Int) (s : Int) (z : Int) res, (m120 [.agg [.sc (.int .i64 y), .sc (.int .i64 mo), .sc (.int .i64 da), .sc (.int .i64 h), .sc (.int .i64 mi), .sc (.int .i64 s), .sc (.int .i64 z)]]).val = some res → ∃ N, T120 N y mo da h mi s z = some res := by
  intro y mo da h mi s z res hr
  cases hr
  refine ⟨0, ?_⟩
  unfold T120
  cases hd : dateOk y mo da h mi s z with
  | false => rfl
  | true =>
    obtain ⟨hf, hs1, hs2⟩ := dateOk_iff.1 hd
    obtain ⟨⟨a, b, c, e, f, g⟩, i1, i2, i3, i4, i5, i6, i7, i8⟩ := fields_of hf
    have hD := dayNo_le a b c e f g
    have hq : IntKind.i64.wrap ((IntKind.i64.wrap (secNo y mo da h mi s z + IntKind.i64.wrap (z * 60))).tdiv 86400) = dayNo y mo da := by
      rw [wrap_id (i := z * 60) (by omega) (by omega), wrap_id (i := secNo y mo da h mi s z + z * 60) (by omega) (by omega)]
      unfold secNo
      generalize dayNo y mo da = D at *
      rw [Int.tdiv_eq_ediv_of_nonneg (by omega), wrap_id (by omega) (by omega)]
      omega
    rw [hq, hf, tmod7 hD.1]; rfl
theorem pl122 : ∀ res, (m122 []).val = some res → ∃ N, T122 N  = some res := by
  intro res hr
  cases hr
  exact ⟨0, rfl⟩
theorem cut_dig : ∀ d : Nat, d < 10 → cutOk ((⟨#[48, 49, 50, 51, 52, 53, 54, 55, 56, 57]⟩ : ByteArray)).size (some (d : Int)) (some ((d : Int) + 1)) = true ∧ cutS (⟨#[48, 49, 50, 51, 52, 53, 54, 55, 56, 57]⟩ : ByteArray) (some (d : Int)) (some ((d : Int) + 1)) = dig d
  | 0, _ => ⟨rfl, rfl⟩ | 1, _ => ⟨rfl, rfl⟩ | 2, _ => ⟨rfl, rfl⟩ | 3, _ => ⟨rfl, rfl⟩ | 4, _ => ⟨rfl, rfl⟩ | 5, _ => ⟨rfl, rfl⟩ | 6, _ => ⟨rfl, rfl⟩ | 7, _ => ⟨rfl, rfl⟩ | 8, _ => ⟨rfl, rfl⟩ | 9, _ => ⟨rfl, rfl⟩
theorem num_dig : ∀ d : Nat, d < 10 → strOfNums ([IntKind.u8.wrap (IntKind.i64.wrap ((48 : Int) + (d : Int)))] : List Int) = dig d
  | 0, _ => rfl | 1, _ => rfl | 2, _ => rfl | 3, _ => rfl | 4, _ => rfl | 5, _ => rfl | 6, _ => rfl | 7, _ => rfl | 8, _ => rfl | 9, _ => rfl

theorem tm10 (n : Nat) : ((n : Int)).tmod (10 : Int) = ((n % 10 : Nat) : Int) := tm n 10
theorem td10 (n : Nat) : ((n : Int)).tdiv (10 : Int) = ((n / 10 : Nat) : Int) := td n 10
theorem L110_eq {R : Type} (K : ByteArray → Option R) : ∀ (k fuel n : Nat) (w : Int) (acc : ByteArray), n < 10 ^ k → w ≤ k → (k : Int) - 10 ≤ w → (0 < k → w = k ∨ 10 ^ (k - 1) ≤ n) → acc.size + k ≤ 1000 → k < fuel → k ≤ 4 → n < 10000 →
    L110_0_0 fuel (n : Int) w acc K = K (decW n k acc) := by
  intro k
  induction k with
  | zero =>
    intro fuel n w acc h1 h2 h3 h4 h5 h6 h7 h8
    obtain ⟨m, rfl⟩ : ∃ q, fuel = q + 1 := ⟨fuel - 1, by omega⟩
    have h0 : n = 0 := by simpa using h1
    subst h0
    rw [L110_0_0, decide_eq_false (show ¬ ((0 : Nat) : Int) > 0 by omega), decide_eq_false (show ¬ w > 0 by omega)]; rfl
  | succ k ih =>
    intro fuel n w acc h1 h2 h3 h4 h5 h6 h7 h8
    obtain ⟨m, rfl⟩ : ∃ q, fuel = q + 1 := ⟨fuel - 1, by omega⟩
    have hc := cut_dig (n % 10) (by omega)
    have hn : n / 10 < 10 ^ k := by
      rw [Nat.pow_succ] at h1; generalize 10 ^ k = X at *; omega
    have hk : 0 < k → w - 1 = k ∨ 10 ^ (k - 1) ≤ n / 10 := by
      intro hk
      rcases h4 (by omega) with h9 | h9
      · left; omega
      · right
        obtain ⟨k, rfl⟩ : ∃ q, k = q + 1 := ⟨k - 1, by omega⟩
        simp only [Nat.add_sub_cancel] at *
        rw [Nat.pow_succ] at h9; generalize 10 ^ k = X at *; omega
    have hi := ih m (n / 10) (w - 1) (dig (n % 10) ++ acc) hn (by omega) (by omega) hk (by rw [ByteArray.size_append, dig_size]; omega) (by omega) (by omega) (by omega)
    have hs : (dig (n % 10)).size + acc.size ≤ 9223372036854775807 := by rw [dig_size]; omega
    rw [L110_0_0, tm10, td10, wrap_id (i := ((n % 10 : Nat) : Int) + 1) (by omega) (by omega), hc.1, hc.2, fit_t hs, wrap_id (i := ((n / 10 : Nat) : Int)) (by omega) (by omega), wrap_id (i := w - 1) (by omega) (by omega), hi]
    rcases h4 (by omega) with h9 | h9
    · rw [decide_eq_true (show w > 0 by omega)]
      cases decide ((n : Int) > 0) <;> rfl
    · have h10 : 0 < n := Nat.lt_of_lt_of_le (Nat.pow_pos (by decide)) h9
      rw [decide_eq_true (show (n : Int) > 0 by omega)]; rfl
theorem ndig_spec {n : Nat} (h : n < 10000) : n < 10 ^ ndig n ∧ (1 < ndig n → 10 ^ (ndig n - 1) ≤ n) := by
  unfold ndig
  by_cases h1 : n < 10
  · rw [show Nat.blt n 10 = true from Nat.ble_eq_true_of_le h1]; exact ⟨h1, fun h => absurd h (Nat.lt_irrefl 1)⟩
  rw [show Nat.blt n 10 = false from by rw [← Bool.not_eq_true]; exact fun h => h1 (Nat.le_of_ble_eq_true h)]
  by_cases h2 : n < 100
  · rw [show Nat.blt n 100 = true from Nat.ble_eq_true_of_le h2]; exact ⟨h2, fun _ => by show 10 ≤ n; omega⟩
  rw [show Nat.blt n 100 = false from by rw [← Bool.not_eq_true]; exact fun h => h2 (Nat.le_of_ble_eq_true h)]
  by_cases h3 : n < 1000
  · rw [show Nat.blt n 1000 = true from Nat.ble_eq_true_of_le h3]; exact ⟨h3, fun _ => by show 100 ≤ n; omega⟩
  rw [show Nat.blt n 1000 = false from by rw [← Bool.not_eq_true]; exact fun h => h3 (Nat.le_of_ble_eq_true h)]
  exact ⟨h, fun _ => by show 1000 ≤ n; omega⟩
theorem pl110 : ∀ (n : Int) (w : Int) res, (m110 [.one (.sc (.int .i64 n)), .one (.sc (.int .i64 w))]).val = some res → ∃ N, T110 N n w = some res := by
  intro n w res hr
  obtain ⟨h1, h2⟩ := br_val hr
  cases h2
  simp only [Bool.and_eq_true, decide_eq_true_eq] at h1
  refine ⟨10, ?_⟩
  unfold T110
  obtain ⟨n, rfl⟩ : ∃ k : Nat, n = (k : Int) := ⟨n.toNat, by omega⟩
  obtain ⟨w, rfl⟩ : ∃ k : Nat, w = (k : Int) := ⟨w.toNat, by omega⟩
  simp only [Int.toNat_natCast]
  have hn := ndig_spec (n := n) (by omega)
  have hl := ndig_le n
  have hm : Nat.max w (ndig n) = if w ≤ ndig n then ndig n else w := rfl
  refine L110_eq _ (Nat.max w (ndig n)) 10 n w ⟨#[]⟩ ?_ ?_ ?_ ?_ ?_ ?_ ?_ (by omega)
  · exact Nat.lt_of_lt_of_le hn.1 (Nat.pow_le_pow_right (by decide) (Nat.le_max_right w (ndig n)))
  · rw [hm]; split <;> omega
  · rw [hm]; split <;> omega
  · intro _
    rw [hm]; split
    · by_cases he : w = ndig n
      · left; rw [he]
      · right; exact hn.2 (by omega)
    · left; rfl
  · rw [hm]; show 0 + _ ≤ 1000; split <;> omega
  · rw [hm]; split <;> omega
  · rw [hm]; split <;> omega
theorem L121_eq {R : Type} (K : Int → ByteArray → Option R) : ∀ (k fuel n : Nat) (acc : ByteArray), n < 10 ^ (k + 1) → (0 < k → 10 ^ k ≤ n) → acc.size + k ≤ 1000 → k < fuel → n < 10000 →
    L121_0_0 fuel (n : Int) acc K = K ((n / 10 ^ k : Nat) : Int) (decW n k acc) := by
  intro k
  induction k with
  | zero =>
    intro fuel n acc h1 h2 h3 h4 h5
    obtain ⟨m, rfl⟩ : ∃ q, fuel = q + 1 := ⟨fuel - 1, by omega⟩
    rw [L121_0_0, decide_eq_false (show ¬ (n : Int) > 9 by simp at h1; omega)]
    simp [decW]
  | succ k ih =>
    intro fuel n acc h1 h2 h3 h4 h5
    obtain ⟨m, rfl⟩ : ∃ q, fuel = q + 1 := ⟨fuel - 1, by omega⟩
    have h6 := h2 (by omega)
    have hp : 0 < 10 ^ k := Nat.pow_pos (by decide)
    have hn : n / 10 < 10 ^ (k + 1) := by
      rw [Nat.pow_succ] at h1; generalize 10 ^ (k + 1) = X at *; omega
    have hk : 10 ^ k ≤ n / 10 := by
      rw [Nat.pow_succ] at h6; generalize 10 ^ k = X at *; omega
    have h7 : 9 < n := by rw [Nat.pow_succ] at h6; generalize 10 ^ k = X at *; omega
    have hi := ih m (n / 10) (dig (n % 10) ++ acc) hn (fun _ => hk) (by rw [ByteArray.size_append, dig_size]; omega) (by omega) (by omega)
    have hs : (dig (n % 10)).size + acc.size ≤ 9223372036854775807 := by rw [dig_size]; omega
    rw [L121_0_0, decide_eq_true (show (n : Int) > 9 by omega), cond_true, tm10, td10, num_dig (n % 10) (by omega), fit_t hs, cond_true, wrap_id (i := ((n / 10 : Nat) : Int)) (by omega) (by omega), hi]
    rw [Nat.div_div_eq_div_mul, show 10 * 10 ^ k = 10 ^ (k + 1) by rw [Nat.pow_succ]; omega]
    rfl
theorem decW_top : ∀ (k n : Nat) (acc : ByteArray), dig (n / 10 ^ k % 10) ++ decW n k acc = decW n (k + 1) acc
  | 0, n, acc => by simp [decW]
  | k + 1, n, acc => by
    have h := decW_top k (n / 10) (dig (n % 10) ++ acc)
    rw [Nat.div_div_eq_div_mul, show 10 * 10 ^ k = 10 ^ (k + 1) by rw [Nat.pow_succ]; omega] at h
    exact h
theorem pl121 : ∀ (n : Int) res, (m121 [.one (.sc (.int .i64 n))]).val = some res → ∃ N, T121 N n = some res := by
  intro n res hr
  obtain ⟨h1, h2⟩ := br_val hr
  cases h2
  simp only [Bool.and_eq_true, decide_eq_true_eq] at h1
  refine ⟨10, ?_⟩
  unfold T121
  rw [decide_eq_false (show ¬ n < -9223372036854775807 by omega), decide_eq_false (show ¬ n < 0 by omega), cond_false, cond_false]
  obtain ⟨n, rfl⟩ : ∃ k : Nat, n = (k : Int) := ⟨n.toNat, by omega⟩
  simp only [Int.toNat_natCast]
  have hn := ndig_spec (n := n) (by omega)
  have hl := ndig_le n
  obtain ⟨k, hk⟩ : ∃ k, ndig n = k + 1 := ⟨ndig n - 1, by omega⟩
  rw [hk] at hn hl ⊢
  refine (L121_eq _ k 10 n ⟨#[]⟩ hn.1 (fun h => hn.2 (by omega)) (by show 0 + k ≤ 1000; omega) (by omega) (by omega)).trans ?_
  have hlt : n / 10 ^ k < 10 := by
    have h3 := hn.1
    rw [Nat.pow_succ] at h3
    exact Nat.div_lt_of_lt_mul h3
  have hs : (dig (n / 10 ^ k)).size + (decW n k ⟨#[]⟩).size ≤ 9223372036854775807 := by rw [dig_size, decW_size]; show 1 + (k + 0) ≤ _; omega
  rw [num_dig _ hlt, fit_t hs, cond_true]
  rw [← decW_top k n, Nat.mod_eq_of_lt hlt]
theorem pl123 : ∀ (n : Int) res, (m123 [.one (.sc (.int .i64 n))]).val = some res → ∃ N, T123 N n = some res := by
  intro n res hr
  obtain ⟨h1, h2⟩ := br_val hr
  cases h2
  simp only [Bool.and_eq_true, decide_eq_true_eq] at h1
  refine ⟨0, ?_⟩
  unfold T123
  obtain ⟨n, rfl⟩ : ∃ k : Nat, n = (k : Int) := ⟨n.toNat, by omega⟩
  have l1 := ndig_le (n / 10); have l2 := ndig_le (n % 10)
  rw [tm10, td10, wrap_id (i := ((n / 10 : Nat) : Int)) (by omega) (by omega)]
  simp only [Int.toNat_natCast]
  rw [decide_eq_true (show 0 ≤ ((n / 10 : Nat) : Int) by omega), decide_eq_true (show ((n / 10 : Nat) : Int) < 10000 by omega), decide_eq_true (show 0 ≤ ((n % 10 : Nat) : Int) by omega), decide_eq_true (show ((n % 10 : Nat) : Int) < 10000 by omega), fit_t (by rw [decW_size, decW_size]; show _ + 0 + (_ + 0) ≤ _; omega), two_parts (by omega)]
  rfl

theorem fit_c {α : Type} {n : Nat} {x : Option α} (h : n ≤ 9223372036854775807) : (bif Nat.ble n 9223372036854775807 then x else none) = x := by rw [fit_t h]; rfl
theorem dec_c {α : Type} {b : Bool} {x : Option α} (h : b = true) : (bif b then x else none) = x := by rw [h]; rfl
theorem nd1 (n : Nat) : Nat.max (1 : Int).toNat (ndig n) = ndig n := Nat.max_eq_right (ndig_le n).1
theorem tm60 (n : Nat) : ((n : Int)).tmod (60 : Int) = ((n % 60 : Nat) : Int) := tm n 60
theorem td60 (n : Nat) : ((n : Int)).tdiv (60 : Int) = ((n / 60 : Nat) : Int) := td n 60
theorem nd2 {n : Nat} (h : n < 100) : Nat.max (2 : Int).toNat (ndig n) = 2 := Nat.max_eq_left (by
  unfold ndig
  by_cases h1 : n < 10
  · rw [show Nat.blt n 10 = true from Nat.ble_eq_true_of_le h1]; show 1 ≤ 2; decide
  · rw [show Nat.blt n 10 = false from by rw [← Bool.not_eq_true]; exact fun h => h1 (Nat.le_of_ble_eq_true h), show Nat.blt n 100 = true from Nat.ble_eq_true_of_le h]; show 2 ≤ 2; decide)
theorem nd4 {n : Nat} (h : 1000 ≤ n) : Nat.max (4 : Int).toNat (ndig n) = ndig n := Nat.max_eq_right (by
  unfold ndig
  rw [show Nat.blt n 10 = false from by rw [← Bool.not_eq_true]; exact fun h => absurd (Nat.le_of_ble_eq_true h) (by omega), show Nat.blt n 100 = false from by rw [← Bool.not_eq_true]; exact fun h => absurd (Nat.le_of_ble_eq_true h) (by omega), show Nat.blt n 1000 = false from by rw [← Bool.not_eq_true]; exact fun h => absurd (Nat.le_of_ble_eq_true h) (by omega)]; decide)
theorem z0 : (⟨#[]⟩ : ByteArray).size = 0 := rfl
theorem z1 : (⟨#[44, 32]⟩ : ByteArray).size = 2 := rfl
theorem z2 : (⟨#[32]⟩ : ByteArray).size = 1 := rfl
theorem z3 : (⟨#[58]⟩ : ByteArray).size = 1 := rfl
theorem z4 : (⟨#[32, 43]⟩ : ByteArray).size = 2 := rfl
theorem z5 : (⟨#[32, 45]⟩ : ByteArray).size = 2 := rfl
theorem z6 : (⟨#[43]⟩ : ByteArray).size = 1 := rfl
theorem z7 : (⟨#[45]⟩ : ByteArray).size = 1 := rfl
theorem sp_p : (⟨#[32, 43]⟩ : ByteArray) = ⟨#[32]⟩ ++ ⟨#[43]⟩ := rfl
theorem sp_m : (⟨#[32, 45]⟩ : ByteArray) = ⟨#[32]⟩ ++ ⟨#[45]⟩ := rfl
theorem pl45 : ∀ (y : Int) (mo : Int) (da : Int) (h : Int) (mi : Int) (s : Int) (z : Int) res, (m45 [.agg [.sc (.int .i64 y), .sc (.int .i64 mo), .sc (.int .i64 da), .sc (.int .i64 h), .sc (.int .i64 mi), .sc (.int .i64 s), .sc (.int .i64 z)]]).val = some res → ∃ N, T45 N y mo da h mi s z = some res := by
  intro y mo da h mi s z res hr
  cases hr
  refine ⟨0, ?_⟩
  unfold T45
  cases hd : dateOk y mo da h mi s z with
  | false => rfl
  | true =>
    obtain ⟨hf, -⟩ := dateOk_iff.1 hd
    obtain ⟨⟨a, b, c, e, f, g⟩, i1, i2, i3, i4, i5, i6, i7, i8⟩ := fields_of hf
    simp only [Bool.not_true, cond_false, cond_true]
    unfold fmtD
    generalize dayNo y mo da = D
    have hw := wday_size D
    have hmn := month_size (mo - 1).toNat
    have n1 := ndig_le da.toNat; have n2 := ndig_le y.toNat
    rw [wrap_id (i := mo - 1) (by omega) (by omega), show months.length = 12 from rfl]
    by_cases hz : z < 0
    · obtain ⟨q, rfl⟩ : ∃ q : Nat, z = -(q : Int) := ⟨z.natAbs, by omega⟩
      rw [decide_eq_true hz, cond_true, cond_true, wrap_id (i := 0 - -(q : Int)) (by omega) (by omega), show 0 - -(q : Int) = (q : Int) by omega, td60, tm60, wrap_id (i := ((q / 60 : Nat) : Int)) (by omega) (by omega), Int.natAbs_neg, Int.natAbs_natCast]
      simp only [Int.toNat_natCast]
      repeat first
        | refine (dec_c (by simp only [Bool.and_eq_true, decide_eq_true_eq, inb]; omega)).trans ?_
        | refine (fit_c (by simp only [ByteArray.size_append, decW_size, z0, z1, z2, z3, z4, z5, z6, z7]; omega)).trans ?_
      rfl
    · obtain ⟨q, rfl⟩ : ∃ q : Nat, z = (q : Int) := ⟨z.natAbs, by omega⟩
      rw [decide_eq_false hz, cond_false, cond_false, td60, tm60, wrap_id (i := ((q / 60 : Nat) : Int)) (by omega) (by omega), Int.natAbs_natCast]
      simp only [Int.toNat_natCast]
      repeat first
        | refine (dec_c (by simp only [Bool.and_eq_true, decide_eq_true_eq, inb]; omega)).trans ?_
        | refine (fit_c (by simp only [ByteArray.size_append, decW_size, z0, z1, z2, z3, z4, z5, z6, z7]; omega)).trans ?_
      rfl
set_option maxRecDepth 20000 in
theorem pl37 : ∀ (y : Int) (mo : Int) (da : Int) (h : Int) (mi : Int) (s : Int) (z : Int) res, (m37 [.agg [.sc (.int .i64 y), .sc (.int .i64 mo), .sc (.int .i64 da), .sc (.int .i64 h), .sc (.int .i64 mi), .sc (.int .i64 s), .sc (.int .i64 z)]]).val = some res → ∃ N, T37 N y mo da h mi s z = some res := by
  intro y mo da h mi s z res hr
  cases hr
  refine ⟨0, ?_⟩
  unfold T37
  cases hd : dateOk y mo da h mi s z with
  | false => rfl
  | true =>
    obtain ⟨hf, -⟩ := dateOk_iff.1 hd
    obtain ⟨⟨a, b, c, e, f, g⟩, i1, i2, i3, i4, i5, i6, i7, i8⟩ := fields_of hf
    simp only [Bool.not_true, cond_false, cond_true]
    unfold fmtD
    generalize dayNo y mo da = D
    have hw := wday_size D
    have hmn := month_size (mo - 1).toNat
    have n1 := ndig_le da.toNat; have n2 := ndig_le y.toNat
    rw [wrap_id (i := mo - 1) (by omega) (by omega), nd1, nd4 (n := y.toNat) (by omega), nd2 (n := h.toNat) (by omega), nd2 (n := mi.toNat) (by omega), nd2 (n := s.toNat) (by omega), show 0 + (mo - 1).toNat * 1 = (mo - 1).toNat by omega]
    rw [show ([⟨#[74, 97, 110]⟩, ⟨#[70, 101, 98]⟩, ⟨#[77, 97, 114]⟩, ⟨#[65, 112, 114]⟩, ⟨#[77, 97, 121]⟩, ⟨#[74, 117, 110]⟩, ⟨#[74, 117, 108]⟩, ⟨#[65, 117, 103]⟩, ⟨#[83, 101, 112]⟩, ⟨#[79, 99, 116]⟩, ⟨#[78, 111, 118]⟩, ⟨#[68, 101, 99]⟩] : List ByteArray) = months from rfl]
    by_cases hz : z < 0
    · obtain ⟨q, rfl⟩ : ∃ q : Nat, z = -(q : Int) := ⟨z.natAbs, by omega⟩
      rw [decide_eq_true hz, cond_true, cond_true, wrap_id (i := 0 - -(q : Int)) (by omega) (by omega), show 0 - -(q : Int) = (q : Int) by omega, td60, tm60, wrap_id (i := ((q / 60 : Nat) : Int)) (by omega) (by omega), Int.natAbs_neg, Int.natAbs_natCast]
      simp only [Int.toNat_natCast]
      rw [nd2 (n := q / 60) (by omega), nd2 (n := q % 60) (by omega), sp_m]
      simp only [← ByteArray.append_assoc]
      rw [show inb (mo - 1) 12 = true from by unfold inb; simp only [Bool.and_eq_true, decide_eq_true_eq]; omega, decide_eq_true (show (mo - 1).toNat < 12 by omega), cond_true, cond_true]
      refine (fit_c (by simp only [ByteArray.size_append, decW_size, z0, z1, z2, z3, z4, z5, z6, z7]; omega)).trans ?_
      refine (dec_c (by simp only [Bool.and_eq_true, decide_eq_true_eq, inb]; omega)).trans ?_
      repeat first
        | refine (dec_c (by simp only [Bool.and_eq_true, decide_eq_true_eq, inb]; omega)).trans ?_
        | refine (fit_c (by simp only [ByteArray.size_append, decW_size, z0, z1, z2, z3, z4, z5, z6, z7]; omega)).trans ?_
      rfl
    · obtain ⟨q, rfl⟩ : ∃ q : Nat, z = (q : Int) := ⟨z.natAbs, by omega⟩
      rw [decide_eq_false hz, cond_false, cond_false, td60, tm60, wrap_id (i := ((q / 60 : Nat) : Int)) (by omega) (by omega), Int.natAbs_natCast]
      simp only [Int.toNat_natCast]
      rw [nd2 (n := q / 60) (by omega), nd2 (n := q % 60) (by omega), sp_p]
      simp only [← ByteArray.append_assoc]
      rw [show inb (mo - 1) 12 = true from by unfold inb; simp only [Bool.and_eq_true, decide_eq_true_eq]; omega, decide_eq_true (show (mo - 1).toNat < 12 by omega), cond_true, cond_true]
      refine (fit_c (by simp only [ByteArray.size_append, decW_size, z0, z1, z2, z3, z4, z5, z6, z7]; omega)).trans ?_
      refine (dec_c (by simp only [Bool.and_eq_true, decide_eq_true_eq, inb]; omega)).trans ?_
      repeat first
        | refine (dec_c (by simp only [Bool.and_eq_true, decide_eq_true_eq, inb]; omega)).trans ?_
        | refine (fit_c (by simp only [ByteArray.size_append, decW_size, z0, z1, z2, z3, z4, z5, z6, z7]; omega)).trans ?_
      rfl
end Go.Iv
