/- Texts of this proof, joined: Sp6 Pu5 Pl5. -/
import Derived.Test.YtpdmeafoofkpaaaGreatDoorHg
set_option linter.unusedVariables false
set_option linter.unusedSimpArgs false
/- What the drawing functions compute. -/
namespace Go.Iv
def u8s (b : List Int) : Bool := b.all fun x => decide (0 ≤ x) && decide (x ≤ 255)
def rdOk (b : List Int) (p : Int) : Bool := u8s b && (decide (b.length ≤ 2000) && (decide (0 ≤ p) && decide (p ≤ 1000000)))
def lenOk {α : Type} (xs : List α) : Bool := decide (1 ≤ (xs.length : Int)) && decide ((xs.length : Int) ≤ 1000000)
def mixU (b : List Int) (p : Int) : Int :=
  IntKind.i64.wrap (IntKind.i64.wrap (IntKind.i64.wrap (IntKind.i64.wrap (IntKind.i64.wrap (b.getD (p.tmod (b.length : Int)).toNat 0) * 131) + IntKind.i64.wrap (IntKind.i64.wrap (b.getD ((IntKind.i64.wrap (IntKind.i64.wrap (p * 7) + 3)).tmod (b.length : Int)).toNat 0) * 1117)) + IntKind.i64.wrap (p * 29)) + IntKind.i64.wrap (IntKind.i64.wrap (p.tdiv (b.length : Int)) * 53))
def mixV (b : List Int) (p : Int) : Int := bitsI .i64 (· ^^^ ·) (mixU b p) (IntKind.i64.wrap ((mixU b p).tdiv 64))
def pickV (b : List Int) (p n : Int) : Int :=
  bif ((b.length : Int) == 0) then 0 else bif decide (p < (b.length : Int)) then (IntKind.i64.wrap (b.getD p.toNat 0)).tmod n else (mixV b p).tmod n
def numV (b : List Int) (p : Int) (xs : List Int) : Int := xs.getD (pickV b p (xs.length : Int)).toNat 0
def ofV (b : List Int) (p : Int) (xs : List ByteArray) : ByteArray := xs.getD (pickV b p (xs.length : Int)).toNat ⟨#[]⟩
def drawN (xs : List ByteArray) (b : List Int) : Nat → Int → List ByteArray
  | 0, _ => []
  | k + 1, p => ofV b p xs :: drawN xs b k (p + 1)
def fromL : List ByteArray := [⟨#[97, 110, 110, 64, 120, 46, 111, 114, 103]⟩, ⟨#[]⟩, ⟨#[98, 46, 99, 64, 100, 46, 101]⟩]
def toL1 : List ByteArray := [⟨#[98, 111, 98, 64, 121, 46, 111, 114, 103]⟩, ⟨#[97, 110, 110, 64, 120, 46, 111, 114, 103]⟩]
def toL : List ByteArray := [⟨#[98, 111, 98, 64, 121, 46, 111, 114, 103]⟩, ⟨#[99, 121, 64, 120, 46, 111, 114, 103]⟩, ⟨#[66, 111, 98, 64, 121, 46, 111, 114, 103]⟩]
def lsL : List ByteArray := [⟨#[83, 117, 98, 106, 101, 99, 116, 58, 32, 120]⟩, ⟨#[]⟩, ⟨#[116, 101, 120, 116]⟩, ⟨#[46]⟩, ⟨#[46, 97]⟩, ⟨#[82, 101, 99, 101, 105, 118, 101, 100, 58, 32, 98, 121, 32, 104]⟩]
def badL : List ByteArray := [⟨#[120]⟩, ⟨#[97, 64, 66]⟩, ⟨#[60, 62]⟩]
def hostL : List ByteArray := [⟨#[120, 46, 111, 114, 103]⟩, ⟨#[114, 101, 108, 97, 121, 46, 101, 120, 97, 109, 112, 108, 101]⟩, ⟨#[88]⟩, ⟨#[]⟩]
def rline : ByteArray := ⟨#[114, 101, 99, 101, 105, 118, 101, 100, 58, 32, 98, 121, 32, 120]⟩
def nTo (b : List Int) (p : Int) : Nat := (pickV b (p + 1 + 1) 3).toNat
def drawTo (b : List Int) (p : Int) : List ByteArray := [ofV b (p + 1) toL1] ++ drawN toL b (nTo b p) (p + 1 + 1 + 1)
def drawP3 (b : List Int) (p : Int) : Int := p + 1 + 1 + 1 + (nTo b p : Int)
def nLs (b : List Int) (p : Int) : Nat := (numV b (drawP3 b p) [2, 3, 1, 0]).toNat
def drawLs (b : List Int) (p : Int) : List ByteArray := [] ++ drawN lsL b (nLs b p) (drawP3 b p + 1)
def drawP (b : List Int) (p : Int) : Int := drawP3 b p + 1 + (nLs b p : Int)
def wrongF (b : List Int) (p : Int) (f : ByteArray) : ByteArray := bif pickV b p 20 == 0 then ofV b (p + 1) badL else f
def wrongT (b : List Int) (p : Int) (to : List ByteArray) : List ByteArray := bif pickV b p 20 == 1 then [] else to
def wrongL (b : List Int) (p : Int) (ls : List ByteArray) : List ByteArray := bif pickV b p 20 == 2 then ls ++ [⟨#[10]⟩] else ls
def wrongP (b : List Int) (p : Int) : Int := bif pickV b p 20 == 0 then p + 1 + 1 else p + 1
structure D7 where
  y : Int
  mo : Int
  da : Int
  h : Int
  mi : Int
  s : Int
  z : Int
def dayWalk : Nat → Int → Int → Int → Int × Int × Int
  | 0, d, y, m => (d, y, m)
  | n + 1, d, y, m => bif decide (d ≥ daysOf y m) then (bif (m + 1 == 13) then dayWalk n (d - daysOf y m) (y + 1) 1 else dayWalk n (d - daysOf y m) y (m + 1)) else (d, y, m)
def dateOfOk (t z : Int) : Bool := decide (0 ≤ t) && (decide (t < 4102444800) && ((decide (-720 ≤ z) && decide (z ≤ 840)) && (decide (0 ≤ t + z * 60) && decide (t + z * 60 < 4102444800))))
def dateOf (t z : Int) : D7 :=
  bif dateOfOk t z then
    { y := (dayWalk 2000 ((t + z * 60).tdiv 86400) 1970 1).2.1, mo := (dayWalk 2000 ((t + z * 60).tdiv 86400) 1970 1).2.2, da := (dayWalk 2000 ((t + z * 60).tdiv 86400) 1970 1).1 + 1
      h := ((t + z * 60).tmod 86400).tdiv 3600, mi := (((t + z * 60).tmod 86400).tdiv 60).tmod 60, s := ((t + z * 60).tmod 86400).tmod 60, z := z }
  else { y := 0, mo := 0, da := 0, h := 0, mi := 0, s := 0, z := 0 }
def drawD (b : List Int) (p : Int) : D7 := dateOf (IntKind.i64.wrap (numV b p [1767596889, 951782400, 86400, 1000000000, 4102358400, 1709164800, 1709251199] + pickV b (p + 1) 100000)) (numV b (p + 1 + 1) [0, 60, -480, 330, 0, 840, -720])
def wrongD (b : List Int) (p y mo da h mi s z : Int) : D7 :=
  { y := bif pickV b p 24 == 2 then numV b (p + 1) [1969, 2100, 1970, 2099] else y
    mo := bif pickV b p 24 == 1 then numV b (p + 1) [0, 13, 2] else mo
    da := bif pickV b p 24 == 0 then numV b (p + 1) [0, 31, 32, 29, 30] else da
    h := bif pickV b p 24 == 3 then numV b (p + 1) [24, -1, 0, 23] else h
    mi := mi
    s := bif pickV b p 24 == 5 then numV b (p + 1) [60, -1] else s
    z := bif pickV b p 24 == 4 then numV b (p + 1) [-721, 841, 840] else z }
def wrongQ (b : List Int) (p : Int) : Int := bif decide (pickV b p 24 ≤ 5) then p + 1 + 1 else p + 1
def preN : Nat → List ByteArray → List ByteArray
  | 0, l => l
  | k + 1, l => preN k ([rline] ++ l)
structure TM where
  f : ByteArray
  to : List ByteArray
  ls : List ByteArray
  host : ByteArray
  d : D7
def drawTM (c : List Int) : TM :=
  let b := c.take 2000
  let p1 := drawP b 0
  let p2 := wrongP b p1
  let d := drawD b p2
  let p4 := wrongQ b (p2 + 3)
  { f := wrongF b p1 (ofV b 0 fromL), to := wrongT b p1 (drawTo b 0), ls := preN (numV b p4 [0, 1, 4, 5]).toNat (wrongL b p1 (drawLs b 0))
    host := ofV b (p4 + 1) hostL, d := wrongD b (p2 + 3) d.y d.mo d.da d.h d.mi d.s d.z }

/-! ### bounds -/
theorem rdOk_at {b : List Int} {p : Int} (h : rdOk b p = true) : u8s b = true ∧ b.length ≤ 2000 ∧ 0 ≤ p ∧ p ≤ 1000000 := by
  unfold rdOk at h; simpa only [Bool.and_eq_true, decide_eq_true_eq] using h
theorem rdOk_of {b : List Int} {p q : Int} (h : rdOk b p = true) (h0 : 0 ≤ q) (h1 : q ≤ 1000000) : rdOk b q = true := by
  obtain ⟨a, c, _, _⟩ := rdOk_at h
  unfold rdOk; rw [a, decide_eq_true c, decide_eq_true h0, decide_eq_true h1]; rfl
theorem u8s_at {b : List Int} (h : u8s b = true) (i : Nat) : 0 ≤ b.getD i 0 ∧ b.getD i 0 ≤ 255 := by
  rw [List.getD_eq_getElem?_getD]
  cases hg : b[i]? with
  | none => decide
  | some x =>
    have := List.all_eq_true.1 h x (List.mem_of_getElem? hg)
    have h2 : 0 ≤ x ∧ x ≤ 255 := by simpa only [Bool.and_eq_true, decide_eq_true_eq] using this
    exact h2
theorem bits_pos {a c : Nat} (ha : a < 2 ^ 63) (hc : c < 2 ^ 63) : 0 ≤ bitsI .i64 (· ^^^ ·) (a : Int) (c : Int) := by
  show 0 ≤ IntKind.i64.wrap ((((BitVec.ofInt 64 (a : Int)) ^^^ (BitVec.ofInt 64 (c : Int))).toNat : Nat) : Int)
  have h := Nat.xor_lt_two_pow ha hc
  rw [BitVec.toNat_xor, BitVec.ofInt_natCast, BitVec.ofInt_natCast, BitVec.toNat_ofNat, BitVec.toNat_ofNat, Nat.mod_eq_of_lt (by omega), Nat.mod_eq_of_lt (by omega), wrap_id (by omega) (by omega)]
  omega
theorem mixU_in {b : List Int} {p : Int} (h : rdOk b p = true) : 0 ≤ mixU b p ∧ mixU b p ≤ 1000000000 := by
  obtain ⟨hu, hl, h0, h1⟩ := rdOk_at h
  unfold mixU
  have g1 := u8s_at hu (p.tmod (b.length : Int)).toNat
  have g2 := u8s_at hu ((IntKind.i64.wrap (IntKind.i64.wrap (p * 7) + 3)).tmod (b.length : Int)).toNat
  have g3 : 0 ≤ p.tdiv (b.length : Int) ∧ p.tdiv (b.length : Int) ≤ p := ⟨Int.tdiv_nonneg h0 (by omega), by
    obtain ⟨q, rfl⟩ : ∃ q : Nat, p = (q : Int) := ⟨p.toNat, by omega⟩
    rw [td]; have := Nat.div_le_self q b.length; omega⟩
  generalize b.getD (p.tmod (b.length : Int)).toNat 0 = A at *
  generalize b.getD ((IntKind.i64.wrap (IntKind.i64.wrap (p * 7) + 3)).tmod (b.length : Int)).toNat 0 = B at *
  generalize p.tdiv (b.length : Int) = C at *
  rw [wrap_id (i := C) (by omega) (by omega), wrap_id (i := C * 53) (by omega) (by omega), wrap_id (i := p * 29) (by omega) (by omega), wrap_id (i := B) (by omega) (by omega), wrap_id (i := B * 1117) (by omega) (by omega), wrap_id (i := A) (by omega) (by omega), wrap_id (i := A * 131) (by omega) (by omega), wrap_id (i := A * 131 + B * 1117) (by omega) (by omega), wrap_id (i := A * 131 + B * 1117 + p * 29) (by omega) (by omega), wrap_id (i := A * 131 + B * 1117 + p * 29 + C * 53) (by omega) (by omega)]
  omega
theorem mixV_pos {b : List Int} {p : Int} (h : rdOk b p = true) : 0 ≤ mixV b p := by
  obtain ⟨h0, h1⟩ := mixU_in h
  unfold mixV
  obtain ⟨q, hq⟩ : ∃ q : Nat, mixU b p = (q : Int) := ⟨(mixU b p).toNat, by omega⟩
  rw [hq] at h1 ⊢
  rw [show ((q : Int)).tdiv 64 = ((q / 64 : Nat) : Int) from td q 64, wrap_id (by omega) (by omega)]
  exact bits_pos (by omega) (by omega)
theorem pickV_in {b : List Int} {p n : Int} (h : rdOk b p = true) (hn : 1 ≤ n) : 0 ≤ pickV b p n ∧ pickV b p n < n := by
  unfold pickV
  have h1 := mixV_pos h
  have h2 := u8s_at (rdOk_at h).1 p.toNat
  cases ((b.length : Int) == 0) with
  | true => exact ⟨Int.le_refl 0, by show (0 : Int) < n; omega⟩
  | false =>
    cases decide (p < (b.length : Int)) with
    | true =>
      rw [cond_false, cond_true, wrap_id (by omega) (by omega)]
      exact ⟨Int.tmod_nonneg _ h2.1, Int.tmod_lt_of_pos _ (by omega)⟩
    | false => exact ⟨Int.tmod_nonneg _ h1, Int.tmod_lt_of_pos _ (by omega)⟩
theorem pick_inb {α : Type} {b : List Int} {p : Int} (xs : List α) (h : rdOk b p = true) (hn : lenOk xs = true) : inb (pickV b p (xs.length : Int)) xs.length = true := by
  unfold lenOk at hn
  simp only [Bool.and_eq_true, decide_eq_true_eq] at hn
  have := pickV_in h hn.1
  unfold inb; simp only [Bool.and_eq_true, decide_eq_true_eq]; omega
theorem numV_mem {b : List Int} {p : Int} {xs : List Int} (h : rdOk b p = true) (hn : lenOk xs = true) : numV b p xs ∈ xs := by
  have h1 := pick_inb xs h hn
  unfold inb at h1
  simp only [Bool.and_eq_true, decide_eq_true_eq] at h1
  unfold numV
  rw [List.getD_eq_getElem?_getD, List.getElem?_eq_getElem (by omega)]
  exact List.getElem_mem _
theorem ofV_mem {b : List Int} {p : Int} {xs : List ByteArray} (h : rdOk b p = true) (hn : lenOk xs = true) : ofV b p xs ∈ xs := by
  have h1 := pick_inb xs h hn
  unfold inb at h1
  simp only [Bool.and_eq_true, decide_eq_true_eq] at h1
  unfold ofV
  rw [List.getD_eq_getElem?_getD, List.getElem?_eq_getElem (by omega)]
  exact List.getElem_mem _
end Go.Iv

/- What functions come to. -/
namespace Go.Iv
set_option maxRecDepth 4000
noncomputable def m86 : List RC → List AV → CTP
  | [.fc (.list (.int .u8) b), .fc (.sc (.int .i64 p))], [.one (.sc (.int .i64 n))] => (.br (rdOk b p && (decide (1 ≤ n) && decide (n ≤ 1000000))) (.ret (.one (.one (.fc (.sc (.int .i64 (pickV b p n)))))) [.fc (.list (.int .u8) (b)), .fc (.sc (.int .i64 (p + 1)))]) .no)
  | _, _ => .no
/-! 86: (*spec.l13Rd).pick -/
def T86 (N : Nat) (b : List Int) (p : Int) (n : Int) : Option (RV × List RC) :=
  (bif (decide (n < (1 : Int))) then
  some (.one (.one (.fc (.sc (.int .i64 (0 : Int))))), [.fc (.list (.int .u8) b), .fc (.sc (.int .i64 (IntKind.i64.wrap (p + (1 : Int)))))])
  else
  (bif (((b).length : Int) == (0 : Int)) then
    some (.one (.one (.fc (.sc (.int .i64 (0 : Int))))), [.fc (.list (.int .u8) b), .fc (.sc (.int .i64 (IntKind.i64.wrap (p + (1 : Int)))))])
    else
    (bif (decide ((IntKind.i64.wrap ((IntKind.i64.wrap (p + (1 : Int))) - (1 : Int))) < ((b).length : Int))) then
      (bif (inb (IntKind.i64.wrap ((IntKind.i64.wrap (p + (1 : Int))) - (1 : Int))) (b).length) then
        (bif (n != 0) then
          some (.one (.one (.fc (.sc (.int .i64 ((IntKind.i64.wrap ((b).getD ((IntKind.i64.wrap ((IntKind.i64.wrap (p + (1 : Int))) - (1 : Int)))).toNat (0 : Int))).tmod n))))), [.fc (.list (.int .u8) b), .fc (.sc (.int .i64 (IntKind.i64.wrap (p + (1 : Int)))))])
          else none)
        else none)
      else
      (bif (((b).length : Int) != 0) then
        (bif (inb ((IntKind.i64.wrap ((IntKind.i64.wrap (p + (1 : Int))) - (1 : Int))).tmod ((b).length : Int)) (b).length) then
          (bif (((b).length : Int) != 0) then
            (bif (inb ((IntKind.i64.wrap ((IntKind.i64.wrap ((IntKind.i64.wrap ((IntKind.i64.wrap (p + (1 : Int))) - (1 : Int))) * (7 : Int))) + (3 : Int))).tmod ((b).length : Int)) (b).length) then
              (bif (((b).length : Int) != 0) then
                (bif (n != 0) then
                  some (.one (.one (.fc (.sc (.int .i64 ((bitsI .i64 (· ^^^ ·) (IntKind.i64.wrap ((IntKind.i64.wrap ((IntKind.i64.wrap ((IntKind.i64.wrap ((IntKind.i64.wrap ((b).getD (((IntKind.i64.wrap ((IntKind.i64.wrap (p + (1 : Int))) - (1 : Int))).tmod ((b).length : Int))).toNat (0 : Int))) * (131 : Int))) + (IntKind.i64.wrap ((IntKind.i64.wrap ((b).getD (((IntKind.i64.wrap ((IntKind.i64.wrap ((IntKind.i64.wrap ((IntKind.i64.wrap (p + (1 : Int))) - (1 : Int))) * (7 : Int))) + (3 : Int))).tmod ((b).length : Int))).toNat (0 : Int))) * (1117 : Int))))) + (IntKind.i64.wrap ((IntKind.i64.wrap ((IntKind.i64.wrap (p + (1 : Int))) - (1 : Int))) * (29 : Int))))) + (IntKind.i64.wrap ((IntKind.i64.wrap ((IntKind.i64.wrap ((IntKind.i64.wrap (p + (1 : Int))) - (1 : Int))).tdiv ((b).length : Int))) * (53 : Int))))) (IntKind.i64.wrap ((IntKind.i64.wrap ((IntKind.i64.wrap ((IntKind.i64.wrap ((IntKind.i64.wrap ((IntKind.i64.wrap ((b).getD (((IntKind.i64.wrap ((IntKind.i64.wrap (p + (1 : Int))) - (1 : Int))).tmod ((b).length : Int))).toNat (0 : Int))) * (131 : Int))) + (IntKind.i64.wrap ((IntKind.i64.wrap ((b).getD (((IntKind.i64.wrap ((IntKind.i64.wrap ((IntKind.i64.wrap ((IntKind.i64.wrap (p + (1 : Int))) - (1 : Int))) * (7 : Int))) + (3 : Int))).tmod ((b).length : Int))).toNat (0 : Int))) * (1117 : Int))))) + (IntKind.i64.wrap ((IntKind.i64.wrap ((IntKind.i64.wrap (p + (1 : Int))) - (1 : Int))) * (29 : Int))))) + (IntKind.i64.wrap ((IntKind.i64.wrap ((IntKind.i64.wrap ((IntKind.i64.wrap (p + (1 : Int))) - (1 : Int))).tdiv ((b).length : Int))) * (53 : Int))))).tdiv (64 : Int)))).tmod n))))), [.fc (.list (.int .u8) b), .fc (.sc (.int .i64 (IntKind.i64.wrap (p + (1 : Int)))))])
                  else none)
                else none)
              else none)
            else none)
          else none)
        else none))))
noncomputable def m85 : List RC → List AV → CTP
  | [.fc (.list (.int .u8) b), .fc (.sc (.int .i64 p))], [.one (.list (.int .i64) xs)] => (.br (rdOk b p && lenOk xs) (.ret (.one (.one (.fc (.sc (.int .i64 (numV b p xs)))))) [.fc (.list (.int .u8) (b)), .fc (.sc (.int .i64 (p + 1)))]) .no)
  | _, _ => .no
/-! 85: (*spec.l13Rd).num -/
def T85 (N : Nat) (b : List Int) (p : Int) (xs : List Int) : Option (RV × List RC) :=
  (bif (rdOk b p && (decide (1 ≤ ((xs).length : Int)) && decide (((xs).length : Int) ≤ 1000000))) then
  (bif (inb (pickV b p ((xs).length : Int)) (xs).length) then
    some (.one (.one (.fc (.sc (.int .i64 ((xs).getD ((pickV b p ((xs).length : Int))).toNat (0 : Int)))))), [.fc (.list (.int .u8) (b)), .fc (.sc (.int .i64 (p + 1)))])
    else none)
  else none)
noncomputable def m68 : List RC → List AV → CTP
  | [.fc (.list (.int .u8) b), .fc (.sc (.int .i64 p))], [.one (.list .str xs)] => (.br (rdOk b p && lenOk xs) (.ret (.one (.one (.fc (.sc (.string (ofV b p xs)))))) [.fc (.list (.int .u8) (b)), .fc (.sc (.int .i64 (p + 1)))]) .no)
  | _, _ => .no
/-! 68: (*spec.l13Rd).of -/
def T68 (N : Nat) (b : List Int) (p : Int) (xs : List ByteArray) : Option (RV × List RC) :=
  (bif (rdOk b p && (decide (1 ≤ ((xs).length : Int)) && decide (((xs).length : Int) ≤ 1000000))) then
  (bif (inb (pickV b p ((xs).length : Int)) (xs).length) then
    some (.one (.one (.fc (.sc (.string ((xs).getD ((pickV b p ((xs).length : Int))).toNat (⟨#[]⟩ : ByteArray)))))), [.fc (.list (.int .u8) (b)), .fc (.sc (.int .i64 (p + 1)))])
    else none)
  else none)
noncomputable def m65 : List AV → Option (List FC)
  | [.one (.list (.int .u8) c)] => some [.list (.int .u8) (c.take 2000), .sc (.int .i64 (0 : Int))]
  | _ => none
/-! 65: spec.l13Open -/
def T65 (N : Nat) (c : List Int) : Option (List FC) :=
  (bif (decide (((c).length : Int) > (2000 : Int))) then
  (bif (cutOk c.length none (some (2000 : Int))) then
    some [.list (.int .u8) (cutL c none (some (2000 : Int))), .sc (.int .i64 (0 : Int))]
    else none)
  else
  some [.list (.int .u8) c, .sc (.int .i64 (0 : Int))])
noncomputable def m88 : List RC → List AV → CTP
  | [.fc (.list (.int .u8) b), .fc (.sc (.int .i64 p))], [] => (.br (rdOk b p && decide (p ≤ 900000)) (.ret (.one (.agg [.fc (.sc (.string (ofV b p fromL))), .buf .str 9 (drawTo b p), .buf .str 9 (drawLs b p)])) [.fc (.list (.int .u8) (b)), .fc (.sc (.int .i64 (drawP b p)))]) .no)
  | _, _ => .no
/-! 88: spec.l10DrawMail -/
def L88_0_0 {R : Type} : Nat → Int → ByteArray → ByteArray → List ByteArray → List ByteArray → List Int → Int → (ByteArray → ByteArray → List ByteArray → List ByteArray → List Int → Int → Option R) → Option R
  | 0, _, _, _, _, _, _, _, _ => none
  | n + 1, x0, x1, x2, x3, x4, x5, x6, k0 => (bif (decide (x0 > (0 : Int))) then
    (bif (rdOk x5 x6 && lenOk ([(⟨#[98, 111, 98, 64, 121, 46, 111, 114, 103]⟩ : ByteArray), (⟨#[99, 121, 64, 120, 46, 111, 114, 103]⟩ : ByteArray), (⟨#[66, 111, 98, 64, 121, 46, 111, 114, 103]⟩ : ByteArray)] : List ByteArray)) then
      (bif (Nat.ble (x3.length + 1) 1099511627776) then
        (L88_0_0 n (IntKind.i64.wrap (x0 - (1 : Int))) x1 x2 (x3 ++ ([(ofV x5 x6 ([(⟨#[98, 111, 98, 64, 121, 46, 111, 114, 103]⟩ : ByteArray), (⟨#[99, 121, 64, 120, 46, 111, 114, 103]⟩ : ByteArray), (⟨#[66, 111, 98, 64, 121, 46, 111, 114, 103]⟩ : ByteArray)] : List ByteArray))] : List ByteArray)) x4 (x5) (x6 + 1) k0)
        else none)
      else none)
    else
    (k0 x1 x2 x3 x4 x5 x6))
def L88_2_0 {R : Type} : Nat → Int → ByteArray → ByteArray → List ByteArray → List ByteArray → List Int → Int → (ByteArray → ByteArray → List ByteArray → List ByteArray → List Int → Int → Option R) → Option R
  | 0, _, _, _, _, _, _, _, _ => none
  | n + 1, x0, x1, x2, x3, x4, x5, x6, k0 => (bif (decide (x0 > (0 : Int))) then
    (bif (rdOk x5 x6 && lenOk ([(⟨#[83, 117, 98, 106, 101, 99, 116, 58, 32, 120]⟩ : ByteArray), (⟨#[]⟩ : ByteArray), (⟨#[116, 101, 120, 116]⟩ : ByteArray), (⟨#[46]⟩ : ByteArray), (⟨#[46, 97]⟩ : ByteArray), (⟨#[82, 101, 99, 101, 105, 118, 101, 100, 58, 32, 98, 121, 32, 104]⟩ : ByteArray)] : List ByteArray)) then
      (bif (Nat.ble (x4.length + 1) 1099511627776) then
        (L88_2_0 n (IntKind.i64.wrap (x0 - (1 : Int))) x1 x2 x3 (x4 ++ ([(ofV x5 x6 ([(⟨#[83, 117, 98, 106, 101, 99, 116, 58, 32, 120]⟩ : ByteArray), (⟨#[]⟩ : ByteArray), (⟨#[116, 101, 120, 116]⟩ : ByteArray), (⟨#[46]⟩ : ByteArray), (⟨#[46, 97]⟩ : ByteArray), (⟨#[82, 101, 99, 101, 105, 118, 101, 100, 58, 32, 98, 121, 32, 104]⟩ : ByteArray)] : List ByteArray))] : List ByteArray)) (x5) (x6 + 1) k0)
        else none)
      else none)
    else
    (k0 x1 x2 x3 x4 x5 x6))
def T88 (N : Nat) (b : List Int) (p : Int) : Option (RV × List RC) :=
  (bif (rdOk b p && lenOk ([(⟨#[97, 110, 110, 64, 120, 46, 111, 114, 103]⟩ : ByteArray), (⟨#[]⟩ : ByteArray), (⟨#[98, 46, 99, 64, 100, 46, 101]⟩ : ByteArray)] : List ByteArray)) then
  (bif (rdOk (b) (p + 1) && lenOk ([(⟨#[98, 111, 98, 64, 121, 46, 111, 114, 103]⟩ : ByteArray), (⟨#[97, 110, 110, 64, 120, 46, 111, 114, 103]⟩ : ByteArray)] : List ByteArray)) then
    (bif (rdOk ((b)) ((p + 1) + 1) && (decide (1 ≤ (3 : Int)) && decide ((3 : Int) ≤ 1000000))) then
      (L88_0_0 N (pickV ((b)) ((p + 1) + 1) (3 : Int)) (⟨#[]⟩ : ByteArray) (ofV b p ([(⟨#[97, 110, 110, 64, 120, 46, 111, 114, 103]⟩ : ByteArray), (⟨#[]⟩ : ByteArray), (⟨#[98, 46, 99, 64, 100, 46, 101]⟩ : ByteArray)] : List ByteArray)) ([(ofV (b) (p + 1) ([(⟨#[98, 111, 98, 64, 121, 46, 111, 114, 103]⟩ : ByteArray), (⟨#[97, 110, 110, 64, 120, 46, 111, 114, 103]⟩ : ByteArray)] : List ByteArray))] : List ByteArray) ([] : List ByteArray) (((b))) (((p + 1) + 1) + 1)
        (fun (z1_0 : ByteArray) (z1_1 : ByteArray) (z1_2 : List ByteArray) (z1_3 : List ByteArray) (z1_4 : List Int) (z1_5 : Int) => (bif (rdOk z1_4 z1_5 && lenOk ([(2 : Int), (3 : Int), (1 : Int), (0 : Int)] : List Int)) then
          (L88_2_0 N (numV z1_4 z1_5 ([(2 : Int), (3 : Int), (1 : Int), (0 : Int)] : List Int)) z1_0 z1_1 z1_2 z1_3 (z1_4) (z1_5 + 1)
            (fun (z2_0 : ByteArray) (z2_1 : ByteArray) (z2_2 : List ByteArray) (z2_3 : List ByteArray) (z2_4 : List Int) (z2_5 : Int) => some (.one (.agg [.fc (.sc (.string z2_1)), .buf .str 9 z2_2, .buf .str 9 z2_3]), [.fc (.list (.int .u8) z2_4), .fc (.sc (.int .i64 z2_5))])))
          else none)))
      else none)
    else none)
  else none)
noncomputable def m90 : List RC → List AV → CTP
  | [.fc (.list (.int .u8) b), .fc (.sc (.int .i64 p))], [.agg [.sc (.string f), .list .str to, .list .str ls]] => (.br (rdOk b p && decide (p ≤ 900000) && bigM f to ls) (.ret (.one (.agg [.fc (.sc (.string (wrongF b p f))), .buf .str 9 (wrongT b p to), .buf .str 9 (wrongL b p ls)])) [.fc (.list (.int .u8) (b)), .fc (.sc (.int .i64 (wrongP b p)))]) .no)
  | _, _ => .no
/-! 90: spec.l10WrongMail -/
def T90 (N : Nat) (b : List Int) (p : Int) (f : ByteArray) (to : List ByteArray) (ls : List ByteArray) : Option (RV × List RC) :=
  (bif (bigM f to ls) then
  (bif (rdOk b p && (decide (1 ≤ (20 : Int)) && decide ((20 : Int) ≤ 1000000))) then
    (bif ((pickV b p (20 : Int)) == (0 : Int)) then
      (bif (rdOk (b) (p + 1) && lenOk ([(⟨#[120]⟩ : ByteArray), (⟨#[97, 64, 66]⟩ : ByteArray), (⟨#[60, 62]⟩ : ByteArray)] : List ByteArray)) then
        some (.one (.agg [.fc (.sc (.string (ofV (b) (p + 1) ([(⟨#[120]⟩ : ByteArray), (⟨#[97, 64, 66]⟩ : ByteArray), (⟨#[60, 62]⟩ : ByteArray)] : List ByteArray)))), .buf .str 9 (to), .buf .str 9 (ls)]), [.fc (.list (.int .u8) ((b))), .fc (.sc (.int .i64 ((p + 1) + 1)))])
        else none)
      else
      (bif ((pickV b p (20 : Int)) == (1 : Int)) then
        some (.one (.agg [.fc (.sc (.string (f))), .buf .str 9 ([] : List ByteArray), .buf .str 9 (ls)]), [.fc (.list (.int .u8) (b)), .fc (.sc (.int .i64 (p + 1)))])
        else
        (bif ((pickV b p (20 : Int)) == (2 : Int)) then
          (bif (Nat.ble ((ls).length + 1) 1099511627776) then
            some (.one (.agg [.fc (.sc (.string (f))), .buf .str 9 (to), .buf .str 9 ((ls) ++ ([(⟨#[10]⟩ : ByteArray)] : List ByteArray))]), [.fc (.list (.int .u8) (b)), .fc (.sc (.int .i64 (p + 1)))])
            else none)
          else
          some (.one (.agg [.fc (.sc (.string (f))), .buf .str 9 (to), .buf .str 9 (ls)]), [.fc (.list (.int .u8) (b)), .fc (.sc (.int .i64 (p + 1)))]))))
    else none)
  else none)
noncomputable def m181 : List AV → CT
  | [.one (.sc (.int .i64 t)), .one (.sc (.int .i64 z))] => (.br (decide (0 ≤ t) && decide (t ≤ 5000000000) && decide (-1000 ≤ z) && decide (z ≤ 1000)) (.ret (.multi [.agg [.fc (.sc (.int .i64 ((dateOf t z).y))), .fc (.sc (.int .i64 ((dateOf t z).mo))), .fc (.sc (.int .i64 ((dateOf t z).da))), .fc (.sc (.int .i64 ((dateOf t z).h))), .fc (.sc (.int .i64 ((dateOf t z).mi))), .fc (.sc (.int .i64 ((dateOf t z).s))), .fc (.sc (.int .i64 ((dateOf t z).z)))], .one (.fc (.sc (.bool (dateOfOk t z))))])) .no)
  | _ => .no
/-! 181: spec.DateOf -/
def L181_0_0 {R : Type} : Nat → Int → Int → Int → Int → Int → Int → Int → Int → Int → Int → Int → Int → Int → Int → Int → (Int → Int → Int → Int → Int → Int → Int → Int → Int → Int → Int → Int → Int → Int → Int → Option R) → Option R
  | 0, _, _, _, _, _, _, _, _, _, _, _, _, _, _, _, _ => none
  | n + 1, x0, x1, x2, x3, x4, x5, x6, x7, x8, x9, x10, x11, x12, x13, x14, k0 => (bif (decide (x0 ≥ (daysOf x8 x9))) then
    (bif ((IntKind.i64.wrap (x9 + (1 : Int))) == (13 : Int)) then
      (L181_0_0 n (IntKind.i64.wrap (x0 - (daysOf x8 x9))) x1 x2 x3 x4 x5 x6 x7 (IntKind.i64.wrap (x8 + (1 : Int))) (1 : Int) x10 x11 x12 x13 x14 k0)
      else
      (L181_0_0 n (IntKind.i64.wrap (x0 - (daysOf x8 x9))) x1 x2 x3 x4 x5 x6 x7 x8 (IntKind.i64.wrap (x9 + (1 : Int))) x10 x11 x12 x13 x14 k0))
    else
    (k0 x0 x1 x2 x3 x4 x5 x6 x7 x8 x9 x10 x11 x12 x13 x14))
def T181 (N : Nat) (t : Int) (z : Int) : Option RV :=
  (bif (decide (t < (0 : Int))) then
  some (.multi [.agg [.fc (.sc (.int .i64 (0 : Int))), .fc (.sc (.int .i64 (0 : Int))), .fc (.sc (.int .i64 (0 : Int))), .fc (.sc (.int .i64 (0 : Int))), .fc (.sc (.int .i64 (0 : Int))), .fc (.sc (.int .i64 (0 : Int))), .fc (.sc (.int .i64 (0 : Int)))], .one (.fc (.sc (.bool false)))])
  else
  (bif (decide (t ≥ (4102444800 : Int))) then
    some (.multi [.agg [.fc (.sc (.int .i64 (0 : Int))), .fc (.sc (.int .i64 (0 : Int))), .fc (.sc (.int .i64 (0 : Int))), .fc (.sc (.int .i64 (0 : Int))), .fc (.sc (.int .i64 (0 : Int))), .fc (.sc (.int .i64 (0 : Int))), .fc (.sc (.int .i64 (0 : Int)))], .one (.fc (.sc (.bool false)))])
    else
    (bif (!(decide (-720 ≤ z) && decide (z ≤ 840))) then
      some (.multi [.agg [.fc (.sc (.int .i64 (0 : Int))), .fc (.sc (.int .i64 (0 : Int))), .fc (.sc (.int .i64 (0 : Int))), .fc (.sc (.int .i64 (0 : Int))), .fc (.sc (.int .i64 (0 : Int))), .fc (.sc (.int .i64 (0 : Int))), .fc (.sc (.int .i64 (0 : Int)))], .one (.fc (.sc (.bool false)))])
      else
      (bif (decide ((IntKind.i64.wrap (t + (IntKind.i64.wrap (z * (60 : Int))))) < (0 : Int))) then
        some (.multi [.agg [.fc (.sc (.int .i64 (0 : Int))), .fc (.sc (.int .i64 (0 : Int))), .fc (.sc (.int .i64 (0 : Int))), .fc (.sc (.int .i64 (0 : Int))), .fc (.sc (.int .i64 (0 : Int))), .fc (.sc (.int .i64 (0 : Int))), .fc (.sc (.int .i64 (0 : Int)))], .one (.fc (.sc (.bool false)))])
        else
        (bif (decide ((IntKind.i64.wrap (t + (IntKind.i64.wrap (z * (60 : Int))))) ≥ (4102444800 : Int))) then
          some (.multi [.agg [.fc (.sc (.int .i64 (0 : Int))), .fc (.sc (.int .i64 (0 : Int))), .fc (.sc (.int .i64 (0 : Int))), .fc (.sc (.int .i64 (0 : Int))), .fc (.sc (.int .i64 (0 : Int))), .fc (.sc (.int .i64 (0 : Int))), .fc (.sc (.int .i64 (0 : Int)))], .one (.fc (.sc (.bool false)))])
          else
          (L181_0_0 N (IntKind.i64.wrap ((IntKind.i64.wrap (t + (IntKind.i64.wrap (z * (60 : Int))))).tdiv (86400 : Int))) (0 : Int) (0 : Int) (0 : Int) (0 : Int) (0 : Int) (0 : Int) (0 : Int) (1970 : Int) (1 : Int) (0 : Int) (IntKind.i64.wrap (((IntKind.i64.wrap (t + (IntKind.i64.wrap (z * (60 : Int))))).tmod (86400 : Int)).tdiv (3600 : Int))) ((IntKind.i64.wrap (((IntKind.i64.wrap (t + (IntKind.i64.wrap (z * (60 : Int))))).tmod (86400 : Int)).tdiv (60 : Int))).tmod (60 : Int)) (((IntKind.i64.wrap (t + (IntKind.i64.wrap (z * (60 : Int))))).tmod (86400 : Int)).tmod (60 : Int)) z
            (fun (z1_0 : Int) (z1_1 : Int) (z1_2 : Int) (z1_3 : Int) (z1_4 : Int) (z1_5 : Int) (z1_6 : Int) (z1_7 : Int) (z1_8 : Int) (z1_9 : Int) (z1_10 : Int) (z1_11 : Int) (z1_12 : Int) (z1_13 : Int) (z1_14 : Int) => some (.multi [.agg [.fc (.sc (.int .i64 z1_8)), .fc (.sc (.int .i64 z1_9)), .fc (.sc (.int .i64 (IntKind.i64.wrap (z1_0 + (1 : Int))))), .fc (.sc (.int .i64 z1_11)), .fc (.sc (.int .i64 z1_12)), .fc (.sc (.int .i64 z1_13)), .fc (.sc (.int .i64 z1_14))], .one (.fc (.sc (.bool true)))]))))))))
noncomputable def m92 : List RC → List AV → CTP
  | [.fc (.list (.int .u8) b), .fc (.sc (.int .i64 p))], [] => (.br (rdOk b p && decide (p ≤ 900000)) (.ret (.one (.agg [.fc (.sc (.int .i64 ((drawD b p).y))), .fc (.sc (.int .i64 ((drawD b p).mo))), .fc (.sc (.int .i64 ((drawD b p).da))), .fc (.sc (.int .i64 ((drawD b p).h))), .fc (.sc (.int .i64 ((drawD b p).mi))), .fc (.sc (.int .i64 ((drawD b p).s))), .fc (.sc (.int .i64 ((drawD b p).z)))])) [.fc (.list (.int .u8) (b)), .fc (.sc (.int .i64 (p + 3)))]) .no)
  | _, _ => .no
/-! 92: spec.l4Draw -/
def T92 (N : Nat) (b : List Int) (p : Int) : Option (RV × List RC) :=
  (bif (rdOk b p && lenOk ([(1767596889 : Int), (951782400 : Int), (86400 : Int), (1000000000 : Int), (4102358400 : Int), (1709164800 : Int), (1709251199 : Int)] : List Int)) then
  (bif (rdOk (b) (p + 1) && (decide (1 ≤ (100000 : Int)) && decide ((100000 : Int) ≤ 1000000))) then
    (bif (rdOk ((b)) ((p + 1) + 1) && lenOk ([(0 : Int), (60 : Int), (-480 : Int), (330 : Int), (0 : Int), (840 : Int), (-720 : Int)] : List Int)) then
      (bif (decide (0 ≤ (IntKind.i64.wrap ((numV b p ([(1767596889 : Int), (951782400 : Int), (86400 : Int), (1000000000 : Int), (4102358400 : Int), (1709164800 : Int), (1709251199 : Int)] : List Int)) + (pickV (b) (p + 1) (100000 : Int))))) && decide ((IntKind.i64.wrap ((numV b p ([(1767596889 : Int), (951782400 : Int), (86400 : Int), (1000000000 : Int), (4102358400 : Int), (1709164800 : Int), (1709251199 : Int)] : List Int)) + (pickV (b) (p + 1) (100000 : Int)))) ≤ 5000000000) && decide (-1000 ≤ (numV ((b)) ((p + 1) + 1) ([(0 : Int), (60 : Int), (-480 : Int), (330 : Int), (0 : Int), (840 : Int), (-720 : Int)] : List Int))) && decide ((numV ((b)) ((p + 1) + 1) ([(0 : Int), (60 : Int), (-480 : Int), (330 : Int), (0 : Int), (840 : Int), (-720 : Int)] : List Int)) ≤ 1000)) then
        some (.one (.agg [.fc (.sc (.int .i64 ((dateOf (IntKind.i64.wrap ((numV b p ([(1767596889 : Int), (951782400 : Int), (86400 : Int), (1000000000 : Int), (4102358400 : Int), (1709164800 : Int), (1709251199 : Int)] : List Int)) + (pickV (b) (p + 1) (100000 : Int)))) (numV ((b)) ((p + 1) + 1) ([(0 : Int), (60 : Int), (-480 : Int), (330 : Int), (0 : Int), (840 : Int), (-720 : Int)] : List Int))).y))), .fc (.sc (.int .i64 ((dateOf (IntKind.i64.wrap ((numV b p ([(1767596889 : Int), (951782400 : Int), (86400 : Int), (1000000000 : Int), (4102358400 : Int), (1709164800 : Int), (1709251199 : Int)] : List Int)) + (pickV (b) (p + 1) (100000 : Int)))) (numV ((b)) ((p + 1) + 1) ([(0 : Int), (60 : Int), (-480 : Int), (330 : Int), (0 : Int), (840 : Int), (-720 : Int)] : List Int))).mo))), .fc (.sc (.int .i64 ((dateOf (IntKind.i64.wrap ((numV b p ([(1767596889 : Int), (951782400 : Int), (86400 : Int), (1000000000 : Int), (4102358400 : Int), (1709164800 : Int), (1709251199 : Int)] : List Int)) + (pickV (b) (p + 1) (100000 : Int)))) (numV ((b)) ((p + 1) + 1) ([(0 : Int), (60 : Int), (-480 : Int), (330 : Int), (0 : Int), (840 : Int), (-720 : Int)] : List Int))).da))), .fc (.sc (.int .i64 ((dateOf (IntKind.i64.wrap ((numV b p ([(1767596889 : Int), (951782400 : Int), (86400 : Int), (1000000000 : Int), (4102358400 : Int), (1709164800 : Int), (1709251199 : Int)] : List Int)) + (pickV (b) (p + 1) (100000 : Int)))) (numV ((b)) ((p + 1) + 1) ([(0 : Int), (60 : Int), (-480 : Int), (330 : Int), (0 : Int), (840 : Int), (-720 : Int)] : List Int))).h))), .fc (.sc (.int .i64 ((dateOf (IntKind.i64.wrap ((numV b p ([(1767596889 : Int), (951782400 : Int), (86400 : Int), (1000000000 : Int), (4102358400 : Int), (1709164800 : Int), (1709251199 : Int)] : List Int)) + (pickV (b) (p + 1) (100000 : Int)))) (numV ((b)) ((p + 1) + 1) ([(0 : Int), (60 : Int), (-480 : Int), (330 : Int), (0 : Int), (840 : Int), (-720 : Int)] : List Int))).mi))), .fc (.sc (.int .i64 ((dateOf (IntKind.i64.wrap ((numV b p ([(1767596889 : Int), (951782400 : Int), (86400 : Int), (1000000000 : Int), (4102358400 : Int), (1709164800 : Int), (1709251199 : Int)] : List Int)) + (pickV (b) (p + 1) (100000 : Int)))) (numV ((b)) ((p + 1) + 1) ([(0 : Int), (60 : Int), (-480 : Int), (330 : Int), (0 : Int), (840 : Int), (-720 : Int)] : List Int))).s))), .fc (.sc (.int .i64 ((dateOf (IntKind.i64.wrap ((numV b p ([(1767596889 : Int), (951782400 : Int), (86400 : Int), (1000000000 : Int), (4102358400 : Int), (1709164800 : Int), (1709251199 : Int)] : List Int)) + (pickV (b) (p + 1) (100000 : Int)))) (numV ((b)) ((p + 1) + 1) ([(0 : Int), (60 : Int), (-480 : Int), (330 : Int), (0 : Int), (840 : Int), (-720 : Int)] : List Int))).z)))]), [.fc (.list (.int .u8) (((b)))), .fc (.sc (.int .i64 (((p + 1) + 1) + 1)))])
        else none)
      else none)
    else none)
  else none)
noncomputable def m91 : List RC → List AV → CTP
  | [.fc (.list (.int .u8) b), .fc (.sc (.int .i64 p))], [.agg [.sc (.int .i64 y), .sc (.int .i64 mo), .sc (.int .i64 da), .sc (.int .i64 h), .sc (.int .i64 mi), .sc (.int .i64 s), .sc (.int .i64 z)]] => (.br (rdOk b p && decide (p ≤ 900000)) (.ret (.one (.agg [.fc (.sc (.int .i64 ((wrongD b p y mo da h mi s z).y))), .fc (.sc (.int .i64 ((wrongD b p y mo da h mi s z).mo))), .fc (.sc (.int .i64 ((wrongD b p y mo da h mi s z).da))), .fc (.sc (.int .i64 ((wrongD b p y mo da h mi s z).h))), .fc (.sc (.int .i64 ((wrongD b p y mo da h mi s z).mi))), .fc (.sc (.int .i64 ((wrongD b p y mo da h mi s z).s))), .fc (.sc (.int .i64 ((wrongD b p y mo da h mi s z).z)))])) [.fc (.list (.int .u8) (b)), .fc (.sc (.int .i64 (wrongQ b p)))]) .no)
  | _, _ => .no
/-! 91: spec.l4Wrong -/
def T91 (N : Nat) (b : List Int) (p : Int) (y : Int) (mo : Int) (da : Int) (h : Int) (mi : Int) (s : Int) (z : Int) : Option (RV × List RC) :=
  (bif (rdOk b p && (decide (1 ≤ (24 : Int)) && decide ((24 : Int) ≤ 1000000))) then
  (bif ((pickV b p (24 : Int)) == (0 : Int)) then
    (bif (rdOk (b) (p + 1) && lenOk ([(0 : Int), (31 : Int), (32 : Int), (29 : Int), (30 : Int)] : List Int)) then
      some (.one (.agg [.fc (.sc (.int .i64 y)), .fc (.sc (.int .i64 mo)), .fc (.sc (.int .i64 (numV (b) (p + 1) ([(0 : Int), (31 : Int), (32 : Int), (29 : Int), (30 : Int)] : List Int)))), .fc (.sc (.int .i64 h)), .fc (.sc (.int .i64 mi)), .fc (.sc (.int .i64 s)), .fc (.sc (.int .i64 z))]), [.fc (.list (.int .u8) ((b))), .fc (.sc (.int .i64 ((p + 1) + 1)))])
      else none)
    else
    (bif ((pickV b p (24 : Int)) == (1 : Int)) then
      (bif (rdOk (b) (p + 1) && lenOk ([(0 : Int), (13 : Int), (2 : Int)] : List Int)) then
        some (.one (.agg [.fc (.sc (.int .i64 y)), .fc (.sc (.int .i64 (numV (b) (p + 1) ([(0 : Int), (13 : Int), (2 : Int)] : List Int)))), .fc (.sc (.int .i64 da)), .fc (.sc (.int .i64 h)), .fc (.sc (.int .i64 mi)), .fc (.sc (.int .i64 s)), .fc (.sc (.int .i64 z))]), [.fc (.list (.int .u8) ((b))), .fc (.sc (.int .i64 ((p + 1) + 1)))])
        else none)
      else
      (bif ((pickV b p (24 : Int)) == (2 : Int)) then
        (bif (rdOk (b) (p + 1) && lenOk ([(1969 : Int), (2100 : Int), (1970 : Int), (2099 : Int)] : List Int)) then
          some (.one (.agg [.fc (.sc (.int .i64 (numV (b) (p + 1) ([(1969 : Int), (2100 : Int), (1970 : Int), (2099 : Int)] : List Int)))), .fc (.sc (.int .i64 mo)), .fc (.sc (.int .i64 da)), .fc (.sc (.int .i64 h)), .fc (.sc (.int .i64 mi)), .fc (.sc (.int .i64 s)), .fc (.sc (.int .i64 z))]), [.fc (.list (.int .u8) ((b))), .fc (.sc (.int .i64 ((p + 1) + 1)))])
          else none)
        else
        (bif ((pickV b p (24 : Int)) == (3 : Int)) then
          (bif (rdOk (b) (p + 1) && lenOk ([(24 : Int), (-1 : Int), (0 : Int), (23 : Int)] : List Int)) then
            some (.one (.agg [.fc (.sc (.int .i64 y)), .fc (.sc (.int .i64 mo)), .fc (.sc (.int .i64 da)), .fc (.sc (.int .i64 (numV (b) (p + 1) ([(24 : Int), (-1 : Int), (0 : Int), (23 : Int)] : List Int)))), .fc (.sc (.int .i64 mi)), .fc (.sc (.int .i64 s)), .fc (.sc (.int .i64 z))]), [.fc (.list (.int .u8) ((b))), .fc (.sc (.int .i64 ((p + 1) + 1)))])
            else none)
          else
          (bif ((pickV b p (24 : Int)) == (4 : Int)) then
            (bif (rdOk (b) (p + 1) && lenOk ([(-721 : Int), (841 : Int), (840 : Int)] : List Int)) then
              some (.one (.agg [.fc (.sc (.int .i64 y)), .fc (.sc (.int .i64 mo)), .fc (.sc (.int .i64 da)), .fc (.sc (.int .i64 h)), .fc (.sc (.int .i64 mi)), .fc (.sc (.int .i64 s)), .fc (.sc (.int .i64 (numV (b) (p + 1) ([(-721 : Int), (841 : Int), (840 : Int)] : List Int))))]), [.fc (.list (.int .u8) ((b))), .fc (.sc (.int .i64 ((p + 1) + 1)))])
              else none)
            else
            (bif ((pickV b p (24 : Int)) == (5 : Int)) then
              (bif (rdOk (b) (p + 1) && lenOk ([(60 : Int), (-1 : Int)] : List Int)) then
                some (.one (.agg [.fc (.sc (.int .i64 y)), .fc (.sc (.int .i64 mo)), .fc (.sc (.int .i64 da)), .fc (.sc (.int .i64 h)), .fc (.sc (.int .i64 mi)), .fc (.sc (.int .i64 (numV (b) (p + 1) ([(60 : Int), (-1 : Int)] : List Int)))), .fc (.sc (.int .i64 z))]), [.fc (.list (.int .u8) ((b))), .fc (.sc (.int .i64 ((p + 1) + 1)))])
                else none)
              else
              some (.one (.agg [.fc (.sc (.int .i64 y)), .fc (.sc (.int .i64 mo)), .fc (.sc (.int .i64 da)), .fc (.sc (.int .i64 h)), .fc (.sc (.int .i64 mi)), .fc (.sc (.int .i64 s)), .fc (.sc (.int .i64 z))]), [.fc (.list (.int .u8) (b)), .fc (.sc (.int .i64 (p + 1)))])))))))
  else none)
noncomputable def m27 : List AV → CT
  | [.one (.list (.int .u8) c)] => (.br (u8s c) (.ret (.multi [.agg [.fc (.sc (.string ((drawTM c).f))), .buf .str 9 ((drawTM c).to), .buf .str 9 ((drawTM c).ls)], .one (.fc (.sc (.string ((drawTM c).host)))), .agg [.fc (.sc (.int .i64 (((drawTM c).d).y))), .fc (.sc (.int .i64 (((drawTM c).d).mo))), .fc (.sc (.int .i64 (((drawTM c).d).da))), .fc (.sc (.int .i64 (((drawTM c).d).h))), .fc (.sc (.int .i64 (((drawTM c).d).mi))), .fc (.sc (.int .i64 (((drawTM c).d).s))), .fc (.sc (.int .i64 (((drawTM c).d).z)))]])) .no)
  | _ => .no
/-! 27: spec.DrawTraceMail -/
mutual
def L27_0_0 {R : Type} : Nat → Int → ByteArray → Int → Int → Int → Int → Int → Int → Int → ByteArray → Int → Int → Int → Int → Int → Int → Int → List Int → Int → List ByteArray → List ByteArray → (ByteArray → Int → Int → Int → Int → Int → Int → Int → ByteArray → Int → Int → Int → Int → Int → Int → Int → List Int → Int → List ByteArray → List ByteArray → Option R) → (ByteArray → Int → Int → Int → Int → Int → Int → Int → ByteArray → Int → Int → Int → Int → Int → Int → Int → List Int → Int → List ByteArray → List ByteArray → List ByteArray → Option R) → Option R
  | 0, _, _, _, _, _, _, _, _, _, _, _, _, _, _, _, _, _, _, _, _, _, _, _ => none
  | n + 1, x0, x1, x2, x3, x4, x5, x6, x7, x8, x9, x10, x11, x12, x13, x14, x15, x16, x17, x18, x19, x20, k0, k1 => (bif (decide (x0 > (0 : Int))) then
    (bif (Nat.ble (1 + x20.length) 1099511627776) then
      (L27_0_1 n (IntKind.i64.wrap (x0 - (1 : Int))) x1 x2 x3 x4 x5 x6 x7 x8 x9 x10 x11 x12 x13 x14 x15 x16 x17 x18 (([(⟨#[114, 101, 99, 101, 105, 118, 101, 100, 58, 32, 98, 121, 32, 120]⟩ : ByteArray)] : List ByteArray) ++ x20) x19 x20 k0 k1)
      else none)
    else
    (k0 x1 x2 x3 x4 x5 x6 x7 x8 x9 x10 x11 x12 x13 x14 x15 x16 x17 x18 x19 x20))
def L27_0_1 {R : Type} : Nat → Int → ByteArray → Int → Int → Int → Int → Int → Int → Int → ByteArray → Int → Int → Int → Int → Int → Int → Int → List Int → Int → List ByteArray → List ByteArray → List ByteArray → (ByteArray → Int → Int → Int → Int → Int → Int → Int → ByteArray → Int → Int → Int → Int → Int → Int → Int → List Int → Int → List ByteArray → List ByteArray → Option R) → (ByteArray → Int → Int → Int → Int → Int → Int → Int → ByteArray → Int → Int → Int → Int → Int → Int → Int → List Int → Int → List ByteArray → List ByteArray → List ByteArray → Option R) → Option R
  | 0, _, _, _, _, _, _, _, _, _, _, _, _, _, _, _, _, _, _, _, _, _, _, _, _ => none
  | n + 1, x0, x1, x2, x3, x4, x5, x6, x7, x8, x9, x10, x11, x12, x13, x14, x15, x16, x17, x18, x19, x20, x21, k0, k1 => (bif (decide (x0 > (0 : Int))) then
    (bif (Nat.ble (1 + x19.length) 1099511627776) then
      (L27_0_1 n (IntKind.i64.wrap (x0 - (1 : Int))) x1 x2 x3 x4 x5 x6 x7 x8 x9 x10 x11 x12 x13 x14 x15 x16 x17 x18 (([(⟨#[114, 101, 99, 101, 105, 118, 101, 100, 58, 32, 98, 121, 32, 120]⟩ : ByteArray)] : List ByteArray) ++ x19) x20 x21 k0 k1)
      else none)
    else
    (k1 x1 x2 x3 x4 x5 x6 x7 x8 x9 x10 x11 x12 x13 x14 x15 x16 x17 x18 x19 x20 x21))
end
def T27 (N : Nat) (c : List Int) : Option RV :=
  (bif (rdOk ((c.take 2000)) (0 : Int) && decide ((0 : Int) ≤ 900000)) then
  (bif (rdOk (((c.take 2000))) (drawP ((c.take 2000)) (0 : Int)) && decide ((drawP ((c.take 2000)) (0 : Int)) ≤ 900000) && bigM (ofV ((c.take 2000)) (0 : Int) fromL) (drawTo ((c.take 2000)) (0 : Int)) (drawLs ((c.take 2000)) (0 : Int))) then
    (bif (rdOk ((((c.take 2000)))) (wrongP (((c.take 2000))) (drawP ((c.take 2000)) (0 : Int))) && decide ((wrongP (((c.take 2000))) (drawP ((c.take 2000)) (0 : Int))) ≤ 900000)) then
      (bif (rdOk (((((c.take 2000))))) ((wrongP (((c.take 2000))) (drawP ((c.take 2000)) (0 : Int))) + 3) && decide (((wrongP (((c.take 2000))) (drawP ((c.take 2000)) (0 : Int))) + 3) ≤ 900000)) then
        (bif (rdOk ((((((c.take 2000)))))) (wrongQ (((((c.take 2000))))) ((wrongP (((c.take 2000))) (drawP ((c.take 2000)) (0 : Int))) + 3)) && lenOk ([(0 : Int), (1 : Int), (4 : Int), (5 : Int)] : List Int)) then
          (L27_0_0 N (numV ((((((c.take 2000)))))) (wrongQ (((((c.take 2000))))) ((wrongP (((c.take 2000))) (drawP ((c.take 2000)) (0 : Int))) + 3)) ([(0 : Int), (1 : Int), (4 : Int), (5 : Int)] : List Int)) (⟨#[]⟩ : ByteArray) (0 : Int) (0 : Int) (0 : Int) (0 : Int) (0 : Int) (0 : Int) (0 : Int) (wrongF (((c.take 2000))) (drawP ((c.take 2000)) (0 : Int)) (ofV ((c.take 2000)) (0 : Int) fromL)) ((wrongD (((((c.take 2000))))) ((wrongP (((c.take 2000))) (drawP ((c.take 2000)) (0 : Int))) + 3) ((drawD ((((c.take 2000)))) (wrongP (((c.take 2000))) (drawP ((c.take 2000)) (0 : Int)))).y) ((drawD ((((c.take 2000)))) (wrongP (((c.take 2000))) (drawP ((c.take 2000)) (0 : Int)))).mo) ((drawD ((((c.take 2000)))) (wrongP (((c.take 2000))) (drawP ((c.take 2000)) (0 : Int)))).da) ((drawD ((((c.take 2000)))) (wrongP (((c.take 2000))) (drawP ((c.take 2000)) (0 : Int)))).h) ((drawD ((((c.take 2000)))) (wrongP (((c.take 2000))) (drawP ((c.take 2000)) (0 : Int)))).mi) ((drawD ((((c.take 2000)))) (wrongP (((c.take 2000))) (drawP ((c.take 2000)) (0 : Int)))).s) ((drawD ((((c.take 2000)))) (wrongP (((c.take 2000))) (drawP ((c.take 2000)) (0 : Int)))).z)).y) ((wrongD (((((c.take 2000))))) ((wrongP (((c.take 2000))) (drawP ((c.take 2000)) (0 : Int))) + 3) ((drawD ((((c.take 2000)))) (wrongP (((c.take 2000))) (drawP ((c.take 2000)) (0 : Int)))).y) ((drawD ((((c.take 2000)))) (wrongP (((c.take 2000))) (drawP ((c.take 2000)) (0 : Int)))).mo) ((drawD ((((c.take 2000)))) (wrongP (((c.take 2000))) (drawP ((c.take 2000)) (0 : Int)))).da) ((drawD ((((c.take 2000)))) (wrongP (((c.take 2000))) (drawP ((c.take 2000)) (0 : Int)))).h) ((drawD ((((c.take 2000)))) (wrongP (((c.take 2000))) (drawP ((c.take 2000)) (0 : Int)))).mi) ((drawD ((((c.take 2000)))) (wrongP (((c.take 2000))) (drawP ((c.take 2000)) (0 : Int)))).s) ((drawD ((((c.take 2000)))) (wrongP (((c.take 2000))) (drawP ((c.take 2000)) (0 : Int)))).z)).mo) ((wrongD (((((c.take 2000))))) ((wrongP (((c.take 2000))) (drawP ((c.take 2000)) (0 : Int))) + 3) ((drawD ((((c.take 2000)))) (wrongP (((c.take 2000))) (drawP ((c.take 2000)) (0 : Int)))).y) ((drawD ((((c.take 2000)))) (wrongP (((c.take 2000))) (drawP ((c.take 2000)) (0 : Int)))).mo) ((drawD ((((c.take 2000)))) (wrongP (((c.take 2000))) (drawP ((c.take 2000)) (0 : Int)))).da) ((drawD ((((c.take 2000)))) (wrongP (((c.take 2000))) (drawP ((c.take 2000)) (0 : Int)))).h) ((drawD ((((c.take 2000)))) (wrongP (((c.take 2000))) (drawP ((c.take 2000)) (0 : Int)))).mi) ((drawD ((((c.take 2000)))) (wrongP (((c.take 2000))) (drawP ((c.take 2000)) (0 : Int)))).s) ((drawD ((((c.take 2000)))) (wrongP (((c.take 2000))) (drawP ((c.take 2000)) (0 : Int)))).z)).da) ((wrongD (((((c.take 2000))))) ((wrongP (((c.take 2000))) (drawP ((c.take 2000)) (0 : Int))) + 3) ((drawD ((((c.take 2000)))) (wrongP (((c.take 2000))) (drawP ((c.take 2000)) (0 : Int)))).y) ((drawD ((((c.take 2000)))) (wrongP (((c.take 2000))) (drawP ((c.take 2000)) (0 : Int)))).mo) ((drawD ((((c.take 2000)))) (wrongP (((c.take 2000))) (drawP ((c.take 2000)) (0 : Int)))).da) ((drawD ((((c.take 2000)))) (wrongP (((c.take 2000))) (drawP ((c.take 2000)) (0 : Int)))).h) ((drawD ((((c.take 2000)))) (wrongP (((c.take 2000))) (drawP ((c.take 2000)) (0 : Int)))).mi) ((drawD ((((c.take 2000)))) (wrongP (((c.take 2000))) (drawP ((c.take 2000)) (0 : Int)))).s) ((drawD ((((c.take 2000)))) (wrongP (((c.take 2000))) (drawP ((c.take 2000)) (0 : Int)))).z)).h) ((wrongD (((((c.take 2000))))) ((wrongP (((c.take 2000))) (drawP ((c.take 2000)) (0 : Int))) + 3) ((drawD ((((c.take 2000)))) (wrongP (((c.take 2000))) (drawP ((c.take 2000)) (0 : Int)))).y) ((drawD ((((c.take 2000)))) (wrongP (((c.take 2000))) (drawP ((c.take 2000)) (0 : Int)))).mo) ((drawD ((((c.take 2000)))) (wrongP (((c.take 2000))) (drawP ((c.take 2000)) (0 : Int)))).da) ((drawD ((((c.take 2000)))) (wrongP (((c.take 2000))) (drawP ((c.take 2000)) (0 : Int)))).h) ((drawD ((((c.take 2000)))) (wrongP (((c.take 2000))) (drawP ((c.take 2000)) (0 : Int)))).mi) ((drawD ((((c.take 2000)))) (wrongP (((c.take 2000))) (drawP ((c.take 2000)) (0 : Int)))).s) ((drawD ((((c.take 2000)))) (wrongP (((c.take 2000))) (drawP ((c.take 2000)) (0 : Int)))).z)).mi) ((wrongD (((((c.take 2000))))) ((wrongP (((c.take 2000))) (drawP ((c.take 2000)) (0 : Int))) + 3) ((drawD ((((c.take 2000)))) (wrongP (((c.take 2000))) (drawP ((c.take 2000)) (0 : Int)))).y) ((drawD ((((c.take 2000)))) (wrongP (((c.take 2000))) (drawP ((c.take 2000)) (0 : Int)))).mo) ((drawD ((((c.take 2000)))) (wrongP (((c.take 2000))) (drawP ((c.take 2000)) (0 : Int)))).da) ((drawD ((((c.take 2000)))) (wrongP (((c.take 2000))) (drawP ((c.take 2000)) (0 : Int)))).h) ((drawD ((((c.take 2000)))) (wrongP (((c.take 2000))) (drawP ((c.take 2000)) (0 : Int)))).mi) ((drawD ((((c.take 2000)))) (wrongP (((c.take 2000))) (drawP ((c.take 2000)) (0 : Int)))).s) ((drawD ((((c.take 2000)))) (wrongP (((c.take 2000))) (drawP ((c.take 2000)) (0 : Int)))).z)).s) ((wrongD (((((c.take 2000))))) ((wrongP (((c.take 2000))) (drawP ((c.take 2000)) (0 : Int))) + 3) ((drawD ((((c.take 2000)))) (wrongP (((c.take 2000))) (drawP ((c.take 2000)) (0 : Int)))).y) ((drawD ((((c.take 2000)))) (wrongP (((c.take 2000))) (drawP ((c.take 2000)) (0 : Int)))).mo) ((drawD ((((c.take 2000)))) (wrongP (((c.take 2000))) (drawP ((c.take 2000)) (0 : Int)))).da) ((drawD ((((c.take 2000)))) (wrongP (((c.take 2000))) (drawP ((c.take 2000)) (0 : Int)))).h) ((drawD ((((c.take 2000)))) (wrongP (((c.take 2000))) (drawP ((c.take 2000)) (0 : Int)))).mi) ((drawD ((((c.take 2000)))) (wrongP (((c.take 2000))) (drawP ((c.take 2000)) (0 : Int)))).s) ((drawD ((((c.take 2000)))) (wrongP (((c.take 2000))) (drawP ((c.take 2000)) (0 : Int)))).z)).z) (((((((c.take 2000))))))) ((wrongQ (((((c.take 2000))))) ((wrongP (((c.take 2000))) (drawP ((c.take 2000)) (0 : Int))) + 3)) + 1) (wrongT (((c.take 2000))) (drawP ((c.take 2000)) (0 : Int)) (drawTo ((c.take 2000)) (0 : Int))) (wrongL (((c.take 2000))) (drawP ((c.take 2000)) (0 : Int)) (drawLs ((c.take 2000)) (0 : Int)))
            (fun (z1_0 : ByteArray) (z1_1 : Int) (z1_2 : Int) (z1_3 : Int) (z1_4 : Int) (z1_5 : Int) (z1_6 : Int) (z1_7 : Int) (z1_8 : ByteArray) (z1_9 : Int) (z1_10 : Int) (z1_11 : Int) (z1_12 : Int) (z1_13 : Int) (z1_14 : Int) (z1_15 : Int) (z1_16 : List Int) (z1_17 : Int) (z1_18 : List ByteArray) (z1_19 : List ByteArray) => (bif (rdOk z1_16 z1_17 && lenOk ([(⟨#[120, 46, 111, 114, 103]⟩ : ByteArray), (⟨#[114, 101, 108, 97, 121, 46, 101, 120, 97, 109, 112, 108, 101]⟩ : ByteArray), (⟨#[88]⟩ : ByteArray), (⟨#[]⟩ : ByteArray)] : List ByteArray)) then
              some (.multi [.agg [.fc (.sc (.string z1_8)), .buf .str 9 z1_18, .buf .str 9 z1_19], .one (.fc (.sc (.string (ofV z1_16 z1_17 ([(⟨#[120, 46, 111, 114, 103]⟩ : ByteArray), (⟨#[114, 101, 108, 97, 121, 46, 101, 120, 97, 109, 112, 108, 101]⟩ : ByteArray), (⟨#[88]⟩ : ByteArray), (⟨#[]⟩ : ByteArray)] : List ByteArray))))), .agg [.fc (.sc (.int .i64 z1_9)), .fc (.sc (.int .i64 z1_10)), .fc (.sc (.int .i64 z1_11)), .fc (.sc (.int .i64 z1_12)), .fc (.sc (.int .i64 z1_13)), .fc (.sc (.int .i64 z1_14)), .fc (.sc (.int .i64 z1_15))]])
              else none))
            (fun (z2_0 : ByteArray) (z2_1 : Int) (z2_2 : Int) (z2_3 : Int) (z2_4 : Int) (z2_5 : Int) (z2_6 : Int) (z2_7 : Int) (z2_8 : ByteArray) (z2_9 : Int) (z2_10 : Int) (z2_11 : Int) (z2_12 : Int) (z2_13 : Int) (z2_14 : Int) (z2_15 : Int) (z2_16 : List Int) (z2_17 : Int) (z2_18 : List ByteArray) (z2_19 : List ByteArray) (z2_20 : List ByteArray) => (bif (rdOk z2_16 z2_17 && lenOk ([(⟨#[120, 46, 111, 114, 103]⟩ : ByteArray), (⟨#[114, 101, 108, 97, 121, 46, 101, 120, 97, 109, 112, 108, 101]⟩ : ByteArray), (⟨#[88]⟩ : ByteArray), (⟨#[]⟩ : ByteArray)] : List ByteArray)) then
              some (.multi [.agg [.fc (.sc (.string z2_8)), .buf .str 9 z2_19, .buf .str 9 z2_18], .one (.fc (.sc (.string (ofV z2_16 z2_17 ([(⟨#[120, 46, 111, 114, 103]⟩ : ByteArray), (⟨#[114, 101, 108, 97, 121, 46, 101, 120, 97, 109, 112, 108, 101]⟩ : ByteArray), (⟨#[88]⟩ : ByteArray), (⟨#[]⟩ : ByteArray)] : List ByteArray))))), .agg [.fc (.sc (.int .i64 z2_9)), .fc (.sc (.int .i64 z2_10)), .fc (.sc (.int .i64 z2_11)), .fc (.sc (.int .i64 z2_12)), .fc (.sc (.int .i64 z2_13)), .fc (.sc (.int .i64 z2_14)), .fc (.sc (.int .i64 z2_15))]])
              else none)))
          else none)
        else none)
      else none)
    else none)
  else none)
end Go.Iv

/- Plain laws of the drawing functions. -/
namespace Go.Iv
set_option maxRecDepth 4000
theorem br_valP {c : Bool} {a : CTP} {res : RV × List RC} (h : (CTP.br c a .no).val = some res) : c = true ∧ a.val = some res := by
  cases c with
  | true => exact ⟨rfl, h⟩
  | false => cases h
theorem pl65 : ∀ (c : List Int) res, m65 [.one (.list (.int .u8) c)] = some res → ∃ N, T65 N c = some res := by
  intro c res h
  cases h
  refine ⟨0, ?_⟩
  unfold T65
  by_cases hl : (c.length : Int) > 2000
  · rw [decide_eq_true hl, cond_true]
    rw [show cutOk c.length none (some (2000 : Int)) = true from by show (decide ((0 : Int) ≤ 2000) && decide ((2000 : Int) ≤ (c.length : Int))) = true; simp only [Bool.and_eq_true, decide_eq_true_eq]; omega]; rfl
  · rw [decide_eq_false hl, cond_false, List.take_of_length_le (by omega)]
theorem pl86 : ∀ (b : List Int) (p : Int) (n : Int) res out, (m86 [.fc (.list (.int .u8) b), .fc (.sc (.int .i64 p))] [.one (.sc (.int .i64 n))]).val = some (res, out) → ∃ N, T86 N b p n = some (res, out) := by
  intro b p n res out h
  obtain ⟨h1, h2⟩ := br_valP h
  cases h2
  simp only [Bool.and_eq_true, decide_eq_true_eq] at h1
  obtain ⟨hr, hn1, hn2⟩ := h1
  obtain ⟨hu, hl, h0, hp⟩ := rdOk_at hr
  refine ⟨0, ?_⟩
  have hq : IntKind.i64.wrap (IntKind.i64.wrap (p + 1) - 1) = p := by rw [wrap_id (i := p + 1) (by omega) (by omega), wrap_id (by omega) (by omega)]; omega
  have hnn : (n != 0) = true := bne_t (by omega)
  unfold T86
  simp only [hq]
  rw [decide_eq_false (show ¬ n < 1 by omega), cond_false, hnn, wrap_id (i := p + 1) (by omega) (by omega)]
  unfold pickV mixV mixU
  cases he : ((b.length : Int) == 0) with
  | true => rfl
  | false =>
    have hb : (b.length : Int) ≠ 0 := by simpa using he
    rw [cond_false, bne_t hb]
    by_cases hlt : p < (b.length : Int)
    · rw [decide_eq_true hlt, show inb p b.length = true from by unfold inb; simp only [Bool.and_eq_true, decide_eq_true_eq]; omega]; rfl
    · have hin : ∀ x : Int, 0 ≤ x → inb (x.tmod (b.length : Int)) b.length = true := fun x hx => by
        have h1 := Int.tmod_nonneg (b.length : Int) hx
        have h2 := Int.tmod_lt_of_pos x (show (0 : Int) < b.length by omega)
        unfold inb; simp only [Bool.and_eq_true, decide_eq_true_eq]; omega
      rw [decide_eq_false hlt, hin p h0, hin (IntKind.i64.wrap (IntKind.i64.wrap (p * 7) + 3)) (by rw [wrap_id (i := p * 7) (by omega) (by omega), wrap_id (by omega) (by omega)]; omega)]
      rfl
theorem lenOk_c {α : Type} (xs : List α) : (decide (1 ≤ ((xs).length : Int)) && decide (((xs).length : Int) ≤ 1000000)) = lenOk xs := rfl
theorem pl85 : ∀ (b : List Int) (p : Int) (xs : List Int) res out, (m85 [.fc (.list (.int .u8) b), .fc (.sc (.int .i64 p))] [.one (.list (.int .i64) xs)]).val = some (res, out) → ∃ N, T85 N b p xs = some (res, out) := by
  intro b p xs res out h
  obtain ⟨h1, h2⟩ := br_valP h
  cases h2
  simp only [Bool.and_eq_true] at h1
  refine ⟨0, ?_⟩
  unfold T85
  rw [lenOk_c, h1.1, h1.2, pick_inb xs h1.1 h1.2]; rfl
theorem pl68 : ∀ (b : List Int) (p : Int) (xs : List ByteArray) res out, (m68 [.fc (.list (.int .u8) b), .fc (.sc (.int .i64 p))] [.one (.list .str xs)]).val = some (res, out) → ∃ N, T68 N b p xs = some (res, out) := by
  intro b p xs res out h
  obtain ⟨h1, h2⟩ := br_valP h
  cases h2
  simp only [Bool.and_eq_true] at h1
  refine ⟨0, ?_⟩
  unfold T68
  rw [lenOk_c, h1.1, h1.2, pick_inb xs h1.1 h1.2]; rfl
theorem L88a {R : Type} (K : ByteArray → ByteArray → List ByteArray → List ByteArray → List Int → Int → Option R) (x1 x2 : ByteArray) (x4 : List ByteArray) (b : List Int) : ∀ (k n : Nat) (x3 : List ByteArray) (q : Int), rdOk b q = true → q + k ≤ 1000000 → x3.length + k ≤ 1000 → k < n →
    L88_0_0 n (k : Int) x1 x2 x3 x4 b q K = K x1 x2 (x3 ++ drawN toL b k q) x4 b (q + k) := by
  intro k
  induction k with
  | zero =>
    intro n x3 q h1 h2 h3 h4
    obtain ⟨n, rfl⟩ : ∃ m, n = m + 1 := ⟨n - 1, by omega⟩
    rw [L88_0_0, decide_eq_false (show ¬ ((0 : Nat) : Int) > 0 by omega), cond_false, drawN, List.append_nil]
    congr 1; omega
  | succ k ih =>
    intro n x3 q h1 h2 h3 h4
    obtain ⟨n, rfl⟩ : ∃ m, n = m + 1 := ⟨n - 1, by omega⟩
    obtain ⟨hu, hl, h0, hp⟩ := rdOk_at h1
    have hr : rdOk b (q + 1) = true := rdOk_of h1 (by omega) (by omega)
    rw [L88_0_0, decide_eq_true (show ((k + 1 : Nat) : Int) > 0 by omega), cond_true, h1, show Nat.ble (x3.length + 1) 1099511627776 = true from Nat.ble_eq_true_of_le (by omega), wrap_id (i := ((k + 1 : Nat) : Int) - 1) (by omega) (by omega), show ((k + 1 : Nat) : Int) - 1 = (k : Int) by omega]
    refine (ih n _ (q + 1) hr (by omega) (by rw [List.length_append]; show x3.length + 1 + k ≤ 1000; omega) (by omega)).trans ?_
    rw [drawN, List.append_assoc, show q + 1 + (k : Int) = q + ((k + 1 : Nat) : Int) by omega]; rfl
theorem L88b {R : Type} (K : ByteArray → ByteArray → List ByteArray → List ByteArray → List Int → Int → Option R) (x1 x2 : ByteArray) (x3 : List ByteArray) (b : List Int) : ∀ (k n : Nat) (x4 : List ByteArray) (q : Int), rdOk b q = true → q + k ≤ 1000000 → x4.length + k ≤ 1000 → k < n →
    L88_2_0 n (k : Int) x1 x2 x3 x4 b q K = K x1 x2 x3 (x4 ++ drawN lsL b k q) b (q + k) := by
  intro k
  induction k with
  | zero =>
    intro n x3 q h1 h2 h3 h4
    obtain ⟨n, rfl⟩ : ∃ m, n = m + 1 := ⟨n - 1, by omega⟩
    rw [L88_2_0, decide_eq_false (show ¬ ((0 : Nat) : Int) > 0 by omega), cond_false, drawN, List.append_nil]
    congr 1; omega
  | succ k ih =>
    intro n x4 q h1 h2 h3 h4
    obtain ⟨n, rfl⟩ : ∃ m, n = m + 1 := ⟨n - 1, by omega⟩
    obtain ⟨hu, hl, h0, hp⟩ := rdOk_at h1
    have hr : rdOk b (q + 1) = true := rdOk_of h1 (by omega) (by omega)
    rw [L88_2_0, decide_eq_true (show ((k + 1 : Nat) : Int) > 0 by omega), cond_true, h1, show Nat.ble (x4.length + 1) 1099511627776 = true from Nat.ble_eq_true_of_le (by omega), wrap_id (i := ((k + 1 : Nat) : Int) - 1) (by omega) (by omega), show ((k + 1 : Nat) : Int) - 1 = (k : Int) by omega]
    refine (ih n _ (q + 1) hr (by omega) (by rw [List.length_append]; show x4.length + 1 + k ≤ 1000; omega) (by omega)).trans ?_
    rw [drawN, List.append_assoc, show q + 1 + (k : Int) = q + ((k + 1 : Nat) : Int) by omega]; rfl
theorem nLs_le {b : List Int} {p : Int} (h : rdOk b (drawP3 b p) = true) : (numV b (drawP3 b p) [2, 3, 1, 0]) = (nLs b p : Int) ∧ nLs b p ≤ 3 := by
  have h1 := numV_mem (xs := [2, 3, 1, 0]) h rfl
  unfold nLs
  simp only [List.mem_cons, List.not_mem_nil, or_false] at h1
  omega
theorem nTo_le {b : List Int} {p : Int} (h : rdOk b (p + 1 + 1) = true) : pickV b (p + 1 + 1) 3 = (nTo b p : Int) ∧ nTo b p ≤ 2 := by
  have h1 := pickV_in (n := 3) h (by decide)
  unfold nTo
  omega
theorem pl88 : ∀ (b : List Int) (p : Int) res out, (m88 [.fc (.list (.int .u8) b), .fc (.sc (.int .i64 p))] []).val = some (res, out) → ∃ N, T88 N b p = some (res, out) := by
  intro b p res out h
  obtain ⟨h1, h2⟩ := br_valP h
  cases h2
  simp only [Bool.and_eq_true, decide_eq_true_eq] at h1
  obtain ⟨hr, hp9⟩ := h1
  obtain ⟨hu, hl, h0, hp⟩ := rdOk_at hr
  have r1 : rdOk b (p + 1) = true := rdOk_of hr (by omega) (by omega)
  have r2 : rdOk b (p + 1 + 1) = true := rdOk_of hr (by omega) (by omega)
  obtain ⟨e1, l1⟩ := nTo_le r2
  have r3 : rdOk b (drawP3 b p) = true := rdOk_of hr (by unfold drawP3; omega) (by unfold drawP3; omega)
  obtain ⟨e2, l2⟩ := nLs_le r3
  have hd3 : drawP3 b p = p + 1 + 1 + 1 + (nTo b p : Int) := rfl
  refine ⟨10, ?_⟩
  unfold T88
  rw [hr, r1, r2, e1]
  refine (L88a _ _ _ _ b (nTo b p) 10 _ (p + 1 + 1 + 1) (rdOk_of hr (by omega) (by omega)) (by omega) (by show 1 + _ ≤ 1000; omega) (by omega)).trans ?_
  rw [← hd3, r3, e2]
  refine (L88b _ _ _ _ b (nLs b p) 10 _ (drawP3 b p + 1) (rdOk_of hr (by omega) (by omega)) (by omega) (by show 0 + _ ≤ 1000; omega) (by omega)).trans ?_
  rfl

theorem pl90 : ∀ (b : List Int) (p : Int) (f : ByteArray) (to : List ByteArray) (ls : List ByteArray) res out, (m90 [.fc (.list (.int .u8) b), .fc (.sc (.int .i64 p))] [.agg [.sc (.string f), .list .str to, .list .str ls]]).val = some (res, out) → ∃ N, T90 N b p f to ls = some (res, out) := by
  intro b p f to ls res out h
  obtain ⟨h1, h2⟩ := br_valP h
  cases h2
  simp only [Bool.and_eq_true, decide_eq_true_eq] at h1
  obtain ⟨⟨hr, hp9⟩, hm⟩ := h1
  obtain ⟨hu, hl, h0, hp⟩ := rdOk_at hr
  have r1 : rdOk b (p + 1) = true := rdOk_of hr (by omega) (by omega)
  have hll : ls.length ≤ 2147483648 := by
    have := (bigM_at hm).2.2
    unfold allBig at this; simp only [Bool.and_eq_true, decide_eq_true_eq] at this; exact this.1
  refine ⟨0, ?_⟩
  unfold T90 wrongF wrongT wrongL wrongP
  rw [hm, hr, r1, show Nat.ble (ls.length + 1) 1099511627776 = true from Nat.ble_eq_true_of_le (by omega)]
  generalize pickV b p 20 = k
  by_cases k0 : k = 0
  · subst k0; rfl
  rw [beq_f k0]
  by_cases k1 : k = 1
  · subst k1; rfl
  rw [beq_f k1]
  by_cases k2 : k = 2
  · subst k2; rfl
  rw [beq_f k2]; rfl
theorem pl91 : ∀ (b : List Int) (p : Int) (y : Int) (mo : Int) (da : Int) (h : Int) (mi : Int) (s : Int) (z : Int) res out, (m91 [.fc (.list (.int .u8) b), .fc (.sc (.int .i64 p))] [.agg [.sc (.int .i64 y), .sc (.int .i64 mo), .sc (.int .i64 da), .sc (.int .i64 h), .sc (.int .i64 mi), .sc (.int .i64 s), .sc (.int .i64 z)]]).val = some (res, out) → ∃ N, T91 N b p y mo da h mi s z = some (res, out) := by
  intro b p y mo da h mi s z res out hh
  obtain ⟨h1, h2⟩ := br_valP hh
  cases h2
  simp only [Bool.and_eq_true, decide_eq_true_eq] at h1
  obtain ⟨hr, hp9⟩ := h1
  obtain ⟨hu, hl, h0, hp⟩ := rdOk_at hr
  have r1 : rdOk b (p + 1) = true := rdOk_of hr (by omega) (by omega)
  have hk := (pickV_in (n := 24) hr (by decide)).1
  refine ⟨0, ?_⟩
  unfold T91 wrongD wrongQ
  rw [hr, r1]
  generalize pickV b p 24 = k at *
  by_cases k0 : k = 0
  · subst k0; rfl
  rw [beq_f k0]
  by_cases k1 : k = 1
  · subst k1; rfl
  rw [beq_f k1]
  by_cases k2 : k = 2
  · subst k2; rfl
  rw [beq_f k2]
  by_cases k3 : k = 3
  · subst k3; rfl
  rw [beq_f k3]
  by_cases k4 : k = 4
  · subst k4; rfl
  rw [beq_f k4]
  by_cases k5 : k = 5
  · subst k5; rfl
  rw [beq_f k5, decide_eq_false (show ¬ k ≤ 5 by omega)]; rfl
theorem years_all : yearsTo 130 = 47482 := by kernel_rfl
theorem L181_eq {R : Type} (K : Int → Int → Int → Int → Int → Int → Int → Int → Int → Int → Int → Int → Int → Int → Int → Option R) (x1 x2 x3 x4 x5 x6 x7 x10 x11 x12 x13 x14 : Int) (D : Int) (hD : D < 47482) : ∀ (k n a b : Nat) (d : Int), 0 ≤ d → d + yearsTo a + monthsTo (1970 + (a : Int)) b = D → a < 130 → b < 12 → 1560 ≤ k + (a * 12 + b) → k < n →
    L181_0_0 n d x1 x2 x3 x4 x5 x6 x7 (1970 + (a : Int)) ((b : Int) + 1) x10 x11 x12 x13 x14 K =
      K (dayWalk k d (1970 + (a : Int)) ((b : Int) + 1)).1 x1 x2 x3 x4 x5 x6 x7 (dayWalk k d (1970 + (a : Int)) ((b : Int) + 1)).2.1 (dayWalk k d (1970 + (a : Int)) ((b : Int) + 1)).2.2 x10 x11 x12 x13 x14 := by
  intro k
  induction k with
  | zero => intro n a b d h1 h2 h3 h4 h5 h6; omega
  | succ k ih =>
    intro n a b d h1 h2 h3 h4 h5 h6
    obtain ⟨n, rfl⟩ : ∃ m, n = m + 1 := ⟨n - 1, by omega⟩
    have hm : monthsTo (1970 + (a : Int)) (b + 1) = monthsTo (1970 + (a : Int)) b + daysOf (1970 + (a : Int)) ((b : Int) + 1) := rfl
    have hy : yearsTo (a + 1) = yearsTo a + monthsTo (1970 + (a : Int)) 12 := rfl
    have hl := daysOf_le (1970 + (a : Int)) ((b : Int) + 1)
    have hyl := yearsTo_le a
    have hml := monthsTo_le (1970 + (a : Int)) b
    rw [L181_0_0, dayWalk]
    by_cases hd : d ≥ daysOf (1970 + (a : Int)) ((b : Int) + 1)
    · rw [decide_eq_true hd, cond_true, cond_true, wrap_id (i := (b : Int) + 1 + 1) (by omega) (by omega), wrap_id (i := d - daysOf (1970 + (a : Int)) ((b : Int) + 1)) (by omega) (by omega), wrap_id (i := 1970 + (a : Int) + 1) (by omega) (by omega)]
      by_cases hb : b = 11
      · subst hb
        have ha : a + 1 < 130 := by
          by_cases he : a = 129
          · subst he
            rw [show (129 + 1 : Nat) = 130 from rfl, years_all] at hy
            exfalso
            rw [show (11 + 1 : Nat) = 12 from rfl] at hm
            omega
          · omega
        have h7 := ih n (a + 1) 0 (d - daysOf (1970 + (a : Int)) (((11 : Nat) : Int) + 1)) (by omega) (by rw [hy, show monthsTo (1970 + (((a + 1 : Nat)) : Int)) 0 = 0 from rfl]; rw [show (11 + 1 : Nat) = 12 from rfl] at hm; omega) ha (by omega) (by omega) (by omega)
        rw [show 1970 + (((a + 1 : Nat)) : Int) = 1970 + (a : Int) + 1 by omega] at h7
        exact h7
      · rw [beq_f (show ¬ (b : Int) + 1 + 1 = 13 by omega), cond_false, cond_false]
        have h7 := ih n a (b + 1) (d - daysOf (1970 + (a : Int)) ((b : Int) + 1)) (by omega) (by rw [hm]; omega) h3 (by omega) (by omega) (by omega)
        rw [show ((b + 1 : Nat) : Int) + 1 = (b : Int) + 1 + 1 by omega] at h7
        exact h7
    · rw [decide_eq_false hd, cond_false, cond_false]

theorem dayWalk_in : ∀ (k : Nat) (d y m : Int), 0 ≤ d → 0 ≤ (dayWalk k d y m).1 ∧ (dayWalk k d y m).1 ≤ d
  | 0, d, y, m, h => ⟨h, Int.le_refl d⟩
  | k + 1, d, y, m, h => by
    have hl := daysOf_le y m
    rw [dayWalk]
    by_cases hd : d ≥ daysOf y m
    · rw [decide_eq_true hd, cond_true]
      cases (m + 1 == 13) with
      | true =>
        have := dayWalk_in k (d - daysOf y m) (y + 1) 1 (by omega)
        exact ⟨this.1, by have := this.2; show (dayWalk k (d - daysOf y m) (y + 1) 1).1 ≤ d; omega⟩
      | false =>
        have := dayWalk_in k (d - daysOf y m) y (m + 1) (by omega)
        exact ⟨this.1, by have := this.2; show (dayWalk k (d - daysOf y m) y (m + 1)).1 ≤ d; omega⟩
    · rw [decide_eq_false hd]; exact ⟨h, Int.le_refl d⟩
theorem pl181 : ∀ (t : Int) (z : Int) res, (m181 [.one (.sc (.int .i64 t)), .one (.sc (.int .i64 z))]).val = some res → ∃ N, T181 N t z = some res := by
  intro t z res hr
  obtain ⟨h1, h2⟩ := br_val hr
  cases h2
  simp only [Bool.and_eq_true, decide_eq_true_eq] at h1
  refine ⟨2001, ?_⟩
  unfold T181
  rw [wrap_id (i := z * 60) (by omega) (by omega), wrap_id (i := t + z * 60) (by omega) (by omega)]
  by_cases c1 : t < 0
  · rw [decide_eq_true c1, show dateOf t z = ⟨0, 0, 0, 0, 0, 0, 0⟩ from by unfold dateOf dateOfOk; rw [decide_eq_false (show ¬ 0 ≤ t by omega)]; rfl, show dateOfOk t z = false from by unfold dateOfOk; rw [decide_eq_false (show ¬ 0 ≤ t by omega)]; rfl]; rfl
  by_cases c2 : t < 4102444800
  case neg =>
    rw [decide_eq_false c1, decide_eq_true (show t ≥ 4102444800 by omega), show dateOf t z = ⟨0, 0, 0, 0, 0, 0, 0⟩ from by unfold dateOf dateOfOk; rw [decide_eq_false c2]; cases decide (0 ≤ t) <;> rfl, show dateOfOk t z = false from by unfold dateOfOk; rw [decide_eq_false c2]; cases decide (0 ≤ t) <;> rfl]; rfl
  rw [decide_eq_false c1, decide_eq_false (show ¬ t ≥ 4102444800 by omega)]
  cases c3 : (decide (-720 ≤ z) && decide (z ≤ 840)) with
  | false =>
    have e : dateOfOk t z = false := by unfold dateOfOk; rw [c3, decide_eq_true (show 0 ≤ t by omega), decide_eq_true c2]; rfl
    rw [show dateOf t z = ⟨0, 0, 0, 0, 0, 0, 0⟩ from by unfold dateOf; rw [e]; rfl, e]; rfl
  | true =>
  by_cases c4 : t + z * 60 < 0
  · have e : dateOfOk t z = false := by unfold dateOfOk; rw [c3, decide_eq_true (show 0 ≤ t by omega), decide_eq_true c2, decide_eq_false (show ¬ 0 ≤ t + z * 60 by omega)]; rfl
    rw [decide_eq_true c4, show dateOf t z = ⟨0, 0, 0, 0, 0, 0, 0⟩ from by unfold dateOf; rw [e]; rfl, e]; rfl
  by_cases c5 : t + z * 60 < 4102444800
  case neg =>
    have e : dateOfOk t z = false := by unfold dateOfOk; rw [c3, decide_eq_true (show 0 ≤ t by omega), decide_eq_true c2, decide_eq_true (show 0 ≤ t + z * 60 by omega), decide_eq_false c5]; rfl
    rw [decide_eq_false c4, decide_eq_true (show t + z * 60 ≥ 4102444800 by omega), show dateOf t z = ⟨0, 0, 0, 0, 0, 0, 0⟩ from by unfold dateOf; rw [e]; rfl, e]; rfl
  have e : dateOfOk t z = true := by unfold dateOfOk; rw [c3, decide_eq_true (show 0 ≤ t by omega), decide_eq_true c2, decide_eq_true (show 0 ≤ t + z * 60 by omega), decide_eq_true c5]; rfl
  rw [decide_eq_false c4, decide_eq_false (show ¬ t + z * 60 ≥ 4102444800 by omega), e]
  unfold dateOf
  rw [e]
  obtain ⟨q, hq⟩ : ∃ q : Nat, t + z * 60 = (q : Int) := ⟨(t + z * 60).toNat, by omega⟩
  rw [hq] at c4 c5 ⊢
  have t1 : ((q : Int)).tdiv 86400 = ((q / 86400 : Nat) : Int) := td q 86400
  have t2 : ((q : Int)).tmod 86400 = ((q % 86400 : Nat) : Int) := tm q 86400
  have t3 : (((q % 86400 : Nat) : Int)).tdiv 3600 = ((q % 86400 / 3600 : Nat) : Int) := td (q % 86400) 3600
  have t4 : (((q % 86400 : Nat) : Int)).tdiv 60 = ((q % 86400 / 60 : Nat) : Int) := td (q % 86400) 60
  simp only [Bool.not_true, cond_false, cond_true]
  rw [t1, t2, t3, t4, wrap_id (i := ((q / 86400 : Nat) : Int)) (by omega) (by omega), wrap_id (i := ((q % 86400 / 3600 : Nat) : Int)) (by omega) (by omega), wrap_id (i := ((q % 86400 / 60 : Nat) : Int)) (by omega) (by omega)]
  refine (L181_eq _ 0 0 0 0 0 0 0 0 _ _ _ _ ((q / 86400 : Nat) : Int) (by omega) 2000 2001 0 0 ((q / 86400 : Nat) : Int) (by omega) (by rw [show yearsTo 0 = 0 from rfl, show monthsTo (1970 + ((0 : Nat) : Int)) 0 = 0 from rfl]; omega) (by omega) (by omega) (by omega) (by omega)).trans ?_
  have hw := dayWalk_in 2000 ((q / 86400 : Nat) : Int) (1970 + ((0 : Nat) : Int)) (((0 : Nat) : Int) + 1) (by omega)
  rw [wrap_id (by omega) (by omega)]
  rfl
theorem pl92 : ∀ (b : List Int) (p : Int) res out, (m92 [.fc (.list (.int .u8) b), .fc (.sc (.int .i64 p))] []).val = some (res, out) → ∃ N, T92 N b p = some (res, out) := by
  intro b p res out h
  obtain ⟨h1, h2⟩ := br_valP h
  cases h2
  simp only [Bool.and_eq_true, decide_eq_true_eq] at h1
  obtain ⟨hr, hp9⟩ := h1
  obtain ⟨hu, hl, h0, hp⟩ := rdOk_at hr
  have r1 : rdOk b (p + 1) = true := rdOk_of hr (by omega) (by omega)
  have r2 : rdOk b (p + 1 + 1) = true := rdOk_of hr (by omega) (by omega)
  have m1 := numV_mem (xs := [1767596889, 951782400, 86400, 1000000000, 4102358400, 1709164800, 1709251199]) hr rfl
  have m2 := numV_mem (xs := [0, 60, -480, 330, 0, 840, -720]) r2 (by kernel_rfl)
  have m3 := pickV_in (n := 100000) r1 (by decide)
  refine ⟨0, ?_⟩
  unfold T92 drawD
  rw [hr, r1, r2]
  generalize numV b p [1767596889, 951782400, 86400, 1000000000, 4102358400, 1709164800, 1709251199] = A at *
  generalize numV b (p + 1 + 1) [0, 60, -480, 330, 0, 840, -720] = B at *
  generalize pickV b (p + 1) 100000 = C at *
  simp only [List.mem_cons, List.not_mem_nil, or_false] at m1 m2
  have g : (decide (0 ≤ IntKind.i64.wrap (A + C)) && decide (IntKind.i64.wrap (A + C) ≤ 5000000000) && decide (-1000 ≤ B) && decide (B ≤ 1000)) = true := by
    rw [wrap_id (by omega) (by omega)]
    simp only [Bool.and_eq_true, decide_eq_true_eq]
    omega
  rw [g, show p + 1 + 1 + 1 = p + 3 by omega]
  rfl

/-! ### how big a drawn mail gets -/
theorem drawN_len (xs : List ByteArray) (b : List Int) : ∀ (k : Nat) (p : Int), (drawN xs b k p).length = k
  | 0, _ => rfl
  | k + 1, p => by rw [drawN, List.length_cons, drawN_len xs b k]
theorem drawN_mem {xs : List ByteArray} {b : List Int} (hx : ∀ x ∈ xs, x.size ≤ 100) (hn : lenOk xs = true) : ∀ (k : Nat) (p : Int), rdOk b p = true → p + k ≤ 1000000 → ∀ y ∈ drawN xs b k p, y.size ≤ 100
  | 0, _, _, _, y, hy => by cases hy
  | k + 1, p, h1, h2, y, hy => by
    rw [drawN, List.mem_cons] at hy
    rcases hy with rfl | hy
    · exact hx _ (ofV_mem h1 hn)
    · exact drawN_mem hx hn k (p + 1) (rdOk_of h1 (by have := rdOk_at h1; omega) (by omega)) (by omega) y hy
theorem allBig_of {l : List ByteArray} (h : ∀ x ∈ l, x.size ≤ 100) (hl : l.length ≤ 1000) : allBig l = true := by
  unfold allBig
  rw [decide_eq_true (show l.length ≤ 2147483648 by omega), Bool.true_and, List.all_eq_true]
  intro x hx
  have := h x hx
  exact decide_eq_true (by omega)
theorem bigM_of {f : ByteArray} {to ls : List ByteArray} (h : f.size ≤ 100) (h1 : ∀ x ∈ to, x.size ≤ 100) (l1 : to.length ≤ 1000) (h2 : ∀ x ∈ ls, x.size ≤ 100) (l2 : ls.length ≤ 1000) : bigM f to ls = true := by
  unfold bigM
  rw [allBig_of h1 l1, allBig_of h2 l2, decide_eq_true (show (f.size : Int) ≤ 2147483648 by omega)]; rfl
theorem fromL_small : ∀ x ∈ fromL, x.size ≤ 100 := by decide
theorem toL1_small : ∀ x ∈ toL1, x.size ≤ 100 := by decide
theorem toL_small : ∀ x ∈ toL, x.size ≤ 100 := by decide
theorem lsL_small : ∀ x ∈ lsL, x.size ≤ 100 := by decide
theorem badL_small : ∀ x ∈ badL, x.size ≤ 100 := by decide
theorem hostL_small : ∀ x ∈ hostL, x.size ≤ 100 := by decide
theorem preN_len : ∀ (k : Nat) (l : List ByteArray), (preN k l).length = k + l.length
  | 0, l => by simp [preN]
  | k + 1, l => by rw [preN, preN_len k, List.length_append]; simp; omega
theorem preN_mem : ∀ (k : Nat) (l : List ByteArray), (∀ x ∈ l, x.size ≤ 100) → ∀ x ∈ preN k l, x.size ≤ 100
  | 0, l, h, x, hx => h x hx
  | k + 1, l, h, x, hx => preN_mem k ([rline] ++ l) (fun y hy => by
      rcases List.mem_append.1 hy with hy | hy
      · rw [List.mem_singleton.1 hy]; decide
      · exact h y hy) x hx
theorem drawP3_in {b : List Int} {p : Int} (hr : rdOk b p = true) (h9 : p ≤ 900000) : p + 3 ≤ drawP3 b p ∧ drawP3 b p ≤ p + 5 := by
  have h := rdOk_at hr
  have := nTo_le (b := b) (p := p) (rdOk_of hr (by omega) (by omega))
  unfold drawP3; omega
theorem drawP_in {b : List Int} {p : Int} (hr : rdOk b p = true) (h9 : p ≤ 900000) : p + 4 ≤ drawP b p ∧ drawP b p ≤ p + 9 := by
  have h := rdOk_at hr
  have h3 := drawP3_in hr h9
  have := nLs_le (b := b) (p := p) (rdOk_of hr (by omega) (by omega))
  unfold drawP; omega
theorem drawTo_small {b : List Int} {p : Int} (hr : rdOk b p = true) (h9 : p ≤ 900000) : (∀ x ∈ drawTo b p, x.size ≤ 100) ∧ (drawTo b p).length ≤ 3 := by
  have h := rdOk_at hr
  have hn := nTo_le (b := b) (p := p) (rdOk_of hr (by omega) (by omega))
  constructor
  · intro x hx
    rcases List.mem_append.1 hx with hx | hx
    · rw [List.mem_singleton.1 hx]; exact toL1_small _ (ofV_mem (rdOk_of hr (by omega) (by omega)) rfl)
    · exact drawN_mem toL_small rfl _ _ (rdOk_of hr (by omega) (by omega)) (by omega) x hx
  · unfold drawTo; rw [List.length_append, drawN_len]; show 1 + _ ≤ 3; omega
theorem drawLs_small {b : List Int} {p : Int} (hr : rdOk b p = true) (h9 : p ≤ 900000) : (∀ x ∈ drawLs b p, x.size ≤ 100) ∧ (drawLs b p).length ≤ 3 := by
  have h := rdOk_at hr
  have h3 := drawP3_in hr h9
  have hn := nLs_le (b := b) (p := p) (rdOk_of hr (by omega) (by omega))
  constructor
  · intro x hx
    exact drawN_mem lsL_small rfl _ _ (rdOk_of hr (by omega) (by omega)) (by omega) x hx
  · unfold drawLs; rw [List.length_append, drawN_len]; show 0 + _ ≤ 3; omega
theorem wrongP_in (b : List Int) (p : Int) : p + 1 ≤ wrongP b p ∧ wrongP b p ≤ p + 2 := by
  unfold wrongP; cases (pickV b p 20 == 0) <;> simp only [cond_true, cond_false] <;> omega
theorem wrongQ_in (b : List Int) (p : Int) : p + 1 ≤ wrongQ b p ∧ wrongQ b p ≤ p + 2 := by
  unfold wrongQ; cases decide (pickV b p 24 ≤ 5) <;> simp only [cond_true, cond_false] <;> omega
theorem wrongF_small {b : List Int} {p : Int} {f : ByteArray} (hr : rdOk b p = true) (h9 : p ≤ 900000) (hf : f.size ≤ 100) : (wrongF b p f).size ≤ 100 := by
  have h := rdOk_at hr
  unfold wrongF
  cases (pickV b p 20 == 0) with
  | true => exact badL_small _ (ofV_mem (rdOk_of hr (by omega) (by omega)) rfl)
  | false => exact hf
theorem wrongT_small {b : List Int} {p : Int} {to : List ByteArray} (h : ∀ x ∈ to, x.size ≤ 100) : (∀ x ∈ wrongT b p to, x.size ≤ 100) ∧ (wrongT b p to).length ≤ to.length := by
  unfold wrongT
  cases (pickV b p 20 == 1) with
  | true => exact ⟨(fun x hx => nomatch hx), Nat.zero_le _⟩
  | false => exact ⟨h, Nat.le_refl _⟩
theorem wrongL_small {b : List Int} {p : Int} {ls : List ByteArray} (h : ∀ x ∈ ls, x.size ≤ 100) : (∀ x ∈ wrongL b p ls, x.size ≤ 100) ∧ (wrongL b p ls).length ≤ ls.length + 1 := by
  unfold wrongL
  cases (pickV b p 20 == 2) with
  | true => exact ⟨fun x hx => by
      rcases List.mem_append.1 hx with hx | hx
      · exact h x hx
      · rw [List.mem_singleton.1 hx]; decide, by rw [cond_true, List.length_append]; exact Nat.le_refl _⟩
  | false => exact ⟨h, Nat.le_succ _⟩
theorem u8s_take {c : List Int} (h : u8s c = true) (n : Nat) : u8s (c.take n) = true := by
  unfold u8s at *
  rw [List.all_eq_true] at *
  exact fun x hx => h x (List.mem_of_mem_take hx)
theorem rd0 {c : List Int} (h : u8s c = true) {p : Int} (h0 : 0 ≤ p) (h1 : p ≤ 1000000) : rdOk (c.take 2000) p = true := by
  unfold rdOk; rw [u8s_take h, decide_eq_true (show (c.take 2000).length ≤ 2000 by rw [List.length_take]; omega), decide_eq_true h0, decide_eq_true h1]; rfl
theorem TM_small {c : List Int} (h : u8s c = true) : (drawTM c).f.size ≤ 100 ∧ (∀ x ∈ (drawTM c).to, x.size ≤ 100) ∧ (drawTM c).to.length ≤ 3 ∧ (∀ x ∈ (drawTM c).ls, x.size ≤ 100) ∧ (drawTM c).ls.length ≤ 9 ∧ (drawTM c).host.size ≤ 100 := by
  have r0 : rdOk (c.take 2000) 0 = true := rd0 h (by decide) (by decide)
  have a1 := drawP_in r0 (by decide)
  have r1 : rdOk (c.take 2000) (drawP (c.take 2000) 0) = true := rd0 h (by omega) (by omega)
  have a2 := wrongP_in (c.take 2000) (drawP (c.take 2000) 0)
  have a3 := wrongQ_in (c.take 2000) (wrongP (c.take 2000) (drawP (c.take 2000) 0) + 3)
  have r4 : rdOk (c.take 2000) (wrongQ (c.take 2000) (wrongP (c.take 2000) (drawP (c.take 2000) 0) + 3)) = true := rd0 h (by omega) (by omega)
  have hk := numV_mem (xs := [0, 1, 4, 5]) r4 rfl
  simp only [List.mem_cons, List.not_mem_nil, or_false] at hk
  have t := drawTo_small r0 (by decide)
  have l := drawLs_small r0 (by decide)
  have t2 := wrongT_small (b := c.take 2000) (p := drawP (c.take 2000) 0) t.1
  have l2 := wrongL_small (b := c.take 2000) (p := drawP (c.take 2000) 0) l.1
  refine ⟨wrongF_small r1 (by omega) (fromL_small _ (ofV_mem r0 rfl)), t2.1, Nat.le_trans t2.2 t.2, preN_mem _ _ l2.1, ?_, hostL_small _ (ofV_mem (rd0 h (by omega) (by omega)) rfl)⟩
  show (preN _ _).length ≤ 9
  rw [preN_len]
  omega
theorem L27b {R : Type} (x1 : ByteArray) (x2 x3 x4 x5 x6 x7 x8 : Int) (x9 : ByteArray) (x10 x11 x12 x13 x14 x15 x16 : Int) (x17 : List Int) (x18 : Int) (k0 : ByteArray → Int → Int → Int → Int → Int → Int → Int → ByteArray → Int → Int → Int → Int → Int → Int → Int → List Int → Int → List ByteArray → List ByteArray → Option R) (k1 : ByteArray → Int → Int → Int → Int → Int → Int → Int → ByteArray → Int → Int → Int → Int → Int → Int → Int → List Int → Int → List ByteArray → List ByteArray → List ByteArray → Option R) (x20 x21 : List ByteArray) : ∀ (k n : Nat) (l : List ByteArray), l.length + k ≤ 1000 → k < n →
    L27_0_1 n (k : Int) x1 x2 x3 x4 x5 x6 x7 x8 x9 x10 x11 x12 x13 x14 x15 x16 x17 x18 l x20 x21 k0 k1 = k1 x1 x2 x3 x4 x5 x6 x7 x8 x9 x10 x11 x12 x13 x14 x15 x16 x17 x18 (preN k l) x20 x21 := by
  intro k
  induction k with
  | zero =>
    intro n l h1 h2
    obtain ⟨n, rfl⟩ : ∃ m, n = m + 1 := ⟨n - 1, by omega⟩
    rw [L27_0_1, decide_eq_false (show ¬ ((0 : Nat) : Int) > 0 by omega)]; rfl
  | succ k ih =>
    intro n l h1 h2
    obtain ⟨n, rfl⟩ : ∃ m, n = m + 1 := ⟨n - 1, by omega⟩
    rw [L27_0_1, decide_eq_true (show ((k + 1 : Nat) : Int) > 0 by omega), cond_true, show Nat.ble (1 + l.length) 1099511627776 = true from Nat.ble_eq_true_of_le (by omega), cond_true, wrap_id (i := ((k + 1 : Nat) : Int) - 1) (by omega) (by omega), show ((k + 1 : Nat) : Int) - 1 = (k : Int) by omega]
    refine (ih n _ (by rw [List.length_append]; show 1 + l.length + k ≤ 1000; omega) (by omega)).trans ?_
    rfl
theorem pl27 : ∀ (c : List Int) res, (m27 [.one (.list (.int .u8) c)]).val = some res → ∃ N, T27 N c = some res := by
  intro c res hh
  obtain ⟨h, h2⟩ := br_val hh
  cases h2
  have r0 : rdOk (c.take 2000) 0 = true := rd0 h (by decide) (by decide)
  have a1 := drawP_in r0 (by decide)
  have r1 : rdOk (c.take 2000) (drawP (c.take 2000) 0) = true := rd0 h (by omega) (by omega)
  have a2 := wrongP_in (c.take 2000) (drawP (c.take 2000) 0)
  have r2 : rdOk (c.take 2000) (wrongP (c.take 2000) (drawP (c.take 2000) 0)) = true := rd0 h (by omega) (by omega)
  have r3 : rdOk (c.take 2000) (wrongP (c.take 2000) (drawP (c.take 2000) 0) + 3) = true := rd0 h (by omega) (by omega)
  have a3 := wrongQ_in (c.take 2000) (wrongP (c.take 2000) (drawP (c.take 2000) 0) + 3)
  have r4 : rdOk (c.take 2000) (wrongQ (c.take 2000) (wrongP (c.take 2000) (drawP (c.take 2000) 0) + 3)) = true := rd0 h (by omega) (by omega)
  have r5 : rdOk (c.take 2000) (wrongQ (c.take 2000) (wrongP (c.take 2000) (drawP (c.take 2000) 0) + 3) + 1) = true := rd0 h (by omega) (by omega)
  have hk := numV_mem (xs := [0, 1, 4, 5]) r4 rfl
  simp only [List.mem_cons, List.not_mem_nil, or_false] at hk
  have t := drawTo_small r0 (by decide)
  have l := drawLs_small r0 (by decide)
  have l2 := wrongL_small (b := c.take 2000) (p := drawP (c.take 2000) 0) l.1
  have hb : bigM (ofV (c.take 2000) 0 fromL) (drawTo (c.take 2000) 0) (drawLs (c.take 2000) 0) = true := bigM_of (fromL_small _ (ofV_mem r0 rfl)) t.1 (by omega) l.1 (by omega)
  refine ⟨10, ?_⟩
  unfold T27
  refine (dec_c (by rw [r0]; rfl)).trans ?_
  refine (dec_c (by rw [r1, hb, decide_eq_true (by omega)]; rfl)).trans ?_
  refine (dec_c (by rw [r2, decide_eq_true (by omega)]; rfl)).trans ?_
  refine (dec_c (by rw [r3, decide_eq_true (by omega)]; rfl)).trans ?_
  refine (dec_c (by rw [r4]; rfl)).trans ?_
  obtain ⟨k, hk2, hk3⟩ : ∃ k : Nat, numV (c.take 2000) (wrongQ (c.take 2000) (wrongP (c.take 2000) (drawP (c.take 2000) 0) + 3)) [0, 1, 4, 5] = (k : Int) ∧ k ≤ 5 := ⟨(numV (c.take 2000) (wrongQ (c.take 2000) (wrongP (c.take 2000) (drawP (c.take 2000) 0) + 3)) [0, 1, 4, 5]).toNat, by omega, by omega⟩
  have hT : (drawTM c).ls = preN k (wrongL (c.take 2000) (drawP (c.take 2000) 0) (drawLs (c.take 2000) 0)) := by
    show preN (numV (c.take 2000) (wrongQ (c.take 2000) (wrongP (c.take 2000) (drawP (c.take 2000) 0) + 3)) [0, 1, 4, 5]).toNat _ = _
    rw [hk2]; rfl
  rw [hT, hk2]
  rcases k with _ | k
  · rw [L27_0_0, decide_eq_false (show ¬ ((0 : Nat) : Int) > 0 by omega), cond_false]
    refine (dec_c (by rw [r5]; rfl)).trans ?_
    rfl
  · rw [L27_0_0, decide_eq_true (show ((k + 1 : Nat) : Int) > 0 by omega), cond_true, show Nat.ble (1 + (wrongL (c.take 2000) (drawP (c.take 2000) 0) (drawLs (c.take 2000) 0)).length) 1099511627776 = true from Nat.ble_eq_true_of_le (by omega), cond_true, wrap_id (i := ((k + 1 : Nat) : Int) - 1) (by omega) (by omega), show ((k + 1 : Nat) : Int) - 1 = (k : Int) by omega]
    refine (L27b _ _ _ _ _ _ _ _ _ _ _ _ _ _ _ _ _ _ _ _ _ _ k 9 _ (by rw [List.length_append]; show 1 + _ + k ≤ 1000; omega) (by omega)).trans ?_
    refine (dec_c (by rw [r5]; rfl)).trans ?_
    rfl
end Go.Iv
