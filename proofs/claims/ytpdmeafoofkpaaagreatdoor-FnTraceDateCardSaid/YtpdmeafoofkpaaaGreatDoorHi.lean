/- Texts of this proof, joined: Sp7 Pu6 Pl6. -/
import Derived.Test.YtpdmeafoofkpaaaGreatDoorHh
set_option linter.unusedVariables false
set_option linter.unusedSimpArgs false
/- What tracing a mail comes to. -/
namespace Go.Iv
def recvBy : ByteArray := ⟨#[82, 101, 99, 101, 105, 118, 101, 100, 58, 32, 98, 121, 32]⟩
def hopLine (hb : ByteArray) (y mo da h mi s z : Int) : ByteArray := recvBy ++ hb ++ ⟨#[59, 32]⟩ ++ fmtD y mo da h mi s z
def traceOk (f : ByteArray) (to ls : List ByteArray) (hb : ByteArray) (y mo da h mi s z : Int) : Bool :=
  draftOk f to ls 1 30 && (dateOk y mo da h mi s z && (domainOk hb && (!((ls.length : Int) == 30) && !(decide (hopsOf ls ≥ 5)))))
def traceM (f : ByteArray) (to ls : List ByteArray) (hb : ByteArray) (y mo da h mi s z : Int) : ByteArray × List ByteArray × List ByteArray :=
  bif traceOk f to ls hb y mo da h mi s z then (f, to, hopLine hb y mo da h mi s z :: ls) else (⟨#[]⟩, [], [])
end Go.Iv

/- What functions come to. -/
namespace Go.Iv
set_option maxRecDepth 4000
noncomputable def m28 : List AV → CT
  | [.agg [.sc (.string f), .list .str to, .list .str ls], .one (.sc (.string hb)), .agg [.sc (.int .i64 y), .sc (.int .i64 mo), .sc (.int .i64 da), .sc (.int .i64 h), .sc (.int .i64 mi), .sc (.int .i64 s), .sc (.int .i64 z)]] => (.br (bigM f to ls && decide (((hb).size : Int) ≤ 2147483648)) (.ret (.multi [.agg [.fc (.sc (.string ((traceM f to ls hb y mo da h mi s z).1))), .buf .str 9 ((traceM f to ls hb y mo da h mi s z).2.1), .buf .str 9 ((traceM f to ls hb y mo da h mi s z).2.2)], .one (.fc (.sc (.bool (traceOk f to ls hb y mo da h mi s z))))])) .no)
  | _ => .no
/-! 28: impl.TraceMail -/
def T28 (N : Nat) (f : ByteArray) (to : List ByteArray) (ls : List ByteArray) (hb : ByteArray) (y : Int) (mo : Int) (da : Int) (h : Int) (mi : Int) (s : Int) (z : Int) : Option RV :=
  (bif (bigM f to ls) then
  (bif (!(draftOk f to ls 1 30)) then
    some (.multi [.agg [.fc (.sc (.string (⟨#[]⟩ : ByteArray))), .buf .str 9 ([] : List ByteArray), .buf .str 9 ([] : List ByteArray)], .one (.fc (.sc (.bool false)))])
    else
    (bif (!(dateOk y mo da h mi s z)) then
      some (.multi [.agg [.fc (.sc (.string (⟨#[]⟩ : ByteArray))), .buf .str 9 ([] : List ByteArray), .buf .str 9 ([] : List ByteArray)], .one (.fc (.sc (.bool false)))])
      else
      (bif (decide (((hb).size : Int) ≤ 2147483648)) then
        (bif (!(domainOk hb)) then
          some (.multi [.agg [.fc (.sc (.string (⟨#[]⟩ : ByteArray))), .buf .str 9 ([] : List ByteArray), .buf .str 9 ([] : List ByteArray)], .one (.fc (.sc (.bool false)))])
          else
          (bif (((ls).length : Int) == (30 : Int)) then
            some (.multi [.agg [.fc (.sc (.string (⟨#[]⟩ : ByteArray))), .buf .str 9 ([] : List ByteArray), .buf .str 9 ([] : List ByteArray)], .one (.fc (.sc (.bool false)))])
            else
            (bif (allBig ls) then
              (bif (decide ((hopsOf ls) ≥ (5 : Int))) then
                some (.multi [.agg [.fc (.sc (.string (⟨#[]⟩ : ByteArray))), .buf .str 9 ([] : List ByteArray), .buf .str 9 ([] : List ByteArray)], .one (.fc (.sc (.bool false)))])
                else
                (bif (bigM f to ls) then
                  (bif (Nat.ble ((⟨#[82, 101, 99, 101, 105, 118, 101, 100, 58, 32, 98, 121, 32]⟩ : ByteArray).size + hb.size) 9223372036854775807) then
                    (bif (Nat.ble (((⟨#[82, 101, 99, 101, 105, 118, 101, 100, 58, 32, 98, 121, 32]⟩ : ByteArray) ++ hb).size + (⟨#[59, 32]⟩ : ByteArray).size) 9223372036854775807) then
                      (bif (Nat.ble ((((⟨#[82, 101, 99, 101, 105, 118, 101, 100, 58, 32, 98, 121, 32]⟩ : ByteArray) ++ hb) ++ (⟨#[59, 32]⟩ : ByteArray)).size + (bif dateOk y mo da h mi s z then fmtD y mo da h mi s z else ⟨#[]⟩).size) 9223372036854775807) then
                        ((bif decide ((0 : Int) = 0) && (decide (([((((⟨#[82, 101, 99, 101, 105, 118, 101, 100, 58, 32, 98, 121, 32]⟩ : ByteArray) ++ hb) ++ (⟨#[59, 32]⟩ : ByteArray)) ++ (bif dateOk y mo da h mi s z then fmtD y mo da h mi s z else ⟨#[]⟩))] : List ByteArray).length = 1) && decide ((ls).length ≤ 2147483648)) then some (([((((⟨#[82, 101, 99, 101, 105, 118, 101, 100, 58, 32, 98, 121, 32]⟩ : ByteArray) ++ hb) ++ (⟨#[59, 32]⟩ : ByteArray)) ++ (bif dateOk y mo da h mi s z then fmtD y mo da h mi s z else ⟨#[]⟩))] : List ByteArray) ++ (ls)) else none).bind fun b1 =>
                          some (.multi [.agg [.fc (.sc (.string (f))), .buf .str 9 (to), .buf .str 9 b1], .one (.fc (.sc (.bool true)))]))
                        else none)
                      else none)
                    else none)
                  else none))
              else none)))
        else none)))
  else none)
noncomputable def m29 : List AV → CT
  | [.agg [.sc (.string f), .list .str to, .list .str ls], .one (.sc (.string hb)), .agg [.sc (.int .i64 y), .sc (.int .i64 mo), .sc (.int .i64 da), .sc (.int .i64 h), .sc (.int .i64 mi), .sc (.int .i64 s), .sc (.int .i64 z)]] => (.br (bigM f to ls && decide (((hb).size : Int) ≤ 2147483648)) (.ret (.multi [.agg [.fc (.sc (.string ((traceM f to ls hb y mo da h mi s z).1))), .buf .str 9 ((traceM f to ls hb y mo da h mi s z).2.1), .buf .str 9 ((traceM f to ls hb y mo da h mi s z).2.2)], .one (.fc (.sc (.bool (traceOk f to ls hb y mo da h mi s z))))])) .no)
  | _ => .no
/-! 29: spec.TraceMail -/
def T29 (N : Nat) (f : ByteArray) (to : List ByteArray) (ls : List ByteArray) (hb : ByteArray) (y : Int) (mo : Int) (da : Int) (h : Int) (mi : Int) (s : Int) (z : Int) : Option RV :=
  (bif (bigM f to ls) then
  (bif (!(draftOk f to ls 1 30)) then
    some (.multi [.agg [.fc (.sc (.string (⟨#[]⟩ : ByteArray))), .buf .str 9 ([] : List ByteArray), .buf .str 9 ([] : List ByteArray)], .one (.fc (.sc (.bool false)))])
    else
    (bif (decide (((hb).size : Int) ≤ 2147483648)) then
      (bif (!(domainOk hb)) then
        some (.multi [.agg [.fc (.sc (.string (⟨#[]⟩ : ByteArray))), .buf .str 9 ([] : List ByteArray), .buf .str 9 ([] : List ByteArray)], .one (.fc (.sc (.bool false)))])
        else
        (bif (!(dateOk y mo da h mi s z)) then
          some (.multi [.agg [.fc (.sc (.string (⟨#[]⟩ : ByteArray))), .buf .str 9 ([] : List ByteArray), .buf .str 9 ([] : List ByteArray)], .one (.fc (.sc (.bool false)))])
          else
          (bif (((ls).length : Int) == (30 : Int)) then
            some (.multi [.agg [.fc (.sc (.string (⟨#[]⟩ : ByteArray))), .buf .str 9 ([] : List ByteArray), .buf .str 9 ([] : List ByteArray)], .one (.fc (.sc (.bool false)))])
            else
            (bif (allBig ls) then
              (bif (decide ((hopsOf ls) ≥ (5 : Int))) then
                some (.multi [.agg [.fc (.sc (.string (⟨#[]⟩ : ByteArray))), .buf .str 9 ([] : List ByteArray), .buf .str 9 ([] : List ByteArray)], .one (.fc (.sc (.bool false)))])
                else
                (bif (bigM f to ls) then
                  (bif (Nat.ble ((⟨#[82, 101, 99, 101, 105, 118, 101, 100, 58, 32, 98, 121, 32]⟩ : ByteArray).size + hb.size) 9223372036854775807) then
                    (bif (Nat.ble (((⟨#[82, 101, 99, 101, 105, 118, 101, 100, 58, 32, 98, 121, 32]⟩ : ByteArray) ++ hb).size + (⟨#[59, 32]⟩ : ByteArray).size) 9223372036854775807) then
                      (bif (Nat.ble ((((⟨#[82, 101, 99, 101, 105, 118, 101, 100, 58, 32, 98, 121, 32]⟩ : ByteArray) ++ hb) ++ (⟨#[59, 32]⟩ : ByteArray)).size + (bif dateOk y mo da h mi s z then fmtD y mo da h mi s z else ⟨#[]⟩).size) 9223372036854775807) then
                        (bif (Nat.ble (1 + ls.length) 1099511627776) then
                          some (.multi [.agg [.fc (.sc (.string (f))), .buf .str 9 (to), .buf .str 9 (([((((⟨#[82, 101, 99, 101, 105, 118, 101, 100, 58, 32, 98, 121, 32]⟩ : ByteArray) ++ hb) ++ (⟨#[59, 32]⟩ : ByteArray)) ++ (bif dateOk y mo da h mi s z then fmtD y mo da h mi s z else ⟨#[]⟩))] : List ByteArray) ++ ls)], .one (.fc (.sc (.bool true)))])
                          else none)
                        else none)
                      else none)
                    else none)
                  else none))
              else none))))
      else none))
  else none)
noncomputable def m8 : List AV → CT
  | [.one (.list (.int .u8) c)] => (.br (u8s c) (.ret (.one (.one (.fc (.sc (.bool (true))))))) .no)
  | _ => .no
/-! 8: laws.FnTraceDate -/
def T8 (N : Nat) (c : List Int) : Option RV :=
  (bif (decide (((c).length : Int) > (1048576 : Int))) then
  some (.one (.one (.fc (.sc (.bool true)))))
  else
  (bif (u8s c) then
    (bif (bigM ((drawTM c).f) ((drawTM c).to) ((drawTM c).ls) && decide (((((drawTM c).host)).size : Int) ≤ 2147483648)) then
      (bif (bigM ((drawTM c).f) ((drawTM c).to) ((drawTM c).ls) && decide (((((drawTM c).host)).size : Int) ≤ 2147483648)) then
        (bif (decide (((traceM ((drawTM c).f) ((drawTM c).to) ((drawTM c).ls) ((drawTM c).host) (((drawTM c).d).y) (((drawTM c).d).mo) (((drawTM c).d).da) (((drawTM c).d).h) (((drawTM c).d).mi) (((drawTM c).d).s) (((drawTM c).d).z)).2.1).length ≤ 2147483648) && decide (((traceM ((drawTM c).f) ((drawTM c).to) ((drawTM c).ls) ((drawTM c).host) (((drawTM c).d).y) (((drawTM c).d).mo) (((drawTM c).d).da) (((drawTM c).d).h) (((drawTM c).d).mi) (((drawTM c).d).s) (((drawTM c).d).z)).2.2).length ≤ 2147483648)) then
          (bif (!(decide (((traceM ((drawTM c).f) ((drawTM c).to) ((drawTM c).ls) ((drawTM c).host) (((drawTM c).d).y) (((drawTM c).d).mo) (((drawTM c).d).da) (((drawTM c).d).h) (((drawTM c).d).mi) (((drawTM c).d).s) (((drawTM c).d).z)).1) = ((traceM ((drawTM c).f) ((drawTM c).to) ((drawTM c).ls) ((drawTM c).host) (((drawTM c).d).y) (((drawTM c).d).mo) (((drawTM c).d).da) (((drawTM c).d).h) (((drawTM c).d).mi) (((drawTM c).d).s) (((drawTM c).d).z)).1)) && (decide (((traceM ((drawTM c).f) ((drawTM c).to) ((drawTM c).ls) ((drawTM c).host) (((drawTM c).d).y) (((drawTM c).d).mo) (((drawTM c).d).da) (((drawTM c).d).h) (((drawTM c).d).mi) (((drawTM c).d).s) (((drawTM c).d).z)).2.1) = ((traceM ((drawTM c).f) ((drawTM c).to) ((drawTM c).ls) ((drawTM c).host) (((drawTM c).d).y) (((drawTM c).d).mo) (((drawTM c).d).da) (((drawTM c).d).h) (((drawTM c).d).mi) (((drawTM c).d).s) (((drawTM c).d).z)).2.1)) && decide (((traceM ((drawTM c).f) ((drawTM c).to) ((drawTM c).ls) ((drawTM c).host) (((drawTM c).d).y) (((drawTM c).d).mo) (((drawTM c).d).da) (((drawTM c).d).h) (((drawTM c).d).mi) (((drawTM c).d).s) (((drawTM c).d).z)).2.2) = ((traceM ((drawTM c).f) ((drawTM c).to) ((drawTM c).ls) ((drawTM c).host) (((drawTM c).d).y) (((drawTM c).d).mo) (((drawTM c).d).da) (((drawTM c).d).h) (((drawTM c).d).mi) (((drawTM c).d).s) (((drawTM c).d).z)).2.2))))) then
            (bif (decide (((traceM ((drawTM c).f) ((drawTM c).to) ((drawTM c).ls) ((drawTM c).host) (((drawTM c).d).y) (((drawTM c).d).mo) (((drawTM c).d).da) (((drawTM c).d).h) (((drawTM c).d).mi) (((drawTM c).d).s) (((drawTM c).d).z)).2.1).length ≤ 2147483648) && decide (((traceM ((drawTM c).f) ((drawTM c).to) ((drawTM c).ls) ((drawTM c).host) (((drawTM c).d).y) (((drawTM c).d).mo) (((drawTM c).d).da) (((drawTM c).d).h) (((drawTM c).d).mi) (((drawTM c).d).s) (((drawTM c).d).z)).2.2).length ≤ 2147483648)) then
              (bif (decide (((traceM ((drawTM c).f) ((drawTM c).to) ((drawTM c).ls) ((drawTM c).host) (((drawTM c).d).y) (((drawTM c).d).mo) (((drawTM c).d).da) (((drawTM c).d).h) (((drawTM c).d).mi) (((drawTM c).d).s) (((drawTM c).d).z)).1) = ((traceM ((drawTM c).f) ((drawTM c).to) ((drawTM c).ls) ((drawTM c).host) (((drawTM c).d).y) (((drawTM c).d).mo) (((drawTM c).d).da) (((drawTM c).d).h) (((drawTM c).d).mi) (((drawTM c).d).s) (((drawTM c).d).z)).1)) && (decide (((traceM ((drawTM c).f) ((drawTM c).to) ((drawTM c).ls) ((drawTM c).host) (((drawTM c).d).y) (((drawTM c).d).mo) (((drawTM c).d).da) (((drawTM c).d).h) (((drawTM c).d).mi) (((drawTM c).d).s) (((drawTM c).d).z)).2.1) = ((traceM ((drawTM c).f) ((drawTM c).to) ((drawTM c).ls) ((drawTM c).host) (((drawTM c).d).y) (((drawTM c).d).mo) (((drawTM c).d).da) (((drawTM c).d).h) (((drawTM c).d).mi) (((drawTM c).d).s) (((drawTM c).d).z)).2.1)) && decide (((traceM ((drawTM c).f) ((drawTM c).to) ((drawTM c).ls) ((drawTM c).host) (((drawTM c).d).y) (((drawTM c).d).mo) (((drawTM c).d).da) (((drawTM c).d).h) (((drawTM c).d).mi) (((drawTM c).d).s) (((drawTM c).d).z)).2.2) = ((traceM ((drawTM c).f) ((drawTM c).to) ((drawTM c).ls) ((drawTM c).host) (((drawTM c).d).y) (((drawTM c).d).mo) (((drawTM c).d).da) (((drawTM c).d).h) (((drawTM c).d).mi) (((drawTM c).d).s) (((drawTM c).d).z)).2.2)))) then
                some (.one (.one (.fc (.sc (.bool ((traceOk ((drawTM c).f) ((drawTM c).to) ((drawTM c).ls) ((drawTM c).host) (((drawTM c).d).y) (((drawTM c).d).mo) (((drawTM c).d).da) (((drawTM c).d).h) (((drawTM c).d).mi) (((drawTM c).d).s) (((drawTM c).d).z)) == (traceOk ((drawTM c).f) ((drawTM c).to) ((drawTM c).ls) ((drawTM c).host) (((drawTM c).d).y) (((drawTM c).d).mo) (((drawTM c).d).da) (((drawTM c).d).h) (((drawTM c).d).mi) (((drawTM c).d).s) (((drawTM c).d).z))))))))
                else
                some (.one (.one (.fc (.sc (.bool false))))))
              else none)
            else
            (bif (!((traceOk ((drawTM c).f) ((drawTM c).to) ((drawTM c).ls) ((drawTM c).host) (((drawTM c).d).y) (((drawTM c).d).mo) (((drawTM c).d).da) (((drawTM c).d).h) (((drawTM c).d).mi) (((drawTM c).d).s) (((drawTM c).d).z)) == (traceOk ((drawTM c).f) ((drawTM c).to) ((drawTM c).ls) ((drawTM c).host) (((drawTM c).d).y) (((drawTM c).d).mo) (((drawTM c).d).da) (((drawTM c).d).h) (((drawTM c).d).mi) (((drawTM c).d).s) (((drawTM c).d).z)))) then
              (bif (decide (((traceM ((drawTM c).f) ((drawTM c).to) ((drawTM c).ls) ((drawTM c).host) (((drawTM c).d).y) (((drawTM c).d).mo) (((drawTM c).d).da) (((drawTM c).d).h) (((drawTM c).d).mi) (((drawTM c).d).s) (((drawTM c).d).z)).2.1).length ≤ 2147483648) && decide (((traceM ((drawTM c).f) ((drawTM c).to) ((drawTM c).ls) ((drawTM c).host) (((drawTM c).d).y) (((drawTM c).d).mo) (((drawTM c).d).da) (((drawTM c).d).h) (((drawTM c).d).mi) (((drawTM c).d).s) (((drawTM c).d).z)).2.2).length ≤ 2147483648)) then
                (bif (decide (((traceM ((drawTM c).f) ((drawTM c).to) ((drawTM c).ls) ((drawTM c).host) (((drawTM c).d).y) (((drawTM c).d).mo) (((drawTM c).d).da) (((drawTM c).d).h) (((drawTM c).d).mi) (((drawTM c).d).s) (((drawTM c).d).z)).1) = ((traceM ((drawTM c).f) ((drawTM c).to) ((drawTM c).ls) ((drawTM c).host) (((drawTM c).d).y) (((drawTM c).d).mo) (((drawTM c).d).da) (((drawTM c).d).h) (((drawTM c).d).mi) (((drawTM c).d).s) (((drawTM c).d).z)).1)) && (decide (((traceM ((drawTM c).f) ((drawTM c).to) ((drawTM c).ls) ((drawTM c).host) (((drawTM c).d).y) (((drawTM c).d).mo) (((drawTM c).d).da) (((drawTM c).d).h) (((drawTM c).d).mi) (((drawTM c).d).s) (((drawTM c).d).z)).2.1) = ((traceM ((drawTM c).f) ((drawTM c).to) ((drawTM c).ls) ((drawTM c).host) (((drawTM c).d).y) (((drawTM c).d).mo) (((drawTM c).d).da) (((drawTM c).d).h) (((drawTM c).d).mi) (((drawTM c).d).s) (((drawTM c).d).z)).2.1)) && decide (((traceM ((drawTM c).f) ((drawTM c).to) ((drawTM c).ls) ((drawTM c).host) (((drawTM c).d).y) (((drawTM c).d).mo) (((drawTM c).d).da) (((drawTM c).d).h) (((drawTM c).d).mi) (((drawTM c).d).s) (((drawTM c).d).z)).2.2) = ((traceM ((drawTM c).f) ((drawTM c).to) ((drawTM c).ls) ((drawTM c).host) (((drawTM c).d).y) (((drawTM c).d).mo) (((drawTM c).d).da) (((drawTM c).d).h) (((drawTM c).d).mi) (((drawTM c).d).s) (((drawTM c).d).z)).2.2)))) then
                  some (.one (.one (.fc (.sc (.bool ((traceOk ((drawTM c).f) ((drawTM c).to) ((drawTM c).ls) ((drawTM c).host) (((drawTM c).d).y) (((drawTM c).d).mo) (((drawTM c).d).da) (((drawTM c).d).h) (((drawTM c).d).mi) (((drawTM c).d).s) (((drawTM c).d).z)) == (traceOk ((drawTM c).f) ((drawTM c).to) ((drawTM c).ls) ((drawTM c).host) (((drawTM c).d).y) (((drawTM c).d).mo) (((drawTM c).d).da) (((drawTM c).d).h) (((drawTM c).d).mi) (((drawTM c).d).s) (((drawTM c).d).z))))))))
                  else
                  some (.one (.one (.fc (.sc (.bool false))))))
                else none)
              else
              (bif (!(traceOk ((drawTM c).f) ((drawTM c).to) ((drawTM c).ls) ((drawTM c).host) (((drawTM c).d).y) (((drawTM c).d).mo) (((drawTM c).d).da) (((drawTM c).d).h) (((drawTM c).d).mi) (((drawTM c).d).s) (((drawTM c).d).z))) then
                (bif (decide (((traceM ((drawTM c).f) ((drawTM c).to) ((drawTM c).ls) ((drawTM c).host) (((drawTM c).d).y) (((drawTM c).d).mo) (((drawTM c).d).da) (((drawTM c).d).h) (((drawTM c).d).mi) (((drawTM c).d).s) (((drawTM c).d).z)).2.1).length ≤ 2147483648) && decide (((traceM ((drawTM c).f) ((drawTM c).to) ((drawTM c).ls) ((drawTM c).host) (((drawTM c).d).y) (((drawTM c).d).mo) (((drawTM c).d).da) (((drawTM c).d).h) (((drawTM c).d).mi) (((drawTM c).d).s) (((drawTM c).d).z)).2.2).length ≤ 2147483648)) then
                  (bif (decide (((traceM ((drawTM c).f) ((drawTM c).to) ((drawTM c).ls) ((drawTM c).host) (((drawTM c).d).y) (((drawTM c).d).mo) (((drawTM c).d).da) (((drawTM c).d).h) (((drawTM c).d).mi) (((drawTM c).d).s) (((drawTM c).d).z)).1) = ((traceM ((drawTM c).f) ((drawTM c).to) ((drawTM c).ls) ((drawTM c).host) (((drawTM c).d).y) (((drawTM c).d).mo) (((drawTM c).d).da) (((drawTM c).d).h) (((drawTM c).d).mi) (((drawTM c).d).s) (((drawTM c).d).z)).1)) && (decide (((traceM ((drawTM c).f) ((drawTM c).to) ((drawTM c).ls) ((drawTM c).host) (((drawTM c).d).y) (((drawTM c).d).mo) (((drawTM c).d).da) (((drawTM c).d).h) (((drawTM c).d).mi) (((drawTM c).d).s) (((drawTM c).d).z)).2.1) = ((traceM ((drawTM c).f) ((drawTM c).to) ((drawTM c).ls) ((drawTM c).host) (((drawTM c).d).y) (((drawTM c).d).mo) (((drawTM c).d).da) (((drawTM c).d).h) (((drawTM c).d).mi) (((drawTM c).d).s) (((drawTM c).d).z)).2.1)) && decide (((traceM ((drawTM c).f) ((drawTM c).to) ((drawTM c).ls) ((drawTM c).host) (((drawTM c).d).y) (((drawTM c).d).mo) (((drawTM c).d).da) (((drawTM c).d).h) (((drawTM c).d).mi) (((drawTM c).d).s) (((drawTM c).d).z)).2.2) = ((traceM ((drawTM c).f) ((drawTM c).to) ((drawTM c).ls) ((drawTM c).host) (((drawTM c).d).y) (((drawTM c).d).mo) (((drawTM c).d).da) (((drawTM c).d).h) (((drawTM c).d).mi) (((drawTM c).d).s) (((drawTM c).d).z)).2.2)))) then
                    some (.one (.one (.fc (.sc (.bool ((traceOk ((drawTM c).f) ((drawTM c).to) ((drawTM c).ls) ((drawTM c).host) (((drawTM c).d).y) (((drawTM c).d).mo) (((drawTM c).d).da) (((drawTM c).d).h) (((drawTM c).d).mi) (((drawTM c).d).s) (((drawTM c).d).z)) == (traceOk ((drawTM c).f) ((drawTM c).to) ((drawTM c).ls) ((drawTM c).host) (((drawTM c).d).y) (((drawTM c).d).mo) (((drawTM c).d).da) (((drawTM c).d).h) (((drawTM c).d).mi) (((drawTM c).d).s) (((drawTM c).d).z))))))))
                    else
                    some (.one (.one (.fc (.sc (.bool false))))))
                  else none)
                else
                (bif (inb (0 : Int) (((traceM ((drawTM c).f) ((drawTM c).to) ((drawTM c).ls) ((drawTM c).host) (((drawTM c).d).y) (((drawTM c).d).mo) (((drawTM c).d).da) (((drawTM c).d).h) (((drawTM c).d).mi) (((drawTM c).d).s) (((drawTM c).d).z)).2.2)).length) then
                  (bif (decide (((((((traceM ((drawTM c).f) ((drawTM c).to) ((drawTM c).ls) ((drawTM c).host) (((drawTM c).d).y) (((drawTM c).d).mo) (((drawTM c).d).da) (((drawTM c).d).h) (((drawTM c).d).mi) (((drawTM c).d).s) (((drawTM c).d).z)).2.2)).getD (0 : Nat) (⟨#[]⟩ : ByteArray))).size : Int) > (((bif dateOk (((drawTM c).d).y) (((drawTM c).d).mo) (((drawTM c).d).da) (((drawTM c).d).h) (((drawTM c).d).mi) (((drawTM c).d).s) (((drawTM c).d).z) then fmtD (((drawTM c).d).y) (((drawTM c).d).mo) (((drawTM c).d).da) (((drawTM c).d).h) (((drawTM c).d).mi) (((drawTM c).d).s) (((drawTM c).d).z) else ⟨#[]⟩)).size : Int))) then
                    (bif (cutOk (((((traceM ((drawTM c).f) ((drawTM c).to) ((drawTM c).ls) ((drawTM c).host) (((drawTM c).d).y) (((drawTM c).d).mo) (((drawTM c).d).da) (((drawTM c).d).h) (((drawTM c).d).mi) (((drawTM c).d).s) (((drawTM c).d).z)).2.2)).getD (0 : Nat) (⟨#[]⟩ : ByteArray))).size (some (IntKind.i64.wrap (((((((traceM ((drawTM c).f) ((drawTM c).to) ((drawTM c).ls) ((drawTM c).host) (((drawTM c).d).y) (((drawTM c).d).mo) (((drawTM c).d).da) (((drawTM c).d).h) (((drawTM c).d).mi) (((drawTM c).d).s) (((drawTM c).d).z)).2.2)).getD (0 : Nat) (⟨#[]⟩ : ByteArray))).size : Int) - (((bif dateOk (((drawTM c).d).y) (((drawTM c).d).mo) (((drawTM c).d).da) (((drawTM c).d).h) (((drawTM c).d).mi) (((drawTM c).d).s) (((drawTM c).d).z) then fmtD (((drawTM c).d).y) (((drawTM c).d).mo) (((drawTM c).d).da) (((drawTM c).d).h) (((drawTM c).d).mi) (((drawTM c).d).s) (((drawTM c).d).z) else ⟨#[]⟩)).size : Int)))) none) then
                      (bif ((cutS ((((traceM ((drawTM c).f) ((drawTM c).to) ((drawTM c).ls) ((drawTM c).host) (((drawTM c).d).y) (((drawTM c).d).mo) (((drawTM c).d).da) (((drawTM c).d).h) (((drawTM c).d).mi) (((drawTM c).d).s) (((drawTM c).d).z)).2.2)).getD (0 : Nat) (⟨#[]⟩ : ByteArray)) (some (IntKind.i64.wrap (((((((traceM ((drawTM c).f) ((drawTM c).to) ((drawTM c).ls) ((drawTM c).host) (((drawTM c).d).y) (((drawTM c).d).mo) (((drawTM c).d).da) (((drawTM c).d).h) (((drawTM c).d).mi) (((drawTM c).d).s) (((drawTM c).d).z)).2.2)).getD (0 : Nat) (⟨#[]⟩ : ByteArray))).size : Int) - (((bif dateOk (((drawTM c).d).y) (((drawTM c).d).mo) (((drawTM c).d).da) (((drawTM c).d).h) (((drawTM c).d).mi) (((drawTM c).d).s) (((drawTM c).d).z) then fmtD (((drawTM c).d).y) (((drawTM c).d).mo) (((drawTM c).d).da) (((drawTM c).d).h) (((drawTM c).d).mi) (((drawTM c).d).s) (((drawTM c).d).z) else ⟨#[]⟩)).size : Int)))) none).toList == (bif dateOk (((drawTM c).d).y) (((drawTM c).d).mo) (((drawTM c).d).da) (((drawTM c).d).h) (((drawTM c).d).mi) (((drawTM c).d).s) (((drawTM c).d).z) then fmtD (((drawTM c).d).y) (((drawTM c).d).mo) (((drawTM c).d).da) (((drawTM c).d).h) (((drawTM c).d).mi) (((drawTM c).d).s) (((drawTM c).d).z) else ⟨#[]⟩).toList) then
                        (bif (((traceM ((drawTM c).f) ((drawTM c).to) ((drawTM c).ls) ((drawTM c).host) (((drawTM c).d).y) (((drawTM c).d).mo) (((drawTM c).d).da) (((drawTM c).d).h) (((drawTM c).d).mi) (((drawTM c).d).s) (((drawTM c).d).z)).1).toList == ((drawTM c).f).toList) then
                          (bif (decide (((traceM ((drawTM c).f) ((drawTM c).to) ((drawTM c).ls) ((drawTM c).host) (((drawTM c).d).y) (((drawTM c).d).mo) (((drawTM c).d).da) (((drawTM c).d).h) (((drawTM c).d).mi) (((drawTM c).d).s) (((drawTM c).d).z)).2.1).length ≤ 2147483648)) then
                            some (.one (.one (.fc (.sc (.bool (decide (((traceM ((drawTM c).f) ((drawTM c).to) ((drawTM c).ls) ((drawTM c).host) (((drawTM c).d).y) (((drawTM c).d).mo) (((drawTM c).d).da) (((drawTM c).d).h) (((drawTM c).d).mi) (((drawTM c).d).s) (((drawTM c).d).z)).2.1) = ((drawTM c).to))))))))
                            else none)
                          else
                          some (.one (.one (.fc (.sc (.bool false))))))
                        else
                        some (.one (.one (.fc (.sc (.bool false))))))
                      else none)
                    else
                    some (.one (.one (.fc (.sc (.bool false))))))
                  else none))))
          else none)
        else none)
      else none)
    else none))
end Go.Iv

/- Plain laws of tracing a mail, and of the laws on it. -/
namespace Go.Iv
set_option maxRecDepth 4000
theorem fmtD_size {y mo da h mi s z : Int} (_ : dateOk y mo da h mi s z = true) : (fmtD y mo da h mi s z).size ≤ 100 := by
  unfold fmtD
  have hw := wday_size (dayNo y mo da)
  have hmn := month_size (mo - 1).toNat
  have n1 := ndig_le da.toNat; have n2 := ndig_le y.toNat
  have hz : (bif decide (z < 0) then (⟨#[45]⟩ : ByteArray) else ⟨#[43]⟩).size = 1 := by cases decide (z < 0) <;> rfl
  simp only [ByteArray.size_append, decW_size, z0, z1, z2, z3, hz]
  omega
theorem domain_size {s : ByteArray} (h : domainOk s = true) : s.size ≤ 40 := by
  unfold domainOk at h
  simp only [Bool.and_eq_true, decide_eq_true_eq] at h
  exact h.1
theorem recvBy_size : recvBy.size = 13 := rfl
theorem pl28 : ∀ (f : ByteArray) (to : List ByteArray) (ls : List ByteArray) (hb : ByteArray) (y : Int) (mo : Int) (da : Int) (h : Int) (mi : Int) (s : Int) (z : Int) res, (m28 [.agg [.sc (.string f), .list .str to, .list .str ls], .one (.sc (.string hb)), .agg [.sc (.int .i64 y), .sc (.int .i64 mo), .sc (.int .i64 da), .sc (.int .i64 h), .sc (.int .i64 mi), .sc (.int .i64 s), .sc (.int .i64 z)]]).val = some res → ∃ N, T28 N f to ls hb y mo da h mi s z = some res := by
  intro f to ls hb y mo da h mi s z res hr
  obtain ⟨h1, h2⟩ := br_val hr
  cases h2
  simp only [Bool.and_eq_true] at h1
  obtain ⟨hm, hh⟩ := h1
  have hl := (bigM_at hm).2.2
  refine ⟨0, ?_⟩
  unfold T28 traceM
  rw [hm, hh, hl, cond_true]
  unfold traceOk
  cases c1 : draftOk f to ls 1 30 with
  | false => rfl
  | true =>
  cases c2 : dateOk y mo da h mi s z with
  | false => rfl
  | true =>
  cases c3 : domainOk hb with
  | false => rfl
  | true =>
  cases c4 : ((ls.length : Int) == 30) with
  | true => rfl
  | false =>
  cases c5 : decide (hopsOf ls ≥ 5) with
  | true => rfl
  | false =>
    have e1 := fmtD_size c2
    have e2 := domain_size c3
    have hll : ls.length ≤ 2147483648 := by
      unfold allBig at hl; simp only [Bool.and_eq_true, decide_eq_true_eq] at hl; exact hl.1
    rw [show (⟨#[82, 101, 99, 101, 105, 118, 101, 100, 58, 32, 98, 121, 32]⟩ : ByteArray) = recvBy from rfl]
    simp only [Bool.not_true, Bool.not_false, cond_true, cond_false, Bool.and_true, Bool.true_and]
    refine (fit_c (by simp only [recvBy_size]; omega)).trans ?_
    refine (fit_c (by simp only [ByteArray.size_append, recvBy_size]; show 13 + _ + 2 ≤ _; omega)).trans ?_
    refine (fit_c (by simp only [ByteArray.size_append, recvBy_size]; show 13 + _ + 2 + _ ≤ _; omega)).trans ?_
    rw [decide_eq_true hll]
    rfl
theorem pl29 : ∀ (f : ByteArray) (to : List ByteArray) (ls : List ByteArray) (hb : ByteArray) (y : Int) (mo : Int) (da : Int) (h : Int) (mi : Int) (s : Int) (z : Int) res, (m29 [.agg [.sc (.string f), .list .str to, .list .str ls], .one (.sc (.string hb)), .agg [.sc (.int .i64 y), .sc (.int .i64 mo), .sc (.int .i64 da), .sc (.int .i64 h), .sc (.int .i64 mi), .sc (.int .i64 s), .sc (.int .i64 z)]]).val = some res → ∃ N, T29 N f to ls hb y mo da h mi s z = some res := by
  intro f to ls hb y mo da h mi s z res hr
  obtain ⟨h1, h2⟩ := br_val hr
  cases h2
  simp only [Bool.and_eq_true] at h1
  obtain ⟨hm, hh⟩ := h1
  have hl := (bigM_at hm).2.2
  refine ⟨0, ?_⟩
  unfold T29 traceM
  rw [hm, hh, hl, cond_true]
  unfold traceOk
  cases c1 : draftOk f to ls 1 30 with
  | false => rfl
  | true =>
  cases c3 : domainOk hb with
  | false => cases dateOk y mo da h mi s z <;> rfl
  | true =>
  cases c2 : dateOk y mo da h mi s z with
  | false => rfl
  | true =>
  cases c4 : ((ls.length : Int) == 30) with
  | true => rfl
  | false =>
  cases c5 : decide (hopsOf ls ≥ 5) with
  | true => rfl
  | false =>
    have e1 := fmtD_size c2
    have e2 := domain_size c3
    have hll : ls.length ≤ 2147483648 := by
      unfold allBig at hl; simp only [Bool.and_eq_true, decide_eq_true_eq] at hl; exact hl.1
    rw [show (⟨#[82, 101, 99, 101, 105, 118, 101, 100, 58, 32, 98, 121, 32]⟩ : ByteArray) = recvBy from rfl]
    simp only [Bool.not_true, Bool.not_false, cond_true, cond_false, Bool.and_true, Bool.true_and]
    refine (fit_c (by simp only [recvBy_size]; omega)).trans ?_
    refine (fit_c (by simp only [ByteArray.size_append, recvBy_size]; show 13 + _ + 2 ≤ _; omega)).trans ?_
    refine (fit_c (by simp only [ByteArray.size_append, recvBy_size]; show 13 + _ + 2 + _ ≤ _; omega)).trans ?_
    refine (dec_c (Nat.ble_eq_true_of_le (by omega))).trans ?_
    rfl
theorem pl8 : ∀ (c : List Int) res, (m8 [.one (.list (.int .u8) c)]).val = some res → ∃ N, T8 N c = some res := by
  intro c res hr
  obtain ⟨hu, h2⟩ := br_val hr
  cases h2
  refine ⟨0, ?_⟩
  unfold T8
  cases decide ((c.length : Int) > 1048576) with
  | true => rfl
  | false =>
  rw [cond_false, hu, cond_true]
  obtain ⟨s1, s2, s3, s4, s5, s6⟩ := TM_small hu
  generalize (drawTM c).f = f at *
  generalize (drawTM c).to = to at *
  generalize (drawTM c).ls = ls at *
  generalize (drawTM c).host = hb at *
  generalize (drawTM c).d = d at *
  obtain ⟨y, mo, da, h, mi, s, z⟩ := d
  have hm : bigM f to ls = true := bigM_of s1 s2 (by omega) s4 (by omega)
  have hh : decide ((hb.size : Int) ≤ 2147483648) = true := decide_eq_true (by omega)
  rw [hm, hh]
  simp only [Bool.and_true, cond_true]
  cases hok : traceOk f to ls hb y mo da h mi s z with
  | false =>
    have e : traceM f to ls hb y mo da h mi s z = (⟨#[]⟩, [], []) := by unfold traceM; rw [hok]; rfl
    rw [e]; rfl
  | true =>
    have e : traceM f to ls hb y mo da h mi s z = (f, to, hopLine hb y mo da h mi s z :: ls) := by unfold traceM; rw [hok]; rfl
    rw [e]
    have hd : dateOk y mo da h mi s z = true := by unfold traceOk at hok; simp only [Bool.and_eq_true] at hok; exact hok.2.1
    have hdm : domainOk hb = true := by unfold traceOk at hok; simp only [Bool.and_eq_true] at hok; exact hok.2.2.1
    have e1 := fmtD_size hd
    simp only [List.length_cons]
    have ht : decide (to.length ≤ 2147483648) = true := decide_eq_true (by omega)
    have hls : decide (ls.length + 1 ≤ 2147483648) = true := decide_eq_true (by omega)
    have hin : inb 0 (ls.length + 1) = true := by unfold inb; simp only [Bool.and_eq_true, decide_eq_true_eq]; omega
    have hX : (recvBy ++ hb ++ ⟨#[59, 32]⟩).size = 15 + hb.size := by
      simp only [ByteArray.size_append, recvBy_size]; show 13 + hb.size + 2 = _; omega
    simp only [decide_true, Bool.and_true, hd, ht, hls, hin, cond_true, Bool.not_true, cond_false, beq_self_eq_true, List.getD_cons_zero]
    unfold hopLine
    generalize recvBy ++ hb ++ ⟨#[59, 32]⟩ = X at *
    generalize fmtD y mo da h mi s z = F at *
    have hw : IntKind.i64.wrap (((X ++ F).size : Int) - (F.size : Int)) = (X.size : Int) := by
      rw [ByteArray.size_append, wrap_id (by omega) (by omega)]; omega
    rw [hw, decide_eq_true (show ((X ++ F).size : Int) > (F.size : Int) by rw [ByteArray.size_append]; omega), cond_true]
    refine (dec_c (by show (decide (0 ≤ (X.size : Int)) && decide ((X.size : Int) ≤ ((X ++ F).size : Int))) = true; rw [ByteArray.size_append]; simp only [Bool.and_eq_true, decide_eq_true_eq]; omega)).trans ?_
    have hc : cutS (X ++ F) (some (X.size : Int)) none = F := by
      show (X ++ F).extract ((X.size : Int)).toNat (X ++ F).size = F
      exact ByteArray.extract_append_eq_right rfl ByteArray.size_append
    rw [hc, beq_self_eq_true]; rfl
end Go.Iv
