/- What the evaluator makes of the code. -/
import Derived.Test.YtpdmeafoofkpaaaGreatDoorKd
import Derived.Test.YtpdmeafoofkpaaaGreatDoorHi
set_option linter.unusedVariables false
set_option linter.unusedSimpArgs false

namespace Go.Proofs.YtpdmeafoofkpaaaGreatDoor
open Go Go.Iv
set_option maxRecDepth 10000
set_option maxHeartbeats 4000000
noncomputable def call28 : CallT := (((((((noCall.add 37 m37).add 40 m40).add 93 m93).add 94 m94).add 95 m95).add 96 m96).addB 97 m97)
def F28 (N : Nat) : FnK RV where
  N := 48
  lk := fun _ => none
  lp := fun _ _ _ _ => none
theorem main28 (N : Nat) (f : ByteArray) (to : List ByteArray) (ls : List ByteArray) (hb : ByteArray) (y : Int) (mo : Int) (da : Int) (h : Int) (mi : Int) (s : Int) (z : Int) : evF D.tab call28 (F28 N) Tryz.f28 [.agg [.sc (.string f), .list .str to, .list .str ls], .one (.sc (.string hb)), .agg [.sc (.int .i64 y), .sc (.int .i64 mo), .sc (.int .i64 da), .sc (.int .i64 h), .sc (.int .i64 mi), .sc (.int .i64 s), .sc (.int .i64 z)]] = T28 N f to ls hb y mo da h mi s z := by kernel_rfl
theorem loops28 (N : Nat) : ∀ c, Tryz.f28.body = some c → ∀ p ∈ loopsOf 0 c, LoopOk D.tab call28 (F28 N) p := by
  intro c hc
  have e : c = bodyOf Tryz.f28 := by unfold bodyOf; rw [hc]
  subst e
  have e2 : loopsOf 0 (bodyOf Tryz.f28) = [] := by kernel_rfl
  rw [e2]
  intro p hp
  cases hp
theorem con28 (hC : CallOk P D.tab call28) (pl : ∀ (f : ByteArray) (to : List ByteArray) (ls : List ByteArray) (hb : ByteArray) (y : Int) (mo : Int) (da : Int) (h : Int) (mi : Int) (s : Int) (z : Int) res, (m28 [.agg [.sc (.string f), .list .str to, .list .str ls], .one (.sc (.string hb)), .agg [.sc (.int .i64 y), .sc (.int .i64 mo), .sc (.int .i64 da), .sc (.int .i64 h), .sc (.int .i64 mi), .sc (.int .i64 s), .sc (.int .i64 z)]]).val = some res → ∃ N, T28 N f to ls hb y mo da h mi s z = some res) :
    ∀ avs res, (m28 avs).val = some res → Con P D.tab 28 avs res := by
  intro avs res h
  have h0 := h
  unfold m28 at h0
  split at h0
  · obtain ⟨N, hN⟩ := pl _ _ _ _ _ _ _ _ _ _ _ res h
    exact con_of_ev tabOk hC (f := 28) (fn := Tryz.f28) (by kernel_rfl) (F28 N) (loops28 N) (by rw [show Tryz.f28.ntmps = 48 from by kernel_rfl]; simp) ((main28 N _ _ _ _ _ _ _ _ _ _ _).trans hN)
  · cases h0
theorem ent28 : Iv.Enters P 28 := ⟨Tryz.f28, by kernel_rfl, by kernel_rfl, by kernel_rfl⟩
noncomputable def call29 : CallT := ((((((noCall.add 45 m45).add 98 m98).add 99 m99).add 100 m100).add 101 m101).add 102 m102)
def F29 (N : Nat) : FnK RV where
  N := 49
  lk := fun _ => none
  lp := fun _ _ _ _ => none
theorem main29 (N : Nat) (f : ByteArray) (to : List ByteArray) (ls : List ByteArray) (hb : ByteArray) (y : Int) (mo : Int) (da : Int) (h : Int) (mi : Int) (s : Int) (z : Int) : evF D.tab call29 (F29 N) Tryz.f29 [.agg [.sc (.string f), .list .str to, .list .str ls], .one (.sc (.string hb)), .agg [.sc (.int .i64 y), .sc (.int .i64 mo), .sc (.int .i64 da), .sc (.int .i64 h), .sc (.int .i64 mi), .sc (.int .i64 s), .sc (.int .i64 z)]] = T29 N f to ls hb y mo da h mi s z := by kernel_rfl
theorem loops29 (N : Nat) : ∀ c, Tryz.f29.body = some c → ∀ p ∈ loopsOf 0 c, LoopOk D.tab call29 (F29 N) p := by
  intro c hc
  have e : c = bodyOf Tryz.f29 := by unfold bodyOf; rw [hc]
  subst e
  have e2 : loopsOf 0 (bodyOf Tryz.f29) = [] := by kernel_rfl
  rw [e2]
  intro p hp
  cases hp
theorem con29 (hC : CallOk P D.tab call29) (pl : ∀ (f : ByteArray) (to : List ByteArray) (ls : List ByteArray) (hb : ByteArray) (y : Int) (mo : Int) (da : Int) (h : Int) (mi : Int) (s : Int) (z : Int) res, (m29 [.agg [.sc (.string f), .list .str to, .list .str ls], .one (.sc (.string hb)), .agg [.sc (.int .i64 y), .sc (.int .i64 mo), .sc (.int .i64 da), .sc (.int .i64 h), .sc (.int .i64 mi), .sc (.int .i64 s), .sc (.int .i64 z)]]).val = some res → ∃ N, T29 N f to ls hb y mo da h mi s z = some res) :
    ∀ avs res, (m29 avs).val = some res → Con P D.tab 29 avs res := by
  intro avs res h
  have h0 := h
  unfold m29 at h0
  split at h0
  · obtain ⟨N, hN⟩ := pl _ _ _ _ _ _ _ _ _ _ _ res h
    exact con_of_ev tabOk hC (f := 29) (fn := Tryz.f29) (by kernel_rfl) (F29 N) (loops29 N) (by rw [show Tryz.f29.ntmps = 49 from by kernel_rfl]; simp) ((main29 N _ _ _ _ _ _ _ _ _ _ _).trans hN)
  · cases h0
theorem ent29 : Iv.Enters P 29 := ⟨Tryz.f29, by kernel_rfl, by kernel_rfl, by kernel_rfl⟩
noncomputable def call8 : CallT := ((((((noCall.add 27 m27).add 28 m28).add 29 m29).add 30 m30).add 37 m37).add 38 m38)
def F8 (N : Nat) : FnK RV where
  N := 92
  lk := fun _ => none
  lp := fun _ _ _ _ => none
theorem main8 (N : Nat) (c : List Int) : evF D.tab call8 (F8 N) Tryz.f8 [.one (.list (.int .u8) c)] = T8 N c := by kernel_rfl
theorem loops8 (N : Nat) : ∀ c, Tryz.f8.body = some c → ∀ p ∈ loopsOf 0 c, LoopOk D.tab call8 (F8 N) p := by
  intro c hc
  have e : c = bodyOf Tryz.f8 := by unfold bodyOf; rw [hc]
  subst e
  have e2 : loopsOf 0 (bodyOf Tryz.f8) = [] := by kernel_rfl
  rw [e2]
  intro p hp
  cases hp
theorem con8 (hC : CallOk P D.tab call8) (pl : ∀ (c : List Int) res, (m8 [.one (.list (.int .u8) c)]).val = some res → ∃ N, T8 N c = some res) :
    ∀ avs res, (m8 avs).val = some res → Con P D.tab 8 avs res := by
  intro avs res h
  have h0 := h
  unfold m8 at h0
  split at h0
  · obtain ⟨N, hN⟩ := pl _ res h
    exact con_of_ev tabOk hC (f := 8) (fn := Tryz.f8) (by kernel_rfl) (F8 N) (loops8 N) (by rw [show Tryz.f8.ntmps = 92 from by kernel_rfl]; simp) ((main8 N _).trans hN)
  · cases h0
theorem ent8 : Iv.Enters P 8 := ⟨Tryz.f8, by kernel_rfl, by kernel_rfl, by kernel_rfl⟩
end Go.Proofs.YtpdmeafoofkpaaaGreatDoor
