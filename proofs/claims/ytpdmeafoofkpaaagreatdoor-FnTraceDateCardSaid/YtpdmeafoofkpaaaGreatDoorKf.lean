/- What the evaluator makes of the code. -/
import Derived.Test.YtpdmeafoofkpaaaGreatDoorKd
import Derived.Test.YtpdmeafoofkpaaaGreatDoorHg
set_option linter.unusedVariables false
set_option linter.unusedSimpArgs false

namespace Go.Proofs.YtpdmeafoofkpaaaGreatDoor
open Go Go.Iv
set_option maxRecDepth 10000
set_option maxHeartbeats 4000000
noncomputable def call186 : CallT := noCall
def F186 (N : Nat) : FnK RV where
  N := 15
  lk := fun _ => none
  lp := fun _ _ _ _ => none
theorem main186 (N : Nat) (n : Int) (a : Int) (b : Int) : evF D.tab call186 (F186 N) Tryz.f186 [.one (.sc (.int .i64 n)), .one (.sc (.int .i64 a)), .one (.sc (.int .i64 b))] = T186 N n a b := by kernel_rfl
theorem loops186 (N : Nat) : ∀ c, Tryz.f186.body = some c → ∀ p ∈ loopsOf 0 c, LoopOk D.tab call186 (F186 N) p := by
  intro c hc
  have e : c = bodyOf Tryz.f186 := by unfold bodyOf; rw [hc]
  subst e
  have e2 : loopsOf 0 (bodyOf Tryz.f186) = [] := by kernel_rfl
  rw [e2]
  intro p hp
  cases hp
theorem con186 (hC : CallOk P D.tab call186) (pl : ∀ (n : Int) (a : Int) (b : Int) res, (m186 [.one (.sc (.int .i64 n)), .one (.sc (.int .i64 a)), .one (.sc (.int .i64 b))]).val = some res → ∃ N, T186 N n a b = some res) :
    ∀ avs res, (m186 avs).val = some res → Con P D.tab 186 avs res := by
  intro avs res h
  have h0 := h
  unfold m186 at h0
  split at h0
  · obtain ⟨N, hN⟩ := pl _ _ _ res h
    exact con_of_ev tabOk hC (f := 186) (fn := Tryz.f186) (by kernel_rfl) (F186 N) (loops186 N) (by rw [show Tryz.f186.ntmps = 15 from by kernel_rfl]; simp) ((main186 N _ _ _).trans hN)
  · cases h0
theorem ent186 : Iv.Enters P 186 := ⟨Tryz.f186, by kernel_rfl, by kernel_rfl, by kernel_rfl⟩
noncomputable def call187 : CallT := noCall
def F187 (N : Nat) : FnK RV where
  N := 40
  lk := fun _ => none
  lp := fun _ _ _ _ => none
theorem main187 (N : Nat) (y : Int) (m : Int) : evF D.tab call187 (F187 N) Tryz.f187 [.one (.sc (.int .i64 y)), .one (.sc (.int .i64 m))] = T187 N y m := by kernel_rfl
theorem loops187 (N : Nat) : ∀ c, Tryz.f187.body = some c → ∀ p ∈ loopsOf 0 c, LoopOk D.tab call187 (F187 N) p := by
  intro c hc
  have e : c = bodyOf Tryz.f187 := by unfold bodyOf; rw [hc]
  subst e
  have e2 : loopsOf 0 (bodyOf Tryz.f187) = [] := by kernel_rfl
  rw [e2]
  intro p hp
  cases hp
theorem con187 (hC : CallOk P D.tab call187) (pl : ∀ (y : Int) (m : Int) res, (m187 [.one (.sc (.int .i64 y)), .one (.sc (.int .i64 m))]).val = some res → ∃ N, T187 N y m = some res) :
    ∀ avs res, (m187 avs).val = some res → Con P D.tab 187 avs res := by
  intro avs res h
  have h0 := h
  unfold m187 at h0
  split at h0
  · obtain ⟨N, hN⟩ := pl _ _ res h
    exact con_of_ev tabOk hC (f := 187) (fn := Tryz.f187) (by kernel_rfl) (F187 N) (loops187 N) (by rw [show Tryz.f187.ntmps = 40 from by kernel_rfl]; simp) ((main187 N _ _).trans hN)
  · cases h0
theorem ent187 : Iv.Enters P 187 := ⟨Tryz.f187, by kernel_rfl, by kernel_rfl, by kernel_rfl⟩
noncomputable def call188 : CallT := (noCall.add 186 m186)
def F188 (N : Nat) : FnK RV where
  N := 5
  lk := fun _ => none
  lp := fun _ _ _ _ => none
theorem main188 (N : Nat) (z : Int) : evF D.tab call188 (F188 N) Tryz.f188 [.one (.sc (.int .i64 z))] = T188 N z := by kernel_rfl
theorem loops188 (N : Nat) : ∀ c, Tryz.f188.body = some c → ∀ p ∈ loopsOf 0 c, LoopOk D.tab call188 (F188 N) p := by
  intro c hc
  have e : c = bodyOf Tryz.f188 := by unfold bodyOf; rw [hc]
  subst e
  have e2 : loopsOf 0 (bodyOf Tryz.f188) = [] := by kernel_rfl
  rw [e2]
  intro p hp
  cases hp
theorem con188 (hC : CallOk P D.tab call188) (pl : ∀ (z : Int) res, (m188 [.one (.sc (.int .i64 z))]).val = some res → ∃ N, T188 N z = some res) :
    ∀ avs res, (m188 avs).val = some res → Con P D.tab 188 avs res := by
  intro avs res h
  have h0 := h
  unfold m188 at h0
  split at h0
  · obtain ⟨N, hN⟩ := pl _ res h
    exact con_of_ev tabOk hC (f := 188) (fn := Tryz.f188) (by kernel_rfl) (F188 N) (loops188 N) (by rw [show Tryz.f188.ntmps = 5 from by kernel_rfl]; simp) ((main188 N _).trans hN)
  · cases h0
theorem ent188 : Iv.Enters P 188 := ⟨Tryz.f188, by kernel_rfl, by kernel_rfl, by kernel_rfl⟩
noncomputable def call261 : CallT := noCall
def F261 (N : Nat) : FnK RV where
  N := 9
  lk := fun _ => none
  lp := fun _ _ _ _ => none
theorem main261 (N : Nat) (z : Int) : evF D.tab call261 (F261 N) Tryz.f261 [.one (.sc (.int .i64 z))] = T261 N z := by kernel_rfl
theorem loops261 (N : Nat) : ∀ c, Tryz.f261.body = some c → ∀ p ∈ loopsOf 0 c, LoopOk D.tab call261 (F261 N) p := by
  intro c hc
  have e : c = bodyOf Tryz.f261 := by unfold bodyOf; rw [hc]
  subst e
  have e2 : loopsOf 0 (bodyOf Tryz.f261) = [] := by kernel_rfl
  rw [e2]
  intro p hp
  cases hp
theorem con261 (hC : CallOk P D.tab call261) (pl : ∀ (z : Int) res, (m261 [.one (.sc (.int .i64 z))]).val = some res → ∃ N, T261 N z = some res) :
    ∀ avs res, (m261 avs).val = some res → Con P D.tab 261 avs res := by
  intro avs res h
  have h0 := h
  unfold m261 at h0
  split at h0
  · obtain ⟨N, hN⟩ := pl _ res h
    exact con_of_ev tabOk hC (f := 261) (fn := Tryz.f261) (by kernel_rfl) (F261 N) (loops261 N) (by rw [show Tryz.f261.ntmps = 9 from by kernel_rfl]; simp) ((main261 N _).trans hN)
  · cases h0
theorem ent261 : Iv.Enters P 261 := ⟨Tryz.f261, by kernel_rfl, by kernel_rfl, by kernel_rfl⟩
noncomputable def call262 : CallT := (noCall.add 277 m277)
def F262 (N : Nat) : FnK RV where
  N := 32
  lk := fun _ => none
  lp := fun _ _ _ _ => none
theorem main262 (N : Nat) (y : Int) (m : Int) : evF D.tab call262 (F262 N) Tryz.f262 [.one (.sc (.int .i64 y)), .one (.sc (.int .i64 m))] = T262 N y m := by kernel_rfl
theorem loops262 (N : Nat) : ∀ c, Tryz.f262.body = some c → ∀ p ∈ loopsOf 0 c, LoopOk D.tab call262 (F262 N) p := by
  intro c hc
  have e : c = bodyOf Tryz.f262 := by unfold bodyOf; rw [hc]
  subst e
  have e2 : loopsOf 0 (bodyOf Tryz.f262) = [] := by kernel_rfl
  rw [e2]
  intro p hp
  cases hp
theorem con262 (hC : CallOk P D.tab call262) (pl : ∀ (y : Int) (m : Int) res, (m262 [.one (.sc (.int .i64 y)), .one (.sc (.int .i64 m))]).val = some res → ∃ N, T262 N y m = some res) :
    ∀ avs res, (m262 avs).val = some res → Con P D.tab 262 avs res := by
  intro avs res h
  have h0 := h
  unfold m262 at h0
  split at h0
  · obtain ⟨N, hN⟩ := pl _ _ res h
    exact con_of_ev tabOk hC (f := 262) (fn := Tryz.f262) (by kernel_rfl) (F262 N) (loops262 N) (by rw [show Tryz.f262.ntmps = 32 from by kernel_rfl]; simp) ((main262 N _ _).trans hN)
  · cases h0
theorem ent262 : Iv.Enters P 262 := ⟨Tryz.f262, by kernel_rfl, by kernel_rfl, by kernel_rfl⟩
noncomputable def call277 : CallT := noCall
def F277 (N : Nat) : FnK RV where
  N := 16
  lk := fun _ => none
  lp := fun _ _ _ _ => none
theorem main277 (N : Nat) (y : Int) : evF D.tab call277 (F277 N) Tryz.f277 [.one (.sc (.int .i64 y))] = T277 N y := by kernel_rfl
theorem loops277 (N : Nat) : ∀ c, Tryz.f277.body = some c → ∀ p ∈ loopsOf 0 c, LoopOk D.tab call277 (F277 N) p := by
  intro c hc
  have e : c = bodyOf Tryz.f277 := by unfold bodyOf; rw [hc]
  subst e
  have e2 : loopsOf 0 (bodyOf Tryz.f277) = [] := by kernel_rfl
  rw [e2]
  intro p hp
  cases hp
theorem con277 (hC : CallOk P D.tab call277) (pl : ∀ (y : Int) res, (m277 [.one (.sc (.int .i64 y))]).val = some res → ∃ N, T277 N y = some res) :
    ∀ avs res, (m277 avs).val = some res → Con P D.tab 277 avs res := by
  intro avs res h
  have h0 := h
  unfold m277 at h0
  split at h0
  · obtain ⟨N, hN⟩ := pl _ res h
    exact con_of_ev tabOk hC (f := 277) (fn := Tryz.f277) (by kernel_rfl) (F277 N) (loops277 N) (by rw [show Tryz.f277.ntmps = 16 from by kernel_rfl]; simp) ((main277 N _).trans hN)
  · cases h0
theorem ent277 : Iv.Enters P 277 := ⟨Tryz.f277, by kernel_rfl, by kernel_rfl, by kernel_rfl⟩
noncomputable def call202 : CallT := (noCall.add 187 m187)
def K202_2 : LoopK := { hs := [0, 1, 7, 8, 9], ho := [], ex := [(2, [0, 1, 7, 8], [])], rs := [], ro := [] }
def lp202_2 {R : Type} (N : Nat) (vs : List IV) (os : List (Option Ob)) (k : Exit → List IV → List (Option Ob) → Option R) : Option R :=
  match vs, os with
  | [.v (.one (.fc (.sc (.int .i64 x0)))), .v (.one (.fc (.sc (.int .i64 x1)))), .v (.one (.fc (.sc (.int .i64 x2)))), .v (.one (.fc (.sc (.int .i64 x3)))), .v (.one (.fc (.sc (.int .i64 x4))))], [] => L202_2_0 N x0 x1 x2 x3 x4 (fun y0 y1 y2 y3 => k (.exit 2) [.v (.one (.fc (.sc (.int .i64 y0)))), .v (.one (.fc (.sc (.int .i64 y1)))), .v (.one (.fc (.sc (.int .i64 y2)))), .v (.one (.fc (.sc (.int .i64 y3))))] [])
  | _, _ => none
def K202_0 : LoopK := { hs := [0, 1, 7, 8], ho := [], ex := [(0, [7], [])], rs := [], ro := [] }
def lp202_0 {R : Type} (N : Nat) (vs : List IV) (os : List (Option Ob)) (k : Exit → List IV → List (Option Ob) → Option R) : Option R :=
  match vs, os with
  | [.v (.one (.fc (.sc (.int .i64 x0)))), .v (.one (.fc (.sc (.int .i64 x1)))), .v (.one (.fc (.sc (.int .i64 x2)))), .v (.one (.fc (.sc (.int .i64 x3))))], [] => L202_0_0 N N x0 x1 x2 x3 (fun y0 => k (.exit 0) [.v (.one (.fc (.sc (.int .i64 y0))))] [])
  | _, _ => none
def F202 (N : Nat) : FnK RV where
  N := 37
  lk := fun b => bif Nat.beq b 2 then some K202_2 else bif Nat.beq b 0 then some K202_0 else none
  lp := fun b vs os k => bif Nat.beq b 2 then lp202_2 N vs os k else bif Nat.beq b 0 then lp202_0 N vs os k else none
noncomputable def ev202_2 (N m : Nat) (vs : List IV) (os : List (Option Ob)) (k : Exit → List IV → List (Option Ob) → Option RV) : Option RV :=
  evLoop 37 K202_2 (fun σ k' => evC D.tab call202 (F202 N) 2 (loopAt Tryz.f202 1).2 σ k') m vs os k
theorem st202_2_0 (N m : Nat) (x0 : Int) (x1 : Int) (x2 : Int) (x3 : Int) (x4 : Int) (k : Exit → List IV → List (Option Ob) → Option RV) :
    ev202_2 N (m + 1) [.v (.one (.fc (.sc (.int .i64 x0)))), .v (.one (.fc (.sc (.int .i64 x1)))), .v (.one (.fc (.sc (.int .i64 x2)))), .v (.one (.fc (.sc (.int .i64 x3)))), .v (.one (.fc (.sc (.int .i64 x4))))] [] k =
    (bif (decide (x4 ≤ (12 : Int))) then
    (bif (decide (x3 < x0)) then
      (ev202_2 N m [.v (.one (.fc (.sc (.int .i64 x0)))), .v (.one (.fc (.sc (.int .i64 x1)))), .v (.one (.fc (.sc (.int .i64 (IntKind.i64.wrap (x2 + (daysOf x3 x4))))))), .v (.one (.fc (.sc (.int .i64 x3)))), .v (.one (.fc (.sc (.int .i64 (IntKind.i64.wrap (x4 + (1 : Int)))))))] [] k)
      else
      (bif (decide (x4 < x1)) then
        (ev202_2 N m [.v (.one (.fc (.sc (.int .i64 x0)))), .v (.one (.fc (.sc (.int .i64 x1)))), .v (.one (.fc (.sc (.int .i64 (IntKind.i64.wrap (x2 + (daysOf x3 x4))))))), .v (.one (.fc (.sc (.int .i64 x3)))), .v (.one (.fc (.sc (.int .i64 (IntKind.i64.wrap (x4 + (1 : Int)))))))] [] k)
        else
        (k (.exit 2) [.v (.one (.fc (.sc (.int .i64 x0)))), .v (.one (.fc (.sc (.int .i64 x1)))), .v (.one (.fc (.sc (.int .i64 x2)))), .v (.one (.fc (.sc (.int .i64 x3))))] [])))
    else
    (k (.exit 2) [.v (.one (.fc (.sc (.int .i64 x0)))), .v (.one (.fc (.sc (.int .i64 x1)))), .v (.one (.fc (.sc (.int .i64 x2)))), .v (.one (.fc (.sc (.int .i64 x3))))] [])) := by kernel_rfl
theorem eq202_2 (N : Nat) (k : Exit → List IV → List (Option Ob) → Option RV) : ∀ m : Nat,
    (∀ (x0 : Int) (x1 : Int) (x2 : Int) (x3 : Int) (x4 : Int), ev202_2 N m [.v (.one (.fc (.sc (.int .i64 x0)))), .v (.one (.fc (.sc (.int .i64 x1)))), .v (.one (.fc (.sc (.int .i64 x2)))), .v (.one (.fc (.sc (.int .i64 x3)))), .v (.one (.fc (.sc (.int .i64 x4))))] [] k = L202_2_0 m x0 x1 x2 x3 x4 (fun y0 y1 y2 y3 => k (.exit 2) [.v (.one (.fc (.sc (.int .i64 y0)))), .v (.one (.fc (.sc (.int .i64 y1)))), .v (.one (.fc (.sc (.int .i64 y2)))), .v (.one (.fc (.sc (.int .i64 y3))))] [])) := by
  intro m
  induction m with
  | zero => exact (fun _ _ _ _ _ => rfl)
  | succ m ih =>
    have ih0 := ih
    refine (fun _ _ _ _ _ => ?_)
    · rw [st202_2_0]; simp only [ih0]; rfl
theorem lo202_2 (N : Nat) : LoopOk D.tab call202 (F202 N) (loopAt Tryz.f202 1) := by
  have h1 : (loopAt Tryz.f202 1).1 = 2 := by kernel_rfl
  intro L hL vs os k r h
  rw [h1] at hL h ⊢
  have hL' : L = K202_2 := by
    have e : (F202 N).lk 2 = some K202_2 := rfl
    rw [e] at hL; cases hL; rfl
  subst hL'
  have h2 : lp202_2 N vs os k = some r := h
  unfold lp202_2 at h2
  split at h2
  · exact ⟨N, ((eq202_2 N k N) _ _ _ _ _).trans h2⟩
  · cases h2
noncomputable def ev202_0 (N m : Nat) (vs : List IV) (os : List (Option Ob)) (k : Exit → List IV → List (Option Ob) → Option RV) : Option RV :=
  evLoop 37 K202_0 (fun σ k' => evC D.tab call202 (F202 N) 0 (loopAt Tryz.f202 0).2 σ k') m vs os k
theorem st202_0_0 (N m : Nat) (x0 : Int) (x1 : Int) (x2 : Int) (x3 : Int) (k : Exit → List IV → List (Option Ob) → Option RV) :
    ev202_0 N (m + 1) [.v (.one (.fc (.sc (.int .i64 x0)))), .v (.one (.fc (.sc (.int .i64 x1)))), .v (.one (.fc (.sc (.int .i64 x2)))), .v (.one (.fc (.sc (.int .i64 x3))))] [] k =
    (bif (decide (x3 ≤ x0)) then
    (L202_2_0 N x0 x1 x2 x3 (1 : Int)
      (fun (z1_0 : Int) (z1_1 : Int) (z1_2 : Int) (z1_3 : Int) => (ev202_0 N m [.v (.one (.fc (.sc (.int .i64 z1_0)))), .v (.one (.fc (.sc (.int .i64 z1_1)))), .v (.one (.fc (.sc (.int .i64 z1_2)))), .v (.one (.fc (.sc (.int .i64 (IntKind.i64.wrap (z1_3 + (1 : Int)))))))] [] k)))
    else
    (k (.exit 0) [.v (.one (.fc (.sc (.int .i64 x2))))] [])) := by kernel_rfl
theorem eq202_0 (N : Nat) (k : Exit → List IV → List (Option Ob) → Option RV) : ∀ m : Nat,
    (∀ (x0 : Int) (x1 : Int) (x2 : Int) (x3 : Int), ev202_0 N m [.v (.one (.fc (.sc (.int .i64 x0)))), .v (.one (.fc (.sc (.int .i64 x1)))), .v (.one (.fc (.sc (.int .i64 x2)))), .v (.one (.fc (.sc (.int .i64 x3))))] [] k = L202_0_0 N m x0 x1 x2 x3 (fun y0 => k (.exit 0) [.v (.one (.fc (.sc (.int .i64 y0))))] [])) := by
  intro m
  induction m with
  | zero => exact (fun _ _ _ _ => rfl)
  | succ m ih =>
    have ih0 := ih
    refine (fun _ _ _ _ => ?_)
    · rw [st202_0_0]; simp only [ih0]; rfl
theorem lo202_0 (N : Nat) : LoopOk D.tab call202 (F202 N) (loopAt Tryz.f202 0) := by
  have h1 : (loopAt Tryz.f202 0).1 = 0 := by kernel_rfl
  intro L hL vs os k r h
  rw [h1] at hL h ⊢
  have hL' : L = K202_0 := by
    have e : (F202 N).lk 0 = some K202_0 := rfl
    rw [e] at hL; cases hL; rfl
  subst hL'
  have h2 : lp202_0 N vs os k = some r := h
  unfold lp202_0 at h2
  split at h2
  · exact ⟨N, ((eq202_0 N k N) _ _ _ _).trans h2⟩
  · cases h2
theorem main202 (N : Nat) (y : Int) (m : Int) (d : Int) : evF D.tab call202 (F202 N) Tryz.f202 [.one (.sc (.int .i64 y)), .one (.sc (.int .i64 m)), .one (.sc (.int .i64 d))] = T202 N y m d := by kernel_rfl
theorem loops202 (N : Nat) : ∀ c, Tryz.f202.body = some c → ∀ p ∈ loopsOf 0 c, LoopOk D.tab call202 (F202 N) p := by
  intro c hc
  have e : c = bodyOf Tryz.f202 := by unfold bodyOf; rw [hc]
  subst e
  have e2 : loopsOf 0 (bodyOf Tryz.f202) = [loopAt Tryz.f202 0, loopAt Tryz.f202 1] := by kernel_rfl
  rw [e2]
  intro p hp
  simp only [List.mem_cons, List.not_mem_nil, or_false] at hp
  rcases hp with rfl | rfl
  · exact lo202_0 N
  · exact lo202_2 N
theorem con202 (hC : CallOk P D.tab call202) (pl : ∀ (y : Int) (m : Int) (d : Int) res, (m202 [.one (.sc (.int .i64 y)), .one (.sc (.int .i64 m)), .one (.sc (.int .i64 d))]).val = some res → ∃ N, T202 N y m d = some res) :
    ∀ avs res, (m202 avs).val = some res → Con P D.tab 202 avs res := by
  intro avs res h
  have h0 := h
  unfold m202 at h0
  split at h0
  · obtain ⟨N, hN⟩ := pl _ _ _ res h
    exact con_of_ev tabOk hC (f := 202) (fn := Tryz.f202) (by kernel_rfl) (F202 N) (loops202 N) (by rw [show Tryz.f202.ntmps = 37 from by kernel_rfl]; simp) ((main202 N _ _ _).trans hN)
  · cases h0
theorem ent202 : Iv.Enters P 202 := ⟨Tryz.f202, by kernel_rfl, by kernel_rfl, by kernel_rfl⟩
noncomputable def call198 : CallT := ((noCall.add 261 m261).add 262 m262)
def F198 (N : Nat) : FnK RV where
  N := 51
  lk := fun _ => none
  lp := fun _ _ _ _ => none
theorem main198 (N : Nat) (y : Int) (mo : Int) (da : Int) (h : Int) (mi : Int) (s : Int) (z : Int) : evF D.tab call198 (F198 N) Tryz.f198 [.agg [.sc (.int .i64 y), .sc (.int .i64 mo), .sc (.int .i64 da), .sc (.int .i64 h), .sc (.int .i64 mi), .sc (.int .i64 s), .sc (.int .i64 z)]] = T198 N y mo da h mi s z := by kernel_rfl
theorem loops198 (N : Nat) : ∀ c, Tryz.f198.body = some c → ∀ p ∈ loopsOf 0 c, LoopOk D.tab call198 (F198 N) p := by
  intro c hc
  have e : c = bodyOf Tryz.f198 := by unfold bodyOf; rw [hc]
  subst e
  have e2 : loopsOf 0 (bodyOf Tryz.f198) = [] := by kernel_rfl
  rw [e2]
  intro p hp
  cases hp
theorem con198 (hC : CallOk P D.tab call198) (pl : ∀ (y : Int) (mo : Int) (da : Int) (h : Int) (mi : Int) (s : Int) (z : Int) res, (m198 [.agg [.sc (.int .i64 y), .sc (.int .i64 mo), .sc (.int .i64 da), .sc (.int .i64 h), .sc (.int .i64 mi), .sc (.int .i64 s), .sc (.int .i64 z)]]).val = some res → ∃ N, T198 N y mo da h mi s z = some res) :
    ∀ avs res, (m198 avs).val = some res → Con P D.tab 198 avs res := by
  intro avs res h
  have h0 := h
  unfold m198 at h0
  split at h0
  · obtain ⟨N, hN⟩ := pl _ _ _ _ _ _ _ res h
    exact con_of_ev tabOk hC (f := 198) (fn := Tryz.f198) (by kernel_rfl) (F198 N) (loops198 N) (by rw [show Tryz.f198.ntmps = 51 from by kernel_rfl]; simp) ((main198 N _ _ _ _ _ _ _).trans hN)
  · cases h0
theorem ent198 : Iv.Enters P 198 := ⟨Tryz.f198, by kernel_rfl, by kernel_rfl, by kernel_rfl⟩
noncomputable def call199 : CallT := ((noCall.add 262 m262).add 277 m277)
def K199_0 : LoopK := { hs := [1, 3, 4], ho := [1], ex := [(0, [1, 3], [1])], rs := [], ro := [] }
def lp199_0 {R : Type} (N : Nat) (vs : List IV) (os : List (Option Ob)) (k : Exit → List IV → List (Option Ob) → Option R) : Option R :=
  match vs, os with
  | [.v (.one (.ptr 1 0)), .v (.one (.fc (.sc (.int .i64 x0)))), .v (.one (.fc (.sc (.int .i64 x1))))], [some (.cells [.fc (.sc (.int .i64 x2)), .fc (.sc (.int .i64 x3)), .fc (.sc (.int .i64 x4)), .fc (.sc (.int .i64 x5)), .fc (.sc (.int .i64 x6)), .fc (.sc (.int .i64 x7)), .fc (.sc (.int .i64 x8))])] => L199_0_0 N x0 x1 x2 x3 x4 x5 x6 x7 x8 (fun y0 y1 y2 y3 y4 y5 y6 y7 => k (.exit 0) [.v (.one (.ptr 1 0)), .v (.one (.fc (.sc (.int .i64 y0))))] [some (.cells [.fc (.sc (.int .i64 y1)), .fc (.sc (.int .i64 y2)), .fc (.sc (.int .i64 y3)), .fc (.sc (.int .i64 y4)), .fc (.sc (.int .i64 y5)), .fc (.sc (.int .i64 y6)), .fc (.sc (.int .i64 y7))])])
  | _, _ => none
def K199_2 : LoopK := { hs := [1, 3, 5], ho := [1], ex := [(2, [1, 3], [1])], rs := [], ro := [] }
def lp199_2 {R : Type} (N : Nat) (vs : List IV) (os : List (Option Ob)) (k : Exit → List IV → List (Option Ob) → Option R) : Option R :=
  match vs, os with
  | [.v (.one (.ptr 1 0)), .v (.one (.fc (.sc (.int .i64 x0)))), .v (.one (.fc (.sc (.int .i64 x1))))], [some (.cells [.fc (.sc (.int .i64 x2)), .fc (.sc (.int .i64 x3)), .fc (.sc (.int .i64 x4)), .fc (.sc (.int .i64 x5)), .fc (.sc (.int .i64 x6)), .fc (.sc (.int .i64 x7)), .fc (.sc (.int .i64 x8))])] => L199_2_0 N x0 x1 x2 x3 x4 x5 x6 x7 x8 (fun y0 y1 y2 y3 y4 y5 y6 y7 => k (.exit 2) [.v (.one (.ptr 1 0)), .v (.one (.fc (.sc (.int .i64 y0))))] [some (.cells [.fc (.sc (.int .i64 y1)), .fc (.sc (.int .i64 y2)), .fc (.sc (.int .i64 y3)), .fc (.sc (.int .i64 y4)), .fc (.sc (.int .i64 y5)), .fc (.sc (.int .i64 y6)), .fc (.sc (.int .i64 y7))])])
  | _, _ => none
def F199 (N : Nat) : FnK RV where
  N := 50
  lk := fun b => bif Nat.beq b 0 then some K199_0 else bif Nat.beq b 2 then some K199_2 else none
  lp := fun b vs os k => bif Nat.beq b 0 then lp199_0 N vs os k else bif Nat.beq b 2 then lp199_2 N vs os k else none
noncomputable def ev199_0 (N m : Nat) (vs : List IV) (os : List (Option Ob)) (k : Exit → List IV → List (Option Ob) → Option RV) : Option RV :=
  evLoop 50 K199_0 (fun σ k' => evC D.tab call199 (F199 N) 0 (loopAt Tryz.f199 0).2 σ k') m vs os k
theorem st199_0_0 (N m : Nat) (x0 : Int) (x1 : Int) (x2 : Int) (x3 : Int) (x4 : Int) (x5 : Int) (x6 : Int) (x7 : Int) (x8 : Int) (k : Exit → List IV → List (Option Ob) → Option RV) :
    ev199_0 N (m + 1) [.v (.one (.ptr 1 0)), .v (.one (.fc (.sc (.int .i64 x0)))), .v (.one (.fc (.sc (.int .i64 x1))))] [some (.cells [.fc (.sc (.int .i64 x2)), .fc (.sc (.int .i64 x3)), .fc (.sc (.int .i64 x4)), .fc (.sc (.int .i64 x5)), .fc (.sc (.int .i64 x6)), .fc (.sc (.int .i64 x7)), .fc (.sc (.int .i64 x8))])] k =
    (bif (decide (x1 < x2)) then
    (bif (leap x1) then
      (ev199_0 N m [.v (.one (.ptr 1 0)), .v (.one (.fc (.sc (.int .i64 (IntKind.i64.wrap ((IntKind.i64.wrap (x0 + (365 : Int))) + (1 : Int))))))), .v (.one (.fc (.sc (.int .i64 (IntKind.i64.wrap (x1 + (1 : Int)))))))] [some (.cells [.fc (.sc (.int .i64 x2)), .fc (.sc (.int .i64 x3)), .fc (.sc (.int .i64 x4)), .fc (.sc (.int .i64 x5)), .fc (.sc (.int .i64 x6)), .fc (.sc (.int .i64 x7)), .fc (.sc (.int .i64 x8))])] k)
      else
      (ev199_0 N m [.v (.one (.ptr 1 0)), .v (.one (.fc (.sc (.int .i64 (IntKind.i64.wrap (x0 + (365 : Int))))))), .v (.one (.fc (.sc (.int .i64 (IntKind.i64.wrap (x1 + (1 : Int)))))))] [some (.cells [.fc (.sc (.int .i64 x2)), .fc (.sc (.int .i64 x3)), .fc (.sc (.int .i64 x4)), .fc (.sc (.int .i64 x5)), .fc (.sc (.int .i64 x6)), .fc (.sc (.int .i64 x7)), .fc (.sc (.int .i64 x8))])] k))
    else
    (k (.exit 0) [.v (.one (.ptr 1 0)), .v (.one (.fc (.sc (.int .i64 x0))))] [some (.cells [.fc (.sc (.int .i64 x2)), .fc (.sc (.int .i64 x3)), .fc (.sc (.int .i64 x4)), .fc (.sc (.int .i64 x5)), .fc (.sc (.int .i64 x6)), .fc (.sc (.int .i64 x7)), .fc (.sc (.int .i64 x8))])])) := by kernel_rfl
theorem eq199_0 (N : Nat) (k : Exit → List IV → List (Option Ob) → Option RV) : ∀ m : Nat,
    (∀ (x0 : Int) (x1 : Int) (x2 : Int) (x3 : Int) (x4 : Int) (x5 : Int) (x6 : Int) (x7 : Int) (x8 : Int), ev199_0 N m [.v (.one (.ptr 1 0)), .v (.one (.fc (.sc (.int .i64 x0)))), .v (.one (.fc (.sc (.int .i64 x1))))] [some (.cells [.fc (.sc (.int .i64 x2)), .fc (.sc (.int .i64 x3)), .fc (.sc (.int .i64 x4)), .fc (.sc (.int .i64 x5)), .fc (.sc (.int .i64 x6)), .fc (.sc (.int .i64 x7)), .fc (.sc (.int .i64 x8))])] k = L199_0_0 m x0 x1 x2 x3 x4 x5 x6 x7 x8 (fun y0 y1 y2 y3 y4 y5 y6 y7 => k (.exit 0) [.v (.one (.ptr 1 0)), .v (.one (.fc (.sc (.int .i64 y0))))] [some (.cells [.fc (.sc (.int .i64 y1)), .fc (.sc (.int .i64 y2)), .fc (.sc (.int .i64 y3)), .fc (.sc (.int .i64 y4)), .fc (.sc (.int .i64 y5)), .fc (.sc (.int .i64 y6)), .fc (.sc (.int .i64 y7))])])) := by
  intro m
  induction m with
  | zero => exact (fun _ _ _ _ _ _ _ _ _ => rfl)
  | succ m ih =>
    have ih0 := ih
    refine (fun _ _ _ _ _ _ _ _ _ => ?_)
    · rw [st199_0_0]; simp only [ih0]; rfl
theorem lo199_0 (N : Nat) : LoopOk D.tab call199 (F199 N) (loopAt Tryz.f199 0) := by
  have h1 : (loopAt Tryz.f199 0).1 = 0 := by kernel_rfl
  intro L hL vs os k r h
  rw [h1] at hL h ⊢
  have hL' : L = K199_0 := by
    have e : (F199 N).lk 0 = some K199_0 := rfl
    rw [e] at hL; cases hL; rfl
  subst hL'
  have h2 : lp199_0 N vs os k = some r := h
  unfold lp199_0 at h2
  split at h2
  · exact ⟨N, ((eq199_0 N k N) _ _ _ _ _ _ _ _ _).trans h2⟩
  · cases h2
noncomputable def ev199_2 (N m : Nat) (vs : List IV) (os : List (Option Ob)) (k : Exit → List IV → List (Option Ob) → Option RV) : Option RV :=
  evLoop 50 K199_2 (fun σ k' => evC D.tab call199 (F199 N) 2 (loopAt Tryz.f199 1).2 σ k') m vs os k
theorem st199_2_0 (N m : Nat) (x0 : Int) (x1 : Int) (x2 : Int) (x3 : Int) (x4 : Int) (x5 : Int) (x6 : Int) (x7 : Int) (x8 : Int) (k : Exit → List IV → List (Option Ob) → Option RV) :
    ev199_2 N (m + 1) [.v (.one (.ptr 1 0)), .v (.one (.fc (.sc (.int .i64 x0)))), .v (.one (.fc (.sc (.int .i64 x1))))] [some (.cells [.fc (.sc (.int .i64 x2)), .fc (.sc (.int .i64 x3)), .fc (.sc (.int .i64 x4)), .fc (.sc (.int .i64 x5)), .fc (.sc (.int .i64 x6)), .fc (.sc (.int .i64 x7)), .fc (.sc (.int .i64 x8))])] k =
    (bif (decide (x1 < x3)) then
    (ev199_2 N m [.v (.one (.ptr 1 0)), .v (.one (.fc (.sc (.int .i64 (IntKind.i64.wrap (x0 + (daysOf x2 x1))))))), .v (.one (.fc (.sc (.int .i64 (IntKind.i64.wrap (x1 + (1 : Int)))))))] [some (.cells [.fc (.sc (.int .i64 x2)), .fc (.sc (.int .i64 x3)), .fc (.sc (.int .i64 x4)), .fc (.sc (.int .i64 x5)), .fc (.sc (.int .i64 x6)), .fc (.sc (.int .i64 x7)), .fc (.sc (.int .i64 x8))])] k)
    else
    (k (.exit 2) [.v (.one (.ptr 1 0)), .v (.one (.fc (.sc (.int .i64 x0))))] [some (.cells [.fc (.sc (.int .i64 x2)), .fc (.sc (.int .i64 x3)), .fc (.sc (.int .i64 x4)), .fc (.sc (.int .i64 x5)), .fc (.sc (.int .i64 x6)), .fc (.sc (.int .i64 x7)), .fc (.sc (.int .i64 x8))])])) := by kernel_rfl
theorem eq199_2 (N : Nat) (k : Exit → List IV → List (Option Ob) → Option RV) : ∀ m : Nat,
    (∀ (x0 : Int) (x1 : Int) (x2 : Int) (x3 : Int) (x4 : Int) (x5 : Int) (x6 : Int) (x7 : Int) (x8 : Int), ev199_2 N m [.v (.one (.ptr 1 0)), .v (.one (.fc (.sc (.int .i64 x0)))), .v (.one (.fc (.sc (.int .i64 x1))))] [some (.cells [.fc (.sc (.int .i64 x2)), .fc (.sc (.int .i64 x3)), .fc (.sc (.int .i64 x4)), .fc (.sc (.int .i64 x5)), .fc (.sc (.int .i64 x6)), .fc (.sc (.int .i64 x7)), .fc (.sc (.int .i64 x8))])] k = L199_2_0 m x0 x1 x2 x3 x4 x5 x6 x7 x8 (fun y0 y1 y2 y3 y4 y5 y6 y7 => k (.exit 2) [.v (.one (.ptr 1 0)), .v (.one (.fc (.sc (.int .i64 y0))))] [some (.cells [.fc (.sc (.int .i64 y1)), .fc (.sc (.int .i64 y2)), .fc (.sc (.int .i64 y3)), .fc (.sc (.int .i64 y4)), .fc (.sc (.int .i64 y5)), .fc (.sc (.int .i64 y6)), .fc (.sc (.int .i64 y7))])])) := by
  intro m
  induction m with
  | zero => exact (fun _ _ _ _ _ _ _ _ _ => rfl)
  | succ m ih =>
    have ih0 := ih
    refine (fun _ _ _ _ _ _ _ _ _ => ?_)
    · rw [st199_2_0]; simp only [ih0]; rfl
theorem lo199_2 (N : Nat) : LoopOk D.tab call199 (F199 N) (loopAt Tryz.f199 1) := by
  have h1 : (loopAt Tryz.f199 1).1 = 2 := by kernel_rfl
  intro L hL vs os k r h
  rw [h1] at hL h ⊢
  have hL' : L = K199_2 := by
    have e : (F199 N).lk 2 = some K199_2 := rfl
    rw [e] at hL; cases hL; rfl
  subst hL'
  have h2 : lp199_2 N vs os k = some r := h
  unfold lp199_2 at h2
  split at h2
  · exact ⟨N, ((eq199_2 N k N) _ _ _ _ _ _ _ _ _).trans h2⟩
  · cases h2
theorem main199 (N : Nat) (y : Int) (mo : Int) (da : Int) (h : Int) (mi : Int) (s : Int) (z : Int) : evF D.tab call199 (F199 N) Tryz.f199 [.agg [.sc (.int .i64 y), .sc (.int .i64 mo), .sc (.int .i64 da), .sc (.int .i64 h), .sc (.int .i64 mi), .sc (.int .i64 s), .sc (.int .i64 z)]] = T199 N y mo da h mi s z := by kernel_rfl
theorem loops199 (N : Nat) : ∀ c, Tryz.f199.body = some c → ∀ p ∈ loopsOf 0 c, LoopOk D.tab call199 (F199 N) p := by
  intro c hc
  have e : c = bodyOf Tryz.f199 := by unfold bodyOf; rw [hc]
  subst e
  have e2 : loopsOf 0 (bodyOf Tryz.f199) = [loopAt Tryz.f199 0, loopAt Tryz.f199 1] := by kernel_rfl
  rw [e2]
  intro p hp
  simp only [List.mem_cons, List.not_mem_nil, or_false] at hp
  rcases hp with rfl | rfl
  · exact lo199_0 N
  · exact lo199_2 N
theorem con199 (hC : CallOk P D.tab call199) (pl : ∀ (y : Int) (mo : Int) (da : Int) (h : Int) (mi : Int) (s : Int) (z : Int) res, (m199 [.agg [.sc (.int .i64 y), .sc (.int .i64 mo), .sc (.int .i64 da), .sc (.int .i64 h), .sc (.int .i64 mi), .sc (.int .i64 s), .sc (.int .i64 z)]]).val = some res → ∃ N, T199 N y mo da h mi s z = some res) :
    ∀ avs res, (m199 avs).val = some res → Con P D.tab 199 avs res := by
  intro avs res h
  have h0 := h
  unfold m199 at h0
  split at h0
  · obtain ⟨N, hN⟩ := pl _ _ _ _ _ _ _ res h
    exact con_of_ev tabOk hC (f := 199) (fn := Tryz.f199) (by kernel_rfl) (F199 N) (loops199 N) (by rw [show Tryz.f199.ntmps = 50 from by kernel_rfl]; simp) ((main199 N _ _ _ _ _ _ _).trans hN)
  · cases h0
theorem ent199 : Iv.Enters P 199 := ⟨Tryz.f199, by kernel_rfl, by kernel_rfl, by kernel_rfl⟩
noncomputable def call189 : CallT := (noCall.add 202 m202)
def F189 (N : Nat) : FnK RV where
  N := 26
  lk := fun _ => none
  lp := fun _ _ _ _ => none
theorem main189 (N : Nat) (y : Int) (mo : Int) (da : Int) (h : Int) (mi : Int) (s : Int) (z : Int) : evF D.tab call189 (F189 N) Tryz.f189 [.agg [.sc (.int .i64 y), .sc (.int .i64 mo), .sc (.int .i64 da), .sc (.int .i64 h), .sc (.int .i64 mi), .sc (.int .i64 s), .sc (.int .i64 z)]] = T189 N y mo da h mi s z := by kernel_rfl
theorem loops189 (N : Nat) : ∀ c, Tryz.f189.body = some c → ∀ p ∈ loopsOf 0 c, LoopOk D.tab call189 (F189 N) p := by
  intro c hc
  have e : c = bodyOf Tryz.f189 := by unfold bodyOf; rw [hc]
  subst e
  have e2 : loopsOf 0 (bodyOf Tryz.f189) = [] := by kernel_rfl
  rw [e2]
  intro p hp
  cases hp
theorem con189 (hC : CallOk P D.tab call189) (pl : ∀ (y : Int) (mo : Int) (da : Int) (h : Int) (mi : Int) (s : Int) (z : Int) res, (m189 [.agg [.sc (.int .i64 y), .sc (.int .i64 mo), .sc (.int .i64 da), .sc (.int .i64 h), .sc (.int .i64 mi), .sc (.int .i64 s), .sc (.int .i64 z)]]).val = some res → ∃ N, T189 N y mo da h mi s z = some res) :
    ∀ avs res, (m189 avs).val = some res → Con P D.tab 189 avs res := by
  intro avs res h
  have h0 := h
  unfold m189 at h0
  split at h0
  · obtain ⟨N, hN⟩ := pl _ _ _ _ _ _ _ res h
    exact con_of_ev tabOk hC (f := 189) (fn := Tryz.f189) (by kernel_rfl) (F189 N) (loops189 N) (by rw [show Tryz.f189.ntmps = 26 from by kernel_rfl]; simp) ((main189 N _ _ _ _ _ _ _).trans hN)
  · cases h0
theorem ent189 : Iv.Enters P 189 := ⟨Tryz.f189, by kernel_rfl, by kernel_rfl, by kernel_rfl⟩
noncomputable def call93 : CallT := ((((noCall.add 186 m186).add 187 m187).add 188 m188).add 189 m189)
def F93 (N : Nat) : FnK RV where
  N := 36
  lk := fun _ => none
  lp := fun _ _ _ _ => none
theorem main93 (N : Nat) (y : Int) (mo : Int) (da : Int) (h : Int) (mi : Int) (s : Int) (z : Int) : evF D.tab call93 (F93 N) Tryz.f93 [.agg [.sc (.int .i64 y), .sc (.int .i64 mo), .sc (.int .i64 da), .sc (.int .i64 h), .sc (.int .i64 mi), .sc (.int .i64 s), .sc (.int .i64 z)]] = T93 N y mo da h mi s z := by kernel_rfl
theorem loops93 (N : Nat) : ∀ c, Tryz.f93.body = some c → ∀ p ∈ loopsOf 0 c, LoopOk D.tab call93 (F93 N) p := by
  intro c hc
  have e : c = bodyOf Tryz.f93 := by unfold bodyOf; rw [hc]
  subst e
  have e2 : loopsOf 0 (bodyOf Tryz.f93) = [] := by kernel_rfl
  rw [e2]
  intro p hp
  cases hp
theorem con93 (hC : CallOk P D.tab call93) (pl : ∀ (y : Int) (mo : Int) (da : Int) (h : Int) (mi : Int) (s : Int) (z : Int) res, (m93 [.agg [.sc (.int .i64 y), .sc (.int .i64 mo), .sc (.int .i64 da), .sc (.int .i64 h), .sc (.int .i64 mi), .sc (.int .i64 s), .sc (.int .i64 z)]]).val = some res → ∃ N, T93 N y mo da h mi s z = some res) :
    ∀ avs res, (m93 avs).val = some res → Con P D.tab 93 avs res := by
  intro avs res h
  have h0 := h
  unfold m93 at h0
  split at h0
  · obtain ⟨N, hN⟩ := pl _ _ _ _ _ _ _ res h
    exact con_of_ev tabOk hC (f := 93) (fn := Tryz.f93) (by kernel_rfl) (F93 N) (loops93 N) (by rw [show Tryz.f93.ntmps = 36 from by kernel_rfl]; simp) ((main93 N _ _ _ _ _ _ _).trans hN)
  · cases h0
theorem ent93 : Iv.Enters P 93 := ⟨Tryz.f93, by kernel_rfl, by kernel_rfl, by kernel_rfl⟩
noncomputable def call100 : CallT := ((noCall.add 198 m198).add 199 m199)
def F100 (N : Nat) : FnK RV where
  N := 15
  lk := fun _ => none
  lp := fun _ _ _ _ => none
theorem main100 (N : Nat) (y : Int) (mo : Int) (da : Int) (h : Int) (mi : Int) (s : Int) (z : Int) : evF D.tab call100 (F100 N) Tryz.f100 [.agg [.sc (.int .i64 y), .sc (.int .i64 mo), .sc (.int .i64 da), .sc (.int .i64 h), .sc (.int .i64 mi), .sc (.int .i64 s), .sc (.int .i64 z)]] = T100 N y mo da h mi s z := by kernel_rfl
theorem loops100 (N : Nat) : ∀ c, Tryz.f100.body = some c → ∀ p ∈ loopsOf 0 c, LoopOk D.tab call100 (F100 N) p := by
  intro c hc
  have e : c = bodyOf Tryz.f100 := by unfold bodyOf; rw [hc]
  subst e
  have e2 : loopsOf 0 (bodyOf Tryz.f100) = [] := by kernel_rfl
  rw [e2]
  intro p hp
  cases hp
theorem con100 (hC : CallOk P D.tab call100) (pl : ∀ (y : Int) (mo : Int) (da : Int) (h : Int) (mi : Int) (s : Int) (z : Int) res, (m100 [.agg [.sc (.int .i64 y), .sc (.int .i64 mo), .sc (.int .i64 da), .sc (.int .i64 h), .sc (.int .i64 mi), .sc (.int .i64 s), .sc (.int .i64 z)]]).val = some res → ∃ N, T100 N y mo da h mi s z = some res) :
    ∀ avs res, (m100 avs).val = some res → Con P D.tab 100 avs res := by
  intro avs res h
  have h0 := h
  unfold m100 at h0
  split at h0
  · obtain ⟨N, hN⟩ := pl _ _ _ _ _ _ _ res h
    exact con_of_ev tabOk hC (f := 100) (fn := Tryz.f100) (by kernel_rfl) (F100 N) (loops100 N) (by rw [show Tryz.f100.ntmps = 15 from by kernel_rfl]; simp) ((main100 N _ _ _ _ _ _ _).trans hN)
  · cases h0
theorem ent100 : Iv.Enters P 100 := ⟨Tryz.f100, by kernel_rfl, by kernel_rfl, by kernel_rfl⟩
noncomputable def call109 : CallT := ((noCall.add 93 m93).add 202 m202)
def F109 (N : Nat) : FnK RV where
  N := 16
  lk := fun _ => none
  lp := fun _ _ _ _ => none
theorem main109 (N : Nat) (y : Int) (mo : Int) (da : Int) (h : Int) (mi : Int) (s : Int) (z : Int) : evF D.tab call109 (F109 N) Tryz.f109 [.agg [.sc (.int .i64 y), .sc (.int .i64 mo), .sc (.int .i64 da), .sc (.int .i64 h), .sc (.int .i64 mi), .sc (.int .i64 s), .sc (.int .i64 z)]] = T109 N y mo da h mi s z := by kernel_rfl
theorem loops109 (N : Nat) : ∀ c, Tryz.f109.body = some c → ∀ p ∈ loopsOf 0 c, LoopOk D.tab call109 (F109 N) p := by
  intro c hc
  have e : c = bodyOf Tryz.f109 := by unfold bodyOf; rw [hc]
  subst e
  have e2 : loopsOf 0 (bodyOf Tryz.f109) = [] := by kernel_rfl
  rw [e2]
  intro p hp
  cases hp
theorem con109 (hC : CallOk P D.tab call109) (pl : ∀ (y : Int) (mo : Int) (da : Int) (h : Int) (mi : Int) (s : Int) (z : Int) res, (m109 [.agg [.sc (.int .i64 y), .sc (.int .i64 mo), .sc (.int .i64 da), .sc (.int .i64 h), .sc (.int .i64 mi), .sc (.int .i64 s), .sc (.int .i64 z)]]).val = some res → ∃ N, T109 N y mo da h mi s z = some res) :
    ∀ avs res, (m109 avs).val = some res → Con P D.tab 109 avs res := by
  intro avs res h
  have h0 := h
  unfold m109 at h0
  split at h0
  · obtain ⟨N, hN⟩ := pl _ _ _ _ _ _ _ res h
    exact con_of_ev tabOk hC (f := 109) (fn := Tryz.f109) (by kernel_rfl) (F109 N) (loops109 N) (by rw [show Tryz.f109.ntmps = 16 from by kernel_rfl]; simp) ((main109 N _ _ _ _ _ _ _).trans hN)
  · cases h0
theorem ent109 : Iv.Enters P 109 := ⟨Tryz.f109, by kernel_rfl, by kernel_rfl, by kernel_rfl⟩
noncomputable def call120 : CallT := ((noCall.add 100 m100).add 199 m199)
def F120 (N : Nat) : FnK RV where
  N := 19
  lk := fun _ => none
  lp := fun _ _ _ _ => none
theorem main120 (N : Nat) (y : Int) (mo : Int) (da : Int) (h : Int) (mi : Int) (s : Int) (z : Int) : evF D.tab call120 (F120 N) Tryz.f120 [.agg [.sc (.int .i64 y), .sc (.int .i64 mo), .sc (.int .i64 da), .sc (.int .i64 h), .sc (.int .i64 mi), .sc (.int .i64 s), .sc (.int .i64 z)]] = T120 N y mo da h mi s z := by kernel_rfl
theorem loops120 (N : Nat) : ∀ c, Tryz.f120.body = some c → ∀ p ∈ loopsOf 0 c, LoopOk D.tab call120 (F120 N) p := by
  intro c hc
  have e : c = bodyOf Tryz.f120 := by unfold bodyOf; rw [hc]
  subst e
  have e2 : loopsOf 0 (bodyOf Tryz.f120) = [] := by kernel_rfl
  rw [e2]
  intro p hp
  cases hp
theorem con120 (hC : CallOk P D.tab call120) (pl : ∀ (y : Int) (mo : Int) (da : Int) (h : Int) (mi : Int) (s : Int) (z : Int) res, (m120 [.agg [.sc (.int .i64 y), .sc (.int .i64 mo), .sc (.int .i64 da), .sc (.int .i64 h), .sc (.int .i64 mi), .sc (.int .i64 s), .sc (.int .i64 z)]]).val = some res → ∃ N, T120 N y mo da h mi s z = some res) :
    ∀ avs res, (m120 avs).val = some res → Con P D.tab 120 avs res := by
  intro avs res h
  have h0 := h
  unfold m120 at h0
  split at h0
  · obtain ⟨N, hN⟩ := pl _ _ _ _ _ _ _ res h
    exact con_of_ev tabOk hC (f := 120) (fn := Tryz.f120) (by kernel_rfl) (F120 N) (loops120 N) (by rw [show Tryz.f120.ntmps = 19 from by kernel_rfl]; simp) ((main120 N _ _ _ _ _ _ _).trans hN)
  · cases h0
theorem ent120 : Iv.Enters P 120 := ⟨Tryz.f120, by kernel_rfl, by kernel_rfl, by kernel_rfl⟩
noncomputable def call110 : CallT := noCall
def K110_0 : LoopK := { hs := [0, 1, 5], ho := [], ex := [(0, [5], [])], rs := [], ro := [] }
def lp110_0 {R : Type} (N : Nat) (vs : List IV) (os : List (Option Ob)) (k : Exit → List IV → List (Option Ob) → Option R) : Option R :=
  match vs, os with
  | [.v (.one (.fc (.sc (.int .i64 x0)))), .v (.one (.fc (.sc (.int .i64 x1)))), .v (.one (.fc (.sc (.string x2))))], [] => L110_0_0 N x0 x1 x2 (fun y0 => k (.exit 0) [.v (.one (.fc (.sc (.string y0))))] [])
  | _, _ => none
def F110 (N : Nat) : FnK RV where
  N := 25
  lk := fun b => bif Nat.beq b 0 then some K110_0 else none
  lp := fun b vs os k => bif Nat.beq b 0 then lp110_0 N vs os k else none
noncomputable def ev110_0 (N m : Nat) (vs : List IV) (os : List (Option Ob)) (k : Exit → List IV → List (Option Ob) → Option RV) : Option RV :=
  evLoop 25 K110_0 (fun σ k' => evC D.tab call110 (F110 N) 0 (loopAt Tryz.f110 0).2 σ k') m vs os k
theorem st110_0_0 (N m : Nat) (x0 : Int) (x1 : Int) (x2 : ByteArray) (k : Exit → List IV → List (Option Ob) → Option RV) :
    ev110_0 N (m + 1) [.v (.one (.fc (.sc (.int .i64 x0)))), .v (.one (.fc (.sc (.int .i64 x1)))), .v (.one (.fc (.sc (.string x2))))] [] k =
    (bif (decide (x0 > (0 : Int))) then
    (bif (cutOk ((⟨#[48, 49, 50, 51, 52, 53, 54, 55, 56, 57]⟩ : ByteArray)).size (some (x0.tmod (10 : Int))) (some (IntKind.i64.wrap ((x0.tmod (10 : Int)) + (1 : Int))))) then
      (bif (Nat.ble ((cutS (⟨#[48, 49, 50, 51, 52, 53, 54, 55, 56, 57]⟩ : ByteArray) (some (x0.tmod (10 : Int))) (some (IntKind.i64.wrap ((x0.tmod (10 : Int)) + (1 : Int))))).size + x2.size) 9223372036854775807) then
        (ev110_0 N m [.v (.one (.fc (.sc (.int .i64 (IntKind.i64.wrap (x0.tdiv (10 : Int))))))), .v (.one (.fc (.sc (.int .i64 (IntKind.i64.wrap (x1 - (1 : Int))))))), .v (.one (.fc (.sc (.string ((cutS (⟨#[48, 49, 50, 51, 52, 53, 54, 55, 56, 57]⟩ : ByteArray) (some (x0.tmod (10 : Int))) (some (IntKind.i64.wrap ((x0.tmod (10 : Int)) + (1 : Int))))) ++ x2)))))] [] k)
        else none)
      else none)
    else
    (bif (decide (x1 > (0 : Int))) then
      (bif (cutOk ((⟨#[48, 49, 50, 51, 52, 53, 54, 55, 56, 57]⟩ : ByteArray)).size (some (x0.tmod (10 : Int))) (some (IntKind.i64.wrap ((x0.tmod (10 : Int)) + (1 : Int))))) then
        (bif (Nat.ble ((cutS (⟨#[48, 49, 50, 51, 52, 53, 54, 55, 56, 57]⟩ : ByteArray) (some (x0.tmod (10 : Int))) (some (IntKind.i64.wrap ((x0.tmod (10 : Int)) + (1 : Int))))).size + x2.size) 9223372036854775807) then
          (ev110_0 N m [.v (.one (.fc (.sc (.int .i64 (IntKind.i64.wrap (x0.tdiv (10 : Int))))))), .v (.one (.fc (.sc (.int .i64 (IntKind.i64.wrap (x1 - (1 : Int))))))), .v (.one (.fc (.sc (.string ((cutS (⟨#[48, 49, 50, 51, 52, 53, 54, 55, 56, 57]⟩ : ByteArray) (some (x0.tmod (10 : Int))) (some (IntKind.i64.wrap ((x0.tmod (10 : Int)) + (1 : Int))))) ++ x2)))))] [] k)
          else none)
        else none)
      else
      (k (.exit 0) [.v (.one (.fc (.sc (.string x2))))] []))) := by kernel_rfl
theorem eq110_0 (N : Nat) (k : Exit → List IV → List (Option Ob) → Option RV) : ∀ m : Nat,
    (∀ (x0 : Int) (x1 : Int) (x2 : ByteArray), ev110_0 N m [.v (.one (.fc (.sc (.int .i64 x0)))), .v (.one (.fc (.sc (.int .i64 x1)))), .v (.one (.fc (.sc (.string x2))))] [] k = L110_0_0 m x0 x1 x2 (fun y0 => k (.exit 0) [.v (.one (.fc (.sc (.string y0))))] [])) := by
  intro m
  induction m with
  | zero => exact (fun _ _ _ => rfl)
  | succ m ih =>
    have ih0 := ih
    refine (fun _ _ _ => ?_)
    · rw [st110_0_0]; simp only [ih0]; rfl
theorem lo110_0 (N : Nat) : LoopOk D.tab call110 (F110 N) (loopAt Tryz.f110 0) := by
  have h1 : (loopAt Tryz.f110 0).1 = 0 := by kernel_rfl
  intro L hL vs os k r h
  rw [h1] at hL h ⊢
  have hL' : L = K110_0 := by
    have e : (F110 N).lk 0 = some K110_0 := rfl
    rw [e] at hL; cases hL; rfl
  subst hL'
  have h2 : lp110_0 N vs os k = some r := h
  unfold lp110_0 at h2
  split at h2
  · exact ⟨N, ((eq110_0 N k N) _ _ _).trans h2⟩
  · cases h2
theorem main110 (N : Nat) (n : Int) (w : Int) : evF D.tab call110 (F110 N) Tryz.f110 [.one (.sc (.int .i64 n)), .one (.sc (.int .i64 w))] = T110 N n w := by kernel_rfl
theorem loops110 (N : Nat) : ∀ c, Tryz.f110.body = some c → ∀ p ∈ loopsOf 0 c, LoopOk D.tab call110 (F110 N) p := by
  intro c hc
  have e : c = bodyOf Tryz.f110 := by unfold bodyOf; rw [hc]
  subst e
  have e2 : loopsOf 0 (bodyOf Tryz.f110) = [loopAt Tryz.f110 0] := by kernel_rfl
  rw [e2]
  intro p hp
  simp only [List.mem_cons, List.not_mem_nil, or_false] at hp
  rcases hp with rfl
  · exact lo110_0 N
theorem con110 (hC : CallOk P D.tab call110) (pl : ∀ (n : Int) (w : Int) res, (m110 [.one (.sc (.int .i64 n)), .one (.sc (.int .i64 w))]).val = some res → ∃ N, T110 N n w = some res) :
    ∀ avs res, (m110 avs).val = some res → Con P D.tab 110 avs res := by
  intro avs res h
  have h0 := h
  unfold m110 at h0
  split at h0
  · obtain ⟨N, hN⟩ := pl _ _ res h
    exact con_of_ev tabOk hC (f := 110) (fn := Tryz.f110) (by kernel_rfl) (F110 N) (loops110 N) (by rw [show Tryz.f110.ntmps = 25 from by kernel_rfl]; simp) ((main110 N _ _).trans hN)
  · cases h0
theorem ent110 : Iv.Enters P 110 := ⟨Tryz.f110, by kernel_rfl, by kernel_rfl, by kernel_rfl⟩
noncomputable def call121 : CallT := noCall
def K121_0 : LoopK := { hs := [0, 3], ho := [], ex := [(0, [0, 3], [])], rs := [], ro := [] }
def lp121_0 {R : Type} (N : Nat) (vs : List IV) (os : List (Option Ob)) (k : Exit → List IV → List (Option Ob) → Option R) : Option R :=
  match vs, os with
  | [.v (.one (.fc (.sc (.int .i64 x0)))), .v (.one (.fc (.sc (.string x1))))], [] => L121_0_0 N x0 x1 (fun y0 y1 => k (.exit 0) [.v (.one (.fc (.sc (.int .i64 y0)))), .v (.one (.fc (.sc (.string y1))))] [])
  | _, _ => none
def F121 (N : Nat) : FnK RV where
  N := 31
  lk := fun b => bif Nat.beq b 0 then some K121_0 else none
  lp := fun b vs os k => bif Nat.beq b 0 then lp121_0 N vs os k else none
noncomputable def ev121_0 (N m : Nat) (vs : List IV) (os : List (Option Ob)) (k : Exit → List IV → List (Option Ob) → Option RV) : Option RV :=
  evLoop 31 K121_0 (fun σ k' => evC D.tab call121 (F121 N) 0 (loopAt Tryz.f121 0).2 σ k') m vs os k
theorem st121_0_0 (N m : Nat) (x0 : Int) (x1 : ByteArray) (k : Exit → List IV → List (Option Ob) → Option RV) :
    ev121_0 N (m + 1) [.v (.one (.fc (.sc (.int .i64 x0)))), .v (.one (.fc (.sc (.string x1))))] [] k =
    (bif (decide (x0 > (9 : Int))) then
    (bif (Nat.ble ((strOfNums ([(IntKind.u8.wrap (IntKind.i64.wrap ((48 : Int) + (x0.tmod (10 : Int)))))] : List Int)).size + x1.size) 9223372036854775807) then
      (ev121_0 N m [.v (.one (.fc (.sc (.int .i64 (IntKind.i64.wrap (x0.tdiv (10 : Int))))))), .v (.one (.fc (.sc (.string ((strOfNums ([(IntKind.u8.wrap (IntKind.i64.wrap ((48 : Int) + (x0.tmod (10 : Int)))))] : List Int)) ++ x1)))))] [] k)
      else none)
    else
    (k (.exit 0) [.v (.one (.fc (.sc (.int .i64 x0)))), .v (.one (.fc (.sc (.string x1))))] [])) := by kernel_rfl
theorem eq121_0 (N : Nat) (k : Exit → List IV → List (Option Ob) → Option RV) : ∀ m : Nat,
    (∀ (x0 : Int) (x1 : ByteArray), ev121_0 N m [.v (.one (.fc (.sc (.int .i64 x0)))), .v (.one (.fc (.sc (.string x1))))] [] k = L121_0_0 m x0 x1 (fun y0 y1 => k (.exit 0) [.v (.one (.fc (.sc (.int .i64 y0)))), .v (.one (.fc (.sc (.string y1))))] [])) := by
  intro m
  induction m with
  | zero => exact (fun _ _ => rfl)
  | succ m ih =>
    have ih0 := ih
    refine (fun _ _ => ?_)
    · rw [st121_0_0]; simp only [ih0]; rfl
theorem lo121_0 (N : Nat) : LoopOk D.tab call121 (F121 N) (loopAt Tryz.f121 0) := by
  have h1 : (loopAt Tryz.f121 0).1 = 0 := by kernel_rfl
  intro L hL vs os k r h
  rw [h1] at hL h ⊢
  have hL' : L = K121_0 := by
    have e : (F121 N).lk 0 = some K121_0 := rfl
    rw [e] at hL; cases hL; rfl
  subst hL'
  have h2 : lp121_0 N vs os k = some r := h
  unfold lp121_0 at h2
  split at h2
  · exact ⟨N, ((eq121_0 N k N) _ _).trans h2⟩
  · cases h2
theorem main121 (N : Nat) (n : Int) : evF D.tab call121 (F121 N) Tryz.f121 [.one (.sc (.int .i64 n))] = T121 N n := by kernel_rfl
theorem loops121 (N : Nat) : ∀ c, Tryz.f121.body = some c → ∀ p ∈ loopsOf 0 c, LoopOk D.tab call121 (F121 N) p := by
  intro c hc
  have e : c = bodyOf Tryz.f121 := by unfold bodyOf; rw [hc]
  subst e
  have e2 : loopsOf 0 (bodyOf Tryz.f121) = [loopAt Tryz.f121 0] := by kernel_rfl
  rw [e2]
  intro p hp
  simp only [List.mem_cons, List.not_mem_nil, or_false] at hp
  rcases hp with rfl
  · exact lo121_0 N
theorem con121 (hC : CallOk P D.tab call121) (pl : ∀ (n : Int) res, (m121 [.one (.sc (.int .i64 n))]).val = some res → ∃ N, T121 N n = some res) :
    ∀ avs res, (m121 avs).val = some res → Con P D.tab 121 avs res := by
  intro avs res h
  have h0 := h
  unfold m121 at h0
  split at h0
  · obtain ⟨N, hN⟩ := pl _ res h
    exact con_of_ev tabOk hC (f := 121) (fn := Tryz.f121) (by kernel_rfl) (F121 N) (loops121 N) (by rw [show Tryz.f121.ntmps = 31 from by kernel_rfl]; simp) ((main121 N _).trans hN)
  · cases h0
theorem ent121 : Iv.Enters P 121 := ⟨Tryz.f121, by kernel_rfl, by kernel_rfl, by kernel_rfl⟩
noncomputable def call122 : CallT := noCall
def F122 (N : Nat) : FnK RV where
  N := 2
  lk := fun _ => none
  lp := fun _ _ _ _ => none
theorem main122 (N : Nat)  : evF D.tab call122 (F122 N) Tryz.f122 [] = T122 N  := by kernel_rfl
theorem loops122 (N : Nat) : ∀ c, Tryz.f122.body = some c → ∀ p ∈ loopsOf 0 c, LoopOk D.tab call122 (F122 N) p := by
  intro c hc
  have e : c = bodyOf Tryz.f122 := by unfold bodyOf; rw [hc]
  subst e
  have e2 : loopsOf 0 (bodyOf Tryz.f122) = [] := by kernel_rfl
  rw [e2]
  intro p hp
  cases hp
theorem con122 (hC : CallOk P D.tab call122) (pl : ∀ res, (m122 []).val = some res → ∃ N, T122 N  = some res) :
    ∀ avs res, (m122 avs).val = some res → Con P D.tab 122 avs res := by
  intro avs res h
  have h0 := h
  unfold m122 at h0
  split at h0
  · obtain ⟨N, hN⟩ := pl  res h
    exact con_of_ev tabOk hC (f := 122) (fn := Tryz.f122) (by kernel_rfl) (F122 N) (loops122 N) (by rw [show Tryz.f122.ntmps = 2 from by kernel_rfl]; simp) ((main122 N ).trans hN)
  · cases h0
theorem ent122 : Iv.Enters P 122 := ⟨Tryz.f122, by kernel_rfl, by kernel_rfl, by kernel_rfl⟩
noncomputable def call123 : CallT := (noCall.add 121 m121)
def F123 (N : Nat) : FnK RV where
  N := 10
  lk := fun _ => none
  lp := fun _ _ _ _ => none
theorem main123 (N : Nat) (n : Int) : evF D.tab call123 (F123 N) Tryz.f123 [.one (.sc (.int .i64 n))] = T123 N n := by kernel_rfl
theorem loops123 (N : Nat) : ∀ c, Tryz.f123.body = some c → ∀ p ∈ loopsOf 0 c, LoopOk D.tab call123 (F123 N) p := by
  intro c hc
  have e : c = bodyOf Tryz.f123 := by unfold bodyOf; rw [hc]
  subst e
  have e2 : loopsOf 0 (bodyOf Tryz.f123) = [] := by kernel_rfl
  rw [e2]
  intro p hp
  cases hp
theorem con123 (hC : CallOk P D.tab call123) (pl : ∀ (n : Int) res, (m123 [.one (.sc (.int .i64 n))]).val = some res → ∃ N, T123 N n = some res) :
    ∀ avs res, (m123 avs).val = some res → Con P D.tab 123 avs res := by
  intro avs res h
  have h0 := h
  unfold m123 at h0
  split at h0
  · obtain ⟨N, hN⟩ := pl _ res h
    exact con_of_ev tabOk hC (f := 123) (fn := Tryz.f123) (by kernel_rfl) (F123 N) (loops123 N) (by rw [show Tryz.f123.ntmps = 10 from by kernel_rfl]; simp) ((main123 N _).trans hN)
  · cases h0
theorem ent123 : Iv.Enters P 123 := ⟨Tryz.f123, by kernel_rfl, by kernel_rfl, by kernel_rfl⟩
noncomputable def call37 : CallT := (((noCall.add 93 m93).add 109 m109).add 110 m110)
def F37 (N : Nat) : FnK RV where
  N := 58
  lk := fun _ => none
  lp := fun _ _ _ _ => none
theorem main37 (N : Nat) (y : Int) (mo : Int) (da : Int) (h : Int) (mi : Int) (s : Int) (z : Int) : evF D.tab call37 (F37 N) Tryz.f37 [.agg [.sc (.int .i64 y), .sc (.int .i64 mo), .sc (.int .i64 da), .sc (.int .i64 h), .sc (.int .i64 mi), .sc (.int .i64 s), .sc (.int .i64 z)]] = T37 N y mo da h mi s z := by kernel_rfl
theorem loops37 (N : Nat) : ∀ c, Tryz.f37.body = some c → ∀ p ∈ loopsOf 0 c, LoopOk D.tab call37 (F37 N) p := by
  intro c hc
  have e : c = bodyOf Tryz.f37 := by unfold bodyOf; rw [hc]
  subst e
  have e2 : loopsOf 0 (bodyOf Tryz.f37) = [] := by kernel_rfl
  rw [e2]
  intro p hp
  cases hp
theorem con37 (hC : CallOk P D.tab call37) (pl : ∀ (y : Int) (mo : Int) (da : Int) (h : Int) (mi : Int) (s : Int) (z : Int) res, (m37 [.agg [.sc (.int .i64 y), .sc (.int .i64 mo), .sc (.int .i64 da), .sc (.int .i64 h), .sc (.int .i64 mi), .sc (.int .i64 s), .sc (.int .i64 z)]]).val = some res → ∃ N, T37 N y mo da h mi s z = some res) :
    ∀ avs res, (m37 avs).val = some res → Con P D.tab 37 avs res := by
  intro avs res h
  have h0 := h
  unfold m37 at h0
  split at h0
  · obtain ⟨N, hN⟩ := pl _ _ _ _ _ _ _ res h
    exact con_of_ev tabOk hC (f := 37) (fn := Tryz.f37) (by kernel_rfl) (F37 N) (loops37 N) (by rw [show Tryz.f37.ntmps = 58 from by kernel_rfl]; simp) ((main37 N _ _ _ _ _ _ _).trans hN)
  · cases h0
theorem ent37 : Iv.Enters P 37 := ⟨Tryz.f37, by kernel_rfl, by kernel_rfl, by kernel_rfl⟩
noncomputable def call45 : CallT := (((((noCall.add 100 m100).add 120 m120).add 121 m121).add 122 m122).add 123 m123)
def F45 (N : Nat) : FnK RV where
  N := 60
  lk := fun _ => none
  lp := fun _ _ _ _ => none
theorem main45 (N : Nat) (y : Int) (mo : Int) (da : Int) (h : Int) (mi : Int) (s : Int) (z : Int) : evF D.tab call45 (F45 N) Tryz.f45 [.agg [.sc (.int .i64 y), .sc (.int .i64 mo), .sc (.int .i64 da), .sc (.int .i64 h), .sc (.int .i64 mi), .sc (.int .i64 s), .sc (.int .i64 z)]] = T45 N y mo da h mi s z := by kernel_rfl
theorem loops45 (N : Nat) : ∀ c, Tryz.f45.body = some c → ∀ p ∈ loopsOf 0 c, LoopOk D.tab call45 (F45 N) p := by
  intro c hc
  have e : c = bodyOf Tryz.f45 := by unfold bodyOf; rw [hc]
  subst e
  have e2 : loopsOf 0 (bodyOf Tryz.f45) = [] := by kernel_rfl
  rw [e2]
  intro p hp
  cases hp
theorem con45 (hC : CallOk P D.tab call45) (pl : ∀ (y : Int) (mo : Int) (da : Int) (h : Int) (mi : Int) (s : Int) (z : Int) res, (m45 [.agg [.sc (.int .i64 y), .sc (.int .i64 mo), .sc (.int .i64 da), .sc (.int .i64 h), .sc (.int .i64 mi), .sc (.int .i64 s), .sc (.int .i64 z)]]).val = some res → ∃ N, T45 N y mo da h mi s z = some res) :
    ∀ avs res, (m45 avs).val = some res → Con P D.tab 45 avs res := by
  intro avs res h
  have h0 := h
  unfold m45 at h0
  split at h0
  · obtain ⟨N, hN⟩ := pl _ _ _ _ _ _ _ res h
    exact con_of_ev tabOk hC (f := 45) (fn := Tryz.f45) (by kernel_rfl) (F45 N) (loops45 N) (by rw [show Tryz.f45.ntmps = 60 from by kernel_rfl]; simp) ((main45 N _ _ _ _ _ _ _).trans hN)
  · cases h0
theorem ent45 : Iv.Enters P 45 := ⟨Tryz.f45, by kernel_rfl, by kernel_rfl, by kernel_rfl⟩
end Go.Proofs.YtpdmeafoofkpaaaGreatDoor
