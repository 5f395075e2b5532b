/- What the evaluator makes of the code. -/
import Derived.Test.YtpdmeafoofkpaaaGreatDoorKb
import Derived.Test.YtpdmeafoofkpaaaGreatDoorHf
set_option linter.unusedVariables false
set_option linter.unusedSimpArgs false

namespace Go.Proofs.YtpdmeafoofkpaaaGreatDoor
open Go Go.Iv
set_option maxRecDepth 10000
set_option maxHeartbeats 4000000
noncomputable def call275 : CallT := noCall
def F275 (N : Nat) : FnK RV where
  N := 18
  lk := fun _ => none
  lp := fun _ _ _ _ => none
theorem main275 (N : Nat) (s : ByteArray) (p : ByteArray) : evF D.tab call275 (F275 N) Tryz.f275 [.one (.sc (.string s)), .one (.sc (.string p))] = T275 N s p := by kernel_rfl
theorem loops275 (N : Nat) : ∀ c, Tryz.f275.body = some c → ∀ p ∈ loopsOf 0 c, LoopOk D.tab call275 (F275 N) p := by
  intro c hc
  have e : c = bodyOf Tryz.f275 := by unfold bodyOf; rw [hc]
  subst e
  have e2 : loopsOf 0 (bodyOf Tryz.f275) = [] := by kernel_rfl
  rw [e2]
  intro p hp
  cases hp
theorem con275 (hC : CallOk P D.tab call275) (pl : ∀ (s : ByteArray) (p : ByteArray) res, (m275 [.one (.sc (.string s)), .one (.sc (.string p))]).val = some res → ∃ N, T275 N s p = some res) :
    ∀ avs res, (m275 avs).val = some res → Con P D.tab 275 avs res := by
  intro avs res h
  have h0 := h
  unfold m275 at h0
  split at h0
  · obtain ⟨N, hN⟩ := pl _ _ res h
    exact con_of_ev tabOk hC (f := 275) (fn := Tryz.f275) (by kernel_rfl) (F275 N) (loops275 N) (by rw [show Tryz.f275.ntmps = 18 from by kernel_rfl]; simp) ((main275 N _ _).trans hN)
  · cases h0
theorem ent275 : Iv.Enters P 275 := ⟨Tryz.f275, by kernel_rfl, by kernel_rfl, by kernel_rfl⟩
noncomputable def call192 : CallT := (noCall.add 275 m275)
def F192 (N : Nat) : FnK RV where
  N := 8
  lk := fun _ => none
  lp := fun _ _ _ _ => none
theorem main192 (N : Nat) (s : ByteArray) (p : ByteArray) : evF D.tab call192 (F192 N) Tryz.f192 [.one (.sc (.string s)), .one (.sc (.string p))] = T192 N s p := by kernel_rfl
theorem loops192 (N : Nat) : ∀ c, Tryz.f192.body = some c → ∀ p ∈ loopsOf 0 c, LoopOk D.tab call192 (F192 N) p := by
  intro c hc
  have e : c = bodyOf Tryz.f192 := by unfold bodyOf; rw [hc]
  subst e
  have e2 : loopsOf 0 (bodyOf Tryz.f192) = [] := by kernel_rfl
  rw [e2]
  intro p hp
  cases hp
theorem con192 (hC : CallOk P D.tab call192) (pl : ∀ (s : ByteArray) (p : ByteArray) res, (m192 [.one (.sc (.string s)), .one (.sc (.string p))]).val = some res → ∃ N, T192 N s p = some res) :
    ∀ avs res, (m192 avs).val = some res → Con P D.tab 192 avs res := by
  intro avs res h
  have h0 := h
  unfold m192 at h0
  split at h0
  · obtain ⟨N, hN⟩ := pl _ _ res h
    exact con_of_ev tabOk hC (f := 192) (fn := Tryz.f192) (by kernel_rfl) (F192 N) (loops192 N) (by rw [show Tryz.f192.ntmps = 8 from by kernel_rfl]; simp) ((main192 N _ _).trans hN)
  · cases h0
theorem ent192 : Iv.Enters P 192 := ⟨Tryz.f192, by kernel_rfl, by kernel_rfl, by kernel_rfl⟩
noncomputable def call215 : CallT := (noCall.add 134 m134)
def F215 (N : Nat) : FnK RV where
  N := 10
  lk := fun _ => none
  lp := fun _ _ _ _ => none
theorem main215 (N : Nat) (s : ByteArray) : evF D.tab call215 (F215 N) Tryz.f215 [.one (.sc (.string s))] = T215 N s := by kernel_rfl
theorem loops215 (N : Nat) : ∀ c, Tryz.f215.body = some c → ∀ p ∈ loopsOf 0 c, LoopOk D.tab call215 (F215 N) p := by
  intro c hc
  have e : c = bodyOf Tryz.f215 := by unfold bodyOf; rw [hc]
  subst e
  have e2 : loopsOf 0 (bodyOf Tryz.f215) = [] := by kernel_rfl
  rw [e2]
  intro p hp
  cases hp
theorem con215 (hC : CallOk P D.tab call215) (pl : ∀ (s : ByteArray) res, (m215 [.one (.sc (.string s))]).val = some res → ∃ N, T215 N s = some res) :
    ∀ avs res, (m215 avs).val = some res → Con P D.tab 215 avs res := by
  intro avs res h
  have h0 := h
  unfold m215 at h0
  split at h0
  · obtain ⟨N, hN⟩ := pl _ res h
    exact con_of_ev tabOk hC (f := 215) (fn := Tryz.f215) (by kernel_rfl) (F215 N) (loops215 N) (by rw [show Tryz.f215.ntmps = 10 from by kernel_rfl]; simp) ((main215 N _).trans hN)
  · cases h0
theorem ent215 : Iv.Enters P 215 := ⟨Tryz.f215, by kernel_rfl, by kernel_rfl, by kernel_rfl⟩
noncomputable def call128 : CallT := (((noCall.add 99 m99).add 215 m215).add 216 m216)
def F128 (N : Nat) : FnK RV where
  N := 28
  lk := fun _ => none
  lp := fun _ _ _ _ => none
theorem main128 (N : Nat) (n : ByteArray) (l : ByteArray) (d : ByteArray) : evF D.tab call128 (F128 N) Tryz.f128 [.agg [.sc (.string n), .sc (.string l), .sc (.string d)]] = T128 N n l d := by kernel_rfl
theorem loops128 (N : Nat) : ∀ c, Tryz.f128.body = some c → ∀ p ∈ loopsOf 0 c, LoopOk D.tab call128 (F128 N) p := by
  intro c hc
  have e : c = bodyOf Tryz.f128 := by unfold bodyOf; rw [hc]
  subst e
  have e2 : loopsOf 0 (bodyOf Tryz.f128) = [] := by kernel_rfl
  rw [e2]
  intro p hp
  cases hp
theorem con128 (hC : CallOk P D.tab call128) (pl : ∀ (n : ByteArray) (l : ByteArray) (d : ByteArray) res, (m128 [.agg [.sc (.string n), .sc (.string l), .sc (.string d)]]).val = some res → ∃ N, T128 N n l d = some res) :
    ∀ avs res, (m128 avs).val = some res → Con P D.tab 128 avs res := by
  intro avs res h
  have h0 := h
  unfold m128 at h0
  split at h0
  · obtain ⟨N, hN⟩ := pl _ _ _ res h
    exact con_of_ev tabOk hC (f := 128) (fn := Tryz.f128) (by kernel_rfl) (F128 N) (loops128 N) (by rw [show Tryz.f128.ntmps = 28 from by kernel_rfl]; simp) ((main128 N _ _ _).trans hN)
  · cases h0
theorem ent128 : Iv.Enters P 128 := ⟨Tryz.f128, by kernel_rfl, by kernel_rfl, by kernel_rfl⟩
noncomputable def call146 : CallT := (((noCall.add 128 m128).add 144 m144).add 156 m156)
def F146 (N : Nat) : FnK RV where
  N := 24
  lk := fun _ => none
  lp := fun _ _ _ _ => none
theorem main146 (N : Nat) (s : ByteArray) : evF D.tab call146 (F146 N) Tryz.f146 [.one (.sc (.string s))] = T146 N s := by kernel_rfl
theorem loops146 (N : Nat) : ∀ c, Tryz.f146.body = some c → ∀ p ∈ loopsOf 0 c, LoopOk D.tab call146 (F146 N) p := by
  intro c hc
  have e : c = bodyOf Tryz.f146 := by unfold bodyOf; rw [hc]
  subst e
  have e2 : loopsOf 0 (bodyOf Tryz.f146) = [] := by kernel_rfl
  rw [e2]
  intro p hp
  cases hp
theorem con146 (hC : CallOk P D.tab call146) (pl : ∀ (s : ByteArray) res, (m146 [.one (.sc (.string s))]).val = some res → ∃ N, T146 N s = some res) :
    ∀ avs res, (m146 avs).val = some res → Con P D.tab 146 avs res := by
  intro avs res h
  have h0 := h
  unfold m146 at h0
  split at h0
  · obtain ⟨N, hN⟩ := pl _ res h
    exact con_of_ev tabOk hC (f := 146) (fn := Tryz.f146) (by kernel_rfl) (F146 N) (loops146 N) (by rw [show Tryz.f146.ntmps = 24 from by kernel_rfl]; simp) ((main146 N _).trans hN)
  · cases h0
theorem ent146 : Iv.Enters P 146 := ⟨Tryz.f146, by kernel_rfl, by kernel_rfl, by kernel_rfl⟩
noncomputable def call171 : CallT := (noCall.add 146 m146)
def F171 (N : Nat) : FnK RV where
  N := 21
  lk := fun _ => none
  lp := fun _ _ _ _ => none
theorem main171 (N : Nat) (s : ByteArray) : evF D.tab call171 (F171 N) Tryz.f171 [.one (.sc (.string s))] = T171 N s := by kernel_rfl
theorem loops171 (N : Nat) : ∀ c, Tryz.f171.body = some c → ∀ p ∈ loopsOf 0 c, LoopOk D.tab call171 (F171 N) p := by
  intro c hc
  have e : c = bodyOf Tryz.f171 := by unfold bodyOf; rw [hc]
  subst e
  have e2 : loopsOf 0 (bodyOf Tryz.f171) = [] := by kernel_rfl
  rw [e2]
  intro p hp
  cases hp
theorem con171 (hC : CallOk P D.tab call171) (pl : ∀ (s : ByteArray) res, (m171 [.one (.sc (.string s))]).val = some res → ∃ N, T171 N s = some res) :
    ∀ avs res, (m171 avs).val = some res → Con P D.tab 171 avs res := by
  intro avs res h
  have h0 := h
  unfold m171 at h0
  split at h0
  · obtain ⟨N, hN⟩ := pl _ res h
    exact con_of_ev tabOk hC (f := 171) (fn := Tryz.f171) (by kernel_rfl) (F171 N) (loops171 N) (by rw [show Tryz.f171.ntmps = 21 from by kernel_rfl]; simp) ((main171 N _).trans hN)
  · cases h0
theorem ent171 : Iv.Enters P 171 := ⟨Tryz.f171, by kernel_rfl, by kernel_rfl, by kernel_rfl⟩
noncomputable def call196 : CallT := ((noCall.add 134 m134).add 171 m171)
def K196_0 : LoopK := { hs := [1, 3], ho := [1], ex := [(0, [1], [1])], rs := [2], ro := [] }
def lp196_0 {R : Type} (N : Nat) (vs : List IV) (os : List (Option Ob)) (k : Exit → List IV → List (Option Ob) → Option R) : Option R :=
  match vs, os with
  | [.v (.one (.ptr 1 0)), .v (.one (.fc (.sc (.int .i64 x0))))], [some (.cells [.fc (.sc (.string x1)), .fc (.list .str x2), .fc (.list .str x3)])] => L196_0_0 N x0 x1 x2 x3 (fun y0 => k .ret [.v (.one (.fc (.sc (.bool y0))))] []) (fun y0 y1 y2 => k (.exit 0) [.v (.one (.ptr 1 0))] [some (.cells [.fc (.sc (.string y0)), .fc (.list .str y1), .fc (.list .str y2)])])
  | _, _ => none
def K196_2 : LoopK := { hs := [1, 4], ho := [1], ex := [(2, [], [])], rs := [2], ro := [] }
def lp196_2 {R : Type} (N : Nat) (vs : List IV) (os : List (Option Ob)) (k : Exit → List IV → List (Option Ob) → Option R) : Option R :=
  match vs, os with
  | [.v (.one (.ptr 1 0)), .v (.one (.fc (.sc (.int .i64 x0))))], [some (.cells [.fc (.sc (.string x1)), .fc (.list .str x2), .fc (.list .str x3)])] => L196_2_0 N x0 x1 x2 x3 (fun y0 => k .ret [.v (.one (.fc (.sc (.bool y0))))] []) (fun _ => k (.exit 2) [] [])
  | _, _ => none
def F196 (N : Nat) : FnK RV where
  N := 54
  lk := fun b => bif Nat.beq b 0 then some K196_0 else bif Nat.beq b 2 then some K196_2 else none
  lp := fun b vs os k => bif Nat.beq b 0 then lp196_0 N vs os k else bif Nat.beq b 2 then lp196_2 N vs os k else none
noncomputable def ev196_0 (N m : Nat) (vs : List IV) (os : List (Option Ob)) (k : Exit → List IV → List (Option Ob) → Option RV) : Option RV :=
  evLoop 54 K196_0 (fun σ k' => evC D.tab call196 (F196 N) 0 (loopAt Tryz.f196 0).2 σ k') m vs os k
theorem st196_0_0 (N m : Nat) (x0 : Int) (x1 : ByteArray) (x2 : List ByteArray) (x3 : List ByteArray) (k : Exit → List IV → List (Option Ob) → Option RV) :
    ev196_0 N (m + 1) [.v (.one (.ptr 1 0)), .v (.one (.fc (.sc (.int .i64 x0))))] [some (.cells [.fc (.sc (.string x1)), .fc (.list .str x2), .fc (.list .str x3)])] k =
    (bif (decide (x0 < ((x2).length : Int))) then
    (bif (inb x0 (x2).length) then
      (bif (decide (((((x2).getD (x0).toNat (⟨#[]⟩ : ByteArray))).size : Int) ≤ 2147483648)) then
        (bif (!(pathOk ((x2).getD (x0).toNat (⟨#[]⟩ : ByteArray)))) then
          (k .ret [.v (.one (.fc (.sc (.bool false))))] [])
          else
          (ev196_0 N m [.v (.one (.ptr 1 0)), .v (.one (.fc (.sc (.int .i64 (IntKind.i64.wrap (x0 + (1 : Int)))))))] [some (.cells [.fc (.sc (.string x1)), .fc (.list .str x2), .fc (.list .str x3)])] k))
        else none)
      else none)
    else
    (k (.exit 0) [.v (.one (.ptr 1 0))] [some (.cells [.fc (.sc (.string x1)), .fc (.list .str x2), .fc (.list .str x3)])])) := by kernel_rfl
theorem eq196_0 (N : Nat) (k : Exit → List IV → List (Option Ob) → Option RV) : ∀ m : Nat,
    (∀ (x0 : Int) (x1 : ByteArray) (x2 : List ByteArray) (x3 : List ByteArray), ev196_0 N m [.v (.one (.ptr 1 0)), .v (.one (.fc (.sc (.int .i64 x0))))] [some (.cells [.fc (.sc (.string x1)), .fc (.list .str x2), .fc (.list .str x3)])] k = L196_0_0 m x0 x1 x2 x3 (fun y0 => k .ret [.v (.one (.fc (.sc (.bool y0))))] []) (fun y0 y1 y2 => k (.exit 0) [.v (.one (.ptr 1 0))] [some (.cells [.fc (.sc (.string y0)), .fc (.list .str y1), .fc (.list .str y2)])])) := by
  intro m
  induction m with
  | zero => exact (fun _ _ _ _ => rfl)
  | succ m ih =>
    have ih0 := ih
    refine (fun _ _ _ _ => ?_)
    · rw [st196_0_0]; simp only [ih0]; rfl
theorem lo196_0 (N : Nat) : LoopOk D.tab call196 (F196 N) (loopAt Tryz.f196 0) := by
  have h1 : (loopAt Tryz.f196 0).1 = 0 := by kernel_rfl
  intro L hL vs os k r h
  rw [h1] at hL h ⊢
  have hL' : L = K196_0 := by
    have e : (F196 N).lk 0 = some K196_0 := rfl
    rw [e] at hL; cases hL; rfl
  subst hL'
  have h2 : lp196_0 N vs os k = some r := h
  unfold lp196_0 at h2
  split at h2
  · exact ⟨N, ((eq196_0 N k N) _ _ _ _).trans h2⟩
  · cases h2
noncomputable def ev196_2 (N m : Nat) (vs : List IV) (os : List (Option Ob)) (k : Exit → List IV → List (Option Ob) → Option RV) : Option RV :=
  evLoop 54 K196_2 (fun σ k' => evC D.tab call196 (F196 N) 2 (loopAt Tryz.f196 1).2 σ k') m vs os k
theorem st196_2_0 (N m : Nat) (x0 : Int) (x1 : ByteArray) (x2 : List ByteArray) (x3 : List ByteArray) (k : Exit → List IV → List (Option Ob) → Option RV) :
    ev196_2 N (m + 1) [.v (.one (.ptr 1 0)), .v (.one (.fc (.sc (.int .i64 x0))))] [some (.cells [.fc (.sc (.string x1)), .fc (.list .str x2), .fc (.list .str x3)])] k =
    (bif (decide (x0 < ((x3).length : Int))) then
    (bif (inb x0 (x3).length) then
      (bif (decide (((((x3).getD (x0).toNat (⟨#[]⟩ : ByteArray))).size : Int) ≤ 2147483648)) then
        (bif (!(textValid ((x3).getD (x0).toNat (⟨#[]⟩ : ByteArray)))) then
          (k .ret [.v (.one (.fc (.sc (.bool false))))] [])
          else
          (ev196_2 N m [.v (.one (.ptr 1 0)), .v (.one (.fc (.sc (.int .i64 (IntKind.i64.wrap (x0 + (1 : Int)))))))] [some (.cells [.fc (.sc (.string x1)), .fc (.list .str x2), .fc (.list .str x3)])] k))
        else none)
      else none)
    else
    (k (.exit 2) [] [])) := by kernel_rfl
theorem eq196_2 (N : Nat) (k : Exit → List IV → List (Option Ob) → Option RV) : ∀ m : Nat,
    (∀ (x0 : Int) (x1 : ByteArray) (x2 : List ByteArray) (x3 : List ByteArray), ev196_2 N m [.v (.one (.ptr 1 0)), .v (.one (.fc (.sc (.int .i64 x0))))] [some (.cells [.fc (.sc (.string x1)), .fc (.list .str x2), .fc (.list .str x3)])] k = L196_2_0 m x0 x1 x2 x3 (fun y0 => k .ret [.v (.one (.fc (.sc (.bool y0))))] []) (fun _ => k (.exit 2) [] [])) := by
  intro m
  induction m with
  | zero => exact (fun _ _ _ _ => rfl)
  | succ m ih =>
    have ih0 := ih
    refine (fun _ _ _ _ => ?_)
    · rw [st196_2_0]; simp only [ih0]; rfl
theorem lo196_2 (N : Nat) : LoopOk D.tab call196 (F196 N) (loopAt Tryz.f196 1) := by
  have h1 : (loopAt Tryz.f196 1).1 = 2 := by kernel_rfl
  intro L hL vs os k r h
  rw [h1] at hL h ⊢
  have hL' : L = K196_2 := by
    have e : (F196 N).lk 2 = some K196_2 := rfl
    rw [e] at hL; cases hL; rfl
  subst hL'
  have h2 : lp196_2 N vs os k = some r := h
  unfold lp196_2 at h2
  split at h2
  · exact ⟨N, ((eq196_2 N k N) _ _ _ _).trans h2⟩
  · cases h2
theorem main196 (N : Nat) (f : ByteArray) (to : List ByteArray) (ls : List ByteArray) : evF D.tab call196 (F196 N) Tryz.f196 [.agg [.sc (.string f), .list .str to, .list .str ls]] = T196 N f to ls := by kernel_rfl
theorem loops196 (N : Nat) : ∀ c, Tryz.f196.body = some c → ∀ p ∈ loopsOf 0 c, LoopOk D.tab call196 (F196 N) p := by
  intro c hc
  have e : c = bodyOf Tryz.f196 := by unfold bodyOf; rw [hc]
  subst e
  have e2 : loopsOf 0 (bodyOf Tryz.f196) = [loopAt Tryz.f196 0, loopAt Tryz.f196 1] := by kernel_rfl
  rw [e2]
  intro p hp
  simp only [List.mem_cons, List.not_mem_nil, or_false] at hp
  rcases hp with rfl | rfl
  · exact lo196_0 N
  · exact lo196_2 N
theorem con196 (hC : CallOk P D.tab call196) (pl : ∀ (f : ByteArray) (to : List ByteArray) (ls : List ByteArray) res, (m196 [.agg [.sc (.string f), .list .str to, .list .str ls]]).val = some res → ∃ N, T196 N f to ls = some res) :
    ∀ avs res, (m196 avs).val = some res → Con P D.tab 196 avs res := by
  intro avs res h
  have h0 := h
  unfold m196 at h0
  split at h0
  · obtain ⟨N, hN⟩ := pl _ _ _ res h
    exact con_of_ev tabOk hC (f := 196) (fn := Tryz.f196) (by kernel_rfl) (F196 N) (loops196 N) (by rw [show Tryz.f196.ntmps = 54 from by kernel_rfl]; simp) ((main196 N _ _ _).trans hN)
  · cases h0
theorem ent196 : Iv.Enters P 196 := ⟨Tryz.f196, by kernel_rfl, by kernel_rfl, by kernel_rfl⟩
noncomputable def call98 : CallT := (noCall.add 196 m196)
def F98 (N : Nat) : FnK RV where
  N := 17
  lk := fun _ => none
  lp := fun _ _ _ _ => none
theorem main98 (N : Nat) (f : ByteArray) (to : List ByteArray) (ls : List ByteArray) : evF D.tab call98 (F98 N) Tryz.f98 [.agg [.sc (.string f), .list .str to, .list .str ls]] = T98 N f to ls := by kernel_rfl
theorem loops98 (N : Nat) : ∀ c, Tryz.f98.body = some c → ∀ p ∈ loopsOf 0 c, LoopOk D.tab call98 (F98 N) p := by
  intro c hc
  have e : c = bodyOf Tryz.f98 := by unfold bodyOf; rw [hc]
  subst e
  have e2 : loopsOf 0 (bodyOf Tryz.f98) = [] := by kernel_rfl
  rw [e2]
  intro p hp
  cases hp
theorem con98 (hC : CallOk P D.tab call98) (pl : ∀ (f : ByteArray) (to : List ByteArray) (ls : List ByteArray) res, (m98 [.agg [.sc (.string f), .list .str to, .list .str ls]]).val = some res → ∃ N, T98 N f to ls = some res) :
    ∀ avs res, (m98 avs).val = some res → Con P D.tab 98 avs res := by
  intro avs res h
  have h0 := h
  unfold m98 at h0
  split at h0
  · obtain ⟨N, hN⟩ := pl _ _ _ res h
    exact con_of_ev tabOk hC (f := 98) (fn := Tryz.f98) (by kernel_rfl) (F98 N) (loops98 N) (by rw [show Tryz.f98.ntmps = 17 from by kernel_rfl]; simp) ((main98 N _ _ _).trans hN)
  · cases h0
theorem ent98 : Iv.Enters P 98 := ⟨Tryz.f98, by kernel_rfl, by kernel_rfl, by kernel_rfl⟩
noncomputable def call111 : CallT := (((noCall.add 131 m131v2).add 203 m203).add 205 m205)
def F111 (N : Nat) : FnK RV where
  N := 35
  lk := fun _ => none
  lp := fun _ _ _ _ => none
theorem main111 (N : Nat) (f : ByteArray) (to : List ByteArray) (ls : List ByteArray) (a : Int) (b : Int) : evF D.tab call111 (F111 N) Tryz.f111 [.agg [.sc (.string f), .list .str to, .list .str ls], .one (.sc (.int .i64 a)), .one (.sc (.int .i64 b))] = T111 N f to ls a b := by kernel_rfl
theorem loops111 (N : Nat) : ∀ c, Tryz.f111.body = some c → ∀ p ∈ loopsOf 0 c, LoopOk D.tab call111 (F111 N) p := by
  intro c hc
  have e : c = bodyOf Tryz.f111 := by unfold bodyOf; rw [hc]
  subst e
  have e2 : loopsOf 0 (bodyOf Tryz.f111) = [] := by kernel_rfl
  rw [e2]
  intro p hp
  cases hp
theorem con111 (hC : CallOk P D.tab call111) (pl : ∀ (f : ByteArray) (to : List ByteArray) (ls : List ByteArray) (a : Int) (b : Int) res, (m111 [.agg [.sc (.string f), .list .str to, .list .str ls], .one (.sc (.int .i64 a)), .one (.sc (.int .i64 b))]).val = some res → ∃ N, T111 N f to ls a b = some res) :
    ∀ avs res, (m111 avs).val = some res → Con P D.tab 111 avs res := by
  intro avs res h
  have h0 := h
  unfold m111 at h0
  split at h0
  · obtain ⟨N, hN⟩ := pl _ _ _ _ _ res h
    exact con_of_ev tabOk hC (f := 111) (fn := Tryz.f111) (by kernel_rfl) (F111 N) (loops111 N) (by rw [show Tryz.f111.ntmps = 35 from by kernel_rfl]; simp) ((main111 N _ _ _ _ _).trans hN)
  · cases h0
theorem ent111 : Iv.Enters P 111 := ⟨Tryz.f111, by kernel_rfl, by kernel_rfl, by kernel_rfl⟩
noncomputable def call40 : CallT := (noCall.add 111 m111)
def F40 (N : Nat) : FnK RV where
  N := 5
  lk := fun _ => none
  lp := fun _ _ _ _ => none
theorem main40 (N : Nat) (f : ByteArray) (to : List ByteArray) (ls : List ByteArray) : evF D.tab call40 (F40 N) Tryz.f40 [.agg [.sc (.string f), .list .str to, .list .str ls]] = T40 N f to ls := by kernel_rfl
theorem loops40 (N : Nat) : ∀ c, Tryz.f40.body = some c → ∀ p ∈ loopsOf 0 c, LoopOk D.tab call40 (F40 N) p := by
  intro c hc
  have e : c = bodyOf Tryz.f40 := by unfold bodyOf; rw [hc]
  subst e
  have e2 : loopsOf 0 (bodyOf Tryz.f40) = [] := by kernel_rfl
  rw [e2]
  intro p hp
  cases hp
theorem con40 (hC : CallOk P D.tab call40) (pl : ∀ (f : ByteArray) (to : List ByteArray) (ls : List ByteArray) res, (m40 [.agg [.sc (.string f), .list .str to, .list .str ls]]).val = some res → ∃ N, T40 N f to ls = some res) :
    ∀ avs res, (m40 avs).val = some res → Con P D.tab 40 avs res := by
  intro avs res h
  have h0 := h
  unfold m40 at h0
  split at h0
  · obtain ⟨N, hN⟩ := pl _ _ _ res h
    exact con_of_ev tabOk hC (f := 40) (fn := Tryz.f40) (by kernel_rfl) (F40 N) (loops40 N) (by rw [show Tryz.f40.ntmps = 5 from by kernel_rfl]; simp) ((main40 N _ _ _).trans hN)
  · cases h0
theorem ent40 : Iv.Enters P 40 := ⟨Tryz.f40, by kernel_rfl, by kernel_rfl, by kernel_rfl⟩
noncomputable def call96 : CallT := (noCall.add 193 m193)
def F96 (N : Nat) : FnK RV where
  N := 12
  lk := fun _ => none
  lp := fun _ _ _ _ => none
theorem main96 (N : Nat) (f : ByteArray) (to : List ByteArray) (ls : List ByteArray) : evF D.tab call96 (F96 N) Tryz.f96 [.agg [.sc (.string f), .list .str to, .list .str ls]] = T96 N f to ls := by kernel_rfl
theorem loops96 (N : Nat) : ∀ c, Tryz.f96.body = some c → ∀ p ∈ loopsOf 0 c, LoopOk D.tab call96 (F96 N) p := by
  intro c hc
  have e : c = bodyOf Tryz.f96 := by unfold bodyOf; rw [hc]
  subst e
  have e2 : loopsOf 0 (bodyOf Tryz.f96) = [] := by kernel_rfl
  rw [e2]
  intro p hp
  cases hp
theorem con96 (hC : CallOk P D.tab call96) (pl : ∀ (f : ByteArray) (to : List ByteArray) (ls : List ByteArray) res, (m96 [.agg [.sc (.string f), .list .str to, .list .str ls]]).val = some res → ∃ N, T96 N f to ls = some res) :
    ∀ avs res, (m96 avs).val = some res → Con P D.tab 96 avs res := by
  intro avs res h
  have h0 := h
  unfold m96 at h0
  split at h0
  · obtain ⟨N, hN⟩ := pl _ _ _ res h
    exact con_of_ev tabOk hC (f := 96) (fn := Tryz.f96) (by kernel_rfl) (F96 N) (loops96 N) (by rw [show Tryz.f96.ntmps = 12 from by kernel_rfl]; simp) ((main96 N _ _ _).trans hN)
  · cases h0
theorem ent96 : Iv.Enters P 96 := ⟨Tryz.f96, by kernel_rfl, by kernel_rfl, by kernel_rfl⟩
noncomputable def call102 : CallT := noCall
def F102 (N : Nat) : FnK RV where
  N := 14
  lk := fun _ => none
  lp := fun _ _ _ _ => none
theorem main102 (N : Nat) (f : ByteArray) (to : List ByteArray) (ls : List ByteArray) : evF D.tab call102 (F102 N) Tryz.f102 [.agg [.sc (.string f), .list .str to, .list .str ls]] = T102 N f to ls := by kernel_rfl
theorem loops102 (N : Nat) : ∀ c, Tryz.f102.body = some c → ∀ p ∈ loopsOf 0 c, LoopOk D.tab call102 (F102 N) p := by
  intro c hc
  have e : c = bodyOf Tryz.f102 := by unfold bodyOf; rw [hc]
  subst e
  have e2 : loopsOf 0 (bodyOf Tryz.f102) = [] := by kernel_rfl
  rw [e2]
  intro p hp
  cases hp
theorem con102 (hC : CallOk P D.tab call102) (pl : ∀ (f : ByteArray) (to : List ByteArray) (ls : List ByteArray) res, (m102 [.agg [.sc (.string f), .list .str to, .list .str ls]]).val = some res → ∃ N, T102 N f to ls = some res) :
    ∀ avs res, (m102 avs).val = some res → Con P D.tab 102 avs res := by
  intro avs res h
  have h0 := h
  unfold m102 at h0
  split at h0
  · obtain ⟨N, hN⟩ := pl _ _ _ res h
    exact con_of_ev tabOk hC (f := 102) (fn := Tryz.f102) (by kernel_rfl) (F102 N) (loops102 N) (by rw [show Tryz.f102.ntmps = 14 from by kernel_rfl]; simp) ((main102 N _ _ _).trans hN)
  · cases h0
theorem ent102 : Iv.Enters P 102 := ⟨Tryz.f102, by kernel_rfl, by kernel_rfl, by kernel_rfl⟩
noncomputable def call103 : CallT := noCall
def K103_0 : LoopK := { hs := [0, 1, 12, 13], ho := [], ex := [(0, [], [])], rs := [4], ro := [] }
def lp103_0 {R : Type} (N : Nat) (vs : List IV) (os : List (Option Ob)) (k : Exit → List IV → List (Option Ob) → Option R) : Option R :=
  match vs, os with
  | [.v (.one (.fc (.list .str x0))), .v (.one (.fc (.list .str x1))), .v (.one (.fc (.sc (.int .i64 x2)))), .v (.one (.fc (.sc (.int .i64 x3))))], [] => L103_0_0 N x0 x1 x2 x3 (fun y0 => k .ret [.v (.one (.fc (.sc (.bool y0))))] []) (fun _ => k (.exit 0) [] [])
  | _, _ => none
def F103 (N : Nat) : FnK RV where
  N := 26
  lk := fun b => bif Nat.beq b 0 then some K103_0 else none
  lp := fun b vs os k => bif Nat.beq b 0 then lp103_0 N vs os k else none
noncomputable def ev103_0 (N m : Nat) (vs : List IV) (os : List (Option Ob)) (k : Exit → List IV → List (Option Ob) → Option RV) : Option RV :=
  evLoop 26 K103_0 (fun σ k' => evC D.tab call103 (F103 N) 0 (loopAt Tryz.f103 0).2 σ k') m vs os k
theorem st103_0_0 (N m : Nat) (x0 : List ByteArray) (x1 : List ByteArray) (x2 : Int) (x3 : Int) (k : Exit → List IV → List (Option Ob) → Option RV) :
    ev103_0 N (m + 1) [.v (.one (.fc (.list .str x0))), .v (.one (.fc (.list .str x1))), .v (.one (.fc (.sc (.int .i64 x2)))), .v (.one (.fc (.sc (.int .i64 x3))))] [] k =
    (bif (decide (x3 < x2)) then
    (bif (inb x3 (x0).length) then
      (bif (inb x3 (x1).length) then
        (bif (!(((x0).getD (x3).toNat (⟨#[]⟩ : ByteArray)).toList == ((x1).getD (x3).toNat (⟨#[]⟩ : ByteArray)).toList)) then
          (k .ret [.v (.one (.fc (.sc (.bool false))))] [])
          else
          (ev103_0 N m [.v (.one (.fc (.list .str x0))), .v (.one (.fc (.list .str x1))), .v (.one (.fc (.sc (.int .i64 x2)))), .v (.one (.fc (.sc (.int .i64 (IntKind.i64.wrap (x3 + (1 : Int)))))))] [] k))
        else none)
      else none)
    else
    (k (.exit 0) [] [])) := by kernel_rfl
theorem eq103_0 (N : Nat) (k : Exit → List IV → List (Option Ob) → Option RV) : ∀ m : Nat,
    (∀ (x0 : List ByteArray) (x1 : List ByteArray) (x2 : Int) (x3 : Int), ev103_0 N m [.v (.one (.fc (.list .str x0))), .v (.one (.fc (.list .str x1))), .v (.one (.fc (.sc (.int .i64 x2)))), .v (.one (.fc (.sc (.int .i64 x3))))] [] k = L103_0_0 m x0 x1 x2 x3 (fun y0 => k .ret [.v (.one (.fc (.sc (.bool y0))))] []) (fun _ => k (.exit 0) [] [])) := by
  intro m
  induction m with
  | zero => exact (fun _ _ _ _ => rfl)
  | succ m ih =>
    have ih0 := ih
    refine (fun _ _ _ _ => ?_)
    · rw [st103_0_0]; simp only [ih0]; rfl
theorem lo103_0 (N : Nat) : LoopOk D.tab call103 (F103 N) (loopAt Tryz.f103 0) := by
  have h1 : (loopAt Tryz.f103 0).1 = 0 := by kernel_rfl
  intro L hL vs os k r h
  rw [h1] at hL h ⊢
  have hL' : L = K103_0 := by
    have e : (F103 N).lk 0 = some K103_0 := rfl
    rw [e] at hL; cases hL; rfl
  subst hL'
  have h2 : lp103_0 N vs os k = some r := h
  unfold lp103_0 at h2
  split at h2
  · exact ⟨N, ((eq103_0 N k N) _ _ _ _).trans h2⟩
  · cases h2
theorem main103 (N : Nat) (xs : List ByteArray) (ys : List ByteArray) : evF D.tab call103 (F103 N) Tryz.f103 [.one (.list .str xs), .one (.list .str ys)] = T103 N xs ys := by kernel_rfl
theorem loops103 (N : Nat) : ∀ c, Tryz.f103.body = some c → ∀ p ∈ loopsOf 0 c, LoopOk D.tab call103 (F103 N) p := by
  intro c hc
  have e : c = bodyOf Tryz.f103 := by unfold bodyOf; rw [hc]
  subst e
  have e2 : loopsOf 0 (bodyOf Tryz.f103) = [loopAt Tryz.f103 0] := by kernel_rfl
  rw [e2]
  intro p hp
  simp only [List.mem_cons, List.not_mem_nil, or_false] at hp
  rcases hp with rfl
  · exact lo103_0 N
theorem con103 (hC : CallOk P D.tab call103) (pl : ∀ (xs : List ByteArray) (ys : List ByteArray) res, (m103 [.one (.list .str xs), .one (.list .str ys)]).val = some res → ∃ N, T103 N xs ys = some res) :
    ∀ avs res, (m103 avs).val = some res → Con P D.tab 103 avs res := by
  intro avs res h
  have h0 := h
  unfold m103 at h0
  split at h0
  · obtain ⟨N, hN⟩ := pl _ _ res h
    exact con_of_ev tabOk hC (f := 103) (fn := Tryz.f103) (by kernel_rfl) (F103 N) (loops103 N) (by rw [show Tryz.f103.ntmps = 26 from by kernel_rfl]; simp) ((main103 N _ _).trans hN)
  · cases h0
theorem ent103 : Iv.Enters P 103 := ⟨Tryz.f103, by kernel_rfl, by kernel_rfl, by kernel_rfl⟩
noncomputable def call38 : CallT := noCall
def K38_0 : LoopK := { hs := [0, 1, 5], ho := [], ex := [(0, [], [])], rs := [4], ro := [] }
def lp38_0 {R : Type} (N : Nat) (vs : List IV) (os : List (Option Ob)) (k : Exit → List IV → List (Option Ob) → Option R) : Option R :=
  match vs, os with
  | [.v (.one (.fc (.list .str x0))), .v (.one (.fc (.list .str x1))), .v (.one (.fc (.sc (.int .i64 x2))))], [] => L38_0_0 N x0 x1 x2 (fun y0 => k .ret [.v (.one (.fc (.sc (.bool y0))))] []) (fun _ => k (.exit 0) [] [])
  | _, _ => none
def F38 (N : Nat) : FnK RV where
  N := 26
  lk := fun b => bif Nat.beq b 0 then some K38_0 else none
  lp := fun b vs os k => bif Nat.beq b 0 then lp38_0 N vs os k else none
noncomputable def ev38_0 (N m : Nat) (vs : List IV) (os : List (Option Ob)) (k : Exit → List IV → List (Option Ob) → Option RV) : Option RV :=
  evLoop 26 K38_0 (fun σ k' => evC D.tab call38 (F38 N) 0 (loopAt Tryz.f38 0).2 σ k') m vs os k
theorem st38_0_0 (N m : Nat) (x0 : List ByteArray) (x1 : List ByteArray) (x2 : Int) (k : Exit → List IV → List (Option Ob) → Option RV) :
    ev38_0 N (m + 1) [.v (.one (.fc (.list .str x0))), .v (.one (.fc (.list .str x1))), .v (.one (.fc (.sc (.int .i64 x2))))] [] k =
    (bif (decide (x2 < ((x0).length : Int))) then
    (bif (inb x2 (x0).length) then
      (bif (inb x2 (x1).length) then
        (bif (!(((x0).getD (x2).toNat (⟨#[]⟩ : ByteArray)).toList == ((x1).getD (x2).toNat (⟨#[]⟩ : ByteArray)).toList)) then
          (k .ret [.v (.one (.fc (.sc (.bool false))))] [])
          else
          (ev38_0 N m [.v (.one (.fc (.list .str x0))), .v (.one (.fc (.list .str x1))), .v (.one (.fc (.sc (.int .i64 (IntKind.i64.wrap (x2 + (1 : Int)))))))] [] k))
        else none)
      else none)
    else
    (k (.exit 0) [] [])) := by kernel_rfl
theorem eq38_0 (N : Nat) (k : Exit → List IV → List (Option Ob) → Option RV) : ∀ m : Nat,
    (∀ (x0 : List ByteArray) (x1 : List ByteArray) (x2 : Int), ev38_0 N m [.v (.one (.fc (.list .str x0))), .v (.one (.fc (.list .str x1))), .v (.one (.fc (.sc (.int .i64 x2))))] [] k = L38_0_0 m x0 x1 x2 (fun y0 => k .ret [.v (.one (.fc (.sc (.bool y0))))] []) (fun _ => k (.exit 0) [] [])) := by
  intro m
  induction m with
  | zero => exact (fun _ _ _ => rfl)
  | succ m ih =>
    have ih0 := ih
    refine (fun _ _ _ => ?_)
    · rw [st38_0_0]; simp only [ih0]; rfl
theorem lo38_0 (N : Nat) : LoopOk D.tab call38 (F38 N) (loopAt Tryz.f38 0) := by
  have h1 : (loopAt Tryz.f38 0).1 = 0 := by kernel_rfl
  intro L hL vs os k r h
  rw [h1] at hL h ⊢
  have hL' : L = K38_0 := by
    have e : (F38 N).lk 0 = some K38_0 := rfl
    rw [e] at hL; cases hL; rfl
  subst hL'
  have h2 : lp38_0 N vs os k = some r := h
  unfold lp38_0 at h2
  split at h2
  · exact ⟨N, ((eq38_0 N k N) _ _ _).trans h2⟩
  · cases h2
theorem main38 (N : Nat) (xs : List ByteArray) (ys : List ByteArray) : evF D.tab call38 (F38 N) Tryz.f38 [.one (.list .str xs), .one (.list .str ys)] = T38 N xs ys := by kernel_rfl
theorem loops38 (N : Nat) : ∀ c, Tryz.f38.body = some c → ∀ p ∈ loopsOf 0 c, LoopOk D.tab call38 (F38 N) p := by
  intro c hc
  have e : c = bodyOf Tryz.f38 := by unfold bodyOf; rw [hc]
  subst e
  have e2 : loopsOf 0 (bodyOf Tryz.f38) = [loopAt Tryz.f38 0] := by kernel_rfl
  rw [e2]
  intro p hp
  simp only [List.mem_cons, List.not_mem_nil, or_false] at hp
  rcases hp with rfl
  · exact lo38_0 N
theorem con38 (hC : CallOk P D.tab call38) (pl : ∀ (xs : List ByteArray) (ys : List ByteArray) res, (m38 [.one (.list .str xs), .one (.list .str ys)]).val = some res → ∃ N, T38 N xs ys = some res) :
    ∀ avs res, (m38 avs).val = some res → Con P D.tab 38 avs res := by
  intro avs res h
  have h0 := h
  unfold m38 at h0
  split at h0
  · obtain ⟨N, hN⟩ := pl _ _ res h
    exact con_of_ev tabOk hC (f := 38) (fn := Tryz.f38) (by kernel_rfl) (F38 N) (loops38 N) (by rw [show Tryz.f38.ntmps = 26 from by kernel_rfl]; simp) ((main38 N _ _).trans hN)
  · cases h0
theorem ent38 : Iv.Enters P 38 := ⟨Tryz.f38, by kernel_rfl, by kernel_rfl, by kernel_rfl⟩
noncomputable def call30 : CallT := (noCall.add 103 m103)
def F30 (N : Nat) : FnK RV where
  N := 24
  lk := fun _ => none
  lp := fun _ _ _ _ => none
theorem main30 (N : Nat) (f : ByteArray) (to : List ByteArray) (ls : List ByteArray) (g : ByteArray) (ti : List ByteArray) (ms : List ByteArray) : evF D.tab call30 (F30 N) Tryz.f30 [.agg [.sc (.string f), .list .str to, .list .str ls], .agg [.sc (.string g), .list .str ti, .list .str ms]] = T30 N f to ls g ti ms := by kernel_rfl
theorem loops30 (N : Nat) : ∀ c, Tryz.f30.body = some c → ∀ p ∈ loopsOf 0 c, LoopOk D.tab call30 (F30 N) p := by
  intro c hc
  have e : c = bodyOf Tryz.f30 := by unfold bodyOf; rw [hc]
  subst e
  have e2 : loopsOf 0 (bodyOf Tryz.f30) = [] := by kernel_rfl
  rw [e2]
  intro p hp
  cases hp
theorem con30 (hC : CallOk P D.tab call30) (pl : ∀ (f : ByteArray) (to : List ByteArray) (ls : List ByteArray) (g : ByteArray) (ti : List ByteArray) (ms : List ByteArray) res, (m30 [.agg [.sc (.string f), .list .str to, .list .str ls], .agg [.sc (.string g), .list .str ti, .list .str ms]]).val = some res → ∃ N, T30 N f to ls g ti ms = some res) :
    ∀ avs res, (m30 avs).val = some res → Con P D.tab 30 avs res := by
  intro avs res h
  have h0 := h
  unfold m30 at h0
  split at h0
  · obtain ⟨N, hN⟩ := pl _ _ _ _ _ _ res h
    exact con_of_ev tabOk hC (f := 30) (fn := Tryz.f30) (by kernel_rfl) (F30 N) (loops30 N) (by rw [show Tryz.f30.ntmps = 24 from by kernel_rfl]; simp) ((main30 N _ _ _ _ _ _).trans hN)
  · cases h0
theorem ent30 : Iv.Enters P 30 := ⟨Tryz.f30, by kernel_rfl, by kernel_rfl, by kernel_rfl⟩
noncomputable def call200 : CallT := (noCall.add 278 m278)
def F200 (N : Nat) : FnK RV where
  N := 11
  lk := fun _ => none
  lp := fun _ _ _ _ => none
theorem main200 (N : Nat) (s : ByteArray) : evF D.tab call200 (F200 N) Tryz.f200 [.one (.sc (.string s))] = T200 N s := by kernel_rfl
theorem loops200 (N : Nat) : ∀ c, Tryz.f200.body = some c → ∀ p ∈ loopsOf 0 c, LoopOk D.tab call200 (F200 N) p := by
  intro c hc
  have e : c = bodyOf Tryz.f200 := by unfold bodyOf; rw [hc]
  subst e
  have e2 : loopsOf 0 (bodyOf Tryz.f200) = [] := by kernel_rfl
  rw [e2]
  intro p hp
  cases hp
theorem con200 (hC : CallOk P D.tab call200) (pl : ∀ (s : ByteArray) res, (m200 [.one (.sc (.string s))]).val = some res → ∃ N, T200 N s = some res) :
    ∀ avs res, (m200 avs).val = some res → Con P D.tab 200 avs res := by
  intro avs res h
  have h0 := h
  unfold m200 at h0
  split at h0
  · obtain ⟨N, hN⟩ := pl _ res h
    exact con_of_ev tabOk hC (f := 200) (fn := Tryz.f200) (by kernel_rfl) (F200 N) (loops200 N) (by rw [show Tryz.f200.ntmps = 11 from by kernel_rfl]; simp) ((main200 N _).trans hN)
  · cases h0
theorem ent200 : Iv.Enters P 200 := ⟨Tryz.f200, by kernel_rfl, by kernel_rfl, by kernel_rfl⟩
noncomputable def call101 : CallT := (noCall.add 200 m200)
def K101_0 : LoopK := { hs := [0, 3, 4], ho := [], ex := [(0, [3], [])], rs := [], ro := [] }
def lp101_0 {R : Type} (N : Nat) (vs : List IV) (os : List (Option Ob)) (k : Exit → List IV → List (Option Ob) → Option R) : Option R :=
  match vs, os with
  | [.v (.one (.fc (.list .str x0))), .v (.one (.fc (.sc (.int .i64 x1)))), .v (.one (.fc (.sc (.int .i64 x2))))], [] => L101_0_0 N x0 x1 x2 (fun y0 => k (.exit 0) [.v (.one (.fc (.sc (.int .i64 y0))))] [])
  | _, _ => none
def F101 (N : Nat) : FnK RV where
  N := 26
  lk := fun b => bif Nat.beq b 0 then some K101_0 else none
  lp := fun b vs os k => bif Nat.beq b 0 then lp101_0 N vs os k else none
noncomputable def ev101_0 (N m : Nat) (vs : List IV) (os : List (Option Ob)) (k : Exit → List IV → List (Option Ob) → Option RV) : Option RV :=
  evLoop 26 K101_0 (fun σ k' => evC D.tab call101 (F101 N) 0 (loopAt Tryz.f101 0).2 σ k') m vs os k
theorem st101_0_0 (N m : Nat) (x0 : List ByteArray) (x1 : Int) (x2 : Int) (k : Exit → List IV → List (Option Ob) → Option RV) :
    ev101_0 N (m + 1) [.v (.one (.fc (.list .str x0))), .v (.one (.fc (.sc (.int .i64 x1)))), .v (.one (.fc (.sc (.int .i64 x2))))] [] k =
    (bif (decide (x2 < ((x0).length : Int))) then
    (bif (inb x2 (x0).length) then
      (bif (!(((x0).getD (x2).toNat (⟨#[]⟩ : ByteArray)).toList == (⟨#[]⟩ : ByteArray).toList)) then
        (bif (inb x2 (x0).length) then
          (bif (decide (((((x0).getD (x2).toNat (⟨#[]⟩ : ByteArray))).size : Int) ≤ 2147483648)) then
            (bif (isHop ((x0).getD (x2).toNat (⟨#[]⟩ : ByteArray))) then
              (ev101_0 N m [.v (.one (.fc (.list .str x0))), .v (.one (.fc (.sc (.int .i64 (IntKind.i64.wrap (x1 + (1 : Int))))))), .v (.one (.fc (.sc (.int .i64 (IntKind.i64.wrap (x2 + (1 : Int)))))))] [] k)
              else
              (ev101_0 N m [.v (.one (.fc (.list .str x0))), .v (.one (.fc (.sc (.int .i64 x1)))), .v (.one (.fc (.sc (.int .i64 (IntKind.i64.wrap (x2 + (1 : Int)))))))] [] k))
            else none)
          else none)
        else
        (k (.exit 0) [.v (.one (.fc (.sc (.int .i64 x1))))] []))
      else none)
    else
    (k (.exit 0) [.v (.one (.fc (.sc (.int .i64 x1))))] [])) := by kernel_rfl
theorem eq101_0 (N : Nat) (k : Exit → List IV → List (Option Ob) → Option RV) : ∀ m : Nat,
    (∀ (x0 : List ByteArray) (x1 : Int) (x2 : Int), ev101_0 N m [.v (.one (.fc (.list .str x0))), .v (.one (.fc (.sc (.int .i64 x1)))), .v (.one (.fc (.sc (.int .i64 x2))))] [] k = L101_0_0 m x0 x1 x2 (fun y0 => k (.exit 0) [.v (.one (.fc (.sc (.int .i64 y0))))] [])) := by
  intro m
  induction m with
  | zero => exact (fun _ _ _ => rfl)
  | succ m ih =>
    have ih0 := ih
    refine (fun _ _ _ => ?_)
    · rw [st101_0_0]; simp only [ih0]; rfl
theorem lo101_0 (N : Nat) : LoopOk D.tab call101 (F101 N) (loopAt Tryz.f101 0) := by
  have h1 : (loopAt Tryz.f101 0).1 = 0 := by kernel_rfl
  intro L hL vs os k r h
  rw [h1] at hL h ⊢
  have hL' : L = K101_0 := by
    have e : (F101 N).lk 0 = some K101_0 := rfl
    rw [e] at hL; cases hL; rfl
  subst hL'
  have h2 : lp101_0 N vs os k = some r := h
  unfold lp101_0 at h2
  split at h2
  · exact ⟨N, ((eq101_0 N k N) _ _ _).trans h2⟩
  · cases h2
theorem main101 (N : Nat) (ls : List ByteArray) : evF D.tab call101 (F101 N) Tryz.f101 [.one (.list .str ls)] = T101 N ls := by kernel_rfl
theorem loops101 (N : Nat) : ∀ c, Tryz.f101.body = some c → ∀ p ∈ loopsOf 0 c, LoopOk D.tab call101 (F101 N) p := by
  intro c hc
  have e : c = bodyOf Tryz.f101 := by unfold bodyOf; rw [hc]
  subst e
  have e2 : loopsOf 0 (bodyOf Tryz.f101) = [loopAt Tryz.f101 0] := by kernel_rfl
  rw [e2]
  intro p hp
  simp only [List.mem_cons, List.not_mem_nil, or_false] at hp
  rcases hp with rfl
  · exact lo101_0 N
theorem con101 (hC : CallOk P D.tab call101) (pl : ∀ (ls : List ByteArray) res, (m101 [.one (.list .str ls)]).val = some res → ∃ N, T101 N ls = some res) :
    ∀ avs res, (m101 avs).val = some res → Con P D.tab 101 avs res := by
  intro avs res h
  have h0 := h
  unfold m101 at h0
  split at h0
  · obtain ⟨N, hN⟩ := pl _ res h
    exact con_of_ev tabOk hC (f := 101) (fn := Tryz.f101) (by kernel_rfl) (F101 N) (loops101 N) (by rw [show Tryz.f101.ntmps = 26 from by kernel_rfl]; simp) ((main101 N _).trans hN)
  · cases h0
theorem ent101 : Iv.Enters P 101 := ⟨Tryz.f101, by kernel_rfl, by kernel_rfl, by kernel_rfl⟩
noncomputable def call95 : CallT := ((noCall.add 154 m154).add 192 m192)
def K95_0 : LoopK := { hs := [3, 7, 8, 9], ho := [], ex := [(0, [3], [])], rs := [], ro := [] }
def lp95_0 {R : Type} (N : Nat) (vs : List IV) (os : List (Option Ob)) (k : Exit → List IV → List (Option Ob) → Option R) : Option R :=
  match vs, os with
  | [.v (.one (.fc (.sc (.int .i64 x0)))), .v (.one (.fc (.list .str x1))), .v (.one (.fc (.sc (.int .i64 x2)))), .v (.one (.fc (.sc (.int .i64 x3))))], [] => L95_0_0 N x0 x1 x2 x3 (fun y0 => k (.exit 0) [.v (.one (.fc (.sc (.int .i64 y0))))] [])
  | _, _ => none
def F95 (N : Nat) : FnK RV where
  N := 22
  lk := fun b => bif Nat.beq b 0 then some K95_0 else none
  lp := fun b vs os k => bif Nat.beq b 0 then lp95_0 N vs os k else none
noncomputable def ev95_0 (N m : Nat) (vs : List IV) (os : List (Option Ob)) (k : Exit → List IV → List (Option Ob) → Option RV) : Option RV :=
  evLoop 22 K95_0 (fun σ k' => evC D.tab call95 (F95 N) 0 (loopAt Tryz.f95 0).2 σ k') m vs os k
theorem st95_0_0 (N m : Nat) (x0 : Int) (x1 : List ByteArray) (x2 : Int) (x3 : Int) (k : Exit → List IV → List (Option Ob) → Option RV) :
    ev95_0 N (m + 1) [.v (.one (.fc (.sc (.int .i64 x0)))), .v (.one (.fc (.list .str x1))), .v (.one (.fc (.sc (.int .i64 x2)))), .v (.one (.fc (.sc (.int .i64 x3))))] [] k =
    (bif (decide (x3 < x2)) then
    (bif (inb x3 (x1).length) then
      (bif (((x1).getD (x3).toNat (⟨#[]⟩ : ByteArray)).toList == (⟨#[]⟩ : ByteArray).toList) then
        (k (.exit 0) [.v (.one (.fc (.sc (.int .i64 x0))))] [])
        else
        (bif (decide (((((x1).getD (x3).toNat (⟨#[]⟩ : ByteArray))).size : Int) ≤ 2147483648)) then
          (bif (hasPre (lowerText ((x1).getD (x3).toNat (⟨#[]⟩ : ByteArray))) (⟨#[114, 101, 99, 101, 105, 118, 101, 100, 58]⟩ : ByteArray)) then
            (ev95_0 N m [.v (.one (.fc (.sc (.int .i64 (IntKind.i64.wrap (x0 + (1 : Int))))))), .v (.one (.fc (.list .str x1))), .v (.one (.fc (.sc (.int .i64 x2)))), .v (.one (.fc (.sc (.int .i64 (IntKind.i64.wrap (x3 + (1 : Int)))))))] [] k)
            else
            (ev95_0 N m [.v (.one (.fc (.sc (.int .i64 x0)))), .v (.one (.fc (.list .str x1))), .v (.one (.fc (.sc (.int .i64 x2)))), .v (.one (.fc (.sc (.int .i64 (IntKind.i64.wrap (x3 + (1 : Int)))))))] [] k))
          else none))
      else none)
    else
    (k (.exit 0) [.v (.one (.fc (.sc (.int .i64 x0))))] [])) := by kernel_rfl
theorem eq95_0 (N : Nat) (k : Exit → List IV → List (Option Ob) → Option RV) : ∀ m : Nat,
    (∀ (x0 : Int) (x1 : List ByteArray) (x2 : Int) (x3 : Int), ev95_0 N m [.v (.one (.fc (.sc (.int .i64 x0)))), .v (.one (.fc (.list .str x1))), .v (.one (.fc (.sc (.int .i64 x2)))), .v (.one (.fc (.sc (.int .i64 x3))))] [] k = L95_0_0 m x0 x1 x2 x3 (fun y0 => k (.exit 0) [.v (.one (.fc (.sc (.int .i64 y0))))] [])) := by
  intro m
  induction m with
  | zero => exact (fun _ _ _ _ => rfl)
  | succ m ih =>
    have ih0 := ih
    refine (fun _ _ _ _ => ?_)
    · rw [st95_0_0]; simp only [ih0]; rfl
theorem lo95_0 (N : Nat) : LoopOk D.tab call95 (F95 N) (loopAt Tryz.f95 0) := by
  have h1 : (loopAt Tryz.f95 0).1 = 0 := by kernel_rfl
  intro L hL vs os k r h
  rw [h1] at hL h ⊢
  have hL' : L = K95_0 := by
    have e : (F95 N).lk 0 = some K95_0 := rfl
    rw [e] at hL; cases hL; rfl
  subst hL'
  have h2 : lp95_0 N vs os k = some r := h
  unfold lp95_0 at h2
  split at h2
  · exact ⟨N, ((eq95_0 N k N) _ _ _ _).trans h2⟩
  · cases h2
theorem main95 (N : Nat) (f : ByteArray) (to : List ByteArray) (ls : List ByteArray) : evF D.tab call95 (F95 N) Tryz.f95 [.agg [.sc (.string f), .list .str to, .list .str ls]] = T95 N f to ls := by kernel_rfl
theorem loops95 (N : Nat) : ∀ c, Tryz.f95.body = some c → ∀ p ∈ loopsOf 0 c, LoopOk D.tab call95 (F95 N) p := by
  intro c hc
  have e : c = bodyOf Tryz.f95 := by unfold bodyOf; rw [hc]
  subst e
  have e2 : loopsOf 0 (bodyOf Tryz.f95) = [loopAt Tryz.f95 0] := by kernel_rfl
  rw [e2]
  intro p hp
  simp only [List.mem_cons, List.not_mem_nil, or_false] at hp
  rcases hp with rfl
  · exact lo95_0 N
theorem con95 (hC : CallOk P D.tab call95) (pl : ∀ (f : ByteArray) (to : List ByteArray) (ls : List ByteArray) res, (m95 [.agg [.sc (.string f), .list .str to, .list .str ls]]).val = some res → ∃ N, T95 N f to ls = some res) :
    ∀ avs res, (m95 avs).val = some res → Con P D.tab 95 avs res := by
  intro avs res h
  have h0 := h
  unfold m95 at h0
  split at h0
  · obtain ⟨N, hN⟩ := pl _ _ _ res h
    exact con_of_ev tabOk hC (f := 95) (fn := Tryz.f95) (by kernel_rfl) (F95 N) (loops95 N) (by rw [show Tryz.f95.ntmps = 22 from by kernel_rfl]; simp) ((main95 N _ _ _).trans hN)
  · cases h0
theorem ent95 : Iv.Enters P 95 := ⟨Tryz.f95, by kernel_rfl, by kernel_rfl, by kernel_rfl⟩
noncomputable def call39 : CallT := ((noCall.add 40 m40).add 95 m95)
def F39 (N : Nat) : FnK RV where
  N := 9
  lk := fun _ => none
  lp := fun _ _ _ _ => none
theorem main39 (N : Nat) (f : ByteArray) (to : List ByteArray) (ls : List ByteArray) : evF D.tab call39 (F39 N) Tryz.f39 [.agg [.sc (.string f), .list .str to, .list .str ls]] = T39 N f to ls := by kernel_rfl
theorem loops39 (N : Nat) : ∀ c, Tryz.f39.body = some c → ∀ p ∈ loopsOf 0 c, LoopOk D.tab call39 (F39 N) p := by
  intro c hc
  have e : c = bodyOf Tryz.f39 := by unfold bodyOf; rw [hc]
  subst e
  have e2 : loopsOf 0 (bodyOf Tryz.f39) = [] := by kernel_rfl
  rw [e2]
  intro p hp
  cases hp
theorem con39 (hC : CallOk P D.tab call39) (pl : ∀ (f : ByteArray) (to : List ByteArray) (ls : List ByteArray) res, (m39 [.agg [.sc (.string f), .list .str to, .list .str ls]]).val = some res → ∃ N, T39 N f to ls = some res) :
    ∀ avs res, (m39 avs).val = some res → Con P D.tab 39 avs res := by
  intro avs res h
  have h0 := h
  unfold m39 at h0
  split at h0
  · obtain ⟨N, hN⟩ := pl _ _ _ res h
    exact con_of_ev tabOk hC (f := 39) (fn := Tryz.f39) (by kernel_rfl) (F39 N) (loops39 N) (by rw [show Tryz.f39.ntmps = 9 from by kernel_rfl]; simp) ((main39 N _ _ _).trans hN)
  · cases h0
theorem ent39 : Iv.Enters P 39 := ⟨Tryz.f39, by kernel_rfl, by kernel_rfl, by kernel_rfl⟩
end Go.Proofs.YtpdmeafoofkpaaaGreatDoor
