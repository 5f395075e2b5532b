/- What the evaluator makes of the code. -/
import Derived.Test.YtpdmeafoofkpaaaGreatDoorHb
import Derived.Test.YtpdmeafoofkpaaaGreatDoorHa
set_option linter.unusedVariables false
set_option linter.unusedSimpArgs false

namespace Go.Proofs.YtpdmeafoofkpaaaGreatDoor
open Go Go.Iv
set_option maxRecDepth 10000
set_option maxHeartbeats 4000000
noncomputable def call133 : CallT := noCall
def K133_0 : LoopK := { hs := [0, 5, 6], ho := [], ex := [(0, [0], [])], rs := [2], ro := [] }
def lp133_0 {R : Type} (N : Nat) (vs : List IV) (os : List (Option Ob)) (k : Exit → List IV → List (Option Ob) → Option R) : Option R :=
  match vs, os with
  | [.v (.one (.fc (.sc (.string x0)))), .v (.one (.fc (.sc (.int .i64 x1)))), .v (.one (.fc (.sc (.int .i64 x2))))], [] => L133_0_0 N x0 x1 x2 (fun y0 => k .ret [.v (.one (.fc (.sc (.bool y0))))] []) (fun y0 => k (.exit 0) [.v (.one (.fc (.sc (.string y0))))] [])
  | _, _ => none
def F133 (N : Nat) : FnK RV where
  N := 23
  lk := fun b => bif Nat.beq b 0 then some K133_0 else none
  lp := fun b vs os k => bif Nat.beq b 0 then lp133_0 N vs os k else none
noncomputable def ev133_0 (N m : Nat) (vs : List IV) (os : List (Option Ob)) (k : Exit → List IV → List (Option Ob) → Option RV) : Option RV :=
  evLoop 23 K133_0 (fun σ k' => evC D.tab call133 (F133 N) 0 (loopAt Tryz.f133 0).2 σ k') m vs os k
theorem st133_0_0 (N m : Nat) (x0 : ByteArray) (x1 : Int) (x2 : Int) (k : Exit → List IV → List (Option Ob) → Option RV) :
    ev133_0 N (m + 1) [.v (.one (.fc (.sc (.string x0)))), .v (.one (.fc (.sc (.int .i64 x1)))), .v (.one (.fc (.sc (.int .i64 x2))))] [] k =
    (bif (decide (x2 < x1)) then
    (bif (inb x2 (x0).size) then
      (bif (decide ((bt x0 x2) < (32 : Int))) then
        (k .ret [.v (.one (.fc (.sc (.bool false))))] [])
        else
        (bif (inb x2 (x0).size) then
          (bif (decide ((bt x0 x2) > (126 : Int))) then
            (k .ret [.v (.one (.fc (.sc (.bool false))))] [])
            else
            (ev133_0 N m [.v (.one (.fc (.sc (.string x0)))), .v (.one (.fc (.sc (.int .i64 x1)))), .v (.one (.fc (.sc (.int .i64 (IntKind.i64.wrap (x2 + (1 : Int)))))))] [] k))
          else none))
      else none)
    else
    (k (.exit 0) [.v (.one (.fc (.sc (.string x0))))] [])) := by kernel_rfl
theorem eq133_0 (N : Nat) (k : Exit → List IV → List (Option Ob) → Option RV) : ∀ m : Nat,
    (∀ (x0 : ByteArray) (x1 : Int) (x2 : Int), ev133_0 N m [.v (.one (.fc (.sc (.string x0)))), .v (.one (.fc (.sc (.int .i64 x1)))), .v (.one (.fc (.sc (.int .i64 x2))))] [] k = L133_0_0 m x0 x1 x2 (fun y0 => k .ret [.v (.one (.fc (.sc (.bool y0))))] []) (fun y0 => k (.exit 0) [.v (.one (.fc (.sc (.string y0))))] [])) := by
  intro m
  induction m with
  | zero => exact (fun _ _ _ => rfl)
  | succ m ih =>
    have ih0 := ih
    refine (fun _ _ _ => ?_)
    · rw [st133_0_0]; simp only [ih0]; rfl
theorem lo133_0 (N : Nat) : LoopOk D.tab call133 (F133 N) (loopAt Tryz.f133 0) := by
  have h1 : (loopAt Tryz.f133 0).1 = 0 := by kernel_rfl
  intro L hL vs os k r h
  rw [h1] at hL h ⊢
  have hL' : L = K133_0 := by
    have e : (F133 N).lk 0 = some K133_0 := rfl
    rw [e] at hL; cases hL; rfl
  subst hL'
  have h2 : lp133_0 N vs os k = some r := h
  unfold lp133_0 at h2
  split at h2
  · exact ⟨N, ((eq133_0 N k N) _ _ _).trans h2⟩
  · cases h2
theorem main133 (N : Nat) (s : ByteArray) : evF D.tab call133 (F133 N) Tryz.f133 [.one (.sc (.string s))] = T133 N s := by kernel_rfl
theorem loops133 (N : Nat) : ∀ c, Tryz.f133.body = some c → ∀ p ∈ loopsOf 0 c, LoopOk D.tab call133 (F133 N) p := by
  intro c hc
  have e : c = bodyOf Tryz.f133 := by unfold bodyOf; rw [hc]
  subst e
  have e2 : loopsOf 0 (bodyOf Tryz.f133) = [loopAt Tryz.f133 0] := by kernel_rfl
  rw [e2]
  intro p hp
  simp only [List.mem_cons, List.not_mem_nil, or_false] at hp
  rcases hp with rfl
  · exact lo133_0 N
theorem con133 (hC : CallOk P D.tab call133) (pl : ∀ (s : ByteArray) res, (m133 [.one (.sc (.string s))]).val = some res → ∃ N, T133 N s = some res) :
    ∀ avs res, (m133 avs).val = some res → Con P D.tab 133 avs res := by
  intro avs res h
  have h0 := h
  unfold m133 at h0
  split at h0
  · obtain ⟨N, hN⟩ := pl _ res h
    exact con_of_ev tabOk hC (f := 133) (fn := Tryz.f133) (by kernel_rfl) (F133 N) (loops133 N) (by rw [show Tryz.f133.ntmps = 23 from by kernel_rfl]; simp) ((main133 N _).trans hN)
  · cases h0
theorem ent133 : Iv.Enters P 133 := ⟨Tryz.f133, by kernel_rfl, by kernel_rfl, by kernel_rfl⟩
noncomputable def call134 : CallT := noCall
def K134_0 : LoopK := { hs := [0, 3], ho := [], ex := [(0, [0], [])], rs := [2], ro := [] }
def lp134_0 {R : Type} (N : Nat) (vs : List IV) (os : List (Option Ob)) (k : Exit → List IV → List (Option Ob) → Option R) : Option R :=
  match vs, os with
  | [.v (.one (.fc (.sc (.string x0)))), .v (.one (.fc (.sc (.int .i64 x1))))], [] => L134_0_0 N x0 x1 (fun y0 => k .ret [.v (.one (.fc (.sc (.bool y0))))] []) (fun y0 => k (.exit 0) [.v (.one (.fc (.sc (.string y0))))] [])
  | _, _ => none
def F134 (N : Nat) : FnK RV where
  N := 27
  lk := fun b => bif Nat.beq b 0 then some K134_0 else none
  lp := fun b vs os k => bif Nat.beq b 0 then lp134_0 N vs os k else none
noncomputable def ev134_0 (N m : Nat) (vs : List IV) (os : List (Option Ob)) (k : Exit → List IV → List (Option Ob) → Option RV) : Option RV :=
  evLoop 27 K134_0 (fun σ k' => evC D.tab call134 (F134 N) 0 (loopAt Tryz.f134 0).2 σ k') m vs os k
theorem st134_0_0 (N m : Nat) (x0 : ByteArray) (x1 : Int) (k : Exit → List IV → List (Option Ob) → Option RV) :
    ev134_0 N (m + 1) [.v (.one (.fc (.sc (.string x0)))), .v (.one (.fc (.sc (.int .i64 x1))))] [] k =
    (bif (decide (x1 < ((x0).size : Int))) then
    (bif (decide (x1 ≤ (200 : Int))) then
      (bif (inb x1 (x0).size) then
        (bif (decide ((bt x0 x1) < (32 : Int))) then
          (k .ret [.v (.one (.fc (.sc (.bool false))))] [])
          else
          (bif (inb x1 (x0).size) then
            (bif (decide ((bt x0 x1) > (126 : Int))) then
              (k .ret [.v (.one (.fc (.sc (.bool false))))] [])
              else
              (ev134_0 N m [.v (.one (.fc (.sc (.string x0)))), .v (.one (.fc (.sc (.int .i64 (IntKind.i64.wrap (x1 + (1 : Int)))))))] [] k))
            else none))
        else none)
      else
      (k (.exit 0) [.v (.one (.fc (.sc (.string x0))))] []))
    else
    (k (.exit 0) [.v (.one (.fc (.sc (.string x0))))] [])) := by kernel_rfl
theorem eq134_0 (N : Nat) (k : Exit → List IV → List (Option Ob) → Option RV) : ∀ m : Nat,
    (∀ (x0 : ByteArray) (x1 : Int), ev134_0 N m [.v (.one (.fc (.sc (.string x0)))), .v (.one (.fc (.sc (.int .i64 x1))))] [] k = L134_0_0 m x0 x1 (fun y0 => k .ret [.v (.one (.fc (.sc (.bool y0))))] []) (fun y0 => k (.exit 0) [.v (.one (.fc (.sc (.string y0))))] [])) := by
  intro m
  induction m with
  | zero => exact (fun _ _ => rfl)
  | succ m ih =>
    have ih0 := ih
    refine (fun _ _ => ?_)
    · rw [st134_0_0]; simp only [ih0]; rfl
theorem lo134_0 (N : Nat) : LoopOk D.tab call134 (F134 N) (loopAt Tryz.f134 0) := by
  have h1 : (loopAt Tryz.f134 0).1 = 0 := by kernel_rfl
  intro L hL vs os k r h
  rw [h1] at hL h ⊢
  have hL' : L = K134_0 := by
    have e : (F134 N).lk 0 = some K134_0 := rfl
    rw [e] at hL; cases hL; rfl
  subst hL'
  have h2 : lp134_0 N vs os k = some r := h
  unfold lp134_0 at h2
  split at h2
  · exact ⟨N, ((eq134_0 N k N) _ _).trans h2⟩
  · cases h2
theorem main134 (N : Nat) (s : ByteArray) : evF D.tab call134 (F134 N) Tryz.f134 [.one (.sc (.string s))] = T134 N s := by kernel_rfl
theorem loops134 (N : Nat) : ∀ c, Tryz.f134.body = some c → ∀ p ∈ loopsOf 0 c, LoopOk D.tab call134 (F134 N) p := by
  intro c hc
  have e : c = bodyOf Tryz.f134 := by unfold bodyOf; rw [hc]
  subst e
  have e2 : loopsOf 0 (bodyOf Tryz.f134) = [loopAt Tryz.f134 0] := by kernel_rfl
  rw [e2]
  intro p hp
  simp only [List.mem_cons, List.not_mem_nil, or_false] at hp
  rcases hp with rfl
  · exact lo134_0 N
theorem con134 (hC : CallOk P D.tab call134) (pl : ∀ (s : ByteArray) res, (m134 [.one (.sc (.string s))]).val = some res → ∃ N, T134 N s = some res) :
    ∀ avs res, (m134 avs).val = some res → Con P D.tab 134 avs res := by
  intro avs res h
  have h0 := h
  unfold m134 at h0
  split at h0
  · obtain ⟨N, hN⟩ := pl _ res h
    exact con_of_ev tabOk hC (f := 134) (fn := Tryz.f134) (by kernel_rfl) (F134 N) (loops134 N) (by rw [show Tryz.f134.ntmps = 27 from by kernel_rfl]; simp) ((main134 N _).trans hN)
  · cases h0
theorem ent134 : Iv.Enters P 134 := ⟨Tryz.f134, by kernel_rfl, by kernel_rfl, by kernel_rfl⟩
noncomputable def call280 : CallT := noCall
def F280 (N : Nat) : FnK RV where
  N := 17
  lk := fun _ => none
  lp := fun _ _ _ _ => none
theorem main280 (N : Nat) (c : Int) : evF D.tab call280 (F280 N) Tryz.f280 [.one (.sc (.int .u8 c))] = T280 N c := by kernel_rfl
theorem loops280 (N : Nat) : ∀ c, Tryz.f280.body = some c → ∀ p ∈ loopsOf 0 c, LoopOk D.tab call280 (F280 N) p := by
  intro c hc
  have e : c = bodyOf Tryz.f280 := by unfold bodyOf; rw [hc]
  subst e
  have e2 : loopsOf 0 (bodyOf Tryz.f280) = [] := by kernel_rfl
  rw [e2]
  intro p hp
  cases hp
theorem con280 (hC : CallOk P D.tab call280) (pl : ∀ (c : Int) res, (m280 [.one (.sc (.int .u8 c))]).val = some res → ∃ N, T280 N c = some res) :
    ∀ avs res, (m280 avs).val = some res → Con P D.tab 280 avs res := by
  intro avs res h
  have h0 := h
  unfold m280 at h0
  split at h0
  · obtain ⟨N, hN⟩ := pl _ res h
    exact con_of_ev tabOk hC (f := 280) (fn := Tryz.f280) (by kernel_rfl) (F280 N) (loops280 N) (by rw [show Tryz.f280.ntmps = 17 from by kernel_rfl]; simp) ((main280 N _).trans hN)
  · cases h0
theorem ent280 : Iv.Enters P 280 := ⟨Tryz.f280, by kernel_rfl, by kernel_rfl, by kernel_rfl⟩
noncomputable def call274 : CallT := noCall
def F274 (N : Nat) : FnK RV where
  N := 9
  lk := fun _ => none
  lp := fun _ _ _ _ => none
theorem main274 (N : Nat) (c : Int) : evF D.tab call274 (F274 N) Tryz.f274 [.one (.sc (.int .u8 c))] = T274 N c := by kernel_rfl
theorem loops274 (N : Nat) : ∀ c, Tryz.f274.body = some c → ∀ p ∈ loopsOf 0 c, LoopOk D.tab call274 (F274 N) p := by
  intro c hc
  have e : c = bodyOf Tryz.f274 := by unfold bodyOf; rw [hc]
  subst e
  have e2 : loopsOf 0 (bodyOf Tryz.f274) = [] := by kernel_rfl
  rw [e2]
  intro p hp
  cases hp
theorem con274 (hC : CallOk P D.tab call274) (pl : ∀ (c : Int) res, (m274 [.one (.sc (.int .u8 c))]).val = some res → ∃ N, T274 N c = some res) :
    ∀ avs res, (m274 avs).val = some res → Con P D.tab 274 avs res := by
  intro avs res h
  have h0 := h
  unfold m274 at h0
  split at h0
  · obtain ⟨N, hN⟩ := pl _ res h
    exact con_of_ev tabOk hC (f := 274) (fn := Tryz.f274) (by kernel_rfl) (F274 N) (loops274 N) (by rw [show Tryz.f274.ntmps = 9 from by kernel_rfl]; simp) ((main274 N _).trans hN)
  · cases h0
theorem ent274 : Iv.Enters P 274 := ⟨Tryz.f274, by kernel_rfl, by kernel_rfl, by kernel_rfl⟩
noncomputable def call229 : CallT := ((noCall.add 274 m274).add 280 m280)
def F229 (N : Nat) : FnK RV where
  N := 61
  lk := fun _ => none
  lp := fun _ _ _ _ => none
theorem main229 (N : Nat) (c : Int) : evF D.tab call229 (F229 N) Tryz.f229 [.one (.sc (.int .u8 c))] = T229 N c := by kernel_rfl
theorem loops229 (N : Nat) : ∀ c, Tryz.f229.body = some c → ∀ p ∈ loopsOf 0 c, LoopOk D.tab call229 (F229 N) p := by
  intro c hc
  have e : c = bodyOf Tryz.f229 := by unfold bodyOf; rw [hc]
  subst e
  have e2 : loopsOf 0 (bodyOf Tryz.f229) = [] := by kernel_rfl
  rw [e2]
  intro p hp
  cases hp
theorem con229 (hC : CallOk P D.tab call229) (pl : ∀ (c : Int) res, (m229 [.one (.sc (.int .u8 c))]).val = some res → ∃ N, T229 N c = some res) :
    ∀ avs res, (m229 avs).val = some res → Con P D.tab 229 avs res := by
  intro avs res h
  have h0 := h
  unfold m229 at h0
  split at h0
  · obtain ⟨N, hN⟩ := pl _ res h
    exact con_of_ev tabOk hC (f := 229) (fn := Tryz.f229) (by kernel_rfl) (F229 N) (loops229 N) (by rw [show Tryz.f229.ntmps = 61 from by kernel_rfl]; simp) ((main229 N _).trans hN)
  · cases h0
theorem ent229 : Iv.Enters P 229 := ⟨Tryz.f229, by kernel_rfl, by kernel_rfl, by kernel_rfl⟩
noncomputable def call197 : CallT := noCall
def F197 (N : Nat) : FnK RV where
  N := 25
  lk := fun _ => none
  lp := fun _ _ _ _ => none
theorem main197 (N : Nat) (c : Int) : evF D.tab call197 (F197 N) Tryz.f197 [.one (.sc (.int .u8 c))] = T197 N c := by kernel_rfl
theorem loops197 (N : Nat) : ∀ c, Tryz.f197.body = some c → ∀ p ∈ loopsOf 0 c, LoopOk D.tab call197 (F197 N) p := by
  intro c hc
  have e : c = bodyOf Tryz.f197 := by unfold bodyOf; rw [hc]
  subst e
  have e2 : loopsOf 0 (bodyOf Tryz.f197) = [] := by kernel_rfl
  rw [e2]
  intro p hp
  cases hp
theorem con197 (hC : CallOk P D.tab call197) (pl : ∀ (c : Int) res, (m197 [.one (.sc (.int .u8 c))]).val = some res → ∃ N, T197 N c = some res) :
    ∀ avs res, (m197 avs).val = some res → Con P D.tab 197 avs res := by
  intro avs res h
  have h0 := h
  unfold m197 at h0
  split at h0
  · obtain ⟨N, hN⟩ := pl _ res h
    exact con_of_ev tabOk hC (f := 197) (fn := Tryz.f197) (by kernel_rfl) (F197 N) (loops197 N) (by rw [show Tryz.f197.ntmps = 25 from by kernel_rfl]; simp) ((main197 N _).trans hN)
  · cases h0
theorem ent197 : Iv.Enters P 197 := ⟨Tryz.f197, by kernel_rfl, by kernel_rfl, by kernel_rfl⟩
noncomputable def call232 : CallT := (noCall.add 197 m197)
def K232_0 : LoopK := { hs := [0, 3], ho := [], ex := [(0, [0], [])], rs := [2], ro := [] }
def lp232_0 {R : Type} (N : Nat) (vs : List IV) (os : List (Option Ob)) (k : Exit → List IV → List (Option Ob) → Option R) : Option R :=
  match vs, os with
  | [.v (.one (.fc (.sc (.int .u8 x0)))), .v (.one (.fc (.sc (.int .i64 x1))))], [] => L232_0_0 N x0 x1 (fun y0 => k .ret [.v (.one (.fc (.sc (.bool y0))))] []) (fun y0 => k (.exit 0) [.v (.one (.fc (.sc (.int .u8 y0))))] [])
  | _, _ => none
def F232 (N : Nat) : FnK RV where
  N := 14
  lk := fun b => bif Nat.beq b 0 then some K232_0 else none
  lp := fun b vs os k => bif Nat.beq b 0 then lp232_0 N vs os k else none
noncomputable def ev232_0 (N m : Nat) (vs : List IV) (os : List (Option Ob)) (k : Exit → List IV → List (Option Ob) → Option RV) : Option RV :=
  evLoop 14 K232_0 (fun σ k' => evC D.tab call232 (F232 N) 0 (loopAt Tryz.f232 0).2 σ k') m vs os k
theorem st232_0_0 (N m : Nat) (x0 : Int) (x1 : Int) (k : Exit → List IV → List (Option Ob) → Option RV) :
    ev232_0 N (m + 1) [.v (.one (.fc (.sc (.int .u8 x0)))), .v (.one (.fc (.sc (.int .i64 x1))))] [] k =
    (bif (decide (x1 < (19 : Int))) then
    (bif (inb x1 ((⟨#[33, 35, 36, 37, 38, 39, 42, 43, 45, 47, 61, 63, 94, 95, 96, 123, 124, 125, 126]⟩ : ByteArray)).size) then
      (bif (x0 == (bt (⟨#[33, 35, 36, 37, 38, 39, 42, 43, 45, 47, 61, 63, 94, 95, 96, 123, 124, 125, 126]⟩ : ByteArray) x1)) then
        (k .ret [.v (.one (.fc (.sc (.bool true))))] [])
        else
        (ev232_0 N m [.v (.one (.fc (.sc (.int .u8 x0)))), .v (.one (.fc (.sc (.int .i64 (IntKind.i64.wrap (x1 + (1 : Int)))))))] [] k))
      else none)
    else
    (k (.exit 0) [.v (.one (.fc (.sc (.int .u8 x0))))] [])) := by kernel_rfl
theorem eq232_0 (N : Nat) (k : Exit → List IV → List (Option Ob) → Option RV) : ∀ m : Nat,
    (∀ (x0 : Int) (x1 : Int), ev232_0 N m [.v (.one (.fc (.sc (.int .u8 x0)))), .v (.one (.fc (.sc (.int .i64 x1))))] [] k = L232_0_0 m x0 x1 (fun y0 => k .ret [.v (.one (.fc (.sc (.bool y0))))] []) (fun y0 => k (.exit 0) [.v (.one (.fc (.sc (.int .u8 y0))))] [])) := by
  intro m
  induction m with
  | zero => exact (fun _ _ => rfl)
  | succ m ih =>
    have ih0 := ih
    refine (fun _ _ => ?_)
    · rw [st232_0_0]; simp only [ih0]; rfl
theorem lo232_0 (N : Nat) : LoopOk D.tab call232 (F232 N) (loopAt Tryz.f232 0) := by
  have h1 : (loopAt Tryz.f232 0).1 = 0 := by kernel_rfl
  intro L hL vs os k r h
  rw [h1] at hL h ⊢
  have hL' : L = K232_0 := by
    have e : (F232 N).lk 0 = some K232_0 := rfl
    rw [e] at hL; cases hL; rfl
  subst hL'
  have h2 : lp232_0 N vs os k = some r := h
  unfold lp232_0 at h2
  split at h2
  · exact ⟨N, ((eq232_0 N k N) _ _).trans h2⟩
  · cases h2
theorem main232 (N : Nat) (c : Int) : evF D.tab call232 (F232 N) Tryz.f232 [.one (.sc (.int .u8 c))] = T232 N c := by kernel_rfl
theorem loops232 (N : Nat) : ∀ c, Tryz.f232.body = some c → ∀ p ∈ loopsOf 0 c, LoopOk D.tab call232 (F232 N) p := by
  intro c hc
  have e : c = bodyOf Tryz.f232 := by unfold bodyOf; rw [hc]
  subst e
  have e2 : loopsOf 0 (bodyOf Tryz.f232) = [loopAt Tryz.f232 0] := by kernel_rfl
  rw [e2]
  intro p hp
  simp only [List.mem_cons, List.not_mem_nil, or_false] at hp
  rcases hp with rfl
  · exact lo232_0 N
theorem con232 (hC : CallOk P D.tab call232) (pl : ∀ (c : Int) res, (m232 [.one (.sc (.int .u8 c))]).val = some res → ∃ N, T232 N c = some res) :
    ∀ avs res, (m232 avs).val = some res → Con P D.tab 232 avs res := by
  intro avs res h
  have h0 := h
  unfold m232 at h0
  split at h0
  · obtain ⟨N, hN⟩ := pl _ res h
    exact con_of_ev tabOk hC (f := 232) (fn := Tryz.f232) (by kernel_rfl) (F232 N) (loops232 N) (by rw [show Tryz.f232.ntmps = 14 from by kernel_rfl]; simp) ((main232 N _).trans hN)
  · cases h0
theorem ent232 : Iv.Enters P 232 := ⟨Tryz.f232, by kernel_rfl, by kernel_rfl, by kernel_rfl⟩
noncomputable def call273 : CallT := (noCall.add 274 m274)
def F273 (N : Nat) : FnK RV where
  N := 17
  lk := fun _ => none
  lp := fun _ _ _ _ => none
theorem main273 (N : Nat) (c : Int) : evF D.tab call273 (F273 N) Tryz.f273 [.one (.sc (.int .u8 c))] = T273 N c := by kernel_rfl
theorem loops273 (N : Nat) : ∀ c, Tryz.f273.body = some c → ∀ p ∈ loopsOf 0 c, LoopOk D.tab call273 (F273 N) p := by
  intro c hc
  have e : c = bodyOf Tryz.f273 := by unfold bodyOf; rw [hc]
  subst e
  have e2 : loopsOf 0 (bodyOf Tryz.f273) = [] := by kernel_rfl
  rw [e2]
  intro p hp
  cases hp
theorem con273 (hC : CallOk P D.tab call273) (pl : ∀ (c : Int) res, (m273 [.one (.sc (.int .u8 c))]).val = some res → ∃ N, T273 N c = some res) :
    ∀ avs res, (m273 avs).val = some res → Con P D.tab 273 avs res := by
  intro avs res h
  have h0 := h
  unfold m273 at h0
  split at h0
  · obtain ⟨N, hN⟩ := pl _ res h
    exact con_of_ev tabOk hC (f := 273) (fn := Tryz.f273) (by kernel_rfl) (F273 N) (loops273 N) (by rw [show Tryz.f273.ntmps = 17 from by kernel_rfl]; simp) ((main273 N _).trans hN)
  · cases h0
theorem ent273 : Iv.Enters P 273 := ⟨Tryz.f273, by kernel_rfl, by kernel_rfl, by kernel_rfl⟩
noncomputable def call272v0 : CallT := (noCall.add 229 m229)
def K272v0_0 : LoopK := { hs := [0, 1, 7, 8], ho := [], ex := [(0, [], [])], rs := [4], ro := [] }
def lp272v0_0 {R : Type} (N : Nat) (vs : List IV) (os : List (Option Ob)) (k : Exit → List IV → List (Option Ob) → Option R) : Option R :=
  match vs, os with
  | [.v (.one (.fc (.sc (.string x0)))), .v (.one (.fc (.sc (.func (.func 229) f0a f0b)))), .v (.one (.fc (.sc (.int .i64 x1)))), .v (.one (.fc (.sc (.int .i64 x2))))], [] => funO f0a f0b (L272v0_0_0 N x0 x1 x2 (fun y0 => k .ret [.v (.one (.fc (.sc (.bool y0))))] []) (fun _ => k (.exit 0) [] []))
  | _, _ => none
def F272v0 (N : Nat) : FnK RV where
  N := 18
  lk := fun b => bif Nat.beq b 0 then some K272v0_0 else none
  lp := fun b vs os k => bif Nat.beq b 0 then lp272v0_0 N vs os k else none
noncomputable def ev272v0_0 (N m : Nat) (vs : List IV) (os : List (Option Ob)) (k : Exit → List IV → List (Option Ob) → Option RV) : Option RV :=
  evLoop 18 K272v0_0 (fun σ k' => evC D.tab call272v0 (F272v0 N) 0 (loopAt Tryz.f272 0).2 σ k') m vs os k
theorem st272v0_0_0 (N m : Nat) (x0 : ByteArray) (x1 : Int) (x2 : Int) (k : Exit → List IV → List (Option Ob) → Option RV) :
    ev272v0_0 N (m + 1) [.v (.one (.fc (.sc (.string x0)))), .v (.one (.fc (.sc (.func (.func 229) #[] #[])))), .v (.one (.fc (.sc (.int .i64 x1)))), .v (.one (.fc (.sc (.int .i64 x2))))] [] k =
    (bif (decide (x2 < x1)) then
    (bif (inb x2 (x0).size) then
      (bif (!(atomByte (bt x0 x2))) then
        (k .ret [.v (.one (.fc (.sc (.bool false))))] [])
        else
        (ev272v0_0 N m [.v (.one (.fc (.sc (.string x0)))), .v (.one (.fc (.sc (.func (.func 229) #[] #[])))), .v (.one (.fc (.sc (.int .i64 x1)))), .v (.one (.fc (.sc (.int .i64 (IntKind.i64.wrap (x2 + (1 : Int)))))))] [] k))
      else none)
    else
    (k (.exit 0) [] [])) := by kernel_rfl
theorem eq272v0_0 (N : Nat) (k : Exit → List IV → List (Option Ob) → Option RV) : ∀ m : Nat,
    (∀ (x0 : ByteArray) (x1 : Int) (x2 : Int), ev272v0_0 N m [.v (.one (.fc (.sc (.string x0)))), .v (.one (.fc (.sc (.func (.func 229) #[] #[])))), .v (.one (.fc (.sc (.int .i64 x1)))), .v (.one (.fc (.sc (.int .i64 x2))))] [] k = L272v0_0_0 m x0 x1 x2 (fun y0 => k .ret [.v (.one (.fc (.sc (.bool y0))))] []) (fun _ => k (.exit 0) [] [])) := by
  intro m
  induction m with
  | zero => exact (fun _ _ _ => rfl)
  | succ m ih =>
    have ih0 := ih
    refine (fun _ _ _ => ?_)
    · rw [st272v0_0_0]; simp only [ih0]; rfl
theorem lo272v0_0 (N : Nat) : LoopOk D.tab call272v0 (F272v0 N) (loopAt Tryz.f272 0) := by
  have h1 : (loopAt Tryz.f272 0).1 = 0 := by kernel_rfl
  intro L hL vs os k r h
  rw [h1] at hL h ⊢
  have hL' : L = K272v0_0 := by
    have e : (F272v0 N).lk 0 = some K272v0_0 := rfl
    rw [e] at hL; cases hL; rfl
  subst hL'
  have h2 : lp272v0_0 N vs os k = some r := h
  unfold lp272v0_0 at h2
  split at h2
  · obtain ⟨rfl, rfl, h2⟩ := funO_some h2
    exact ⟨N, ((eq272v0_0 N k N) _ _ _).trans h2⟩
  · cases h2
theorem main272v0 (N : Nat) (s : ByteArray) : evF D.tab call272v0 (F272v0 N) Tryz.f272 [.one (.sc (.string s)), .one (.sc (.func (.func 229) #[] #[]))] = T272v0 N s := by kernel_rfl
theorem loops272v0 (N : Nat) : ∀ c, Tryz.f272.body = some c → ∀ p ∈ loopsOf 0 c, LoopOk D.tab call272v0 (F272v0 N) p := by
  intro c hc
  have e : c = bodyOf Tryz.f272 := by unfold bodyOf; rw [hc]
  subst e
  have e2 : loopsOf 0 (bodyOf Tryz.f272) = [loopAt Tryz.f272 0] := by kernel_rfl
  rw [e2]
  intro p hp
  simp only [List.mem_cons, List.not_mem_nil, or_false] at hp
  rcases hp with rfl
  · exact lo272v0_0 N
theorem con272v0 (hC : CallOk P D.tab call272v0) (pl : ∀ (s : ByteArray) res, (m272v0 [.one (.sc (.string s)), .one (.sc (.func (.func 229) #[] #[]))]).val = some res → ∃ N, T272v0 N s = some res) :
    ∀ avs res, (m272v0 avs).val = some res → Con P D.tab 272 avs res := by
  intro avs res h
  have h0 := h
  unfold m272v0 at h0
  split at h0
  · obtain ⟨rfl, rfl⟩ := funE_val h0
    obtain ⟨N, hN⟩ := pl _ res h
    exact con_of_ev tabOk hC (f := 272) (fn := Tryz.f272) (by kernel_rfl) (F272v0 N) (loops272v0 N) (by rw [show Tryz.f272.ntmps = 18 from by kernel_rfl]; simp) ((main272v0 N _).trans hN)
  · cases h0
theorem ent272 : Iv.Enters P 272 := ⟨Tryz.f272, by kernel_rfl, by kernel_rfl, by kernel_rfl⟩
noncomputable def call272v1 : CallT := (noCall.add 274 m274)
def K272v1_0 : LoopK := { hs := [0, 1, 7, 8], ho := [], ex := [(0, [], [])], rs := [4], ro := [] }
def lp272v1_0 {R : Type} (N : Nat) (vs : List IV) (os : List (Option Ob)) (k : Exit → List IV → List (Option Ob) → Option R) : Option R :=
  match vs, os with
  | [.v (.one (.fc (.sc (.string x0)))), .v (.one (.fc (.sc (.func (.func 274) f0a f0b)))), .v (.one (.fc (.sc (.int .i64 x1)))), .v (.one (.fc (.sc (.int .i64 x2))))], [] => funO f0a f0b (L272v1_0_0 N x0 x1 x2 (fun y0 => k .ret [.v (.one (.fc (.sc (.bool y0))))] []) (fun _ => k (.exit 0) [] []))
  | _, _ => none
def F272v1 (N : Nat) : FnK RV where
  N := 18
  lk := fun b => bif Nat.beq b 0 then some K272v1_0 else none
  lp := fun b vs os k => bif Nat.beq b 0 then lp272v1_0 N vs os k else none
noncomputable def ev272v1_0 (N m : Nat) (vs : List IV) (os : List (Option Ob)) (k : Exit → List IV → List (Option Ob) → Option RV) : Option RV :=
  evLoop 18 K272v1_0 (fun σ k' => evC D.tab call272v1 (F272v1 N) 0 (loopAt Tryz.f272 0).2 σ k') m vs os k
theorem st272v1_0_0 (N m : Nat) (x0 : ByteArray) (x1 : Int) (x2 : Int) (k : Exit → List IV → List (Option Ob) → Option RV) :
    ev272v1_0 N (m + 1) [.v (.one (.fc (.sc (.string x0)))), .v (.one (.fc (.sc (.func (.func 274) #[] #[])))), .v (.one (.fc (.sc (.int .i64 x1)))), .v (.one (.fc (.sc (.int .i64 x2))))] [] k =
    (bif (decide (x2 < x1)) then
    (bif (inb x2 (x0).size) then
      (bif (!(digit (bt x0 x2))) then
        (k .ret [.v (.one (.fc (.sc (.bool false))))] [])
        else
        (ev272v1_0 N m [.v (.one (.fc (.sc (.string x0)))), .v (.one (.fc (.sc (.func (.func 274) #[] #[])))), .v (.one (.fc (.sc (.int .i64 x1)))), .v (.one (.fc (.sc (.int .i64 (IntKind.i64.wrap (x2 + (1 : Int)))))))] [] k))
      else none)
    else
    (k (.exit 0) [] [])) := by kernel_rfl
theorem eq272v1_0 (N : Nat) (k : Exit → List IV → List (Option Ob) → Option RV) : ∀ m : Nat,
    (∀ (x0 : ByteArray) (x1 : Int) (x2 : Int), ev272v1_0 N m [.v (.one (.fc (.sc (.string x0)))), .v (.one (.fc (.sc (.func (.func 274) #[] #[])))), .v (.one (.fc (.sc (.int .i64 x1)))), .v (.one (.fc (.sc (.int .i64 x2))))] [] k = L272v1_0_0 m x0 x1 x2 (fun y0 => k .ret [.v (.one (.fc (.sc (.bool y0))))] []) (fun _ => k (.exit 0) [] [])) := by
  intro m
  induction m with
  | zero => exact (fun _ _ _ => rfl)
  | succ m ih =>
    have ih0 := ih
    refine (fun _ _ _ => ?_)
    · rw [st272v1_0_0]; simp only [ih0]; rfl
theorem lo272v1_0 (N : Nat) : LoopOk D.tab call272v1 (F272v1 N) (loopAt Tryz.f272 0) := by
  have h1 : (loopAt Tryz.f272 0).1 = 0 := by kernel_rfl
  intro L hL vs os k r h
  rw [h1] at hL h ⊢
  have hL' : L = K272v1_0 := by
    have e : (F272v1 N).lk 0 = some K272v1_0 := rfl
    rw [e] at hL; cases hL; rfl
  subst hL'
  have h2 : lp272v1_0 N vs os k = some r := h
  unfold lp272v1_0 at h2
  split at h2
  · obtain ⟨rfl, rfl, h2⟩ := funO_some h2
    exact ⟨N, ((eq272v1_0 N k N) _ _ _).trans h2⟩
  · cases h2
theorem main272v1 (N : Nat) (s : ByteArray) : evF D.tab call272v1 (F272v1 N) Tryz.f272 [.one (.sc (.string s)), .one (.sc (.func (.func 274) #[] #[]))] = T272v1 N s := by kernel_rfl
theorem loops272v1 (N : Nat) : ∀ c, Tryz.f272.body = some c → ∀ p ∈ loopsOf 0 c, LoopOk D.tab call272v1 (F272v1 N) p := by
  intro c hc
  have e : c = bodyOf Tryz.f272 := by unfold bodyOf; rw [hc]
  subst e
  have e2 : loopsOf 0 (bodyOf Tryz.f272) = [loopAt Tryz.f272 0] := by kernel_rfl
  rw [e2]
  intro p hp
  simp only [List.mem_cons, List.not_mem_nil, or_false] at hp
  rcases hp with rfl
  · exact lo272v1_0 N
theorem con272v1 (hC : CallOk P D.tab call272v1) (pl : ∀ (s : ByteArray) res, (m272v1 [.one (.sc (.string s)), .one (.sc (.func (.func 274) #[] #[]))]).val = some res → ∃ N, T272v1 N s = some res) :
    ∀ avs res, (m272v1 avs).val = some res → Con P D.tab 272 avs res := by
  intro avs res h
  have h0 := h
  unfold m272v1 at h0
  split at h0
  · obtain ⟨rfl, rfl⟩ := funE_val h0
    obtain ⟨N, hN⟩ := pl _ res h
    exact con_of_ev tabOk hC (f := 272) (fn := Tryz.f272) (by kernel_rfl) (F272v1 N) (loops272v1 N) (by rw [show Tryz.f272.ntmps = 18 from by kernel_rfl]; simp) ((main272v1 N _).trans hN)
  · cases h0
noncomputable def call272v2 : CallT := (noCall.add 273 m273)
def K272v2_0 : LoopK := { hs := [0, 1, 7, 8], ho := [], ex := [(0, [], [])], rs := [4], ro := [] }
def lp272v2_0 {R : Type} (N : Nat) (vs : List IV) (os : List (Option Ob)) (k : Exit → List IV → List (Option Ob) → Option R) : Option R :=
  match vs, os with
  | [.v (.one (.fc (.sc (.string x0)))), .v (.one (.fc (.sc (.func (.func 273) f0a f0b)))), .v (.one (.fc (.sc (.int .i64 x1)))), .v (.one (.fc (.sc (.int .i64 x2))))], [] => funO f0a f0b (L272v2_0_0 N x0 x1 x2 (fun y0 => k .ret [.v (.one (.fc (.sc (.bool y0))))] []) (fun _ => k (.exit 0) [] []))
  | _, _ => none
def F272v2 (N : Nat) : FnK RV where
  N := 18
  lk := fun b => bif Nat.beq b 0 then some K272v2_0 else none
  lp := fun b vs os k => bif Nat.beq b 0 then lp272v2_0 N vs os k else none
noncomputable def ev272v2_0 (N m : Nat) (vs : List IV) (os : List (Option Ob)) (k : Exit → List IV → List (Option Ob) → Option RV) : Option RV :=
  evLoop 18 K272v2_0 (fun σ k' => evC D.tab call272v2 (F272v2 N) 0 (loopAt Tryz.f272 0).2 σ k') m vs os k
theorem st272v2_0_0 (N m : Nat) (x0 : ByteArray) (x1 : Int) (x2 : Int) (k : Exit → List IV → List (Option Ob) → Option RV) :
    ev272v2_0 N (m + 1) [.v (.one (.fc (.sc (.string x0)))), .v (.one (.fc (.sc (.func (.func 273) #[] #[])))), .v (.one (.fc (.sc (.int .i64 x1)))), .v (.one (.fc (.sc (.int .i64 x2))))] [] k =
    (bif (decide (x2 < x1)) then
    (bif (inb x2 (x0).size) then
      (bif (!(labelByte (bt x0 x2))) then
        (k .ret [.v (.one (.fc (.sc (.bool false))))] [])
        else
        (ev272v2_0 N m [.v (.one (.fc (.sc (.string x0)))), .v (.one (.fc (.sc (.func (.func 273) #[] #[])))), .v (.one (.fc (.sc (.int .i64 x1)))), .v (.one (.fc (.sc (.int .i64 (IntKind.i64.wrap (x2 + (1 : Int)))))))] [] k))
      else none)
    else
    (k (.exit 0) [] [])) := by kernel_rfl
theorem eq272v2_0 (N : Nat) (k : Exit → List IV → List (Option Ob) → Option RV) : ∀ m : Nat,
    (∀ (x0 : ByteArray) (x1 : Int) (x2 : Int), ev272v2_0 N m [.v (.one (.fc (.sc (.string x0)))), .v (.one (.fc (.sc (.func (.func 273) #[] #[])))), .v (.one (.fc (.sc (.int .i64 x1)))), .v (.one (.fc (.sc (.int .i64 x2))))] [] k = L272v2_0_0 m x0 x1 x2 (fun y0 => k .ret [.v (.one (.fc (.sc (.bool y0))))] []) (fun _ => k (.exit 0) [] [])) := by
  intro m
  induction m with
  | zero => exact (fun _ _ _ => rfl)
  | succ m ih =>
    have ih0 := ih
    refine (fun _ _ _ => ?_)
    · rw [st272v2_0_0]; simp only [ih0]; rfl
theorem lo272v2_0 (N : Nat) : LoopOk D.tab call272v2 (F272v2 N) (loopAt Tryz.f272 0) := by
  have h1 : (loopAt Tryz.f272 0).1 = 0 := by kernel_rfl
  intro L hL vs os k r h
  rw [h1] at hL h ⊢
  have hL' : L = K272v2_0 := by
    have e : (F272v2 N).lk 0 = some K272v2_0 := rfl
    rw [e] at hL; cases hL; rfl
  subst hL'
  have h2 : lp272v2_0 N vs os k = some r := h
  unfold lp272v2_0 at h2
  split at h2
  · obtain ⟨rfl, rfl, h2⟩ := funO_some h2
    exact ⟨N, ((eq272v2_0 N k N) _ _ _).trans h2⟩
  · cases h2
theorem main272v2 (N : Nat) (s : ByteArray) : evF D.tab call272v2 (F272v2 N) Tryz.f272 [.one (.sc (.string s)), .one (.sc (.func (.func 273) #[] #[]))] = T272v2 N s := by kernel_rfl
theorem loops272v2 (N : Nat) : ∀ c, Tryz.f272.body = some c → ∀ p ∈ loopsOf 0 c, LoopOk D.tab call272v2 (F272v2 N) p := by
  intro c hc
  have e : c = bodyOf Tryz.f272 := by unfold bodyOf; rw [hc]
  subst e
  have e2 : loopsOf 0 (bodyOf Tryz.f272) = [loopAt Tryz.f272 0] := by kernel_rfl
  rw [e2]
  intro p hp
  simp only [List.mem_cons, List.not_mem_nil, or_false] at hp
  rcases hp with rfl
  · exact lo272v2_0 N
theorem con272v2 (hC : CallOk P D.tab call272v2) (pl : ∀ (s : ByteArray) res, (m272v2 [.one (.sc (.string s)), .one (.sc (.func (.func 273) #[] #[]))]).val = some res → ∃ N, T272v2 N s = some res) :
    ∀ avs res, (m272v2 avs).val = some res → Con P D.tab 272 avs res := by
  intro avs res h
  have h0 := h
  unfold m272v2 at h0
  split at h0
  · obtain ⟨rfl, rfl⟩ := funE_val h0
    obtain ⟨N, hN⟩ := pl _ res h
    exact con_of_ev tabOk hC (f := 272) (fn := Tryz.f272) (by kernel_rfl) (F272v2 N) (loops272v2 N) (by rw [show Tryz.f272.ntmps = 18 from by kernel_rfl]; simp) ((main272v2 N _).trans hN)
  · cases h0
noncomputable def call233 : CallT := (noCall.add 272 m272v0)
def F233 (N : Nat) : FnK RV where
  N := 15
  lk := fun _ => none
  lp := fun _ _ _ _ => none
theorem main233 (N : Nat) (s : ByteArray) : evF D.tab call233 (F233 N) Tryz.f233 [.one (.sc (.string s))] = T233 N s := by kernel_rfl
theorem loops233 (N : Nat) : ∀ c, Tryz.f233.body = some c → ∀ p ∈ loopsOf 0 c, LoopOk D.tab call233 (F233 N) p := by
  intro c hc
  have e : c = bodyOf Tryz.f233 := by unfold bodyOf; rw [hc]
  subst e
  have e2 : loopsOf 0 (bodyOf Tryz.f233) = [] := by kernel_rfl
  rw [e2]
  intro p hp
  cases hp
theorem con233 (hC : CallOk P D.tab call233) (pl : ∀ (s : ByteArray) res, (m233 [.one (.sc (.string s))]).val = some res → ∃ N, T233 N s = some res) :
    ∀ avs res, (m233 avs).val = some res → Con P D.tab 233 avs res := by
  intro avs res h
  have h0 := h
  unfold m233 at h0
  split at h0
  · obtain ⟨N, hN⟩ := pl _ res h
    exact con_of_ev tabOk hC (f := 233) (fn := Tryz.f233) (by kernel_rfl) (F233 N) (loops233 N) (by rw [show Tryz.f233.ntmps = 15 from by kernel_rfl]; simp) ((main233 N _).trans hN)
  · cases h0
theorem ent233 : Iv.Enters P 233 := ⟨Tryz.f233, by kernel_rfl, by kernel_rfl, by kernel_rfl⟩
noncomputable def call285 : CallT := (noCall.add 232 m232)
def K285_0 : LoopK := { hs := [0, 3], ho := [], ex := [(0, [0], [])], rs := [2], ro := [] }
def lp285_0 {R : Type} (N : Nat) (vs : List IV) (os : List (Option Ob)) (k : Exit → List IV → List (Option Ob) → Option R) : Option R :=
  match vs, os with
  | [.v (.one (.fc (.sc (.string x0)))), .v (.one (.fc (.sc (.int .i64 x1))))], [] => L285_0_0 N x0 x1 (fun y0 => k .ret [.v (.one (.fc (.sc (.bool y0))))] []) (fun y0 => k (.exit 0) [.v (.one (.fc (.sc (.string y0))))] [])
  | _, _ => none
def F285 (N : Nat) : FnK RV where
  N := 27
  lk := fun b => bif Nat.beq b 0 then some K285_0 else none
  lp := fun b vs os k => bif Nat.beq b 0 then lp285_0 N vs os k else none
noncomputable def ev285_0 (N m : Nat) (vs : List IV) (os : List (Option Ob)) (k : Exit → List IV → List (Option Ob) → Option RV) : Option RV :=
  evLoop 27 K285_0 (fun σ k' => evC D.tab call285 (F285 N) 0 (loopAt Tryz.f285 0).2 σ k') m vs os k
theorem st285_0_0 (N m : Nat) (x0 : ByteArray) (x1 : Int) (k : Exit → List IV → List (Option Ob) → Option RV) :
    ev285_0 N (m + 1) [.v (.one (.fc (.sc (.string x0)))), .v (.one (.fc (.sc (.int .i64 x1))))] [] k =
    (bif (decide (x1 < ((x0).size : Int))) then
    (bif (decide (x1 ≤ (40 : Int))) then
      (bif (inb x1 (x0).size) then
        (bif (!(atomByte (bt x0 x1))) then
          (k .ret [.v (.one (.fc (.sc (.bool false))))] [])
          else
          (ev285_0 N m [.v (.one (.fc (.sc (.string x0)))), .v (.one (.fc (.sc (.int .i64 (IntKind.i64.wrap (x1 + (1 : Int)))))))] [] k))
        else none)
      else
      (k (.exit 0) [.v (.one (.fc (.sc (.string x0))))] []))
    else
    (k (.exit 0) [.v (.one (.fc (.sc (.string x0))))] [])) := by kernel_rfl
theorem eq285_0 (N : Nat) (k : Exit → List IV → List (Option Ob) → Option RV) : ∀ m : Nat,
    (∀ (x0 : ByteArray) (x1 : Int), ev285_0 N m [.v (.one (.fc (.sc (.string x0)))), .v (.one (.fc (.sc (.int .i64 x1))))] [] k = L285_0_0 m x0 x1 (fun y0 => k .ret [.v (.one (.fc (.sc (.bool y0))))] []) (fun y0 => k (.exit 0) [.v (.one (.fc (.sc (.string y0))))] [])) := by
  intro m
  induction m with
  | zero => exact (fun _ _ => rfl)
  | succ m ih =>
    have ih0 := ih
    refine (fun _ _ => ?_)
    · rw [st285_0_0]; simp only [ih0]; rfl
theorem lo285_0 (N : Nat) : LoopOk D.tab call285 (F285 N) (loopAt Tryz.f285 0) := by
  have h1 : (loopAt Tryz.f285 0).1 = 0 := by kernel_rfl
  intro L hL vs os k r h
  rw [h1] at hL h ⊢
  have hL' : L = K285_0 := by
    have e : (F285 N).lk 0 = some K285_0 := rfl
    rw [e] at hL; cases hL; rfl
  subst hL'
  have h2 : lp285_0 N vs os k = some r := h
  unfold lp285_0 at h2
  split at h2
  · exact ⟨N, ((eq285_0 N k N) _ _).trans h2⟩
  · cases h2
theorem main285 (N : Nat) (s : ByteArray) : evF D.tab call285 (F285 N) Tryz.f285 [.one (.sc (.string s))] = T285 N s := by kernel_rfl
theorem loops285 (N : Nat) : ∀ c, Tryz.f285.body = some c → ∀ p ∈ loopsOf 0 c, LoopOk D.tab call285 (F285 N) p := by
  intro c hc
  have e : c = bodyOf Tryz.f285 := by unfold bodyOf; rw [hc]
  subst e
  have e2 : loopsOf 0 (bodyOf Tryz.f285) = [loopAt Tryz.f285 0] := by kernel_rfl
  rw [e2]
  intro p hp
  simp only [List.mem_cons, List.not_mem_nil, or_false] at hp
  rcases hp with rfl
  · exact lo285_0 N
theorem con285 (hC : CallOk P D.tab call285) (pl : ∀ (s : ByteArray) res, (m285 [.one (.sc (.string s))]).val = some res → ∃ N, T285 N s = some res) :
    ∀ avs res, (m285 avs).val = some res → Con P D.tab 285 avs res := by
  intro avs res h
  have h0 := h
  unfold m285 at h0
  split at h0
  · obtain ⟨N, hN⟩ := pl _ res h
    exact con_of_ev tabOk hC (f := 285) (fn := Tryz.f285) (by kernel_rfl) (F285 N) (loops285 N) (by rw [show Tryz.f285.ntmps = 27 from by kernel_rfl]; simp) ((main285 N _).trans hN)
  · cases h0
theorem ent285 : Iv.Enters P 285 := ⟨Tryz.f285, by kernel_rfl, by kernel_rfl, by kernel_rfl⟩
noncomputable def call154 : CallT := noCall
def K154_0 : LoopK := { hs := [3, 8, 9, 10], ho := [7], ex := [(0, [3], [7])], rs := [], ro := [] }
def lp154_0 {R : Type} (N : Nat) (vs : List IV) (os : List (Option Ob)) (k : Exit → List IV → List (Option Ob) → Option R) : Option R :=
  match vs, os with
  | [.v (.one (.hdr 7)), .v (.one (.hdr 7)), .v (.one (.fc (.sc (.int .i64 x0)))), .v (.one (.fc (.sc (.int .i64 x1))))], [some (.bytes x2)] => L154_0_0 N x0 x1 x2 (fun y0 => k (.exit 0) [.v (.one (.hdr 7))] [some (.bytes y0)])
  | _, _ => none
def F154 (N : Nat) : FnK RV where
  N := 30
  lk := fun b => bif Nat.beq b 0 then some K154_0 else none
  lp := fun b vs os k => bif Nat.beq b 0 then lp154_0 N vs os k else none
noncomputable def ev154_0 (N m : Nat) (vs : List IV) (os : List (Option Ob)) (k : Exit → List IV → List (Option Ob) → Option RV) : Option RV :=
  evLoop 30 K154_0 (fun σ k' => evC D.tab call154 (F154 N) 0 (loopAt Tryz.f154 0).2 σ k') m vs os k
theorem st154_0_0 (N m : Nat) (x0 : Int) (x1 : Int) (x2 : List Int) (k : Exit → List IV → List (Option Ob) → Option RV) :
    ev154_0 N (m + 1) [.v (.one (.hdr 7)), .v (.one (.hdr 7)), .v (.one (.fc (.sc (.int .i64 x0)))), .v (.one (.fc (.sc (.int .i64 x1))))] [some (.bytes x2)] k =
    (bif (decide (x1 < x0)) then
    (bif (inb x1 (x2).length) then
      (bif (decide (((x2).getD (x1).toNat 0) ≥ (65 : Int))) then
        (bif (decide (((x2).getD (x1).toNat 0) ≤ (90 : Int))) then
          (bif (inb x1 (x2).length) then
            (bif (inb x1 (x2).length) then
              (ev154_0 N m [.v (.one (.hdr 7)), .v (.one (.hdr 7)), .v (.one (.fc (.sc (.int .i64 x0)))), .v (.one (.fc (.sc (.int .i64 (IntKind.i64.wrap (x1 + (1 : Int)))))))] [some (.bytes (x2.set (x1).toNat (IntKind.u8.wrap (((x2).getD (x1).toNat 0) + (32 : Int)))))] k)
              else none)
            else none)
          else
          (ev154_0 N m [.v (.one (.hdr 7)), .v (.one (.hdr 7)), .v (.one (.fc (.sc (.int .i64 x0)))), .v (.one (.fc (.sc (.int .i64 (IntKind.i64.wrap (x1 + (1 : Int)))))))] [some (.bytes x2)] k))
        else
        (ev154_0 N m [.v (.one (.hdr 7)), .v (.one (.hdr 7)), .v (.one (.fc (.sc (.int .i64 x0)))), .v (.one (.fc (.sc (.int .i64 (IntKind.i64.wrap (x1 + (1 : Int)))))))] [some (.bytes x2)] k))
      else none)
    else
    (k (.exit 0) [.v (.one (.hdr 7))] [some (.bytes x2)])) := by kernel_rfl
theorem eq154_0 (N : Nat) (k : Exit → List IV → List (Option Ob) → Option RV) : ∀ m : Nat,
    (∀ (x0 : Int) (x1 : Int) (x2 : List Int), ev154_0 N m [.v (.one (.hdr 7)), .v (.one (.hdr 7)), .v (.one (.fc (.sc (.int .i64 x0)))), .v (.one (.fc (.sc (.int .i64 x1))))] [some (.bytes x2)] k = L154_0_0 m x0 x1 x2 (fun y0 => k (.exit 0) [.v (.one (.hdr 7))] [some (.bytes y0)])) := by
  intro m
  induction m with
  | zero => exact (fun _ _ _ => rfl)
  | succ m ih =>
    have ih0 := ih
    refine (fun _ _ _ => ?_)
    · rw [st154_0_0]; simp only [ih0]; rfl
theorem lo154_0 (N : Nat) : LoopOk D.tab call154 (F154 N) (loopAt Tryz.f154 0) := by
  have h1 : (loopAt Tryz.f154 0).1 = 0 := by kernel_rfl
  intro L hL vs os k r h
  rw [h1] at hL h ⊢
  have hL' : L = K154_0 := by
    have e : (F154 N).lk 0 = some K154_0 := rfl
    rw [e] at hL; cases hL; rfl
  subst hL'
  have h2 : lp154_0 N vs os k = some r := h
  unfold lp154_0 at h2
  split at h2
  · exact ⟨N, ((eq154_0 N k N) _ _ _).trans h2⟩
  · cases h2
theorem main154 (N : Nat) (s : ByteArray) : evF D.tab call154 (F154 N) Tryz.f154 [.one (.sc (.string s))] = T154 N s := by kernel_rfl
theorem loops154 (N : Nat) : ∀ c, Tryz.f154.body = some c → ∀ p ∈ loopsOf 0 c, LoopOk D.tab call154 (F154 N) p := by
  intro c hc
  have e : c = bodyOf Tryz.f154 := by unfold bodyOf; rw [hc]
  subst e
  have e2 : loopsOf 0 (bodyOf Tryz.f154) = [loopAt Tryz.f154 0] := by kernel_rfl
  rw [e2]
  intro p hp
  simp only [List.mem_cons, List.not_mem_nil, or_false] at hp
  rcases hp with rfl
  · exact lo154_0 N
theorem con154 (hC : CallOk P D.tab call154) (pl : ∀ (s : ByteArray) res, (m154 [.one (.sc (.string s))]).val = some res → ∃ N, T154 N s = some res) :
    ∀ avs res, (m154 avs).val = some res → Con P D.tab 154 avs res := by
  intro avs res h
  have h0 := h
  unfold m154 at h0
  split at h0
  · obtain ⟨N, hN⟩ := pl _ res h
    exact con_of_ev tabOk hC (f := 154) (fn := Tryz.f154) (by kernel_rfl) (F154 N) (loops154 N) (by rw [show Tryz.f154.ntmps = 30 from by kernel_rfl]; simp) ((main154 N _).trans hN)
  · cases h0
theorem ent154 : Iv.Enters P 154 := ⟨Tryz.f154, by kernel_rfl, by kernel_rfl, by kernel_rfl⟩
noncomputable def call156 : CallT := noCall
def K156_0 : LoopK := { hs := [3, 4], ho := [6], ex := [(0, [3], [6])], rs := [], ro := [] }
def lp156_0 {R : Type} (N : Nat) (vs : List IV) (os : List (Option Ob)) (k : Exit → List IV → List (Option Ob) → Option R) : Option R :=
  match vs, os with
  | [.v (.one (.hdr 6)), .v (.one (.fc (.sc (.int .i64 x0))))], [some (.bytes x1)] => L156_0_0 N x0 x1 (fun y0 => k (.exit 0) [.v (.one (.hdr 6))] [some (.bytes y0)])
  | _, _ => none
def F156 (N : Nat) : FnK RV where
  N := 35
  lk := fun b => bif Nat.beq b 0 then some K156_0 else none
  lp := fun b vs os k => bif Nat.beq b 0 then lp156_0 N vs os k else none
noncomputable def ev156_0 (N m : Nat) (vs : List IV) (os : List (Option Ob)) (k : Exit → List IV → List (Option Ob) → Option RV) : Option RV :=
  evLoop 35 K156_0 (fun σ k' => evC D.tab call156 (F156 N) 0 (loopAt Tryz.f156 0).2 σ k') m vs os k
theorem st156_0_0 (N m : Nat) (x0 : Int) (x1 : List Int) (k : Exit → List IV → List (Option Ob) → Option RV) :
    ev156_0 N (m + 1) [.v (.one (.hdr 6)), .v (.one (.fc (.sc (.int .i64 x0))))] [some (.bytes x1)] k =
    (bif (decide (x0 < ((x1).length : Int))) then
    (bif (inb x0 (x1).length) then
      (bif (decide (((x1).getD (x0).toNat 0) ≥ (65 : Int))) then
        (bif (inb x0 (x1).length) then
          (bif (decide (((x1).getD (x0).toNat 0) ≤ (90 : Int))) then
            (bif (inb x0 (x1).length) then
              (bif (inb x0 (x1).length) then
                (ev156_0 N m [.v (.one (.hdr 6)), .v (.one (.fc (.sc (.int .i64 (IntKind.i64.wrap (x0 + (1 : Int)))))))] [some (.bytes (x1.set (x0).toNat (IntKind.u8.wrap (((x1).getD (x0).toNat 0) + (32 : Int)))))] k)
                else none)
              else none)
            else
            (ev156_0 N m [.v (.one (.hdr 6)), .v (.one (.fc (.sc (.int .i64 (IntKind.i64.wrap (x0 + (1 : Int)))))))] [some (.bytes x1)] k))
          else none)
        else
        (ev156_0 N m [.v (.one (.hdr 6)), .v (.one (.fc (.sc (.int .i64 (IntKind.i64.wrap (x0 + (1 : Int)))))))] [some (.bytes x1)] k))
      else none)
    else
    (k (.exit 0) [.v (.one (.hdr 6))] [some (.bytes x1)])) := by kernel_rfl
theorem eq156_0 (N : Nat) (k : Exit → List IV → List (Option Ob) → Option RV) : ∀ m : Nat,
    (∀ (x0 : Int) (x1 : List Int), ev156_0 N m [.v (.one (.hdr 6)), .v (.one (.fc (.sc (.int .i64 x0))))] [some (.bytes x1)] k = L156_0_0 m x0 x1 (fun y0 => k (.exit 0) [.v (.one (.hdr 6))] [some (.bytes y0)])) := by
  intro m
  induction m with
  | zero => exact (fun _ _ => rfl)
  | succ m ih =>
    have ih0 := ih
    refine (fun _ _ => ?_)
    · rw [st156_0_0]; simp only [ih0]; rfl
theorem lo156_0 (N : Nat) : LoopOk D.tab call156 (F156 N) (loopAt Tryz.f156 0) := by
  have h1 : (loopAt Tryz.f156 0).1 = 0 := by kernel_rfl
  intro L hL vs os k r h
  rw [h1] at hL h ⊢
  have hL' : L = K156_0 := by
    have e : (F156 N).lk 0 = some K156_0 := rfl
    rw [e] at hL; cases hL; rfl
  subst hL'
  have h2 : lp156_0 N vs os k = some r := h
  unfold lp156_0 at h2
  split at h2
  · exact ⟨N, ((eq156_0 N k N) _ _).trans h2⟩
  · cases h2
theorem main156 (N : Nat) (s : ByteArray) : evF D.tab call156 (F156 N) Tryz.f156 [.one (.sc (.string s))] = T156 N s := by kernel_rfl
theorem loops156 (N : Nat) : ∀ c, Tryz.f156.body = some c → ∀ p ∈ loopsOf 0 c, LoopOk D.tab call156 (F156 N) p := by
  intro c hc
  have e : c = bodyOf Tryz.f156 := by unfold bodyOf; rw [hc]
  subst e
  have e2 : loopsOf 0 (bodyOf Tryz.f156) = [loopAt Tryz.f156 0] := by kernel_rfl
  rw [e2]
  intro p hp
  simp only [List.mem_cons, List.not_mem_nil, or_false] at hp
  rcases hp with rfl
  · exact lo156_0 N
theorem con156 (hC : CallOk P D.tab call156) (pl : ∀ (s : ByteArray) res, (m156 [.one (.sc (.string s))]).val = some res → ∃ N, T156 N s = some res) :
    ∀ avs res, (m156 avs).val = some res → Con P D.tab 156 avs res := by
  intro avs res h
  have h0 := h
  unfold m156 at h0
  split at h0
  · obtain ⟨N, hN⟩ := pl _ res h
    exact con_of_ev tabOk hC (f := 156) (fn := Tryz.f156) (by kernel_rfl) (F156 N) (loops156 N) (by rw [show Tryz.f156.ntmps = 35 from by kernel_rfl]; simp) ((main156 N _).trans hN)
  · cases h0
theorem ent156 : Iv.Enters P 156 := ⟨Tryz.f156, by kernel_rfl, by kernel_rfl, by kernel_rfl⟩
noncomputable def call278 : CallT := (noCall.add 156 m156)
def F278 (N : Nat) : FnK RV where
  N := 10
  lk := fun _ => none
  lp := fun _ _ _ _ => none
theorem main278 (N : Nat) (a : ByteArray) (b : ByteArray) : evF D.tab call278 (F278 N) Tryz.f278 [.one (.sc (.string a)), .one (.sc (.string b))] = T278 N a b := by kernel_rfl
theorem loops278 (N : Nat) : ∀ c, Tryz.f278.body = some c → ∀ p ∈ loopsOf 0 c, LoopOk D.tab call278 (F278 N) p := by
  intro c hc
  have e : c = bodyOf Tryz.f278 := by unfold bodyOf; rw [hc]
  subst e
  have e2 : loopsOf 0 (bodyOf Tryz.f278) = [] := by kernel_rfl
  rw [e2]
  intro p hp
  cases hp
theorem con278 (hC : CallOk P D.tab call278) (pl : ∀ (a : ByteArray) (b : ByteArray) res, (m278 [.one (.sc (.string a)), .one (.sc (.string b))]).val = some res → ∃ N, T278 N a b = some res) :
    ∀ avs res, (m278 avs).val = some res → Con P D.tab 278 avs res := by
  intro avs res h
  have h0 := h
  unfold m278 at h0
  split at h0
  · obtain ⟨N, hN⟩ := pl _ _ res h
    exact con_of_ev tabOk hC (f := 278) (fn := Tryz.f278) (by kernel_rfl) (F278 N) (loops278 N) (by rw [show Tryz.f278.ntmps = 10 from by kernel_rfl]; simp) ((main278 N _ _).trans hN)
  · cases h0
theorem ent278 : Iv.Enters P 278 := ⟨Tryz.f278, by kernel_rfl, by kernel_rfl, by kernel_rfl⟩
end Go.Proofs.YtpdmeafoofkpaaaGreatDoor
