/- What the evaluator makes of the code. -/
import Derived.Test.YtpdmeafoofkpaaaGreatDoorKd
import Derived.Test.YtpdmeafoofkpaaaGreatDoorHh
set_option linter.unusedVariables false
set_option linter.unusedSimpArgs false

namespace Go.Proofs.YtpdmeafoofkpaaaGreatDoor
open Go Go.Iv
set_option maxRecDepth 10000
set_option maxHeartbeats 4000000
noncomputable def call86 : CallT := noCall
def F86 (N : Nat) : FnK (RV × List RC) where
  N := 99
  lk := fun _ => none
  lp := fun _ _ _ _ => none
theorem main86 (N : Nat) (b : List Int) (p : Int) (n : Int) : evFP D.tab call86 (F86 N) Tryz.f86 150 [.fc (.list (.int .u8) b), .fc (.sc (.int .i64 p))] [.one (.sc (.int .i64 n))] = T86 N b p n := by kernel_rfl
theorem loops86 (N : Nat) : ∀ c, Tryz.f86.body = some c → ∀ p ∈ loopsOf 0 c, LoopOk D.tab call86 (F86 N) p := by
  intro c hc
  have e : c = bodyOf Tryz.f86 := by unfold bodyOf; rw [hc]
  subst e
  have e2 : loopsOf 0 (bodyOf Tryz.f86) = [] := by kernel_rfl
  rw [e2]
  intro p hp
  cases hp
theorem con86 (hC : CallOk P D.tab call86) (pl : ∀ (b : List Int) (p : Int) (n : Int) res out, (m86 [.fc (.list (.int .u8) b), .fc (.sc (.int .i64 p))] [.one (.sc (.int .i64 n))]).val = some (res, out) → ∃ N, T86 N b p n = some (res, out)) :
    ∀ ins avs res out, (m86 ins avs).val = some (res, out) → ConP P D.tab 86 ins avs res out := by
  intro ins avs res out h
  have h0 := h
  unfold m86 at h0
  split at h0
  · obtain ⟨N, hN⟩ := pl _ _ _ res out h
    exact con_of_evP tabOk hC (f := 86) (fn := Tryz.f86) (by kernel_rfl) (F86 N) (loops86 N) (by rw [show Tryz.f86.ntmps = 99 from by kernel_rfl]; simp) ((main86 N _ _ _).trans hN)
  · cases h0
theorem ent86 : Iv.Enters P 86 := ⟨Tryz.f86, by kernel_rfl, by kernel_rfl, by kernel_rfl⟩
noncomputable def call85 : CallT := (noCall.addP 86 m86)
def F85 (N : Nat) : FnK (RV × List RC) where
  N := 12
  lk := fun _ => none
  lp := fun _ _ _ _ => none
theorem main85 (N : Nat) (b : List Int) (p : Int) (xs : List Int) : evFP D.tab call85 (F85 N) Tryz.f85 150 [.fc (.list (.int .u8) b), .fc (.sc (.int .i64 p))] [.one (.list (.int .i64) xs)] = T85 N b p xs := by kernel_rfl
theorem loops85 (N : Nat) : ∀ c, Tryz.f85.body = some c → ∀ p ∈ loopsOf 0 c, LoopOk D.tab call85 (F85 N) p := by
  intro c hc
  have e : c = bodyOf Tryz.f85 := by unfold bodyOf; rw [hc]
  subst e
  have e2 : loopsOf 0 (bodyOf Tryz.f85) = [] := by kernel_rfl
  rw [e2]
  intro p hp
  cases hp
theorem con85 (hC : CallOk P D.tab call85) (pl : ∀ (b : List Int) (p : Int) (xs : List Int) res out, (m85 [.fc (.list (.int .u8) b), .fc (.sc (.int .i64 p))] [.one (.list (.int .i64) xs)]).val = some (res, out) → ∃ N, T85 N b p xs = some (res, out)) :
    ∀ ins avs res out, (m85 ins avs).val = some (res, out) → ConP P D.tab 85 ins avs res out := by
  intro ins avs res out h
  have h0 := h
  unfold m85 at h0
  split at h0
  · obtain ⟨N, hN⟩ := pl _ _ _ res out h
    exact con_of_evP tabOk hC (f := 85) (fn := Tryz.f85) (by kernel_rfl) (F85 N) (loops85 N) (by rw [show Tryz.f85.ntmps = 12 from by kernel_rfl]; simp) ((main85 N _ _ _).trans hN)
  · cases h0
theorem ent85 : Iv.Enters P 85 := ⟨Tryz.f85, by kernel_rfl, by kernel_rfl, by kernel_rfl⟩
noncomputable def call68 : CallT := (noCall.addP 86 m86)
def F68 (N : Nat) : FnK (RV × List RC) where
  N := 12
  lk := fun _ => none
  lp := fun _ _ _ _ => none
theorem main68 (N : Nat) (b : List Int) (p : Int) (xs : List ByteArray) : evFP D.tab call68 (F68 N) Tryz.f68 150 [.fc (.list (.int .u8) b), .fc (.sc (.int .i64 p))] [.one (.list .str xs)] = T68 N b p xs := by kernel_rfl
theorem loops68 (N : Nat) : ∀ c, Tryz.f68.body = some c → ∀ p ∈ loopsOf 0 c, LoopOk D.tab call68 (F68 N) p := by
  intro c hc
  have e : c = bodyOf Tryz.f68 := by unfold bodyOf; rw [hc]
  subst e
  have e2 : loopsOf 0 (bodyOf Tryz.f68) = [] := by kernel_rfl
  rw [e2]
  intro p hp
  cases hp
theorem con68 (hC : CallOk P D.tab call68) (pl : ∀ (b : List Int) (p : Int) (xs : List ByteArray) res out, (m68 [.fc (.list (.int .u8) b), .fc (.sc (.int .i64 p))] [.one (.list .str xs)]).val = some (res, out) → ∃ N, T68 N b p xs = some (res, out)) :
    ∀ ins avs res out, (m68 ins avs).val = some (res, out) → ConP P D.tab 68 ins avs res out := by
  intro ins avs res out h
  have h0 := h
  unfold m68 at h0
  split at h0
  · obtain ⟨N, hN⟩ := pl _ _ _ res out h
    exact con_of_evP tabOk hC (f := 68) (fn := Tryz.f68) (by kernel_rfl) (F68 N) (loops68 N) (by rw [show Tryz.f68.ntmps = 12 from by kernel_rfl]; simp) ((main68 N _ _ _).trans hN)
  · cases h0
theorem ent68 : Iv.Enters P 68 := ⟨Tryz.f68, by kernel_rfl, by kernel_rfl, by kernel_rfl⟩
noncomputable def call65 : CallT := noCall
def F65 (N : Nat) : FnK (List FC) where
  N := 11
  lk := fun _ => none
  lp := fun _ _ _ _ => none
theorem main65 (N : Nat) (c : List Int) : evFN D.tab call65 (F65 N) Tryz.f65 [.one (.list (.int .u8) c)] = T65 N c := by kernel_rfl
theorem loops65 (N : Nat) : ∀ c, Tryz.f65.body = some c → ∀ p ∈ loopsOf 0 c, LoopOk D.tab call65 (F65 N) p := by
  intro c hc
  have e : c = bodyOf Tryz.f65 := by unfold bodyOf; rw [hc]
  subst e
  have e2 : loopsOf 0 (bodyOf Tryz.f65) = [] := by kernel_rfl
  rw [e2]
  intro p hp
  cases hp
theorem con65 (hC : CallOk P D.tab call65) (pl : ∀ (c : List Int) res, m65 [.one (.list (.int .u8) c)] = some res → ∃ N, T65 N c = some res) :
    ∀ avs res, m65 avs = some res → ConN P D.tab 65 avs res := by
  intro avs res h
  have h0 := h
  unfold m65 at h0
  split at h0
  · obtain ⟨N, hN⟩ := pl _ res h
    exact con_of_evN tabOk hC (f := 65) (fn := Tryz.f65) (by kernel_rfl) (F65 N) (loops65 N) (by rw [show Tryz.f65.ntmps = 11 from by kernel_rfl]; simp) ((main65 N _).trans hN)
  · cases h0
theorem ent65 : Iv.Enters P 65 := ⟨Tryz.f65, by kernel_rfl, by kernel_rfl, by kernel_rfl⟩
noncomputable def call88 : CallT := (((noCall.addP 68 m68).addP 85 m85).addP 86 m86)
def K88_0 : LoopK := { hs := [0, 2, 3, 4], ho := [2, 3, 12, 13, 900], ex := [(0, [0, 2, 3], [2, 3, 12, 13, 900])], rs := [], ro := [] }
def lp88_0 {R : Type} (N : Nat) (vs : List IV) (os : List (Option Ob)) (k : Exit → List IV → List (Option Ob) → Option R) : Option R :=
  match vs, os with
  | [.v (.one (.ptr 900 0)), .v (.one (.ptr 2 0)), .v (.one (.ptr 3 0)), .v (.one (.fc (.sc (.int .i64 x0))))], [some (.cells [.fc (.sc (.string x1)), .fc (.sc (.slice none 0 0)), .fc (.sc (.slice none 0 0))]), some (.cells [.fc (.sc (.string x2)), .hdr 12, .hdr 13]), some (.rows .str 9 x3), some (.rows .str 9 x4), some (.cells [.fc (.list (.int .u8) x5), .fc (.sc (.int .i64 x6))])] => L88_0_0 N x0 x1 x2 x3 x4 x5 x6 (fun y0 y1 y2 y3 y4 y5 => k (.exit 0) [.v (.one (.ptr 900 0)), .v (.one (.ptr 2 0)), .v (.one (.ptr 3 0))] [some (.cells [.fc (.sc (.string y0)), .fc (.sc (.slice none 0 0)), .fc (.sc (.slice none 0 0))]), some (.cells [.fc (.sc (.string y1)), .hdr 12, .hdr 13]), some (.rows .str 9 y2), some (.rows .str 9 y3), some (.cells [.fc (.list (.int .u8) y4), .fc (.sc (.int .i64 y5))])])
  | _, _ => none
def K88_2 : LoopK := { hs := [0, 2, 3, 5], ho := [2, 3, 12, 13, 900], ex := [(2, [2, 3], [2, 3, 12, 13, 900])], rs := [], ro := [] }
def lp88_2 {R : Type} (N : Nat) (vs : List IV) (os : List (Option Ob)) (k : Exit → List IV → List (Option Ob) → Option R) : Option R :=
  match vs, os with
  | [.v (.one (.ptr 900 0)), .v (.one (.ptr 2 0)), .v (.one (.ptr 3 0)), .v (.one (.fc (.sc (.int .i64 x0))))], [some (.cells [.fc (.sc (.string x1)), .fc (.sc (.slice none 0 0)), .fc (.sc (.slice none 0 0))]), some (.cells [.fc (.sc (.string x2)), .hdr 12, .hdr 13]), some (.rows .str 9 x3), some (.rows .str 9 x4), some (.cells [.fc (.list (.int .u8) x5), .fc (.sc (.int .i64 x6))])] => L88_2_0 N x0 x1 x2 x3 x4 x5 x6 (fun y0 y1 y2 y3 y4 y5 => k (.exit 2) [.v (.one (.ptr 2 0)), .v (.one (.ptr 3 0))] [some (.cells [.fc (.sc (.string y0)), .fc (.sc (.slice none 0 0)), .fc (.sc (.slice none 0 0))]), some (.cells [.fc (.sc (.string y1)), .hdr 12, .hdr 13]), some (.rows .str 9 y2), some (.rows .str 9 y3), some (.cells [.fc (.list (.int .u8) y4), .fc (.sc (.int .i64 y5))])])
  | _, _ => none
def F88 (N : Nat) : FnK (RV × List RC) where
  N := 45
  lk := fun b => bif Nat.beq b 0 then some K88_0 else bif Nat.beq b 2 then some K88_2 else none
  lp := fun b vs os k => bif Nat.beq b 0 then lp88_0 N vs os k else bif Nat.beq b 2 then lp88_2 N vs os k else none
noncomputable def ev88_0 (N m : Nat) (vs : List IV) (os : List (Option Ob)) (k : Exit → List IV → List (Option Ob) → Option (RV × List RC)) : Option (RV × List RC) :=
  evLoop 45 K88_0 (fun σ k' => evC D.tab call88 (F88 N) 0 (loopAt Tryz.f88 0).2 σ k') m vs os k
theorem st88_0_0 (N m : Nat) (x0 : Int) (x1 : ByteArray) (x2 : ByteArray) (x3 : List ByteArray) (x4 : List ByteArray) (x5 : List Int) (x6 : Int) (k : Exit → List IV → List (Option Ob) → Option (RV × List RC)) :
    ev88_0 N (m + 1) [.v (.one (.ptr 900 0)), .v (.one (.ptr 2 0)), .v (.one (.ptr 3 0)), .v (.one (.fc (.sc (.int .i64 x0))))] [some (.cells [.fc (.sc (.string x1)), .fc (.sc (.slice none 0 0)), .fc (.sc (.slice none 0 0))]), some (.cells [.fc (.sc (.string x2)), .hdr 12, .hdr 13]), some (.rows .str 9 x3), some (.rows .str 9 x4), some (.cells [.fc (.list (.int .u8) x5), .fc (.sc (.int .i64 x6))])] k =
    (bif (decide (x0 > (0 : Int))) then
    (bif (rdOk x5 x6 && lenOk ([(⟨#[98, 111, 98, 64, 121, 46, 111, 114, 103]⟩ : ByteArray), (⟨#[99, 121, 64, 120, 46, 111, 114, 103]⟩ : ByteArray), (⟨#[66, 111, 98, 64, 121, 46, 111, 114, 103]⟩ : ByteArray)] : List ByteArray)) then
      (bif (Nat.ble (x3.length + 1) 1099511627776) then
        (ev88_0 N m [.v (.one (.ptr 900 0)), .v (.one (.ptr 2 0)), .v (.one (.ptr 3 0)), .v (.one (.fc (.sc (.int .i64 (IntKind.i64.wrap (x0 - (1 : Int)))))))] [some (.cells [.fc (.sc (.string x1)), .fc (.sc (.slice none 0 0)), .fc (.sc (.slice none 0 0))]), some (.cells [.fc (.sc (.string x2)), .hdr 12, .hdr 13]), some (.rows .str 9 (x3 ++ ([(ofV x5 x6 ([(⟨#[98, 111, 98, 64, 121, 46, 111, 114, 103]⟩ : ByteArray), (⟨#[99, 121, 64, 120, 46, 111, 114, 103]⟩ : ByteArray), (⟨#[66, 111, 98, 64, 121, 46, 111, 114, 103]⟩ : ByteArray)] : List ByteArray))] : List ByteArray))), some (.rows .str 9 x4), some (.cells [.fc (.list (.int .u8) (x5)), .fc (.sc (.int .i64 (x6 + 1)))])] k)
        else none)
      else none)
    else
    (k (.exit 0) [.v (.one (.ptr 900 0)), .v (.one (.ptr 2 0)), .v (.one (.ptr 3 0))] [some (.cells [.fc (.sc (.string x1)), .fc (.sc (.slice none 0 0)), .fc (.sc (.slice none 0 0))]), some (.cells [.fc (.sc (.string x2)), .hdr 12, .hdr 13]), some (.rows .str 9 x3), some (.rows .str 9 x4), some (.cells [.fc (.list (.int .u8) x5), .fc (.sc (.int .i64 x6))])])) := by kernel_rfl
theorem eq88_0 (N : Nat) (k : Exit → List IV → List (Option Ob) → Option (RV × List RC)) : ∀ m : Nat,
    (∀ (x0 : Int) (x1 : ByteArray) (x2 : ByteArray) (x3 : List ByteArray) (x4 : List ByteArray) (x5 : List Int) (x6 : Int), ev88_0 N m [.v (.one (.ptr 900 0)), .v (.one (.ptr 2 0)), .v (.one (.ptr 3 0)), .v (.one (.fc (.sc (.int .i64 x0))))] [some (.cells [.fc (.sc (.string x1)), .fc (.sc (.slice none 0 0)), .fc (.sc (.slice none 0 0))]), some (.cells [.fc (.sc (.string x2)), .hdr 12, .hdr 13]), some (.rows .str 9 x3), some (.rows .str 9 x4), some (.cells [.fc (.list (.int .u8) x5), .fc (.sc (.int .i64 x6))])] k = L88_0_0 m x0 x1 x2 x3 x4 x5 x6 (fun y0 y1 y2 y3 y4 y5 => k (.exit 0) [.v (.one (.ptr 900 0)), .v (.one (.ptr 2 0)), .v (.one (.ptr 3 0))] [some (.cells [.fc (.sc (.string y0)), .fc (.sc (.slice none 0 0)), .fc (.sc (.slice none 0 0))]), some (.cells [.fc (.sc (.string y1)), .hdr 12, .hdr 13]), some (.rows .str 9 y2), some (.rows .str 9 y3), some (.cells [.fc (.list (.int .u8) y4), .fc (.sc (.int .i64 y5))])])) := by
  intro m
  induction m with
  | zero => exact (fun _ _ _ _ _ _ _ => rfl)
  | succ m ih =>
    have ih0 := ih
    refine (fun _ _ _ _ _ _ _ => ?_)
    · rw [st88_0_0]; simp only [ih0]; rfl
theorem lo88_0 (N : Nat) : LoopOk D.tab call88 (F88 N) (loopAt Tryz.f88 0) := by
  have h1 : (loopAt Tryz.f88 0).1 = 0 := by kernel_rfl
  intro L hL vs os k r h
  rw [h1] at hL h ⊢
  have hL' : L = K88_0 := by
    have e : (F88 N).lk 0 = some K88_0 := rfl
    rw [e] at hL; cases hL; rfl
  subst hL'
  have h2 : lp88_0 N vs os k = some r := h
  unfold lp88_0 at h2
  split at h2
  · exact ⟨N, ((eq88_0 N k N) _ _ _ _ _ _ _).trans h2⟩
  · cases h2
noncomputable def ev88_2 (N m : Nat) (vs : List IV) (os : List (Option Ob)) (k : Exit → List IV → List (Option Ob) → Option (RV × List RC)) : Option (RV × List RC) :=
  evLoop 45 K88_2 (fun σ k' => evC D.tab call88 (F88 N) 2 (loopAt Tryz.f88 1).2 σ k') m vs os k
theorem st88_2_0 (N m : Nat) (x0 : Int) (x1 : ByteArray) (x2 : ByteArray) (x3 : List ByteArray) (x4 : List ByteArray) (x5 : List Int) (x6 : Int) (k : Exit → List IV → List (Option Ob) → Option (RV × List RC)) :
    ev88_2 N (m + 1) [.v (.one (.ptr 900 0)), .v (.one (.ptr 2 0)), .v (.one (.ptr 3 0)), .v (.one (.fc (.sc (.int .i64 x0))))] [some (.cells [.fc (.sc (.string x1)), .fc (.sc (.slice none 0 0)), .fc (.sc (.slice none 0 0))]), some (.cells [.fc (.sc (.string x2)), .hdr 12, .hdr 13]), some (.rows .str 9 x3), some (.rows .str 9 x4), some (.cells [.fc (.list (.int .u8) x5), .fc (.sc (.int .i64 x6))])] k =
    (bif (decide (x0 > (0 : Int))) then
    (bif (rdOk x5 x6 && lenOk ([(⟨#[83, 117, 98, 106, 101, 99, 116, 58, 32, 120]⟩ : ByteArray), (⟨#[]⟩ : ByteArray), (⟨#[116, 101, 120, 116]⟩ : ByteArray), (⟨#[46]⟩ : ByteArray), (⟨#[46, 97]⟩ : ByteArray), (⟨#[82, 101, 99, 101, 105, 118, 101, 100, 58, 32, 98, 121, 32, 104]⟩ : ByteArray)] : List ByteArray)) then
      (bif (Nat.ble (x4.length + 1) 1099511627776) then
        (ev88_2 N m [.v (.one (.ptr 900 0)), .v (.one (.ptr 2 0)), .v (.one (.ptr 3 0)), .v (.one (.fc (.sc (.int .i64 (IntKind.i64.wrap (x0 - (1 : Int)))))))] [some (.cells [.fc (.sc (.string x1)), .fc (.sc (.slice none 0 0)), .fc (.sc (.slice none 0 0))]), some (.cells [.fc (.sc (.string x2)), .hdr 12, .hdr 13]), some (.rows .str 9 x3), some (.rows .str 9 (x4 ++ ([(ofV x5 x6 ([(⟨#[83, 117, 98, 106, 101, 99, 116, 58, 32, 120]⟩ : ByteArray), (⟨#[]⟩ : ByteArray), (⟨#[116, 101, 120, 116]⟩ : ByteArray), (⟨#[46]⟩ : ByteArray), (⟨#[46, 97]⟩ : ByteArray), (⟨#[82, 101, 99, 101, 105, 118, 101, 100, 58, 32, 98, 121, 32, 104]⟩ : ByteArray)] : List ByteArray))] : List ByteArray))), some (.cells [.fc (.list (.int .u8) (x5)), .fc (.sc (.int .i64 (x6 + 1)))])] k)
        else none)
      else none)
    else
    (k (.exit 2) [.v (.one (.ptr 2 0)), .v (.one (.ptr 3 0))] [some (.cells [.fc (.sc (.string x1)), .fc (.sc (.slice none 0 0)), .fc (.sc (.slice none 0 0))]), some (.cells [.fc (.sc (.string x2)), .hdr 12, .hdr 13]), some (.rows .str 9 x3), some (.rows .str 9 x4), some (.cells [.fc (.list (.int .u8) x5), .fc (.sc (.int .i64 x6))])])) := by kernel_rfl
theorem eq88_2 (N : Nat) (k : Exit → List IV → List (Option Ob) → Option (RV × List RC)) : ∀ m : Nat,
    (∀ (x0 : Int) (x1 : ByteArray) (x2 : ByteArray) (x3 : List ByteArray) (x4 : List ByteArray) (x5 : List Int) (x6 : Int), ev88_2 N m [.v (.one (.ptr 900 0)), .v (.one (.ptr 2 0)), .v (.one (.ptr 3 0)), .v (.one (.fc (.sc (.int .i64 x0))))] [some (.cells [.fc (.sc (.string x1)), .fc (.sc (.slice none 0 0)), .fc (.sc (.slice none 0 0))]), some (.cells [.fc (.sc (.string x2)), .hdr 12, .hdr 13]), some (.rows .str 9 x3), some (.rows .str 9 x4), some (.cells [.fc (.list (.int .u8) x5), .fc (.sc (.int .i64 x6))])] k = L88_2_0 m x0 x1 x2 x3 x4 x5 x6 (fun y0 y1 y2 y3 y4 y5 => k (.exit 2) [.v (.one (.ptr 2 0)), .v (.one (.ptr 3 0))] [some (.cells [.fc (.sc (.string y0)), .fc (.sc (.slice none 0 0)), .fc (.sc (.slice none 0 0))]), some (.cells [.fc (.sc (.string y1)), .hdr 12, .hdr 13]), some (.rows .str 9 y2), some (.rows .str 9 y3), some (.cells [.fc (.list (.int .u8) y4), .fc (.sc (.int .i64 y5))])])) := by
  intro m
  induction m with
  | zero => exact (fun _ _ _ _ _ _ _ => rfl)
  | succ m ih =>
    have ih0 := ih
    refine (fun _ _ _ _ _ _ _ => ?_)
    · rw [st88_2_0]; simp only [ih0]; rfl
theorem lo88_2 (N : Nat) : LoopOk D.tab call88 (F88 N) (loopAt Tryz.f88 1) := by
  have h1 : (loopAt Tryz.f88 1).1 = 2 := by kernel_rfl
  intro L hL vs os k r h
  rw [h1] at hL h ⊢
  have hL' : L = K88_2 := by
    have e : (F88 N).lk 2 = some K88_2 := rfl
    rw [e] at hL; cases hL; rfl
  subst hL'
  have h2 : lp88_2 N vs os k = some r := h
  unfold lp88_2 at h2
  split at h2
  · exact ⟨N, ((eq88_2 N k N) _ _ _ _ _ _ _).trans h2⟩
  · cases h2
theorem main88 (N : Nat) (b : List Int) (p : Int) : evFP D.tab call88 (F88 N) Tryz.f88 150 [.fc (.list (.int .u8) b), .fc (.sc (.int .i64 p))] [] = T88 N b p := by kernel_rfl
theorem loops88 (N : Nat) : ∀ c, Tryz.f88.body = some c → ∀ p ∈ loopsOf 0 c, LoopOk D.tab call88 (F88 N) p := by
  intro c hc
  have e : c = bodyOf Tryz.f88 := by unfold bodyOf; rw [hc]
  subst e
  have e2 : loopsOf 0 (bodyOf Tryz.f88) = [loopAt Tryz.f88 0, loopAt Tryz.f88 1] := by kernel_rfl
  rw [e2]
  intro p hp
  simp only [List.mem_cons, List.not_mem_nil, or_false] at hp
  rcases hp with rfl | rfl
  · exact lo88_0 N
  · exact lo88_2 N
theorem con88 (hC : CallOk P D.tab call88) (pl : ∀ (b : List Int) (p : Int) res out, (m88 [.fc (.list (.int .u8) b), .fc (.sc (.int .i64 p))] []).val = some (res, out) → ∃ N, T88 N b p = some (res, out)) :
    ∀ ins avs res out, (m88 ins avs).val = some (res, out) → ConP P D.tab 88 ins avs res out := by
  intro ins avs res out h
  have h0 := h
  unfold m88 at h0
  split at h0
  · obtain ⟨N, hN⟩ := pl _ _ res out h
    exact con_of_evP tabOk hC (f := 88) (fn := Tryz.f88) (by kernel_rfl) (F88 N) (loops88 N) (by rw [show Tryz.f88.ntmps = 45 from by kernel_rfl]; simp) ((main88 N _ _).trans hN)
  · cases h0
theorem ent88 : Iv.Enters P 88 := ⟨Tryz.f88, by kernel_rfl, by kernel_rfl, by kernel_rfl⟩
noncomputable def call90 : CallT := (((noCall.addP 68 m68).addP 86 m86).add 102 m102)
def F90 (N : Nat) : FnK (RV × List RC) where
  N := 28
  lk := fun _ => none
  lp := fun _ _ _ _ => none
theorem main90 (N : Nat) (b : List Int) (p : Int) (f : ByteArray) (to : List ByteArray) (ls : List ByteArray) : evFP D.tab call90 (F90 N) Tryz.f90 150 [.fc (.list (.int .u8) b), .fc (.sc (.int .i64 p))] [.agg [.sc (.string f), .list .str to, .list .str ls]] = T90 N b p f to ls := by kernel_rfl
theorem loops90 (N : Nat) : ∀ c, Tryz.f90.body = some c → ∀ p ∈ loopsOf 0 c, LoopOk D.tab call90 (F90 N) p := by
  intro c hc
  have e : c = bodyOf Tryz.f90 := by unfold bodyOf; rw [hc]
  subst e
  have e2 : loopsOf 0 (bodyOf Tryz.f90) = [] := by kernel_rfl
  rw [e2]
  intro p hp
  cases hp
theorem con90 (hC : CallOk P D.tab call90) (pl : ∀ (b : List Int) (p : Int) (f : ByteArray) (to : List ByteArray) (ls : List ByteArray) res out, (m90 [.fc (.list (.int .u8) b), .fc (.sc (.int .i64 p))] [.agg [.sc (.string f), .list .str to, .list .str ls]]).val = some (res, out) → ∃ N, T90 N b p f to ls = some (res, out)) :
    ∀ ins avs res out, (m90 ins avs).val = some (res, out) → ConP P D.tab 90 ins avs res out := by
  intro ins avs res out h
  have h0 := h
  unfold m90 at h0
  split at h0
  · obtain ⟨N, hN⟩ := pl _ _ _ _ _ res out h
    exact con_of_evP tabOk hC (f := 90) (fn := Tryz.f90) (by kernel_rfl) (F90 N) (loops90 N) (by rw [show Tryz.f90.ntmps = 28 from by kernel_rfl]; simp) ((main90 N _ _ _ _ _).trans hN)
  · cases h0
theorem ent90 : Iv.Enters P 90 := ⟨Tryz.f90, by kernel_rfl, by kernel_rfl, by kernel_rfl⟩
noncomputable def call181 : CallT := ((noCall.add 261 m261).add 262 m262)
def K181_0 : LoopK := { hs := [4, 7, 9], ho := [4, 9], ex := [(0, [4, 7, 9], [4, 9])], rs := [], ro := [] }
def lp181_0 {R : Type} (N : Nat) (vs : List IV) (os : List (Option Ob)) (k : Exit → List IV → List (Option Ob) → Option R) : Option R :=
  match vs, os with
  | [.v (.one (.ptr 4 0)), .v (.one (.fc (.sc (.int .i64 x0)))), .v (.one (.ptr 9 0))], [some (.cells [.fc (.sc (.int .i64 x1)), .fc (.sc (.int .i64 x2)), .fc (.sc (.int .i64 x3)), .fc (.sc (.int .i64 x4)), .fc (.sc (.int .i64 x5)), .fc (.sc (.int .i64 x6)), .fc (.sc (.int .i64 x7))]), some (.cells [.fc (.sc (.int .i64 x8)), .fc (.sc (.int .i64 x9)), .fc (.sc (.int .i64 x10)), .fc (.sc (.int .i64 x11)), .fc (.sc (.int .i64 x12)), .fc (.sc (.int .i64 x13)), .fc (.sc (.int .i64 x14))])] => L181_0_0 N x0 x1 x2 x3 x4 x5 x6 x7 x8 x9 x10 x11 x12 x13 x14 (fun y0 y1 y2 y3 y4 y5 y6 y7 y8 y9 y10 y11 y12 y13 y14 => k (.exit 0) [.v (.one (.ptr 4 0)), .v (.one (.fc (.sc (.int .i64 y0)))), .v (.one (.ptr 9 0))] [some (.cells [.fc (.sc (.int .i64 y1)), .fc (.sc (.int .i64 y2)), .fc (.sc (.int .i64 y3)), .fc (.sc (.int .i64 y4)), .fc (.sc (.int .i64 y5)), .fc (.sc (.int .i64 y6)), .fc (.sc (.int .i64 y7))]), some (.cells [.fc (.sc (.int .i64 y8)), .fc (.sc (.int .i64 y9)), .fc (.sc (.int .i64 y10)), .fc (.sc (.int .i64 y11)), .fc (.sc (.int .i64 y12)), .fc (.sc (.int .i64 y13)), .fc (.sc (.int .i64 y14))])])
  | _, _ => none
def F181 (N : Nat) : FnK RV where
  N := 76
  lk := fun b => bif Nat.beq b 0 then some K181_0 else none
  lp := fun b vs os k => bif Nat.beq b 0 then lp181_0 N vs os k else none
noncomputable def ev181_0 (N m : Nat) (vs : List IV) (os : List (Option Ob)) (k : Exit → List IV → List (Option Ob) → Option RV) : Option RV :=
  evLoop 76 K181_0 (fun σ k' => evC D.tab call181 (F181 N) 0 (loopAt Tryz.f181 0).2 σ k') m vs os k
theorem st181_0_0 (N m : Nat) (x0 : Int) (x1 : Int) (x2 : Int) (x3 : Int) (x4 : Int) (x5 : Int) (x6 : Int) (x7 : Int) (x8 : Int) (x9 : Int) (x10 : Int) (x11 : Int) (x12 : Int) (x13 : Int) (x14 : Int) (k : Exit → List IV → List (Option Ob) → Option RV) :
    ev181_0 N (m + 1) [.v (.one (.ptr 4 0)), .v (.one (.fc (.sc (.int .i64 x0)))), .v (.one (.ptr 9 0))] [some (.cells [.fc (.sc (.int .i64 x1)), .fc (.sc (.int .i64 x2)), .fc (.sc (.int .i64 x3)), .fc (.sc (.int .i64 x4)), .fc (.sc (.int .i64 x5)), .fc (.sc (.int .i64 x6)), .fc (.sc (.int .i64 x7))]), some (.cells [.fc (.sc (.int .i64 x8)), .fc (.sc (.int .i64 x9)), .fc (.sc (.int .i64 x10)), .fc (.sc (.int .i64 x11)), .fc (.sc (.int .i64 x12)), .fc (.sc (.int .i64 x13)), .fc (.sc (.int .i64 x14))])] k =
    (bif (decide (x0 ≥ (daysOf x8 x9))) then
    (bif ((IntKind.i64.wrap (x9 + (1 : Int))) == (13 : Int)) then
      (ev181_0 N m [.v (.one (.ptr 4 0)), .v (.one (.fc (.sc (.int .i64 (IntKind.i64.wrap (x0 - (daysOf x8 x9))))))), .v (.one (.ptr 9 0))] [some (.cells [.fc (.sc (.int .i64 x1)), .fc (.sc (.int .i64 x2)), .fc (.sc (.int .i64 x3)), .fc (.sc (.int .i64 x4)), .fc (.sc (.int .i64 x5)), .fc (.sc (.int .i64 x6)), .fc (.sc (.int .i64 x7))]), some (.cells [.fc (.sc (.int .i64 (IntKind.i64.wrap (x8 + (1 : Int))))), .fc (.sc (.int .i64 (1 : Int))), .fc (.sc (.int .i64 x10)), .fc (.sc (.int .i64 x11)), .fc (.sc (.int .i64 x12)), .fc (.sc (.int .i64 x13)), .fc (.sc (.int .i64 x14))])] k)
      else
      (ev181_0 N m [.v (.one (.ptr 4 0)), .v (.one (.fc (.sc (.int .i64 (IntKind.i64.wrap (x0 - (daysOf x8 x9))))))), .v (.one (.ptr 9 0))] [some (.cells [.fc (.sc (.int .i64 x1)), .fc (.sc (.int .i64 x2)), .fc (.sc (.int .i64 x3)), .fc (.sc (.int .i64 x4)), .fc (.sc (.int .i64 x5)), .fc (.sc (.int .i64 x6)), .fc (.sc (.int .i64 x7))]), some (.cells [.fc (.sc (.int .i64 x8)), .fc (.sc (.int .i64 (IntKind.i64.wrap (x9 + (1 : Int))))), .fc (.sc (.int .i64 x10)), .fc (.sc (.int .i64 x11)), .fc (.sc (.int .i64 x12)), .fc (.sc (.int .i64 x13)), .fc (.sc (.int .i64 x14))])] k))
    else
    (k (.exit 0) [.v (.one (.ptr 4 0)), .v (.one (.fc (.sc (.int .i64 x0)))), .v (.one (.ptr 9 0))] [some (.cells [.fc (.sc (.int .i64 x1)), .fc (.sc (.int .i64 x2)), .fc (.sc (.int .i64 x3)), .fc (.sc (.int .i64 x4)), .fc (.sc (.int .i64 x5)), .fc (.sc (.int .i64 x6)), .fc (.sc (.int .i64 x7))]), some (.cells [.fc (.sc (.int .i64 x8)), .fc (.sc (.int .i64 x9)), .fc (.sc (.int .i64 x10)), .fc (.sc (.int .i64 x11)), .fc (.sc (.int .i64 x12)), .fc (.sc (.int .i64 x13)), .fc (.sc (.int .i64 x14))])])) := by kernel_rfl
theorem eq181_0 (N : Nat) (k : Exit → List IV → List (Option Ob) → Option RV) : ∀ m : Nat,
    (∀ (x0 : Int) (x1 : Int) (x2 : Int) (x3 : Int) (x4 : Int) (x5 : Int) (x6 : Int) (x7 : Int) (x8 : Int) (x9 : Int) (x10 : Int) (x11 : Int) (x12 : Int) (x13 : Int) (x14 : Int), ev181_0 N m [.v (.one (.ptr 4 0)), .v (.one (.fc (.sc (.int .i64 x0)))), .v (.one (.ptr 9 0))] [some (.cells [.fc (.sc (.int .i64 x1)), .fc (.sc (.int .i64 x2)), .fc (.sc (.int .i64 x3)), .fc (.sc (.int .i64 x4)), .fc (.sc (.int .i64 x5)), .fc (.sc (.int .i64 x6)), .fc (.sc (.int .i64 x7))]), some (.cells [.fc (.sc (.int .i64 x8)), .fc (.sc (.int .i64 x9)), .fc (.sc (.int .i64 x10)), .fc (.sc (.int .i64 x11)), .fc (.sc (.int .i64 x12)), .fc (.sc (.int .i64 x13)), .fc (.sc (.int .i64 x14))])] k = L181_0_0 m x0 x1 x2 x3 x4 x5 x6 x7 x8 x9 x10 x11 x12 x13 x14 (fun y0 y1 y2 y3 y4 y5 y6 y7 y8 y9 y10 y11 y12 y13 y14 => k (.exit 0) [.v (.one (.ptr 4 0)), .v (.one (.fc (.sc (.int .i64 y0)))), .v (.one (.ptr 9 0))] [some (.cells [.fc (.sc (.int .i64 y1)), .fc (.sc (.int .i64 y2)), .fc (.sc (.int .i64 y3)), .fc (.sc (.int .i64 y4)), .fc (.sc (.int .i64 y5)), .fc (.sc (.int .i64 y6)), .fc (.sc (.int .i64 y7))]), some (.cells [.fc (.sc (.int .i64 y8)), .fc (.sc (.int .i64 y9)), .fc (.sc (.int .i64 y10)), .fc (.sc (.int .i64 y11)), .fc (.sc (.int .i64 y12)), .fc (.sc (.int .i64 y13)), .fc (.sc (.int .i64 y14))])])) := by
  intro m
  induction m with
  | zero => exact (fun _ _ _ _ _ _ _ _ _ _ _ _ _ _ _ => rfl)
  | succ m ih =>
    have ih0 := ih
    refine (fun _ _ _ _ _ _ _ _ _ _ _ _ _ _ _ => ?_)
    · rw [st181_0_0]; simp only [ih0]; rfl
theorem lo181_0 (N : Nat) : LoopOk D.tab call181 (F181 N) (loopAt Tryz.f181 0) := by
  have h1 : (loopAt Tryz.f181 0).1 = 0 := by kernel_rfl
  intro L hL vs os k r h
  rw [h1] at hL h ⊢
  have hL' : L = K181_0 := by
    have e : (F181 N).lk 0 = some K181_0 := rfl
    rw [e] at hL; cases hL; rfl
  subst hL'
  have h2 : lp181_0 N vs os k = some r := h
  unfold lp181_0 at h2
  split at h2
  · exact ⟨N, ((eq181_0 N k N) _ _ _ _ _ _ _ _ _ _ _ _ _ _ _).trans h2⟩
  · cases h2
theorem main181 (N : Nat) (t : Int) (z : Int) : evF D.tab call181 (F181 N) Tryz.f181 [.one (.sc (.int .i64 t)), .one (.sc (.int .i64 z))] = T181 N t z := by kernel_rfl
theorem loops181 (N : Nat) : ∀ c, Tryz.f181.body = some c → ∀ p ∈ loopsOf 0 c, LoopOk D.tab call181 (F181 N) p := by
  intro c hc
  have e : c = bodyOf Tryz.f181 := by unfold bodyOf; rw [hc]
  subst e
  have e2 : loopsOf 0 (bodyOf Tryz.f181) = [loopAt Tryz.f181 0] := by kernel_rfl
  rw [e2]
  intro p hp
  simp only [List.mem_cons, List.not_mem_nil, or_false] at hp
  rcases hp with rfl
  · exact lo181_0 N
theorem con181 (hC : CallOk P D.tab call181) (pl : ∀ (t : Int) (z : Int) res, (m181 [.one (.sc (.int .i64 t)), .one (.sc (.int .i64 z))]).val = some res → ∃ N, T181 N t z = some res) :
    ∀ avs res, (m181 avs).val = some res → Con P D.tab 181 avs res := by
  intro avs res h
  have h0 := h
  unfold m181 at h0
  split at h0
  · obtain ⟨N, hN⟩ := pl _ _ res h
    exact con_of_ev tabOk hC (f := 181) (fn := Tryz.f181) (by kernel_rfl) (F181 N) (loops181 N) (by rw [show Tryz.f181.ntmps = 76 from by kernel_rfl]; simp) ((main181 N _ _).trans hN)
  · cases h0
theorem ent181 : Iv.Enters P 181 := ⟨Tryz.f181, by kernel_rfl, by kernel_rfl, by kernel_rfl⟩
noncomputable def call92 : CallT := (((noCall.addP 85 m85).addP 86 m86).add 181 m181)
def F92 (N : Nat) : FnK (RV × List RC) where
  N := 19
  lk := fun _ => none
  lp := fun _ _ _ _ => none
theorem main92 (N : Nat) (b : List Int) (p : Int) : evFP D.tab call92 (F92 N) Tryz.f92 150 [.fc (.list (.int .u8) b), .fc (.sc (.int .i64 p))] [] = T92 N b p := by kernel_rfl
theorem loops92 (N : Nat) : ∀ c, Tryz.f92.body = some c → ∀ p ∈ loopsOf 0 c, LoopOk D.tab call92 (F92 N) p := by
  intro c hc
  have e : c = bodyOf Tryz.f92 := by unfold bodyOf; rw [hc]
  subst e
  have e2 : loopsOf 0 (bodyOf Tryz.f92) = [] := by kernel_rfl
  rw [e2]
  intro p hp
  cases hp
theorem con92 (hC : CallOk P D.tab call92) (pl : ∀ (b : List Int) (p : Int) res out, (m92 [.fc (.list (.int .u8) b), .fc (.sc (.int .i64 p))] []).val = some (res, out) → ∃ N, T92 N b p = some (res, out)) :
    ∀ ins avs res out, (m92 ins avs).val = some (res, out) → ConP P D.tab 92 ins avs res out := by
  intro ins avs res out h
  have h0 := h
  unfold m92 at h0
  split at h0
  · obtain ⟨N, hN⟩ := pl _ _ res out h
    exact con_of_evP tabOk hC (f := 92) (fn := Tryz.f92) (by kernel_rfl) (F92 N) (loops92 N) (by rw [show Tryz.f92.ntmps = 19 from by kernel_rfl]; simp) ((main92 N _ _).trans hN)
  · cases h0
theorem ent92 : Iv.Enters P 92 := ⟨Tryz.f92, by kernel_rfl, by kernel_rfl, by kernel_rfl⟩
noncomputable def call91 : CallT := ((noCall.addP 85 m85).addP 86 m86)
def F91 (N : Nat) : FnK (RV × List RC) where
  N := 44
  lk := fun _ => none
  lp := fun _ _ _ _ => none
theorem main91 (N : Nat) (b : List Int) (p : Int) (y : Int) (mo : Int) (da : Int) (h : Int) (mi : Int) (s : Int) (z : Int) : evFP D.tab call91 (F91 N) Tryz.f91 150 [.fc (.list (.int .u8) b), .fc (.sc (.int .i64 p))] [.agg [.sc (.int .i64 y), .sc (.int .i64 mo), .sc (.int .i64 da), .sc (.int .i64 h), .sc (.int .i64 mi), .sc (.int .i64 s), .sc (.int .i64 z)]] = T91 N b p y mo da h mi s z := by kernel_rfl
theorem loops91 (N : Nat) : ∀ c, Tryz.f91.body = some c → ∀ p ∈ loopsOf 0 c, LoopOk D.tab call91 (F91 N) p := by
  intro c hc
  have e : c = bodyOf Tryz.f91 := by unfold bodyOf; rw [hc]
  subst e
  have e2 : loopsOf 0 (bodyOf Tryz.f91) = [] := by kernel_rfl
  rw [e2]
  intro p hp
  cases hp
theorem con91 (hC : CallOk P D.tab call91) (pl : ∀ (b : List Int) (p : Int) (y : Int) (mo : Int) (da : Int) (h : Int) (mi : Int) (s : Int) (z : Int) res out, (m91 [.fc (.list (.int .u8) b), .fc (.sc (.int .i64 p))] [.agg [.sc (.int .i64 y), .sc (.int .i64 mo), .sc (.int .i64 da), .sc (.int .i64 h), .sc (.int .i64 mi), .sc (.int .i64 s), .sc (.int .i64 z)]]).val = some (res, out) → ∃ N, T91 N b p y mo da h mi s z = some (res, out)) :
    ∀ ins avs res out, (m91 ins avs).val = some (res, out) → ConP P D.tab 91 ins avs res out := by
  intro ins avs res out h
  have h0 := h
  unfold m91 at h0
  split at h0
  · obtain ⟨N, hN⟩ := pl _ _ _ _ _ _ _ _ _ res out h
    exact con_of_evP tabOk hC (f := 91) (fn := Tryz.f91) (by kernel_rfl) (F91 N) (loops91 N) (by rw [show Tryz.f91.ntmps = 44 from by kernel_rfl]; simp) ((main91 N _ _ _ _ _ _ _ _ _).trans hN)
  · cases h0
theorem ent91 : Iv.Enters P 91 := ⟨Tryz.f91, by kernel_rfl, by kernel_rfl, by kernel_rfl⟩
noncomputable def call27 : CallT := (((((((noCall.addN 65 m65).addP 68 m68).addP 85 m85).addP 88 m88).addP 90 m90).addP 91 m91).addP 92 m92)
def K27_0 : LoopK := { hs := [2, 4, 5, 6, 7, 8], ho := [2, 4, 6, 7, 10, 26, 2014, 3014], ex := [(0, [2, 4, 5, 6, 7], [2, 4, 6, 7, 10, 26, 2014, 3014])], rs := [], ro := [] }
def lp27_0 {R : Type} (N : Nat) (vs : List IV) (os : List (Option Ob)) (k : Exit → List IV → List (Option Ob) → Option R) : Option R :=
  match vs, os with
  | [.v (.one (.ptr 2 0)), .v (.one (.ptr 4 0)), .v (.one (.ptr 10 0)), .v (.one (.ptr 6 0)), .v (.one (.ptr 7 0)), .v (.one (.fc (.sc (.int .i64 x0))))], [some (.cells [.fc (.sc (.string x1)), .fc (.sc (.slice none 0 0)), .fc (.sc (.slice none 0 0))]), some (.cells [.fc (.sc (.int .i64 x2)), .fc (.sc (.int .i64 x3)), .fc (.sc (.int .i64 x4)), .fc (.sc (.int .i64 x5)), .fc (.sc (.int .i64 x6)), .fc (.sc (.int .i64 x7)), .fc (.sc (.int .i64 x8))]), some (.cells [.fc (.sc (.string x9)), .hdr 2014, .hdr 3014]), some (.cells [.fc (.sc (.int .i64 x10)), .fc (.sc (.int .i64 x11)), .fc (.sc (.int .i64 x12)), .fc (.sc (.int .i64 x13)), .fc (.sc (.int .i64 x14)), .fc (.sc (.int .i64 x15)), .fc (.sc (.int .i64 x16))]), some (.cells [.fc (.list (.int .u8) x17), .fc (.sc (.int .i64 x18))]), none, some (.rows .str 9 x19), some (.rows .str 9 x20)] => L27_0_0 N x0 x1 x2 x3 x4 x5 x6 x7 x8 x9 x10 x11 x12 x13 x14 x15 x16 x17 x18 x19 x20 (fun y0 y1 y2 y3 y4 y5 y6 y7 y8 y9 y10 y11 y12 y13 y14 y15 y16 y17 y18 y19 => k (.exit 0) [.v (.one (.ptr 2 0)), .v (.one (.ptr 4 0)), .v (.one (.ptr 10 0)), .v (.one (.ptr 6 0)), .v (.one (.ptr 7 0))] [some (.cells [.fc (.sc (.string y0)), .fc (.sc (.slice none 0 0)), .fc (.sc (.slice none 0 0))]), some (.cells [.fc (.sc (.int .i64 y1)), .fc (.sc (.int .i64 y2)), .fc (.sc (.int .i64 y3)), .fc (.sc (.int .i64 y4)), .fc (.sc (.int .i64 y5)), .fc (.sc (.int .i64 y6)), .fc (.sc (.int .i64 y7))]), some (.cells [.fc (.sc (.string y8)), .hdr 2014, .hdr 3014]), some (.cells [.fc (.sc (.int .i64 y9)), .fc (.sc (.int .i64 y10)), .fc (.sc (.int .i64 y11)), .fc (.sc (.int .i64 y12)), .fc (.sc (.int .i64 y13)), .fc (.sc (.int .i64 y14)), .fc (.sc (.int .i64 y15))]), some (.cells [.fc (.list (.int .u8) y16), .fc (.sc (.int .i64 y17))]), none, some (.rows .str 9 y18), some (.rows .str 9 y19)]) (fun y0 y1 y2 y3 y4 y5 y6 y7 y8 y9 y10 y11 y12 y13 y14 y15 y16 y17 y18 y19 y20 => k (.exit 0) [.v (.one (.ptr 2 0)), .v (.one (.ptr 4 0)), .v (.one (.ptr 10 0)), .v (.one (.ptr 6 0)), .v (.one (.ptr 7 0))] [some (.cells [.fc (.sc (.string y0)), .fc (.sc (.slice none 0 0)), .fc (.sc (.slice none 0 0))]), some (.cells [.fc (.sc (.int .i64 y1)), .fc (.sc (.int .i64 y2)), .fc (.sc (.int .i64 y3)), .fc (.sc (.int .i64 y4)), .fc (.sc (.int .i64 y5)), .fc (.sc (.int .i64 y6)), .fc (.sc (.int .i64 y7))]), some (.cells [.fc (.sc (.string y8)), .hdr 2014, .hdr 26]), some (.cells [.fc (.sc (.int .i64 y9)), .fc (.sc (.int .i64 y10)), .fc (.sc (.int .i64 y11)), .fc (.sc (.int .i64 y12)), .fc (.sc (.int .i64 y13)), .fc (.sc (.int .i64 y14)), .fc (.sc (.int .i64 y15))]), some (.cells [.fc (.list (.int .u8) y16), .fc (.sc (.int .i64 y17))]), some (.rows .str 9 y18), some (.rows .str 9 y19), some (.rows .str 9 y20)])
  | [.v (.one (.ptr 2 0)), .v (.one (.ptr 4 0)), .v (.one (.ptr 10 0)), .v (.one (.ptr 6 0)), .v (.one (.ptr 7 0)), .v (.one (.fc (.sc (.int .i64 x0))))], [some (.cells [.fc (.sc (.string x1)), .fc (.sc (.slice none 0 0)), .fc (.sc (.slice none 0 0))]), some (.cells [.fc (.sc (.int .i64 x2)), .fc (.sc (.int .i64 x3)), .fc (.sc (.int .i64 x4)), .fc (.sc (.int .i64 x5)), .fc (.sc (.int .i64 x6)), .fc (.sc (.int .i64 x7)), .fc (.sc (.int .i64 x8))]), some (.cells [.fc (.sc (.string x9)), .hdr 2014, .hdr 26]), some (.cells [.fc (.sc (.int .i64 x10)), .fc (.sc (.int .i64 x11)), .fc (.sc (.int .i64 x12)), .fc (.sc (.int .i64 x13)), .fc (.sc (.int .i64 x14)), .fc (.sc (.int .i64 x15)), .fc (.sc (.int .i64 x16))]), some (.cells [.fc (.list (.int .u8) x17), .fc (.sc (.int .i64 x18))]), some (.rows .str 9 x19), some (.rows .str 9 x20), some (.rows .str 9 x21)] => L27_0_1 N x0 x1 x2 x3 x4 x5 x6 x7 x8 x9 x10 x11 x12 x13 x14 x15 x16 x17 x18 x19 x20 x21 (fun y0 y1 y2 y3 y4 y5 y6 y7 y8 y9 y10 y11 y12 y13 y14 y15 y16 y17 y18 y19 => k (.exit 0) [.v (.one (.ptr 2 0)), .v (.one (.ptr 4 0)), .v (.one (.ptr 10 0)), .v (.one (.ptr 6 0)), .v (.one (.ptr 7 0))] [some (.cells [.fc (.sc (.string y0)), .fc (.sc (.slice none 0 0)), .fc (.sc (.slice none 0 0))]), some (.cells [.fc (.sc (.int .i64 y1)), .fc (.sc (.int .i64 y2)), .fc (.sc (.int .i64 y3)), .fc (.sc (.int .i64 y4)), .fc (.sc (.int .i64 y5)), .fc (.sc (.int .i64 y6)), .fc (.sc (.int .i64 y7))]), some (.cells [.fc (.sc (.string y8)), .hdr 2014, .hdr 3014]), some (.cells [.fc (.sc (.int .i64 y9)), .fc (.sc (.int .i64 y10)), .fc (.sc (.int .i64 y11)), .fc (.sc (.int .i64 y12)), .fc (.sc (.int .i64 y13)), .fc (.sc (.int .i64 y14)), .fc (.sc (.int .i64 y15))]), some (.cells [.fc (.list (.int .u8) y16), .fc (.sc (.int .i64 y17))]), none, some (.rows .str 9 y18), some (.rows .str 9 y19)]) (fun y0 y1 y2 y3 y4 y5 y6 y7 y8 y9 y10 y11 y12 y13 y14 y15 y16 y17 y18 y19 y20 => k (.exit 0) [.v (.one (.ptr 2 0)), .v (.one (.ptr 4 0)), .v (.one (.ptr 10 0)), .v (.one (.ptr 6 0)), .v (.one (.ptr 7 0))] [some (.cells [.fc (.sc (.string y0)), .fc (.sc (.slice none 0 0)), .fc (.sc (.slice none 0 0))]), some (.cells [.fc (.sc (.int .i64 y1)), .fc (.sc (.int .i64 y2)), .fc (.sc (.int .i64 y3)), .fc (.sc (.int .i64 y4)), .fc (.sc (.int .i64 y5)), .fc (.sc (.int .i64 y6)), .fc (.sc (.int .i64 y7))]), some (.cells [.fc (.sc (.string y8)), .hdr 2014, .hdr 26]), some (.cells [.fc (.sc (.int .i64 y9)), .fc (.sc (.int .i64 y10)), .fc (.sc (.int .i64 y11)), .fc (.sc (.int .i64 y12)), .fc (.sc (.int .i64 y13)), .fc (.sc (.int .i64 y14)), .fc (.sc (.int .i64 y15))]), some (.cells [.fc (.list (.int .u8) y16), .fc (.sc (.int .i64 y17))]), some (.rows .str 9 y18), some (.rows .str 9 y19), some (.rows .str 9 y20)])
  | _, _ => none
def F27 (N : Nat) : FnK RV where
  N := 36
  lk := fun b => bif Nat.beq b 0 then some K27_0 else none
  lp := fun b vs os k => bif Nat.beq b 0 then lp27_0 N vs os k else none
noncomputable def ev27_0 (N m : Nat) (vs : List IV) (os : List (Option Ob)) (k : Exit → List IV → List (Option Ob) → Option RV) : Option RV :=
  evLoop 36 K27_0 (fun σ k' => evC D.tab call27 (F27 N) 0 (loopAt Tryz.f27 0).2 σ k') m vs os k
theorem st27_0_0 (N m : Nat) (x0 : Int) (x1 : ByteArray) (x2 : Int) (x3 : Int) (x4 : Int) (x5 : Int) (x6 : Int) (x7 : Int) (x8 : Int) (x9 : ByteArray) (x10 : Int) (x11 : Int) (x12 : Int) (x13 : Int) (x14 : Int) (x15 : Int) (x16 : Int) (x17 : List Int) (x18 : Int) (x19 : List ByteArray) (x20 : List ByteArray) (k : Exit → List IV → List (Option Ob) → Option RV) :
    ev27_0 N (m + 1) [.v (.one (.ptr 2 0)), .v (.one (.ptr 4 0)), .v (.one (.ptr 10 0)), .v (.one (.ptr 6 0)), .v (.one (.ptr 7 0)), .v (.one (.fc (.sc (.int .i64 x0))))] [some (.cells [.fc (.sc (.string x1)), .fc (.sc (.slice none 0 0)), .fc (.sc (.slice none 0 0))]), some (.cells [.fc (.sc (.int .i64 x2)), .fc (.sc (.int .i64 x3)), .fc (.sc (.int .i64 x4)), .fc (.sc (.int .i64 x5)), .fc (.sc (.int .i64 x6)), .fc (.sc (.int .i64 x7)), .fc (.sc (.int .i64 x8))]), some (.cells [.fc (.sc (.string x9)), .hdr 2014, .hdr 3014]), some (.cells [.fc (.sc (.int .i64 x10)), .fc (.sc (.int .i64 x11)), .fc (.sc (.int .i64 x12)), .fc (.sc (.int .i64 x13)), .fc (.sc (.int .i64 x14)), .fc (.sc (.int .i64 x15)), .fc (.sc (.int .i64 x16))]), some (.cells [.fc (.list (.int .u8) x17), .fc (.sc (.int .i64 x18))]), none, some (.rows .str 9 x19), some (.rows .str 9 x20)] k =
    (bif (decide (x0 > (0 : Int))) then
    (bif (Nat.ble (1 + x20.length) 1099511627776) then
      (ev27_0 N m [.v (.one (.ptr 2 0)), .v (.one (.ptr 4 0)), .v (.one (.ptr 10 0)), .v (.one (.ptr 6 0)), .v (.one (.ptr 7 0)), .v (.one (.fc (.sc (.int .i64 (IntKind.i64.wrap (x0 - (1 : Int)))))))] [some (.cells [.fc (.sc (.string x1)), .fc (.sc (.slice none 0 0)), .fc (.sc (.slice none 0 0))]), some (.cells [.fc (.sc (.int .i64 x2)), .fc (.sc (.int .i64 x3)), .fc (.sc (.int .i64 x4)), .fc (.sc (.int .i64 x5)), .fc (.sc (.int .i64 x6)), .fc (.sc (.int .i64 x7)), .fc (.sc (.int .i64 x8))]), some (.cells [.fc (.sc (.string x9)), .hdr 2014, .hdr 26]), some (.cells [.fc (.sc (.int .i64 x10)), .fc (.sc (.int .i64 x11)), .fc (.sc (.int .i64 x12)), .fc (.sc (.int .i64 x13)), .fc (.sc (.int .i64 x14)), .fc (.sc (.int .i64 x15)), .fc (.sc (.int .i64 x16))]), some (.cells [.fc (.list (.int .u8) x17), .fc (.sc (.int .i64 x18))]), some (.rows .str 9 (([(⟨#[114, 101, 99, 101, 105, 118, 101, 100, 58, 32, 98, 121, 32, 120]⟩ : ByteArray)] : List ByteArray) ++ x20)), some (.rows .str 9 x19), some (.rows .str 9 x20)] k)
      else none)
    else
    (k (.exit 0) [.v (.one (.ptr 2 0)), .v (.one (.ptr 4 0)), .v (.one (.ptr 10 0)), .v (.one (.ptr 6 0)), .v (.one (.ptr 7 0))] [some (.cells [.fc (.sc (.string x1)), .fc (.sc (.slice none 0 0)), .fc (.sc (.slice none 0 0))]), some (.cells [.fc (.sc (.int .i64 x2)), .fc (.sc (.int .i64 x3)), .fc (.sc (.int .i64 x4)), .fc (.sc (.int .i64 x5)), .fc (.sc (.int .i64 x6)), .fc (.sc (.int .i64 x7)), .fc (.sc (.int .i64 x8))]), some (.cells [.fc (.sc (.string x9)), .hdr 2014, .hdr 3014]), some (.cells [.fc (.sc (.int .i64 x10)), .fc (.sc (.int .i64 x11)), .fc (.sc (.int .i64 x12)), .fc (.sc (.int .i64 x13)), .fc (.sc (.int .i64 x14)), .fc (.sc (.int .i64 x15)), .fc (.sc (.int .i64 x16))]), some (.cells [.fc (.list (.int .u8) x17), .fc (.sc (.int .i64 x18))]), none, some (.rows .str 9 x19), some (.rows .str 9 x20)])) := by kernel_rfl
theorem st27_0_1 (N m : Nat) (x0 : Int) (x1 : ByteArray) (x2 : Int) (x3 : Int) (x4 : Int) (x5 : Int) (x6 : Int) (x7 : Int) (x8 : Int) (x9 : ByteArray) (x10 : Int) (x11 : Int) (x12 : Int) (x13 : Int) (x14 : Int) (x15 : Int) (x16 : Int) (x17 : List Int) (x18 : Int) (x19 : List ByteArray) (x20 : List ByteArray) (x21 : List ByteArray) (k : Exit → List IV → List (Option Ob) → Option RV) :
    ev27_0 N (m + 1) [.v (.one (.ptr 2 0)), .v (.one (.ptr 4 0)), .v (.one (.ptr 10 0)), .v (.one (.ptr 6 0)), .v (.one (.ptr 7 0)), .v (.one (.fc (.sc (.int .i64 x0))))] [some (.cells [.fc (.sc (.string x1)), .fc (.sc (.slice none 0 0)), .fc (.sc (.slice none 0 0))]), some (.cells [.fc (.sc (.int .i64 x2)), .fc (.sc (.int .i64 x3)), .fc (.sc (.int .i64 x4)), .fc (.sc (.int .i64 x5)), .fc (.sc (.int .i64 x6)), .fc (.sc (.int .i64 x7)), .fc (.sc (.int .i64 x8))]), some (.cells [.fc (.sc (.string x9)), .hdr 2014, .hdr 26]), some (.cells [.fc (.sc (.int .i64 x10)), .fc (.sc (.int .i64 x11)), .fc (.sc (.int .i64 x12)), .fc (.sc (.int .i64 x13)), .fc (.sc (.int .i64 x14)), .fc (.sc (.int .i64 x15)), .fc (.sc (.int .i64 x16))]), some (.cells [.fc (.list (.int .u8) x17), .fc (.sc (.int .i64 x18))]), some (.rows .str 9 x19), some (.rows .str 9 x20), some (.rows .str 9 x21)] k =
    (bif (decide (x0 > (0 : Int))) then
    (bif (Nat.ble (1 + x19.length) 1099511627776) then
      (ev27_0 N m [.v (.one (.ptr 2 0)), .v (.one (.ptr 4 0)), .v (.one (.ptr 10 0)), .v (.one (.ptr 6 0)), .v (.one (.ptr 7 0)), .v (.one (.fc (.sc (.int .i64 (IntKind.i64.wrap (x0 - (1 : Int)))))))] [some (.cells [.fc (.sc (.string x1)), .fc (.sc (.slice none 0 0)), .fc (.sc (.slice none 0 0))]), some (.cells [.fc (.sc (.int .i64 x2)), .fc (.sc (.int .i64 x3)), .fc (.sc (.int .i64 x4)), .fc (.sc (.int .i64 x5)), .fc (.sc (.int .i64 x6)), .fc (.sc (.int .i64 x7)), .fc (.sc (.int .i64 x8))]), some (.cells [.fc (.sc (.string x9)), .hdr 2014, .hdr 26]), some (.cells [.fc (.sc (.int .i64 x10)), .fc (.sc (.int .i64 x11)), .fc (.sc (.int .i64 x12)), .fc (.sc (.int .i64 x13)), .fc (.sc (.int .i64 x14)), .fc (.sc (.int .i64 x15)), .fc (.sc (.int .i64 x16))]), some (.cells [.fc (.list (.int .u8) x17), .fc (.sc (.int .i64 x18))]), some (.rows .str 9 (([(⟨#[114, 101, 99, 101, 105, 118, 101, 100, 58, 32, 98, 121, 32, 120]⟩ : ByteArray)] : List ByteArray) ++ x19)), some (.rows .str 9 x20), some (.rows .str 9 x21)] k)
      else none)
    else
    (k (.exit 0) [.v (.one (.ptr 2 0)), .v (.one (.ptr 4 0)), .v (.one (.ptr 10 0)), .v (.one (.ptr 6 0)), .v (.one (.ptr 7 0))] [some (.cells [.fc (.sc (.string x1)), .fc (.sc (.slice none 0 0)), .fc (.sc (.slice none 0 0))]), some (.cells [.fc (.sc (.int .i64 x2)), .fc (.sc (.int .i64 x3)), .fc (.sc (.int .i64 x4)), .fc (.sc (.int .i64 x5)), .fc (.sc (.int .i64 x6)), .fc (.sc (.int .i64 x7)), .fc (.sc (.int .i64 x8))]), some (.cells [.fc (.sc (.string x9)), .hdr 2014, .hdr 26]), some (.cells [.fc (.sc (.int .i64 x10)), .fc (.sc (.int .i64 x11)), .fc (.sc (.int .i64 x12)), .fc (.sc (.int .i64 x13)), .fc (.sc (.int .i64 x14)), .fc (.sc (.int .i64 x15)), .fc (.sc (.int .i64 x16))]), some (.cells [.fc (.list (.int .u8) x17), .fc (.sc (.int .i64 x18))]), some (.rows .str 9 x19), some (.rows .str 9 x20), some (.rows .str 9 x21)])) := by kernel_rfl
theorem eq27_0 (N : Nat) (k : Exit → List IV → List (Option Ob) → Option RV) : ∀ m : Nat,
    (∀ (x0 : Int) (x1 : ByteArray) (x2 : Int) (x3 : Int) (x4 : Int) (x5 : Int) (x6 : Int) (x7 : Int) (x8 : Int) (x9 : ByteArray) (x10 : Int) (x11 : Int) (x12 : Int) (x13 : Int) (x14 : Int) (x15 : Int) (x16 : Int) (x17 : List Int) (x18 : Int) (x19 : List ByteArray) (x20 : List ByteArray), ev27_0 N m [.v (.one (.ptr 2 0)), .v (.one (.ptr 4 0)), .v (.one (.ptr 10 0)), .v (.one (.ptr 6 0)), .v (.one (.ptr 7 0)), .v (.one (.fc (.sc (.int .i64 x0))))] [some (.cells [.fc (.sc (.string x1)), .fc (.sc (.slice none 0 0)), .fc (.sc (.slice none 0 0))]), some (.cells [.fc (.sc (.int .i64 x2)), .fc (.sc (.int .i64 x3)), .fc (.sc (.int .i64 x4)), .fc (.sc (.int .i64 x5)), .fc (.sc (.int .i64 x6)), .fc (.sc (.int .i64 x7)), .fc (.sc (.int .i64 x8))]), some (.cells [.fc (.sc (.string x9)), .hdr 2014, .hdr 3014]), some (.cells [.fc (.sc (.int .i64 x10)), .fc (.sc (.int .i64 x11)), .fc (.sc (.int .i64 x12)), .fc (.sc (.int .i64 x13)), .fc (.sc (.int .i64 x14)), .fc (.sc (.int .i64 x15)), .fc (.sc (.int .i64 x16))]), some (.cells [.fc (.list (.int .u8) x17), .fc (.sc (.int .i64 x18))]), none, some (.rows .str 9 x19), some (.rows .str 9 x20)] k = L27_0_0 m x0 x1 x2 x3 x4 x5 x6 x7 x8 x9 x10 x11 x12 x13 x14 x15 x16 x17 x18 x19 x20 (fun y0 y1 y2 y3 y4 y5 y6 y7 y8 y9 y10 y11 y12 y13 y14 y15 y16 y17 y18 y19 => k (.exit 0) [.v (.one (.ptr 2 0)), .v (.one (.ptr 4 0)), .v (.one (.ptr 10 0)), .v (.one (.ptr 6 0)), .v (.one (.ptr 7 0))] [some (.cells [.fc (.sc (.string y0)), .fc (.sc (.slice none 0 0)), .fc (.sc (.slice none 0 0))]), some (.cells [.fc (.sc (.int .i64 y1)), .fc (.sc (.int .i64 y2)), .fc (.sc (.int .i64 y3)), .fc (.sc (.int .i64 y4)), .fc (.sc (.int .i64 y5)), .fc (.sc (.int .i64 y6)), .fc (.sc (.int .i64 y7))]), some (.cells [.fc (.sc (.string y8)), .hdr 2014, .hdr 3014]), some (.cells [.fc (.sc (.int .i64 y9)), .fc (.sc (.int .i64 y10)), .fc (.sc (.int .i64 y11)), .fc (.sc (.int .i64 y12)), .fc (.sc (.int .i64 y13)), .fc (.sc (.int .i64 y14)), .fc (.sc (.int .i64 y15))]), some (.cells [.fc (.list (.int .u8) y16), .fc (.sc (.int .i64 y17))]), none, some (.rows .str 9 y18), some (.rows .str 9 y19)]) (fun y0 y1 y2 y3 y4 y5 y6 y7 y8 y9 y10 y11 y12 y13 y14 y15 y16 y17 y18 y19 y20 => k (.exit 0) [.v (.one (.ptr 2 0)), .v (.one (.ptr 4 0)), .v (.one (.ptr 10 0)), .v (.one (.ptr 6 0)), .v (.one (.ptr 7 0))] [some (.cells [.fc (.sc (.string y0)), .fc (.sc (.slice none 0 0)), .fc (.sc (.slice none 0 0))]), some (.cells [.fc (.sc (.int .i64 y1)), .fc (.sc (.int .i64 y2)), .fc (.sc (.int .i64 y3)), .fc (.sc (.int .i64 y4)), .fc (.sc (.int .i64 y5)), .fc (.sc (.int .i64 y6)), .fc (.sc (.int .i64 y7))]), some (.cells [.fc (.sc (.string y8)), .hdr 2014, .hdr 26]), some (.cells [.fc (.sc (.int .i64 y9)), .fc (.sc (.int .i64 y10)), .fc (.sc (.int .i64 y11)), .fc (.sc (.int .i64 y12)), .fc (.sc (.int .i64 y13)), .fc (.sc (.int .i64 y14)), .fc (.sc (.int .i64 y15))]), some (.cells [.fc (.list (.int .u8) y16), .fc (.sc (.int .i64 y17))]), some (.rows .str 9 y18), some (.rows .str 9 y19), some (.rows .str 9 y20)])) ∧
    (∀ (x0 : Int) (x1 : ByteArray) (x2 : Int) (x3 : Int) (x4 : Int) (x5 : Int) (x6 : Int) (x7 : Int) (x8 : Int) (x9 : ByteArray) (x10 : Int) (x11 : Int) (x12 : Int) (x13 : Int) (x14 : Int) (x15 : Int) (x16 : Int) (x17 : List Int) (x18 : Int) (x19 : List ByteArray) (x20 : List ByteArray) (x21 : List ByteArray), ev27_0 N m [.v (.one (.ptr 2 0)), .v (.one (.ptr 4 0)), .v (.one (.ptr 10 0)), .v (.one (.ptr 6 0)), .v (.one (.ptr 7 0)), .v (.one (.fc (.sc (.int .i64 x0))))] [some (.cells [.fc (.sc (.string x1)), .fc (.sc (.slice none 0 0)), .fc (.sc (.slice none 0 0))]), some (.cells [.fc (.sc (.int .i64 x2)), .fc (.sc (.int .i64 x3)), .fc (.sc (.int .i64 x4)), .fc (.sc (.int .i64 x5)), .fc (.sc (.int .i64 x6)), .fc (.sc (.int .i64 x7)), .fc (.sc (.int .i64 x8))]), some (.cells [.fc (.sc (.string x9)), .hdr 2014, .hdr 26]), some (.cells [.fc (.sc (.int .i64 x10)), .fc (.sc (.int .i64 x11)), .fc (.sc (.int .i64 x12)), .fc (.sc (.int .i64 x13)), .fc (.sc (.int .i64 x14)), .fc (.sc (.int .i64 x15)), .fc (.sc (.int .i64 x16))]), some (.cells [.fc (.list (.int .u8) x17), .fc (.sc (.int .i64 x18))]), some (.rows .str 9 x19), some (.rows .str 9 x20), some (.rows .str 9 x21)] k = L27_0_1 m x0 x1 x2 x3 x4 x5 x6 x7 x8 x9 x10 x11 x12 x13 x14 x15 x16 x17 x18 x19 x20 x21 (fun y0 y1 y2 y3 y4 y5 y6 y7 y8 y9 y10 y11 y12 y13 y14 y15 y16 y17 y18 y19 => k (.exit 0) [.v (.one (.ptr 2 0)), .v (.one (.ptr 4 0)), .v (.one (.ptr 10 0)), .v (.one (.ptr 6 0)), .v (.one (.ptr 7 0))] [some (.cells [.fc (.sc (.string y0)), .fc (.sc (.slice none 0 0)), .fc (.sc (.slice none 0 0))]), some (.cells [.fc (.sc (.int .i64 y1)), .fc (.sc (.int .i64 y2)), .fc (.sc (.int .i64 y3)), .fc (.sc (.int .i64 y4)), .fc (.sc (.int .i64 y5)), .fc (.sc (.int .i64 y6)), .fc (.sc (.int .i64 y7))]), some (.cells [.fc (.sc (.string y8)), .hdr 2014, .hdr 3014]), some (.cells [.fc (.sc (.int .i64 y9)), .fc (.sc (.int .i64 y10)), .fc (.sc (.int .i64 y11)), .fc (.sc (.int .i64 y12)), .fc (.sc (.int .i64 y13)), .fc (.sc (.int .i64 y14)), .fc (.sc (.int .i64 y15))]), some (.cells [.fc (.list (.int .u8) y16), .fc (.sc (.int .i64 y17))]), none, some (.rows .str 9 y18), some (.rows .str 9 y19)]) (fun y0 y1 y2 y3 y4 y5 y6 y7 y8 y9 y10 y11 y12 y13 y14 y15 y16 y17 y18 y19 y20 => k (.exit 0) [.v (.one (.ptr 2 0)), .v (.one (.ptr 4 0)), .v (.one (.ptr 10 0)), .v (.one (.ptr 6 0)), .v (.one (.ptr 7 0))] [some (.cells [.fc (.sc (.string y0)), .fc (.sc (.slice none 0 0)), .fc (.sc (.slice none 0 0))]), some (.cells [.fc (.sc (.int .i64 y1)), .fc (.sc (.int .i64 y2)), .fc (.sc (.int .i64 y3)), .fc (.sc (.int .i64 y4)), .fc (.sc (.int .i64 y5)), .fc (.sc (.int .i64 y6)), .fc (.sc (.int .i64 y7))]), some (.cells [.fc (.sc (.string y8)), .hdr 2014, .hdr 26]), some (.cells [.fc (.sc (.int .i64 y9)), .fc (.sc (.int .i64 y10)), .fc (.sc (.int .i64 y11)), .fc (.sc (.int .i64 y12)), .fc (.sc (.int .i64 y13)), .fc (.sc (.int .i64 y14)), .fc (.sc (.int .i64 y15))]), some (.cells [.fc (.list (.int .u8) y16), .fc (.sc (.int .i64 y17))]), some (.rows .str 9 y18), some (.rows .str 9 y19), some (.rows .str 9 y20)])) := by
  intro m
  induction m with
  | zero => exact ⟨(fun _ _ _ _ _ _ _ _ _ _ _ _ _ _ _ _ _ _ _ _ _ => rfl), (fun _ _ _ _ _ _ _ _ _ _ _ _ _ _ _ _ _ _ _ _ _ _ => rfl)⟩
  | succ m ih =>
    obtain ⟨ih0, ih1⟩ := ih
    refine ⟨(fun _ _ _ _ _ _ _ _ _ _ _ _ _ _ _ _ _ _ _ _ _ => ?_), (fun _ _ _ _ _ _ _ _ _ _ _ _ _ _ _ _ _ _ _ _ _ _ => ?_)⟩
    · rw [st27_0_0]; simp only [ih0, ih1]; rfl
    · rw [st27_0_1]; simp only [ih0, ih1]; rfl
theorem lo27_0 (N : Nat) : LoopOk D.tab call27 (F27 N) (loopAt Tryz.f27 0) := by
  have h1 : (loopAt Tryz.f27 0).1 = 0 := by kernel_rfl
  intro L hL vs os k r h
  rw [h1] at hL h ⊢
  have hL' : L = K27_0 := by
    have e : (F27 N).lk 0 = some K27_0 := rfl
    rw [e] at hL; cases hL; rfl
  subst hL'
  have h2 : lp27_0 N vs os k = some r := h
  unfold lp27_0 at h2
  split at h2
  · exact ⟨N, ((eq27_0 N k N).1 _ _ _ _ _ _ _ _ _ _ _ _ _ _ _ _ _ _ _ _ _).trans h2⟩
  · exact ⟨N, ((eq27_0 N k N).2 _ _ _ _ _ _ _ _ _ _ _ _ _ _ _ _ _ _ _ _ _ _).trans h2⟩
  · cases h2
theorem main27 (N : Nat) (c : List Int) : evF D.tab call27 (F27 N) Tryz.f27 [.one (.list (.int .u8) c)] = T27 N c := by kernel_rfl
theorem loops27 (N : Nat) : ∀ c, Tryz.f27.body = some c → ∀ p ∈ loopsOf 0 c, LoopOk D.tab call27 (F27 N) p := by
  intro c hc
  have e : c = bodyOf Tryz.f27 := by unfold bodyOf; rw [hc]
  subst e
  have e2 : loopsOf 0 (bodyOf Tryz.f27) = [loopAt Tryz.f27 0] := by kernel_rfl
  rw [e2]
  intro p hp
  simp only [List.mem_cons, List.not_mem_nil, or_false] at hp
  rcases hp with rfl
  · exact lo27_0 N
theorem con27 (hC : CallOk P D.tab call27) (pl : ∀ (c : List Int) res, (m27 [.one (.list (.int .u8) c)]).val = some res → ∃ N, T27 N c = some res) :
    ∀ avs res, (m27 avs).val = some res → Con P D.tab 27 avs res := by
  intro avs res h
  have h0 := h
  unfold m27 at h0
  split at h0
  · obtain ⟨N, hN⟩ := pl _ res h
    exact con_of_ev tabOk hC (f := 27) (fn := Tryz.f27) (by kernel_rfl) (F27 N) (loops27 N) (by rw [show Tryz.f27.ntmps = 36 from by kernel_rfl]; simp) ((main27 N _).trans hN)
  · cases h0
theorem ent27 : Iv.Enters P 27 := ⟨Tryz.f27, by kernel_rfl, by kernel_rfl, by kernel_rfl⟩
end Go.Proofs.YtpdmeafoofkpaaaGreatDoor
