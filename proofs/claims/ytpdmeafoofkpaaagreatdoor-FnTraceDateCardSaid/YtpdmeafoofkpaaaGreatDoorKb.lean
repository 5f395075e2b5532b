/- What the evaluator makes of the code. -/
import Derived.Test.YtpdmeafoofkpaaaGreatDoorHd
import Derived.Test.YtpdmeafoofkpaaaGreatDoorHa
set_option linter.unusedVariables false
set_option linter.unusedSimpArgs false

namespace Go.Proofs.YtpdmeafoofkpaaaGreatDoor
open Go Go.Iv
set_option maxRecDepth 10000
set_option maxHeartbeats 4000000
noncomputable def call83 : CallT := noCall
def K83_0 : LoopK := { hs := [0, 1, 5, 6, 7], ho := [8], ex := [(0, [0, 5, 6], [8])], rs := [], ro := [] }
def lp83_0 {R : Type} (N : Nat) (vs : List IV) (os : List (Option Ob)) (k : Exit → List IV → List (Option Ob) → Option R) : Option R :=
  match vs, os with
  | [.v (.one (.fc (.sc (.string x0)))), .v (.one (.fc (.sc (.int .u8 x1)))), .v (.one (.hdr 8)), .v (.one (.fc (.sc (.int .i64 x2)))), .v (.one (.fc (.sc (.int .i64 x3))))], [some (.rows .str 9 x4)] => L83_0_0 N x0 x1 x2 x3 x4 (fun y0 y1 y2 => k (.exit 0) [.v (.one (.fc (.sc (.string y0)))), .v (.one (.hdr 8)), .v (.one (.fc (.sc (.int .i64 y1))))] [some (.rows .str 9 y2)])
  | _, _ => none
def F83 (N : Nat) : FnK RV where
  N := 35
  lk := fun b => bif Nat.beq b 0 then some K83_0 else none
  lp := fun b vs os k => bif Nat.beq b 0 then lp83_0 N vs os k else none
noncomputable def ev83_0 (N m : Nat) (vs : List IV) (os : List (Option Ob)) (k : Exit → List IV → List (Option Ob) → Option RV) : Option RV :=
  evLoop 35 K83_0 (fun σ k' => evC D.tab call83 (F83 N) 0 (loopAt Tryz.f83 0).2 σ k') m vs os k
theorem st83_0_0 (N m : Nat) (x0 : ByteArray) (x1 : Int) (x2 : Int) (x3 : Int) (x4 : List ByteArray) (k : Exit → List IV → List (Option Ob) → Option RV) :
    ev83_0 N (m + 1) [.v (.one (.fc (.sc (.string x0)))), .v (.one (.fc (.sc (.int .u8 x1)))), .v (.one (.hdr 8)), .v (.one (.fc (.sc (.int .i64 x2)))), .v (.one (.fc (.sc (.int .i64 x3))))] [some (.rows .str 9 x4)] k =
    (bif (decide (x3 < ((x0).size : Int))) then
    (bif (inb x3 (x0).size) then
      (bif ((bt x0 x3) == x1) then
        (bif (cutOk (x0).size (some x2) (some x3)) then
          (bif (Nat.ble (x4.length + 1) 1099511627776) then
            (ev83_0 N m [.v (.one (.fc (.sc (.string x0)))), .v (.one (.fc (.sc (.int .u8 x1)))), .v (.one (.hdr 8)), .v (.one (.fc (.sc (.int .i64 (IntKind.i64.wrap (x3 + (1 : Int))))))), .v (.one (.fc (.sc (.int .i64 (IntKind.i64.wrap (x3 + (1 : Int)))))))] [some (.rows .str 9 (x4 ++ ([(cutS x0 (some x2) (some x3))] : List ByteArray)))] k)
            else none)
          else none)
        else
        (ev83_0 N m [.v (.one (.fc (.sc (.string x0)))), .v (.one (.fc (.sc (.int .u8 x1)))), .v (.one (.hdr 8)), .v (.one (.fc (.sc (.int .i64 x2)))), .v (.one (.fc (.sc (.int .i64 (IntKind.i64.wrap (x3 + (1 : Int)))))))] [some (.rows .str 9 x4)] k))
      else none)
    else
    (k (.exit 0) [.v (.one (.fc (.sc (.string x0)))), .v (.one (.hdr 8)), .v (.one (.fc (.sc (.int .i64 x2))))] [some (.rows .str 9 x4)])) := by kernel_rfl
theorem eq83_0 (N : Nat) (k : Exit → List IV → List (Option Ob) → Option RV) : ∀ m : Nat,
    (∀ (x0 : ByteArray) (x1 : Int) (x2 : Int) (x3 : Int) (x4 : List ByteArray), ev83_0 N m [.v (.one (.fc (.sc (.string x0)))), .v (.one (.fc (.sc (.int .u8 x1)))), .v (.one (.hdr 8)), .v (.one (.fc (.sc (.int .i64 x2)))), .v (.one (.fc (.sc (.int .i64 x3))))] [some (.rows .str 9 x4)] k = L83_0_0 m x0 x1 x2 x3 x4 (fun y0 y1 y2 => k (.exit 0) [.v (.one (.fc (.sc (.string y0)))), .v (.one (.hdr 8)), .v (.one (.fc (.sc (.int .i64 y1))))] [some (.rows .str 9 y2)])) := by
  intro m
  induction m with
  | zero => exact (fun _ _ _ _ _ => rfl)
  | succ m ih =>
    have ih0 := ih
    refine (fun _ _ _ _ _ => ?_)
    · rw [st83_0_0]; simp only [ih0]; rfl
theorem lo83_0 (N : Nat) : LoopOk D.tab call83 (F83 N) (loopAt Tryz.f83 0) := by
  have h1 : (loopAt Tryz.f83 0).1 = 0 := by kernel_rfl
  intro L hL vs os k r h
  rw [h1] at hL h ⊢
  have hL' : L = K83_0 := by
    have e : (F83 N).lk 0 = some K83_0 := rfl
    rw [e] at hL; cases hL; rfl
  subst hL'
  have h2 : lp83_0 N vs os k = some r := h
  unfold lp83_0 at h2
  split at h2
  · exact ⟨N, ((eq83_0 N k N) _ _ _ _ _).trans h2⟩
  · cases h2
theorem main83 (N : Nat) (s : ByteArray) (c : Int) : evF D.tab call83 (F83 N) Tryz.f83 [.one (.sc (.string s)), .one (.sc (.int .u8 c))] = T83 N s c := by kernel_rfl
theorem loops83 (N : Nat) : ∀ c, Tryz.f83.body = some c → ∀ p ∈ loopsOf 0 c, LoopOk D.tab call83 (F83 N) p := by
  intro c hc
  have e : c = bodyOf Tryz.f83 := by unfold bodyOf; rw [hc]
  subst e
  have e2 : loopsOf 0 (bodyOf Tryz.f83) = [loopAt Tryz.f83 0] := by kernel_rfl
  rw [e2]
  intro p hp
  simp only [List.mem_cons, List.not_mem_nil, or_false] at hp
  rcases hp with rfl
  · exact lo83_0 N
theorem con83 (hC : CallOk P D.tab call83) (pl : ∀ (s : ByteArray) (c : Int) res, (m83 [.one (.sc (.string s)), .one (.sc (.int .u8 c))]).val = some res → ∃ N, T83 N s c = some res) :
    ∀ avs res, (m83 avs).val = some res → Con P D.tab 83 avs res := by
  intro avs res h
  have h0 := h
  unfold m83 at h0
  split at h0
  · obtain ⟨N, hN⟩ := pl _ _ res h
    exact con_of_ev tabOk hC (f := 83) (fn := Tryz.f83) (by kernel_rfl) (F83 N) (loops83 N) (by rw [show Tryz.f83.ntmps = 35 from by kernel_rfl]; simp) ((main83 N _ _).trans hN)
  · cases h0
theorem ent83 : Iv.Enters P 83 := ⟨Tryz.f83, by kernel_rfl, by kernel_rfl, by kernel_rfl⟩
noncomputable def call191 : CallT := (noCall.add 272 m272v2)
def F191 (N : Nat) : FnK RV where
  N := 22
  lk := fun _ => none
  lp := fun _ _ _ _ => none
theorem main191 (N : Nat) (s : ByteArray) : evF D.tab call191 (F191 N) Tryz.f191 [.one (.sc (.string s))] = T191 N s := by kernel_rfl
theorem loops191 (N : Nat) : ∀ c, Tryz.f191.body = some c → ∀ p ∈ loopsOf 0 c, LoopOk D.tab call191 (F191 N) p := by
  intro c hc
  have e : c = bodyOf Tryz.f191 := by unfold bodyOf; rw [hc]
  subst e
  have e2 : loopsOf 0 (bodyOf Tryz.f191) = [] := by kernel_rfl
  rw [e2]
  intro p hp
  cases hp
theorem con191 (hC : CallOk P D.tab call191) (pl : ∀ (s : ByteArray) res, (m191 [.one (.sc (.string s))]).val = some res → ∃ N, T191 N s = some res) :
    ∀ avs res, (m191 avs).val = some res → Con P D.tab 191 avs res := by
  intro avs res h
  have h0 := h
  unfold m191 at h0
  split at h0
  · obtain ⟨N, hN⟩ := pl _ res h
    exact con_of_ev tabOk hC (f := 191) (fn := Tryz.f191) (by kernel_rfl) (F191 N) (loops191 N) (by rw [show Tryz.f191.ntmps = 22 from by kernel_rfl]; simp) ((main191 N _).trans hN)
  · cases h0
theorem ent191 : Iv.Enters P 191 := ⟨Tryz.f191, by kernel_rfl, by kernel_rfl, by kernel_rfl⟩
noncomputable def call190 : CallT := (noCall.add 191 m191)
def F190 (N : Nat) : FnK RV where
  N := 6
  lk := fun _ => none
  lp := fun _ _ _ _ => none
theorem main190 (N : Nat) (s : ByteArray) : evF D.tab call190 (F190 N) Tryz.f190 [.one (.sc (.string s))] = T190 N s := by kernel_rfl
theorem loops190 (N : Nat) : ∀ c, Tryz.f190.body = some c → ∀ p ∈ loopsOf 0 c, LoopOk D.tab call190 (F190 N) p := by
  intro c hc
  have e : c = bodyOf Tryz.f190 := by unfold bodyOf; rw [hc]
  subst e
  have e2 : loopsOf 0 (bodyOf Tryz.f190) = [] := by kernel_rfl
  rw [e2]
  intro p hp
  cases hp
theorem con190 (hC : CallOk P D.tab call190) (pl : ∀ (s : ByteArray) res, (m190 [.one (.sc (.string s))]).val = some res → ∃ N, T190 N s = some res) :
    ∀ avs res, (m190 avs).val = some res → Con P D.tab 190 avs res := by
  intro avs res h
  have h0 := h
  unfold m190 at h0
  split at h0
  · obtain ⟨N, hN⟩ := pl _ res h
    exact con_of_ev tabOk hC (f := 190) (fn := Tryz.f190) (by kernel_rfl) (F190 N) (loops190 N) (by rw [show Tryz.f190.ntmps = 6 from by kernel_rfl]; simp) ((main190 N _).trans hN)
  · cases h0
theorem ent190 : Iv.Enters P 190 := ⟨Tryz.f190, by kernel_rfl, by kernel_rfl, by kernel_rfl⟩
noncomputable def call243 : CallT := (noCall.add 233 m233)
def F243 (N : Nat) : FnK RV where
  N := 6
  lk := fun _ => none
  lp := fun _ _ _ _ => none
theorem main243 (N : Nat) (s : ByteArray) : evF D.tab call243 (F243 N) Tryz.f243 [.one (.sc (.string s))] = T243 N s := by kernel_rfl
theorem loops243 (N : Nat) : ∀ c, Tryz.f243.body = some c → ∀ p ∈ loopsOf 0 c, LoopOk D.tab call243 (F243 N) p := by
  intro c hc
  have e : c = bodyOf Tryz.f243 := by unfold bodyOf; rw [hc]
  subst e
  have e2 : loopsOf 0 (bodyOf Tryz.f243) = [] := by kernel_rfl
  rw [e2]
  intro p hp
  cases hp
theorem con243 (hC : CallOk P D.tab call243) (pl : ∀ (s : ByteArray) res, (m243 [.one (.sc (.string s))]).val = some res → ∃ N, T243 N s = some res) :
    ∀ avs res, (m243 avs).val = some res → Con P D.tab 243 avs res := by
  intro avs res h
  have h0 := h
  unfold m243 at h0
  split at h0
  · obtain ⟨N, hN⟩ := pl _ res h
    exact con_of_ev tabOk hC (f := 243) (fn := Tryz.f243) (by kernel_rfl) (F243 N) (loops243 N) (by rw [show Tryz.f243.ntmps = 6 from by kernel_rfl]; simp) ((main243 N _).trans hN)
  · cases h0
theorem ent243 : Iv.Enters P 243 := ⟨Tryz.f243, by kernel_rfl, by kernel_rfl, by kernel_rfl⟩
noncomputable def call279 : CallT := (noCall.add 133 m133)
def F279 (N : Nat) : FnK RV where
  N := 6
  lk := fun _ => none
  lp := fun _ _ _ _ => none
theorem main279 (N : Nat) (s : ByteArray) : evF D.tab call279 (F279 N) Tryz.f279 [.one (.sc (.string s))] = T279 N s := by kernel_rfl
theorem loops279 (N : Nat) : ∀ c, Tryz.f279.body = some c → ∀ p ∈ loopsOf 0 c, LoopOk D.tab call279 (F279 N) p := by
  intro c hc
  have e : c = bodyOf Tryz.f279 := by unfold bodyOf; rw [hc]
  subst e
  have e2 : loopsOf 0 (bodyOf Tryz.f279) = [] := by kernel_rfl
  rw [e2]
  intro p hp
  cases hp
theorem con279 (hC : CallOk P D.tab call279) (pl : ∀ (s : ByteArray) res, (m279 [.one (.sc (.string s))]).val = some res → ∃ N, T279 N s = some res) :
    ∀ avs res, (m279 avs).val = some res → Con P D.tab 279 avs res := by
  intro avs res h
  have h0 := h
  unfold m279 at h0
  split at h0
  · obtain ⟨N, hN⟩ := pl _ res h
    exact con_of_ev tabOk hC (f := 279) (fn := Tryz.f279) (by kernel_rfl) (F279 N) (loops279 N) (by rw [show Tryz.f279.ntmps = 6 from by kernel_rfl]; simp) ((main279 N _).trans hN)
  · cases h0
theorem ent279 : Iv.Enters P 279 := ⟨Tryz.f279, by kernel_rfl, by kernel_rfl, by kernel_rfl⟩
noncomputable def call218v0 : CallT := (noCall.add 190 m190)
def K218v0_0 : LoopK := { hs := [0, 1, 7, 8], ho := [], ex := [(0, [], [])], rs := [4], ro := [] }
def lp218v0_0 {R : Type} (N : Nat) (vs : List IV) (os : List (Option Ob)) (k : Exit → List IV → List (Option Ob) → Option R) : Option R :=
  match vs, os with
  | [.v (.one (.fc (.list .str x0))), .v (.one (.fc (.sc (.func (.func 190) f0a f0b)))), .v (.one (.fc (.sc (.int .i64 x1)))), .v (.one (.fc (.sc (.int .i64 x2))))], [] => funO f0a f0b (L218v0_0_0 N x0 x1 x2 (fun y0 => k .ret [.v (.one (.fc (.sc (.int .i64 y0))))] []) (fun _ => k (.exit 0) [] []))
  | _, _ => none
def F218v0 (N : Nat) : FnK RV where
  N := 19
  lk := fun b => bif Nat.beq b 0 then some K218v0_0 else none
  lp := fun b vs os k => bif Nat.beq b 0 then lp218v0_0 N vs os k else none
noncomputable def ev218v0_0 (N m : Nat) (vs : List IV) (os : List (Option Ob)) (k : Exit → List IV → List (Option Ob) → Option RV) : Option RV :=
  evLoop 19 K218v0_0 (fun σ k' => evC D.tab call218v0 (F218v0 N) 0 (loopAt Tryz.f218 0).2 σ k') m vs os k
theorem st218v0_0_0 (N m : Nat) (x0 : List ByteArray) (x1 : Int) (x2 : Int) (k : Exit → List IV → List (Option Ob) → Option RV) :
    ev218v0_0 N (m + 1) [.v (.one (.fc (.list .str x0))), .v (.one (.fc (.sc (.func (.func 190) #[] #[])))), .v (.one (.fc (.sc (.int .i64 x1)))), .v (.one (.fc (.sc (.int .i64 x2))))] [] k =
    (bif (decide (x2 < x1)) then
    (bif (inb x2 (x0).length) then
      (bif (decide (((((x0).getD (x2).toNat (⟨#[]⟩ : ByteArray))).size : Int) ≤ 2147483648)) then
        (bif (!(labelOk ((x0).getD (x2).toNat (⟨#[]⟩ : ByteArray)))) then
          (k .ret [.v (.one (.fc (.sc (.int .i64 x2))))] [])
          else
          (ev218v0_0 N m [.v (.one (.fc (.list .str x0))), .v (.one (.fc (.sc (.func (.func 190) #[] #[])))), .v (.one (.fc (.sc (.int .i64 x1)))), .v (.one (.fc (.sc (.int .i64 (IntKind.i64.wrap (x2 + (1 : Int)))))))] [] k))
        else none)
      else none)
    else
    (k (.exit 0) [] [])) := by kernel_rfl
theorem eq218v0_0 (N : Nat) (k : Exit → List IV → List (Option Ob) → Option RV) : ∀ m : Nat,
    (∀ (x0 : List ByteArray) (x1 : Int) (x2 : Int), ev218v0_0 N m [.v (.one (.fc (.list .str x0))), .v (.one (.fc (.sc (.func (.func 190) #[] #[])))), .v (.one (.fc (.sc (.int .i64 x1)))), .v (.one (.fc (.sc (.int .i64 x2))))] [] k = L218v0_0_0 m x0 x1 x2 (fun y0 => k .ret [.v (.one (.fc (.sc (.int .i64 y0))))] []) (fun _ => k (.exit 0) [] [])) := by
  intro m
  induction m with
  | zero => exact (fun _ _ _ => rfl)
  | succ m ih =>
    have ih0 := ih
    refine (fun _ _ _ => ?_)
    · rw [st218v0_0_0]; simp only [ih0]; rfl
theorem lo218v0_0 (N : Nat) : LoopOk D.tab call218v0 (F218v0 N) (loopAt Tryz.f218 0) := by
  have h1 : (loopAt Tryz.f218 0).1 = 0 := by kernel_rfl
  intro L hL vs os k r h
  rw [h1] at hL h ⊢
  have hL' : L = K218v0_0 := by
    have e : (F218v0 N).lk 0 = some K218v0_0 := rfl
    rw [e] at hL; cases hL; rfl
  subst hL'
  have h2 : lp218v0_0 N vs os k = some r := h
  unfold lp218v0_0 at h2
  split at h2
  · obtain ⟨rfl, rfl, h2⟩ := funO_some h2
    exact ⟨N, ((eq218v0_0 N k N) _ _ _).trans h2⟩
  · cases h2
theorem main218v0 (N : Nat) (xs : List ByteArray) : evF D.tab call218v0 (F218v0 N) Tryz.f218 [.one (.list .str xs), .one (.sc (.func (.func 190) #[] #[]))] = T218v0 N xs := by kernel_rfl
theorem loops218v0 (N : Nat) : ∀ c, Tryz.f218.body = some c → ∀ p ∈ loopsOf 0 c, LoopOk D.tab call218v0 (F218v0 N) p := by
  intro c hc
  have e : c = bodyOf Tryz.f218 := by unfold bodyOf; rw [hc]
  subst e
  have e2 : loopsOf 0 (bodyOf Tryz.f218) = [loopAt Tryz.f218 0] := by kernel_rfl
  rw [e2]
  intro p hp
  simp only [List.mem_cons, List.not_mem_nil, or_false] at hp
  rcases hp with rfl
  · exact lo218v0_0 N
theorem con218v0 (hC : CallOk P D.tab call218v0) (pl : ∀ (xs : List ByteArray) res, (m218v0 [.one (.list .str xs), .one (.sc (.func (.func 190) #[] #[]))]).val = some res → ∃ N, T218v0 N xs = some res) :
    ∀ avs res, (m218v0 avs).val = some res → Con P D.tab 218 avs res := by
  intro avs res h
  have h0 := h
  unfold m218v0 at h0
  split at h0
  · obtain ⟨rfl, rfl⟩ := funE_val h0
    obtain ⟨N, hN⟩ := pl _ res h
    exact con_of_ev tabOk hC (f := 218) (fn := Tryz.f218) (by kernel_rfl) (F218v0 N) (loops218v0 N) (by rw [show Tryz.f218.ntmps = 19 from by kernel_rfl]; simp) ((main218v0 N _).trans hN)
  · cases h0
theorem ent218 : Iv.Enters P 218 := ⟨Tryz.f218, by kernel_rfl, by kernel_rfl, by kernel_rfl⟩
noncomputable def call218v1 : CallT := (noCall.add 243 m243)
def K218v1_0 : LoopK := { hs := [0, 1, 7, 8], ho := [], ex := [(0, [], [])], rs := [4], ro := [] }
def lp218v1_0 {R : Type} (N : Nat) (vs : List IV) (os : List (Option Ob)) (k : Exit → List IV → List (Option Ob) → Option R) : Option R :=
  match vs, os with
  | [.v (.one (.fc (.list .str x0))), .v (.one (.fc (.sc (.func (.func 243) f0a f0b)))), .v (.one (.fc (.sc (.int .i64 x1)))), .v (.one (.fc (.sc (.int .i64 x2))))], [] => funO f0a f0b (L218v1_0_0 N x0 x1 x2 (fun y0 => k .ret [.v (.one (.fc (.sc (.int .i64 y0))))] []) (fun _ => k (.exit 0) [] []))
  | _, _ => none
def F218v1 (N : Nat) : FnK RV where
  N := 19
  lk := fun b => bif Nat.beq b 0 then some K218v1_0 else none
  lp := fun b vs os k => bif Nat.beq b 0 then lp218v1_0 N vs os k else none
noncomputable def ev218v1_0 (N m : Nat) (vs : List IV) (os : List (Option Ob)) (k : Exit → List IV → List (Option Ob) → Option RV) : Option RV :=
  evLoop 19 K218v1_0 (fun σ k' => evC D.tab call218v1 (F218v1 N) 0 (loopAt Tryz.f218 0).2 σ k') m vs os k
theorem st218v1_0_0 (N m : Nat) (x0 : List ByteArray) (x1 : Int) (x2 : Int) (k : Exit → List IV → List (Option Ob) → Option RV) :
    ev218v1_0 N (m + 1) [.v (.one (.fc (.list .str x0))), .v (.one (.fc (.sc (.func (.func 243) #[] #[])))), .v (.one (.fc (.sc (.int .i64 x1)))), .v (.one (.fc (.sc (.int .i64 x2))))] [] k =
    (bif (decide (x2 < x1)) then
    (bif (inb x2 (x0).length) then
      (bif (decide (((((x0).getD (x2).toNat (⟨#[]⟩ : ByteArray))).size : Int) ≤ 2147483648)) then
        (bif (!(atomValid ((x0).getD (x2).toNat (⟨#[]⟩ : ByteArray)))) then
          (k .ret [.v (.one (.fc (.sc (.int .i64 x2))))] [])
          else
          (ev218v1_0 N m [.v (.one (.fc (.list .str x0))), .v (.one (.fc (.sc (.func (.func 243) #[] #[])))), .v (.one (.fc (.sc (.int .i64 x1)))), .v (.one (.fc (.sc (.int .i64 (IntKind.i64.wrap (x2 + (1 : Int)))))))] [] k))
        else none)
      else none)
    else
    (k (.exit 0) [] [])) := by kernel_rfl
theorem eq218v1_0 (N : Nat) (k : Exit → List IV → List (Option Ob) → Option RV) : ∀ m : Nat,
    (∀ (x0 : List ByteArray) (x1 : Int) (x2 : Int), ev218v1_0 N m [.v (.one (.fc (.list .str x0))), .v (.one (.fc (.sc (.func (.func 243) #[] #[])))), .v (.one (.fc (.sc (.int .i64 x1)))), .v (.one (.fc (.sc (.int .i64 x2))))] [] k = L218v1_0_0 m x0 x1 x2 (fun y0 => k .ret [.v (.one (.fc (.sc (.int .i64 y0))))] []) (fun _ => k (.exit 0) [] [])) := by
  intro m
  induction m with
  | zero => exact (fun _ _ _ => rfl)
  | succ m ih =>
    have ih0 := ih
    refine (fun _ _ _ => ?_)
    · rw [st218v1_0_0]; simp only [ih0]; rfl
theorem lo218v1_0 (N : Nat) : LoopOk D.tab call218v1 (F218v1 N) (loopAt Tryz.f218 0) := by
  have h1 : (loopAt Tryz.f218 0).1 = 0 := by kernel_rfl
  intro L hL vs os k r h
  rw [h1] at hL h ⊢
  have hL' : L = K218v1_0 := by
    have e : (F218v1 N).lk 0 = some K218v1_0 := rfl
    rw [e] at hL; cases hL; rfl
  subst hL'
  have h2 : lp218v1_0 N vs os k = some r := h
  unfold lp218v1_0 at h2
  split at h2
  · obtain ⟨rfl, rfl, h2⟩ := funO_some h2
    exact ⟨N, ((eq218v1_0 N k N) _ _ _).trans h2⟩
  · cases h2
theorem main218v1 (N : Nat) (xs : List ByteArray) : evF D.tab call218v1 (F218v1 N) Tryz.f218 [.one (.list .str xs), .one (.sc (.func (.func 243) #[] #[]))] = T218v1 N xs := by kernel_rfl
theorem loops218v1 (N : Nat) : ∀ c, Tryz.f218.body = some c → ∀ p ∈ loopsOf 0 c, LoopOk D.tab call218v1 (F218v1 N) p := by
  intro c hc
  have e : c = bodyOf Tryz.f218 := by unfold bodyOf; rw [hc]
  subst e
  have e2 : loopsOf 0 (bodyOf Tryz.f218) = [loopAt Tryz.f218 0] := by kernel_rfl
  rw [e2]
  intro p hp
  simp only [List.mem_cons, List.not_mem_nil, or_false] at hp
  rcases hp with rfl
  · exact lo218v1_0 N
theorem con218v1 (hC : CallOk P D.tab call218v1) (pl : ∀ (xs : List ByteArray) res, (m218v1 [.one (.list .str xs), .one (.sc (.func (.func 243) #[] #[]))]).val = some res → ∃ N, T218v1 N xs = some res) :
    ∀ avs res, (m218v1 avs).val = some res → Con P D.tab 218 avs res := by
  intro avs res h
  have h0 := h
  unfold m218v1 at h0
  split at h0
  · obtain ⟨rfl, rfl⟩ := funE_val h0
    obtain ⟨N, hN⟩ := pl _ res h
    exact con_of_ev tabOk hC (f := 218) (fn := Tryz.f218) (by kernel_rfl) (F218v1 N) (loops218v1 N) (by rw [show Tryz.f218.ntmps = 19 from by kernel_rfl]; simp) ((main218v1 N _).trans hN)
  · cases h0
noncomputable def call218v2 : CallT := (noCall.add 204 m204)
def K218v2_0 : LoopK := { hs := [0, 1, 7, 8], ho := [], ex := [(0, [], [])], rs := [4], ro := [] }
def lp218v2_0 {R : Type} (N : Nat) (vs : List IV) (os : List (Option Ob)) (k : Exit → List IV → List (Option Ob) → Option R) : Option R :=
  match vs, os with
  | [.v (.one (.fc (.list .str x0))), .v (.one (.fc (.sc (.func (.func 204) f0a f0b)))), .v (.one (.fc (.sc (.int .i64 x1)))), .v (.one (.fc (.sc (.int .i64 x2))))], [] => funO f0a f0b (L218v2_0_0 N x0 x1 x2 (fun y0 => k .ret [.v (.one (.fc (.sc (.int .i64 y0))))] []) (fun _ => k (.exit 0) [] []))
  | _, _ => none
def F218v2 (N : Nat) : FnK RV where
  N := 19
  lk := fun b => bif Nat.beq b 0 then some K218v2_0 else none
  lp := fun b vs os k => bif Nat.beq b 0 then lp218v2_0 N vs os k else none
noncomputable def ev218v2_0 (N m : Nat) (vs : List IV) (os : List (Option Ob)) (k : Exit → List IV → List (Option Ob) → Option RV) : Option RV :=
  evLoop 19 K218v2_0 (fun σ k' => evC D.tab call218v2 (F218v2 N) 0 (loopAt Tryz.f218 0).2 σ k') m vs os k
theorem st218v2_0_0 (N m : Nat) (x0 : List ByteArray) (x1 : Int) (x2 : Int) (k : Exit → List IV → List (Option Ob) → Option RV) :
    ev218v2_0 N (m + 1) [.v (.one (.fc (.list .str x0))), .v (.one (.fc (.sc (.func (.func 204) #[] #[])))), .v (.one (.fc (.sc (.int .i64 x1)))), .v (.one (.fc (.sc (.int .i64 x2))))] [] k =
    (bif (decide (x2 < x1)) then
    (bif (inb x2 (x0).length) then
      (bif (decide (((((x0).getD (x2).toNat (⟨#[]⟩ : ByteArray))).size : Int) ≤ 2147483648)) then
        (bif (!(pathOk ((x0).getD (x2).toNat (⟨#[]⟩ : ByteArray)))) then
          (k .ret [.v (.one (.fc (.sc (.int .i64 x2))))] [])
          else
          (ev218v2_0 N m [.v (.one (.fc (.list .str x0))), .v (.one (.fc (.sc (.func (.func 204) #[] #[])))), .v (.one (.fc (.sc (.int .i64 x1)))), .v (.one (.fc (.sc (.int .i64 (IntKind.i64.wrap (x2 + (1 : Int)))))))] [] k))
        else none)
      else none)
    else
    (k (.exit 0) [] [])) := by kernel_rfl
theorem eq218v2_0 (N : Nat) (k : Exit → List IV → List (Option Ob) → Option RV) : ∀ m : Nat,
    (∀ (x0 : List ByteArray) (x1 : Int) (x2 : Int), ev218v2_0 N m [.v (.one (.fc (.list .str x0))), .v (.one (.fc (.sc (.func (.func 204) #[] #[])))), .v (.one (.fc (.sc (.int .i64 x1)))), .v (.one (.fc (.sc (.int .i64 x2))))] [] k = L218v2_0_0 m x0 x1 x2 (fun y0 => k .ret [.v (.one (.fc (.sc (.int .i64 y0))))] []) (fun _ => k (.exit 0) [] [])) := by
  intro m
  induction m with
  | zero => exact (fun _ _ _ => rfl)
  | succ m ih =>
    have ih0 := ih
    refine (fun _ _ _ => ?_)
    · rw [st218v2_0_0]; simp only [ih0]; rfl
theorem lo218v2_0 (N : Nat) : LoopOk D.tab call218v2 (F218v2 N) (loopAt Tryz.f218 0) := by
  have h1 : (loopAt Tryz.f218 0).1 = 0 := by kernel_rfl
  intro L hL vs os k r h
  rw [h1] at hL h ⊢
  have hL' : L = K218v2_0 := by
    have e : (F218v2 N).lk 0 = some K218v2_0 := rfl
    rw [e] at hL; cases hL; rfl
  subst hL'
  have h2 : lp218v2_0 N vs os k = some r := h
  unfold lp218v2_0 at h2
  split at h2
  · obtain ⟨rfl, rfl, h2⟩ := funO_some h2
    exact ⟨N, ((eq218v2_0 N k N) _ _ _).trans h2⟩
  · cases h2
theorem main218v2 (N : Nat) (xs : List ByteArray) : evF D.tab call218v2 (F218v2 N) Tryz.f218 [.one (.list .str xs), .one (.sc (.func (.func 204) #[] #[]))] = T218v2 N xs := by kernel_rfl
theorem loops218v2 (N : Nat) : ∀ c, Tryz.f218.body = some c → ∀ p ∈ loopsOf 0 c, LoopOk D.tab call218v2 (F218v2 N) p := by
  intro c hc
  have e : c = bodyOf Tryz.f218 := by unfold bodyOf; rw [hc]
  subst e
  have e2 : loopsOf 0 (bodyOf Tryz.f218) = [loopAt Tryz.f218 0] := by kernel_rfl
  rw [e2]
  intro p hp
  simp only [List.mem_cons, List.not_mem_nil, or_false] at hp
  rcases hp with rfl
  · exact lo218v2_0 N
theorem con218v2 (hC : CallOk P D.tab call218v2) (pl : ∀ (xs : List ByteArray) res, (m218v2 [.one (.list .str xs), .one (.sc (.func (.func 204) #[] #[]))]).val = some res → ∃ N, T218v2 N xs = some res) :
    ∀ avs res, (m218v2 avs).val = some res → Con P D.tab 218 avs res := by
  intro avs res h
  have h0 := h
  unfold m218v2 at h0
  split at h0
  · obtain ⟨rfl, rfl⟩ := funE_val h0
    obtain ⟨N, hN⟩ := pl _ res h
    exact con_of_ev tabOk hC (f := 218) (fn := Tryz.f218) (by kernel_rfl) (F218v2 N) (loops218v2 N) (by rw [show Tryz.f218.ntmps = 19 from by kernel_rfl]; simp) ((main218v2 N _).trans hN)
  · cases h0
noncomputable def call218v3 : CallT := (noCall.add 279 m279)
def K218v3_0 : LoopK := { hs := [0, 1, 7, 8], ho := [], ex := [(0, [], [])], rs := [4], ro := [] }
def lp218v3_0 {R : Type} (N : Nat) (vs : List IV) (os : List (Option Ob)) (k : Exit → List IV → List (Option Ob) → Option R) : Option R :=
  match vs, os with
  | [.v (.one (.fc (.list .str x0))), .v (.one (.fc (.sc (.func (.func 279) f0a f0b)))), .v (.one (.fc (.sc (.int .i64 x1)))), .v (.one (.fc (.sc (.int .i64 x2))))], [] => funO f0a f0b (L218v3_0_0 N x0 x1 x2 (fun y0 => k .ret [.v (.one (.fc (.sc (.int .i64 y0))))] []) (fun _ => k (.exit 0) [] []))
  | _, _ => none
def F218v3 (N : Nat) : FnK RV where
  N := 19
  lk := fun b => bif Nat.beq b 0 then some K218v3_0 else none
  lp := fun b vs os k => bif Nat.beq b 0 then lp218v3_0 N vs os k else none
noncomputable def ev218v3_0 (N m : Nat) (vs : List IV) (os : List (Option Ob)) (k : Exit → List IV → List (Option Ob) → Option RV) : Option RV :=
  evLoop 19 K218v3_0 (fun σ k' => evC D.tab call218v3 (F218v3 N) 0 (loopAt Tryz.f218 0).2 σ k') m vs os k
theorem st218v3_0_0 (N m : Nat) (x0 : List ByteArray) (x1 : Int) (x2 : Int) (k : Exit → List IV → List (Option Ob) → Option RV) :
    ev218v3_0 N (m + 1) [.v (.one (.fc (.list .str x0))), .v (.one (.fc (.sc (.func (.func 279) #[] #[])))), .v (.one (.fc (.sc (.int .i64 x1)))), .v (.one (.fc (.sc (.int .i64 x2))))] [] k =
    (bif (decide (x2 < x1)) then
    (bif (inb x2 (x0).length) then
      (bif (decide (((((x0).getD (x2).toNat (⟨#[]⟩ : ByteArray))).size : Int) ≤ 2147483648)) then
        (bif (!(textValid ((x0).getD (x2).toNat (⟨#[]⟩ : ByteArray)))) then
          (k .ret [.v (.one (.fc (.sc (.int .i64 x2))))] [])
          else
          (ev218v3_0 N m [.v (.one (.fc (.list .str x0))), .v (.one (.fc (.sc (.func (.func 279) #[] #[])))), .v (.one (.fc (.sc (.int .i64 x1)))), .v (.one (.fc (.sc (.int .i64 (IntKind.i64.wrap (x2 + (1 : Int)))))))] [] k))
        else none)
      else none)
    else
    (k (.exit 0) [] [])) := by kernel_rfl
theorem eq218v3_0 (N : Nat) (k : Exit → List IV → List (Option Ob) → Option RV) : ∀ m : Nat,
    (∀ (x0 : List ByteArray) (x1 : Int) (x2 : Int), ev218v3_0 N m [.v (.one (.fc (.list .str x0))), .v (.one (.fc (.sc (.func (.func 279) #[] #[])))), .v (.one (.fc (.sc (.int .i64 x1)))), .v (.one (.fc (.sc (.int .i64 x2))))] [] k = L218v3_0_0 m x0 x1 x2 (fun y0 => k .ret [.v (.one (.fc (.sc (.int .i64 y0))))] []) (fun _ => k (.exit 0) [] [])) := by
  intro m
  induction m with
  | zero => exact (fun _ _ _ => rfl)
  | succ m ih =>
    have ih0 := ih
    refine (fun _ _ _ => ?_)
    · rw [st218v3_0_0]; simp only [ih0]; rfl
theorem lo218v3_0 (N : Nat) : LoopOk D.tab call218v3 (F218v3 N) (loopAt Tryz.f218 0) := by
  have h1 : (loopAt Tryz.f218 0).1 = 0 := by kernel_rfl
  intro L hL vs os k r h
  rw [h1] at hL h ⊢
  have hL' : L = K218v3_0 := by
    have e : (F218v3 N).lk 0 = some K218v3_0 := rfl
    rw [e] at hL; cases hL; rfl
  subst hL'
  have h2 : lp218v3_0 N vs os k = some r := h
  unfold lp218v3_0 at h2
  split at h2
  · obtain ⟨rfl, rfl, h2⟩ := funO_some h2
    exact ⟨N, ((eq218v3_0 N k N) _ _ _).trans h2⟩
  · cases h2
theorem main218v3 (N : Nat) (xs : List ByteArray) : evF D.tab call218v3 (F218v3 N) Tryz.f218 [.one (.list .str xs), .one (.sc (.func (.func 279) #[] #[]))] = T218v3 N xs := by kernel_rfl
theorem loops218v3 (N : Nat) : ∀ c, Tryz.f218.body = some c → ∀ p ∈ loopsOf 0 c, LoopOk D.tab call218v3 (F218v3 N) p := by
  intro c hc
  have e : c = bodyOf Tryz.f218 := by unfold bodyOf; rw [hc]
  subst e
  have e2 : loopsOf 0 (bodyOf Tryz.f218) = [loopAt Tryz.f218 0] := by kernel_rfl
  rw [e2]
  intro p hp
  simp only [List.mem_cons, List.not_mem_nil, or_false] at hp
  rcases hp with rfl
  · exact lo218v3_0 N
theorem con218v3 (hC : CallOk P D.tab call218v3) (pl : ∀ (xs : List ByteArray) res, (m218v3 [.one (.list .str xs), .one (.sc (.func (.func 279) #[] #[]))]).val = some res → ∃ N, T218v3 N xs = some res) :
    ∀ avs res, (m218v3 avs).val = some res → Con P D.tab 218 avs res := by
  intro avs res h
  have h0 := h
  unfold m218v3 at h0
  split at h0
  · obtain ⟨rfl, rfl⟩ := funE_val h0
    obtain ⟨N, hN⟩ := pl _ res h
    exact con_of_ev tabOk hC (f := 218) (fn := Tryz.f218) (by kernel_rfl) (F218v3 N) (loops218v3 N) (by rw [show Tryz.f218.ntmps = 19 from by kernel_rfl]; simp) ((main218v3 N _).trans hN)
  · cases h0
noncomputable def call131v0 : CallT := (noCall.add 218 m218v0)
def F131v0 (N : Nat) : FnK RV where
  N := 9
  lk := fun _ => none
  lp := fun _ _ _ _ => none
theorem main131v0 (N : Nat) (xs : List ByteArray) : evF D.tab call131v0 (F131v0 N) Tryz.f131 [.one (.list .str xs), .one (.sc (.func (.func 190) #[] #[]))] = T131v0 N xs := by kernel_rfl
theorem loops131v0 (N : Nat) : ∀ c, Tryz.f131.body = some c → ∀ p ∈ loopsOf 0 c, LoopOk D.tab call131v0 (F131v0 N) p := by
  intro c hc
  have e : c = bodyOf Tryz.f131 := by unfold bodyOf; rw [hc]
  subst e
  have e2 : loopsOf 0 (bodyOf Tryz.f131) = [] := by kernel_rfl
  rw [e2]
  intro p hp
  cases hp
theorem con131v0 (hC : CallOk P D.tab call131v0) (pl : ∀ (xs : List ByteArray) res, (m131v0 [.one (.list .str xs), .one (.sc (.func (.func 190) #[] #[]))]).val = some res → ∃ N, T131v0 N xs = some res) :
    ∀ avs res, (m131v0 avs).val = some res → Con P D.tab 131 avs res := by
  intro avs res h
  have h0 := h
  unfold m131v0 at h0
  split at h0
  · obtain ⟨rfl, rfl⟩ := funE_val h0
    obtain ⟨N, hN⟩ := pl _ res h
    exact con_of_ev tabOk hC (f := 131) (fn := Tryz.f131) (by kernel_rfl) (F131v0 N) (loops131v0 N) (by rw [show Tryz.f131.ntmps = 9 from by kernel_rfl]; simp) ((main131v0 N _).trans hN)
  · cases h0
theorem ent131 : Iv.Enters P 131 := ⟨Tryz.f131, by kernel_rfl, by kernel_rfl, by kernel_rfl⟩
noncomputable def call131v1 : CallT := (noCall.add 218 m218v1)
def F131v1 (N : Nat) : FnK RV where
  N := 9
  lk := fun _ => none
  lp := fun _ _ _ _ => none
theorem main131v1 (N : Nat) (xs : List ByteArray) : evF D.tab call131v1 (F131v1 N) Tryz.f131 [.one (.list .str xs), .one (.sc (.func (.func 243) #[] #[]))] = T131v1 N xs := by kernel_rfl
theorem loops131v1 (N : Nat) : ∀ c, Tryz.f131.body = some c → ∀ p ∈ loopsOf 0 c, LoopOk D.tab call131v1 (F131v1 N) p := by
  intro c hc
  have e : c = bodyOf Tryz.f131 := by unfold bodyOf; rw [hc]
  subst e
  have e2 : loopsOf 0 (bodyOf Tryz.f131) = [] := by kernel_rfl
  rw [e2]
  intro p hp
  cases hp
theorem con131v1 (hC : CallOk P D.tab call131v1) (pl : ∀ (xs : List ByteArray) res, (m131v1 [.one (.list .str xs), .one (.sc (.func (.func 243) #[] #[]))]).val = some res → ∃ N, T131v1 N xs = some res) :
    ∀ avs res, (m131v1 avs).val = some res → Con P D.tab 131 avs res := by
  intro avs res h
  have h0 := h
  unfold m131v1 at h0
  split at h0
  · obtain ⟨rfl, rfl⟩ := funE_val h0
    obtain ⟨N, hN⟩ := pl _ res h
    exact con_of_ev tabOk hC (f := 131) (fn := Tryz.f131) (by kernel_rfl) (F131v1 N) (loops131v1 N) (by rw [show Tryz.f131.ntmps = 9 from by kernel_rfl]; simp) ((main131v1 N _).trans hN)
  · cases h0
noncomputable def call131v2 : CallT := (noCall.add 218 m218v2)
def F131v2 (N : Nat) : FnK RV where
  N := 9
  lk := fun _ => none
  lp := fun _ _ _ _ => none
theorem main131v2 (N : Nat) (xs : List ByteArray) : evF D.tab call131v2 (F131v2 N) Tryz.f131 [.one (.list .str xs), .one (.sc (.func (.func 204) #[] #[]))] = T131v2 N xs := by kernel_rfl
theorem loops131v2 (N : Nat) : ∀ c, Tryz.f131.body = some c → ∀ p ∈ loopsOf 0 c, LoopOk D.tab call131v2 (F131v2 N) p := by
  intro c hc
  have e : c = bodyOf Tryz.f131 := by unfold bodyOf; rw [hc]
  subst e
  have e2 : loopsOf 0 (bodyOf Tryz.f131) = [] := by kernel_rfl
  rw [e2]
  intro p hp
  cases hp
theorem con131v2 (hC : CallOk P D.tab call131v2) (pl : ∀ (xs : List ByteArray) res, (m131v2 [.one (.list .str xs), .one (.sc (.func (.func 204) #[] #[]))]).val = some res → ∃ N, T131v2 N xs = some res) :
    ∀ avs res, (m131v2 avs).val = some res → Con P D.tab 131 avs res := by
  intro avs res h
  have h0 := h
  unfold m131v2 at h0
  split at h0
  · obtain ⟨rfl, rfl⟩ := funE_val h0
    obtain ⟨N, hN⟩ := pl _ res h
    exact con_of_ev tabOk hC (f := 131) (fn := Tryz.f131) (by kernel_rfl) (F131v2 N) (loops131v2 N) (by rw [show Tryz.f131.ntmps = 9 from by kernel_rfl]; simp) ((main131v2 N _).trans hN)
  · cases h0
noncomputable def call131v3 : CallT := (noCall.add 218 m218v3)
def F131v3 (N : Nat) : FnK RV where
  N := 9
  lk := fun _ => none
  lp := fun _ _ _ _ => none
theorem main131v3 (N : Nat) (xs : List ByteArray) : evF D.tab call131v3 (F131v3 N) Tryz.f131 [.one (.list .str xs), .one (.sc (.func (.func 279) #[] #[]))] = T131v3 N xs := by kernel_rfl
theorem loops131v3 (N : Nat) : ∀ c, Tryz.f131.body = some c → ∀ p ∈ loopsOf 0 c, LoopOk D.tab call131v3 (F131v3 N) p := by
  intro c hc
  have e : c = bodyOf Tryz.f131 := by unfold bodyOf; rw [hc]
  subst e
  have e2 : loopsOf 0 (bodyOf Tryz.f131) = [] := by kernel_rfl
  rw [e2]
  intro p hp
  cases hp
theorem con131v3 (hC : CallOk P D.tab call131v3) (pl : ∀ (xs : List ByteArray) res, (m131v3 [.one (.list .str xs), .one (.sc (.func (.func 279) #[] #[]))]).val = some res → ∃ N, T131v3 N xs = some res) :
    ∀ avs res, (m131v3 avs).val = some res → Con P D.tab 131 avs res := by
  intro avs res h
  have h0 := h
  unfold m131v3 at h0
  split at h0
  · obtain ⟨rfl, rfl⟩ := funE_val h0
    obtain ⟨N, hN⟩ := pl _ res h
    exact con_of_ev tabOk hC (f := 131) (fn := Tryz.f131) (by kernel_rfl) (F131v3 N) (loops131v3 N) (by rw [show Tryz.f131.ntmps = 9 from by kernel_rfl]; simp) ((main131v3 N _).trans hN)
  · cases h0
noncomputable def call94 : CallT := ((noCall.add 80 m80).add 131 m131v0)
def F94 (N : Nat) : FnK RV where
  N := 12
  lk := fun _ => none
  lp := fun _ _ _ _ => none
theorem main94 (N : Nat) (s : ByteArray) : evF D.tab call94 (F94 N) Tryz.f94 [.one (.sc (.string s))] = T94 N s := by kernel_rfl
theorem loops94 (N : Nat) : ∀ c, Tryz.f94.body = some c → ∀ p ∈ loopsOf 0 c, LoopOk D.tab call94 (F94 N) p := by
  intro c hc
  have e : c = bodyOf Tryz.f94 := by unfold bodyOf; rw [hc]
  subst e
  have e2 : loopsOf 0 (bodyOf Tryz.f94) = [] := by kernel_rfl
  rw [e2]
  intro p hp
  cases hp
theorem con94 (hC : CallOk P D.tab call94) (pl : ∀ (s : ByteArray) res, (m94 [.one (.sc (.string s))]).val = some res → ∃ N, T94 N s = some res) :
    ∀ avs res, (m94 avs).val = some res → Con P D.tab 94 avs res := by
  intro avs res h
  have h0 := h
  unfold m94 at h0
  split at h0
  · obtain ⟨N, hN⟩ := pl _ res h
    exact con_of_ev tabOk hC (f := 94) (fn := Tryz.f94) (by kernel_rfl) (F94 N) (loops94 N) (by rw [show Tryz.f94.ntmps = 12 from by kernel_rfl]; simp) ((main94 N _).trans hN)
  · cases h0
theorem ent94 : Iv.Enters P 94 := ⟨Tryz.f94, by kernel_rfl, by kernel_rfl, by kernel_rfl⟩
noncomputable def call99 : CallT := ((noCall.add 83 m83).add 197 m197)
def K99_2 : LoopK := { hs := [0, 3, 4, 5, 6], ho := [1008], ex := [(2, [0, 3, 4], [1008])], rs := [2], ro := [] }
def lp99_2 {R : Type} (N : Nat) (vs : List IV) (os : List (Option Ob)) (k : Exit → List IV → List (Option Ob) → Option R) : Option R :=
  match vs, os with
  | [.v (.one (.fc (.sc (.string x0)))), .v (.one (.hdr 1008)), .v (.one (.fc (.sc (.int .i64 x1)))), .v (.one (.fc (.sc (.string x2)))), .v (.one (.fc (.sc (.int .i64 x3))))], [some (.rows .str 9 x4)] => L99_2_0 N x0 x1 x2 x3 x4 (fun y0 => k .ret [.v (.one (.fc (.sc (.bool y0))))] []) (fun y0 y1 y2 => k (.exit 2) [.v (.one (.fc (.sc (.string y0)))), .v (.one (.hdr 1008)), .v (.one (.fc (.sc (.int .i64 y1))))] [some (.rows .str 9 y2)])
  | _, _ => none
def K99_0 : LoopK := { hs := [0, 3, 4], ho := [1008], ex := [(0, [0], [])], rs := [2], ro := [] }
def lp99_0 {R : Type} (N : Nat) (vs : List IV) (os : List (Option Ob)) (k : Exit → List IV → List (Option Ob) → Option R) : Option R :=
  match vs, os with
  | [.v (.one (.fc (.sc (.string x0)))), .v (.one (.hdr 1008)), .v (.one (.fc (.sc (.int .i64 x1))))], [some (.rows .str 9 x2)] => L99_0_0 N N x0 x1 x2 (fun y0 => k .ret [.v (.one (.fc (.sc (.bool y0))))] []) (fun y0 => k (.exit 0) [.v (.one (.fc (.sc (.string y0))))] [])
  | _, _ => none
def F99 (N : Nat) : FnK RV where
  N := 66
  lk := fun b => bif Nat.beq b 2 then some K99_2 else bif Nat.beq b 0 then some K99_0 else none
  lp := fun b vs os k => bif Nat.beq b 2 then lp99_2 N vs os k else bif Nat.beq b 0 then lp99_0 N vs os k else none
noncomputable def ev99_2 (N m : Nat) (vs : List IV) (os : List (Option Ob)) (k : Exit → List IV → List (Option Ob) → Option RV) : Option RV :=
  evLoop 66 K99_2 (fun σ k' => evC D.tab call99 (F99 N) 2 (loopAt Tryz.f99 1).2 σ k') m vs os k
theorem st99_2_0 (N m : Nat) (x0 : ByteArray) (x1 : Int) (x2 : ByteArray) (x3 : Int) (x4 : List ByteArray) (k : Exit → List IV → List (Option Ob) → Option RV) :
    ev99_2 N (m + 1) [.v (.one (.fc (.sc (.string x0)))), .v (.one (.hdr 1008)), .v (.one (.fc (.sc (.int .i64 x1)))), .v (.one (.fc (.sc (.string x2)))), .v (.one (.fc (.sc (.int .i64 x3))))] [some (.rows .str 9 x4)] k =
    (bif (decide (x3 < ((x2).size : Int))) then
    (bif (inb x3 (x2).size) then
      (bif (!(letter (bt x2 x3) || digit (bt x2 x3))) then
        (bif (inb x3 (x2).size) then
          (bif ((bt x2 x3) != (45 : Int)) then
            (k .ret [.v (.one (.fc (.sc (.bool false))))] [])
            else
            (bif (inb x3 (x2).size) then
              (bif (decide ((bt x2 x3) ≥ (65 : Int))) then
                (bif (inb x3 (x2).size) then
                  (bif (decide ((bt x2 x3) ≤ (90 : Int))) then
                    (k .ret [.v (.one (.fc (.sc (.bool false))))] [])
                    else
                    (ev99_2 N m [.v (.one (.fc (.sc (.string x0)))), .v (.one (.hdr 1008)), .v (.one (.fc (.sc (.int .i64 x1)))), .v (.one (.fc (.sc (.string x2)))), .v (.one (.fc (.sc (.int .i64 (IntKind.i64.wrap (x3 + (1 : Int)))))))] [some (.rows .str 9 x4)] k))
                  else none)
                else
                (ev99_2 N m [.v (.one (.fc (.sc (.string x0)))), .v (.one (.hdr 1008)), .v (.one (.fc (.sc (.int .i64 x1)))), .v (.one (.fc (.sc (.string x2)))), .v (.one (.fc (.sc (.int .i64 (IntKind.i64.wrap (x3 + (1 : Int)))))))] [some (.rows .str 9 x4)] k))
              else none))
          else none)
        else
        (bif (inb x3 (x2).size) then
          (bif (decide ((bt x2 x3) ≥ (65 : Int))) then
            (bif (inb x3 (x2).size) then
              (bif (decide ((bt x2 x3) ≤ (90 : Int))) then
                (k .ret [.v (.one (.fc (.sc (.bool false))))] [])
                else
                (ev99_2 N m [.v (.one (.fc (.sc (.string x0)))), .v (.one (.hdr 1008)), .v (.one (.fc (.sc (.int .i64 x1)))), .v (.one (.fc (.sc (.string x2)))), .v (.one (.fc (.sc (.int .i64 (IntKind.i64.wrap (x3 + (1 : Int)))))))] [some (.rows .str 9 x4)] k))
              else none)
            else
            (ev99_2 N m [.v (.one (.fc (.sc (.string x0)))), .v (.one (.hdr 1008)), .v (.one (.fc (.sc (.int .i64 x1)))), .v (.one (.fc (.sc (.string x2)))), .v (.one (.fc (.sc (.int .i64 (IntKind.i64.wrap (x3 + (1 : Int)))))))] [some (.rows .str 9 x4)] k))
          else none))
      else none)
    else
    (k (.exit 2) [.v (.one (.fc (.sc (.string x0)))), .v (.one (.hdr 1008)), .v (.one (.fc (.sc (.int .i64 x1))))] [some (.rows .str 9 x4)])) := by kernel_rfl
theorem eq99_2 (N : Nat) (k : Exit → List IV → List (Option Ob) → Option RV) : ∀ m : Nat,
    (∀ (x0 : ByteArray) (x1 : Int) (x2 : ByteArray) (x3 : Int) (x4 : List ByteArray), ev99_2 N m [.v (.one (.fc (.sc (.string x0)))), .v (.one (.hdr 1008)), .v (.one (.fc (.sc (.int .i64 x1)))), .v (.one (.fc (.sc (.string x2)))), .v (.one (.fc (.sc (.int .i64 x3))))] [some (.rows .str 9 x4)] k = L99_2_0 m x0 x1 x2 x3 x4 (fun y0 => k .ret [.v (.one (.fc (.sc (.bool y0))))] []) (fun y0 y1 y2 => k (.exit 2) [.v (.one (.fc (.sc (.string y0)))), .v (.one (.hdr 1008)), .v (.one (.fc (.sc (.int .i64 y1))))] [some (.rows .str 9 y2)])) := by
  intro m
  induction m with
  | zero => exact (fun _ _ _ _ _ => rfl)
  | succ m ih =>
    have ih0 := ih
    refine (fun _ _ _ _ _ => ?_)
    · rw [st99_2_0]; simp only [ih0]; rfl
theorem lo99_2 (N : Nat) : LoopOk D.tab call99 (F99 N) (loopAt Tryz.f99 1) := by
  have h1 : (loopAt Tryz.f99 1).1 = 2 := by kernel_rfl
  intro L hL vs os k r h
  rw [h1] at hL h ⊢
  have hL' : L = K99_2 := by
    have e : (F99 N).lk 2 = some K99_2 := rfl
    rw [e] at hL; cases hL; rfl
  subst hL'
  have h2 : lp99_2 N vs os k = some r := h
  unfold lp99_2 at h2
  split at h2
  · exact ⟨N, ((eq99_2 N k N) _ _ _ _ _).trans h2⟩
  · cases h2
noncomputable def ev99_0 (N m : Nat) (vs : List IV) (os : List (Option Ob)) (k : Exit → List IV → List (Option Ob) → Option RV) : Option RV :=
  evLoop 66 K99_0 (fun σ k' => evC D.tab call99 (F99 N) 0 (loopAt Tryz.f99 0).2 σ k') m vs os k
theorem st99_0_0 (N m : Nat) (x0 : ByteArray) (x1 : Int) (x2 : List ByteArray) (k : Exit → List IV → List (Option Ob) → Option RV) :
    ev99_0 N (m + 1) [.v (.one (.fc (.sc (.string x0)))), .v (.one (.hdr 1008)), .v (.one (.fc (.sc (.int .i64 x1))))] [some (.rows .str 9 x2)] k =
    (bif (decide (x1 < ((x2).length : Int))) then
    (bif (inb x1 (x2).length) then
      (bif (((x2).getD (x1).toNat (⟨#[]⟩ : ByteArray)).toList == (⟨#[]⟩ : ByteArray).toList) then
        (k .ret [.v (.one (.fc (.sc (.bool false))))] [])
        else
        (bif (inb (0 : Int) (((x2).getD (x1).toNat (⟨#[]⟩ : ByteArray))).size) then
          (bif ((bt ((x2).getD (x1).toNat (⟨#[]⟩ : ByteArray)) (0 : Int)) == (45 : Int)) then
            (k .ret [.v (.one (.fc (.sc (.bool false))))] [])
            else
            (bif (inb (IntKind.i64.wrap (((((x2).getD (x1).toNat (⟨#[]⟩ : ByteArray))).size : Int) - (1 : Int))) (((x2).getD (x1).toNat (⟨#[]⟩ : ByteArray))).size) then
              (bif ((bt ((x2).getD (x1).toNat (⟨#[]⟩ : ByteArray)) (IntKind.i64.wrap (((((x2).getD (x1).toNat (⟨#[]⟩ : ByteArray))).size : Int) - (1 : Int)))) == (45 : Int)) then
                (k .ret [.v (.one (.fc (.sc (.bool false))))] [])
                else
                (L99_2_0 N x0 x1 ((x2).getD (x1).toNat (⟨#[]⟩ : ByteArray)) (0 : Int) x2
                  (fun (z1_0 : Bool) => (k .ret [.v (.one (.fc (.sc (.bool z1_0))))] []))
                  (fun (z2_0 : ByteArray) (z2_1 : Int) (z2_2 : List ByteArray) => (ev99_0 N m [.v (.one (.fc (.sc (.string z2_0)))), .v (.one (.hdr 1008)), .v (.one (.fc (.sc (.int .i64 (IntKind.i64.wrap (z2_1 + (1 : Int)))))))] [some (.rows .str 9 z2_2)] k))))
              else none))
          else none))
      else none)
    else
    (k (.exit 0) [.v (.one (.fc (.sc (.string x0))))] [])) := by kernel_rfl
theorem eq99_0 (N : Nat) (k : Exit → List IV → List (Option Ob) → Option RV) : ∀ m : Nat,
    (∀ (x0 : ByteArray) (x1 : Int) (x2 : List ByteArray), ev99_0 N m [.v (.one (.fc (.sc (.string x0)))), .v (.one (.hdr 1008)), .v (.one (.fc (.sc (.int .i64 x1))))] [some (.rows .str 9 x2)] k = L99_0_0 N m x0 x1 x2 (fun y0 => k .ret [.v (.one (.fc (.sc (.bool y0))))] []) (fun y0 => k (.exit 0) [.v (.one (.fc (.sc (.string y0))))] [])) := by
  intro m
  induction m with
  | zero => exact (fun _ _ _ => rfl)
  | succ m ih =>
    have ih0 := ih
    refine (fun _ _ _ => ?_)
    · rw [st99_0_0]; simp only [ih0]; rfl
theorem lo99_0 (N : Nat) : LoopOk D.tab call99 (F99 N) (loopAt Tryz.f99 0) := by
  have h1 : (loopAt Tryz.f99 0).1 = 0 := by kernel_rfl
  intro L hL vs os k r h
  rw [h1] at hL h ⊢
  have hL' : L = K99_0 := by
    have e : (F99 N).lk 0 = some K99_0 := rfl
    rw [e] at hL; cases hL; rfl
  subst hL'
  have h2 : lp99_0 N vs os k = some r := h
  unfold lp99_0 at h2
  split at h2
  · exact ⟨N, ((eq99_0 N k N) _ _ _).trans h2⟩
  · cases h2
theorem main99 (N : Nat) (s : ByteArray) : evF D.tab call99 (F99 N) Tryz.f99 [.one (.sc (.string s))] = T99 N s := by kernel_rfl
theorem loops99 (N : Nat) : ∀ c, Tryz.f99.body = some c → ∀ p ∈ loopsOf 0 c, LoopOk D.tab call99 (F99 N) p := by
  intro c hc
  have e : c = bodyOf Tryz.f99 := by unfold bodyOf; rw [hc]
  subst e
  have e2 : loopsOf 0 (bodyOf Tryz.f99) = [loopAt Tryz.f99 0, loopAt Tryz.f99 1] := by kernel_rfl
  rw [e2]
  intro p hp
  simp only [List.mem_cons, List.not_mem_nil, or_false] at hp
  rcases hp with rfl | rfl
  · exact lo99_0 N
  · exact lo99_2 N
theorem con99 (hC : CallOk P D.tab call99) (pl : ∀ (s : ByteArray) res, (m99 [.one (.sc (.string s))]).val = some res → ∃ N, T99 N s = some res) :
    ∀ avs res, (m99 avs).val = some res → Con P D.tab 99 avs res := by
  intro avs res h
  have h0 := h
  unfold m99 at h0
  split at h0
  · obtain ⟨N, hN⟩ := pl _ res h
    exact con_of_ev tabOk hC (f := 99) (fn := Tryz.f99) (by kernel_rfl) (F99 N) (loops99 N) (by rw [show Tryz.f99.ntmps = 66 from by kernel_rfl]; simp) ((main99 N _).trans hN)
  · cases h0
theorem ent99 : Iv.Enters P 99 := ⟨Tryz.f99, by kernel_rfl, by kernel_rfl, by kernel_rfl⟩
noncomputable def call166 : CallT := ((noCall.add 80 m80).add 131 m131v1)
def F166 (N : Nat) : FnK RV where
  N := 12
  lk := fun _ => none
  lp := fun _ _ _ _ => none
theorem main166 (N : Nat) (s : ByteArray) : evF D.tab call166 (F166 N) Tryz.f166 [.one (.sc (.string s))] = T166 N s := by kernel_rfl
theorem loops166 (N : Nat) : ∀ c, Tryz.f166.body = some c → ∀ p ∈ loopsOf 0 c, LoopOk D.tab call166 (F166 N) p := by
  intro c hc
  have e : c = bodyOf Tryz.f166 := by unfold bodyOf; rw [hc]
  subst e
  have e2 : loopsOf 0 (bodyOf Tryz.f166) = [] := by kernel_rfl
  rw [e2]
  intro p hp
  cases hp
theorem con166 (hC : CallOk P D.tab call166) (pl : ∀ (s : ByteArray) res, (m166 [.one (.sc (.string s))]).val = some res → ∃ N, T166 N s = some res) :
    ∀ avs res, (m166 avs).val = some res → Con P D.tab 166 avs res := by
  intro avs res h
  have h0 := h
  unfold m166 at h0
  split at h0
  · obtain ⟨N, hN⟩ := pl _ res h
    exact con_of_ev tabOk hC (f := 166) (fn := Tryz.f166) (by kernel_rfl) (F166 N) (loops166 N) (by rw [show Tryz.f166.ntmps = 12 from by kernel_rfl]; simp) ((main166 N _).trans hN)
  · cases h0
theorem ent166 : Iv.Enters P 166 := ⟨Tryz.f166, by kernel_rfl, by kernel_rfl, by kernel_rfl⟩
noncomputable def call216 : CallT := ((noCall.add 83 m83).add 285 m285)
def K216_0 : LoopK := { hs := [0, 3, 4], ho := [1006], ex := [(0, [0], [])], rs := [2], ro := [] }
def lp216_0 {R : Type} (N : Nat) (vs : List IV) (os : List (Option Ob)) (k : Exit → List IV → List (Option Ob) → Option R) : Option R :=
  match vs, os with
  | [.v (.one (.fc (.sc (.string x0)))), .v (.one (.hdr 1006)), .v (.one (.fc (.sc (.int .i64 x1))))], [some (.rows .str 9 x2)] => L216_0_0 N x0 x1 x2 (fun y0 => k .ret [.v (.one (.fc (.sc (.bool y0))))] []) (fun y0 => k (.exit 0) [.v (.one (.fc (.sc (.string y0))))] [])
  | _, _ => none
def F216 (N : Nat) : FnK RV where
  N := 22
  lk := fun b => bif Nat.beq b 0 then some K216_0 else none
  lp := fun b vs os k => bif Nat.beq b 0 then lp216_0 N vs os k else none
noncomputable def ev216_0 (N m : Nat) (vs : List IV) (os : List (Option Ob)) (k : Exit → List IV → List (Option Ob) → Option RV) : Option RV :=
  evLoop 22 K216_0 (fun σ k' => evC D.tab call216 (F216 N) 0 (loopAt Tryz.f216 0).2 σ k') m vs os k
theorem st216_0_0 (N m : Nat) (x0 : ByteArray) (x1 : Int) (x2 : List ByteArray) (k : Exit → List IV → List (Option Ob) → Option RV) :
    ev216_0 N (m + 1) [.v (.one (.fc (.sc (.string x0)))), .v (.one (.hdr 1006)), .v (.one (.fc (.sc (.int .i64 x1))))] [some (.rows .str 9 x2)] k =
    (bif (decide (x1 < ((x2).length : Int))) then
    (bif (inb x1 (x2).length) then
      (bif (decide (((((x2).getD (x1).toNat (⟨#[]⟩ : ByteArray))).size : Int) ≤ 2147483648)) then
        (bif (!(atomValid ((x2).getD (x1).toNat (⟨#[]⟩ : ByteArray)))) then
          (k .ret [.v (.one (.fc (.sc (.bool false))))] [])
          else
          (ev216_0 N m [.v (.one (.fc (.sc (.string x0)))), .v (.one (.hdr 1006)), .v (.one (.fc (.sc (.int .i64 (IntKind.i64.wrap (x1 + (1 : Int)))))))] [some (.rows .str 9 x2)] k))
        else none)
      else none)
    else
    (k (.exit 0) [.v (.one (.fc (.sc (.string x0))))] [])) := by kernel_rfl
theorem eq216_0 (N : Nat) (k : Exit → List IV → List (Option Ob) → Option RV) : ∀ m : Nat,
    (∀ (x0 : ByteArray) (x1 : Int) (x2 : List ByteArray), ev216_0 N m [.v (.one (.fc (.sc (.string x0)))), .v (.one (.hdr 1006)), .v (.one (.fc (.sc (.int .i64 x1))))] [some (.rows .str 9 x2)] k = L216_0_0 m x0 x1 x2 (fun y0 => k .ret [.v (.one (.fc (.sc (.bool y0))))] []) (fun y0 => k (.exit 0) [.v (.one (.fc (.sc (.string y0))))] [])) := by
  intro m
  induction m with
  | zero => exact (fun _ _ _ => rfl)
  | succ m ih =>
    have ih0 := ih
    refine (fun _ _ _ => ?_)
    · rw [st216_0_0]; simp only [ih0]; rfl
theorem lo216_0 (N : Nat) : LoopOk D.tab call216 (F216 N) (loopAt Tryz.f216 0) := by
  have h1 : (loopAt Tryz.f216 0).1 = 0 := by kernel_rfl
  intro L hL vs os k r h
  rw [h1] at hL h ⊢
  have hL' : L = K216_0 := by
    have e : (F216 N).lk 0 = some K216_0 := rfl
    rw [e] at hL; cases hL; rfl
  subst hL'
  have h2 : lp216_0 N vs os k = some r := h
  unfold lp216_0 at h2
  split at h2
  · exact ⟨N, ((eq216_0 N k N) _ _ _).trans h2⟩
  · cases h2
theorem main216 (N : Nat) (s : ByteArray) : evF D.tab call216 (F216 N) Tryz.f216 [.one (.sc (.string s))] = T216 N s := by kernel_rfl
theorem loops216 (N : Nat) : ∀ c, Tryz.f216.body = some c → ∀ p ∈ loopsOf 0 c, LoopOk D.tab call216 (F216 N) p := by
  intro c hc
  have e : c = bodyOf Tryz.f216 := by unfold bodyOf; rw [hc]
  subst e
  have e2 : loopsOf 0 (bodyOf Tryz.f216) = [loopAt Tryz.f216 0] := by kernel_rfl
  rw [e2]
  intro p hp
  simp only [List.mem_cons, List.not_mem_nil, or_false] at hp
  rcases hp with rfl
  · exact lo216_0 N
theorem con216 (hC : CallOk P D.tab call216) (pl : ∀ (s : ByteArray) res, (m216 [.one (.sc (.string s))]).val = some res → ∃ N, T216 N s = some res) :
    ∀ avs res, (m216 avs).val = some res → Con P D.tab 216 avs res := by
  intro avs res h
  have h0 := h
  unfold m216 at h0
  split at h0
  · obtain ⟨N, hN⟩ := pl _ res h
    exact con_of_ev tabOk hC (f := 216) (fn := Tryz.f216) (by kernel_rfl) (F216 N) (loops216 N) (by rw [show Tryz.f216.ntmps = 22 from by kernel_rfl]; simp) ((main216 N _).trans hN)
  · cases h0
theorem ent216 : Iv.Enters P 216 := ⟨Tryz.f216, by kernel_rfl, by kernel_rfl, by kernel_rfl⟩
noncomputable def call71 : CallT := (((noCall.add 94 m94).add 153 m153).add 166 m166)
def F71 (N : Nat) : FnK RV where
  N := 21
  lk := fun _ => none
  lp := fun _ _ _ _ => none
theorem main71 (N : Nat) (s : ByteArray) : evF D.tab call71 (F71 N) Tryz.f71 [.one (.sc (.string s))] = T71 N s := by kernel_rfl
theorem loops71 (N : Nat) : ∀ c, Tryz.f71.body = some c → ∀ p ∈ loopsOf 0 c, LoopOk D.tab call71 (F71 N) p := by
  intro c hc
  have e : c = bodyOf Tryz.f71 := by unfold bodyOf; rw [hc]
  subst e
  have e2 : loopsOf 0 (bodyOf Tryz.f71) = [] := by kernel_rfl
  rw [e2]
  intro p hp
  cases hp
theorem con71 (hC : CallOk P D.tab call71) (pl : ∀ (s : ByteArray) res, (m71 [.one (.sc (.string s))]).val = some res → ∃ N, T71 N s = some res) :
    ∀ avs res, (m71 avs).val = some res → Con P D.tab 71 avs res := by
  intro avs res h
  have h0 := h
  unfold m71 at h0
  split at h0
  · obtain ⟨N, hN⟩ := pl _ res h
    exact con_of_ev tabOk hC (f := 71) (fn := Tryz.f71) (by kernel_rfl) (F71 N) (loops71 N) (by rw [show Tryz.f71.ntmps = 21 from by kernel_rfl]; simp) ((main71 N _).trans hN)
  · cases h0
theorem ent71 : Iv.Enters P 71 := ⟨Tryz.f71, by kernel_rfl, by kernel_rfl, by kernel_rfl⟩
noncomputable def call203 : CallT := (noCall.add 71 m71)
def F203 (N : Nat) : FnK RV where
  N := 9
  lk := fun _ => none
  lp := fun _ _ _ _ => none
theorem main203 (N : Nat) (s : ByteArray) : evF D.tab call203 (F203 N) Tryz.f203 [.one (.sc (.string s))] = T203 N s := by kernel_rfl
theorem loops203 (N : Nat) : ∀ c, Tryz.f203.body = some c → ∀ p ∈ loopsOf 0 c, LoopOk D.tab call203 (F203 N) p := by
  intro c hc
  have e : c = bodyOf Tryz.f203 := by unfold bodyOf; rw [hc]
  subst e
  have e2 : loopsOf 0 (bodyOf Tryz.f203) = [] := by kernel_rfl
  rw [e2]
  intro p hp
  cases hp
theorem con203 (hC : CallOk P D.tab call203) (pl : ∀ (s : ByteArray) res, (m203 [.one (.sc (.string s))]).val = some res → ∃ N, T203 N s = some res) :
    ∀ avs res, (m203 avs).val = some res → Con P D.tab 203 avs res := by
  intro avs res h
  have h0 := h
  unfold m203 at h0
  split at h0
  · obtain ⟨N, hN⟩ := pl _ res h
    exact con_of_ev tabOk hC (f := 203) (fn := Tryz.f203) (by kernel_rfl) (F203 N) (loops203 N) (by rw [show Tryz.f203.ntmps = 9 from by kernel_rfl]; simp) ((main203 N _).trans hN)
  · cases h0
theorem ent203 : Iv.Enters P 203 := ⟨Tryz.f203, by kernel_rfl, by kernel_rfl, by kernel_rfl⟩
noncomputable def call204 : CallT := (noCall.add 71 m71)
def F204 (N : Nat) : FnK RV where
  N := 6
  lk := fun _ => none
  lp := fun _ _ _ _ => none
theorem main204 (N : Nat) (s : ByteArray) : evF D.tab call204 (F204 N) Tryz.f204 [.one (.sc (.string s))] = T204 N s := by kernel_rfl
theorem loops204 (N : Nat) : ∀ c, Tryz.f204.body = some c → ∀ p ∈ loopsOf 0 c, LoopOk D.tab call204 (F204 N) p := by
  intro c hc
  have e : c = bodyOf Tryz.f204 := by unfold bodyOf; rw [hc]
  subst e
  have e2 : loopsOf 0 (bodyOf Tryz.f204) = [] := by kernel_rfl
  rw [e2]
  intro p hp
  cases hp
theorem con204 (hC : CallOk P D.tab call204) (pl : ∀ (s : ByteArray) res, (m204 [.one (.sc (.string s))]).val = some res → ∃ N, T204 N s = some res) :
    ∀ avs res, (m204 avs).val = some res → Con P D.tab 204 avs res := by
  intro avs res h
  have h0 := h
  unfold m204 at h0
  split at h0
  · obtain ⟨N, hN⟩ := pl _ res h
    exact con_of_ev tabOk hC (f := 204) (fn := Tryz.f204) (by kernel_rfl) (F204 N) (loops204 N) (by rw [show Tryz.f204.ntmps = 6 from by kernel_rfl]; simp) ((main204 N _).trans hN)
  · cases h0
theorem ent204 : Iv.Enters P 204 := ⟨Tryz.f204, by kernel_rfl, by kernel_rfl, by kernel_rfl⟩
noncomputable def call205 : CallT := (noCall.add 131 m131v3)
def F205 (N : Nat) : FnK RV where
  N := 14
  lk := fun _ => none
  lp := fun _ _ _ _ => none
theorem main205 (N : Nat) (xs : List ByteArray) (n : Int) : evF D.tab call205 (F205 N) Tryz.f205 [.one (.list .str xs), .one (.sc (.int .i64 n))] = T205 N xs n := by kernel_rfl
theorem loops205 (N : Nat) : ∀ c, Tryz.f205.body = some c → ∀ p ∈ loopsOf 0 c, LoopOk D.tab call205 (F205 N) p := by
  intro c hc
  have e : c = bodyOf Tryz.f205 := by unfold bodyOf; rw [hc]
  subst e
  have e2 : loopsOf 0 (bodyOf Tryz.f205) = [] := by kernel_rfl
  rw [e2]
  intro p hp
  cases hp
theorem con205 (hC : CallOk P D.tab call205) (pl : ∀ (xs : List ByteArray) (n : Int) res, (m205 [.one (.list .str xs), .one (.sc (.int .i64 n))]).val = some res → ∃ N, T205 N xs n = some res) :
    ∀ avs res, (m205 avs).val = some res → Con P D.tab 205 avs res := by
  intro avs res h
  have h0 := h
  unfold m205 at h0
  split at h0
  · obtain ⟨N, hN⟩ := pl _ _ res h
    exact con_of_ev tabOk hC (f := 205) (fn := Tryz.f205) (by kernel_rfl) (F205 N) (loops205 N) (by rw [show Tryz.f205.ntmps = 14 from by kernel_rfl]; simp) ((main205 N _ _).trans hN)
  · cases h0
theorem ent205 : Iv.Enters P 205 := ⟨Tryz.f205, by kernel_rfl, by kernel_rfl, by kernel_rfl⟩
noncomputable def call231 : CallT := noCall
def K231_0 : LoopK := { hs := [0, 6, 7], ho := [], ex := [(0, [], [])], rs := [4, 5], ro := [] }
def lp231_0 {R : Type} (N : Nat) (vs : List IV) (os : List (Option Ob)) (k : Exit → List IV → List (Option Ob) → Option R) : Option R :=
  match vs, os with
  | [.v (.one (.fc (.sc (.string x0)))), .v (.one (.fc (.sc (.string x1)))), .v (.one (.fc (.sc (.int .i64 x2))))], [] => L231_0_0 N x0 x1 x2 (fun y0 y1 => k .ret [.v (.one (.fc (.sc (.string y0)))), .v (.one (.fc (.sc (.int .i64 y1))))] []) (fun _ => k (.exit 0) [] [])
  | _, _ => none
def F231 (N : Nat) : FnK RV where
  N := 40
  lk := fun b => bif Nat.beq b 0 then some K231_0 else none
  lp := fun b vs os k => bif Nat.beq b 0 then lp231_0 N vs os k else none
noncomputable def ev231_0 (N m : Nat) (vs : List IV) (os : List (Option Ob)) (k : Exit → List IV → List (Option Ob) → Option RV) : Option RV :=
  evLoop 40 K231_0 (fun σ k' => evC D.tab call231 (F231 N) 0 (loopAt Tryz.f231 0).2 σ k') m vs os k
theorem st231_0_0 (N m : Nat) (x0 : ByteArray) (x1 : ByteArray) (x2 : Int) (k : Exit → List IV → List (Option Ob) → Option RV) :
    ev231_0 N (m + 1) [.v (.one (.fc (.sc (.string x0)))), .v (.one (.fc (.sc (.string x1)))), .v (.one (.fc (.sc (.int .i64 x2))))] [] k =
    (bif (decide (x2 < ((x0).size : Int))) then
    (bif (inb x2 (x0).size) then
      (bif ((bt x0 x2) == (34 : Int)) then
        (k .ret [.v (.one (.fc (.sc (.string x1)))), .v (.one (.fc (.sc (.int .i64 (IntKind.i64.wrap (x2 + (1 : Int)))))))] [])
        else
        (bif (inb x2 (x0).size) then
          (bif ((bt x0 x2) == (92 : Int)) then
            (bif ((IntKind.i64.wrap (x2 + (1 : Int))) == ((x0).size : Int)) then
              (k .ret [.v (.one (.fc (.sc (.string (⟨#[]⟩ : ByteArray))))), .v (.one (.fc (.sc (.int .i64 (-1 : Int)))))] [])
              else
              (bif (cutOk (x0).size (some (IntKind.i64.wrap (x2 + (1 : Int)))) (some (IntKind.i64.wrap ((IntKind.i64.wrap (x2 + (1 : Int))) + (1 : Int))))) then
                (bif (Nat.ble (x1.size + (cutS x0 (some (IntKind.i64.wrap (x2 + (1 : Int)))) (some (IntKind.i64.wrap ((IntKind.i64.wrap (x2 + (1 : Int))) + (1 : Int))))).size) 9223372036854775807) then
                  (ev231_0 N m [.v (.one (.fc (.sc (.string x0)))), .v (.one (.fc (.sc (.string (x1 ++ (cutS x0 (some (IntKind.i64.wrap (x2 + (1 : Int)))) (some (IntKind.i64.wrap ((IntKind.i64.wrap (x2 + (1 : Int))) + (1 : Int)))))))))), .v (.one (.fc (.sc (.int .i64 (IntKind.i64.wrap ((IntKind.i64.wrap (x2 + (1 : Int))) + (1 : Int)))))))] [] k)
                  else none)
                else none))
            else
            (bif (cutOk (x0).size (some x2) (some (IntKind.i64.wrap (x2 + (1 : Int))))) then
              (bif (Nat.ble (x1.size + (cutS x0 (some x2) (some (IntKind.i64.wrap (x2 + (1 : Int))))).size) 9223372036854775807) then
                (ev231_0 N m [.v (.one (.fc (.sc (.string x0)))), .v (.one (.fc (.sc (.string (x1 ++ (cutS x0 (some x2) (some (IntKind.i64.wrap (x2 + (1 : Int)))))))))), .v (.one (.fc (.sc (.int .i64 (IntKind.i64.wrap (x2 + (1 : Int)))))))] [] k)
                else none)
              else none))
          else none))
      else none)
    else
    (k (.exit 0) [] [])) := by kernel_rfl
theorem eq231_0 (N : Nat) (k : Exit → List IV → List (Option Ob) → Option RV) : ∀ m : Nat,
    (∀ (x0 : ByteArray) (x1 : ByteArray) (x2 : Int), ev231_0 N m [.v (.one (.fc (.sc (.string x0)))), .v (.one (.fc (.sc (.string x1)))), .v (.one (.fc (.sc (.int .i64 x2))))] [] k = L231_0_0 m x0 x1 x2 (fun y0 y1 => k .ret [.v (.one (.fc (.sc (.string y0)))), .v (.one (.fc (.sc (.int .i64 y1))))] []) (fun _ => k (.exit 0) [] [])) := by
  intro m
  induction m with
  | zero => exact (fun _ _ _ => rfl)
  | succ m ih =>
    have ih0 := ih
    refine (fun _ _ _ => ?_)
    · rw [st231_0_0]; simp only [ih0]; rfl
theorem lo231_0 (N : Nat) : LoopOk D.tab call231 (F231 N) (loopAt Tryz.f231 0) := by
  have h1 : (loopAt Tryz.f231 0).1 = 0 := by kernel_rfl
  intro L hL vs os k r h
  rw [h1] at hL h ⊢
  have hL' : L = K231_0 := by
    have e : (F231 N).lk 0 = some K231_0 := rfl
    rw [e] at hL; cases hL; rfl
  subst hL'
  have h2 : lp231_0 N vs os k = some r := h
  unfold lp231_0 at h2
  split at h2
  · exact ⟨N, ((eq231_0 N k N) _ _ _).trans h2⟩
  · cases h2
theorem main231 (N : Nat) (s : ByteArray) (i : Int) : evF D.tab call231 (F231 N) Tryz.f231 [.one (.sc (.string s)), .one (.sc (.int .i64 i))] = T231 N s i := by kernel_rfl
theorem loops231 (N : Nat) : ∀ c, Tryz.f231.body = some c → ∀ p ∈ loopsOf 0 c, LoopOk D.tab call231 (F231 N) p := by
  intro c hc
  have e : c = bodyOf Tryz.f231 := by unfold bodyOf; rw [hc]
  subst e
  have e2 : loopsOf 0 (bodyOf Tryz.f231) = [loopAt Tryz.f231 0] := by kernel_rfl
  rw [e2]
  intro p hp
  simp only [List.mem_cons, List.not_mem_nil, or_false] at hp
  rcases hp with rfl
  · exact lo231_0 N
theorem con231 (hC : CallOk P D.tab call231) (pl : ∀ (s : ByteArray) (i : Int) res, (m231 [.one (.sc (.string s)), .one (.sc (.int .i64 i))]).val = some res → ∃ N, T231 N s i = some res) :
    ∀ avs res, (m231 avs).val = some res → Con P D.tab 231 avs res := by
  intro avs res h
  have h0 := h
  unfold m231 at h0
  split at h0
  · obtain ⟨N, hN⟩ := pl _ _ res h
    exact con_of_ev tabOk hC (f := 231) (fn := Tryz.f231) (by kernel_rfl) (F231 N) (loops231 N) (by rw [show Tryz.f231.ntmps = 40 from by kernel_rfl]; simp) ((main231 N _ _).trans hN)
  · cases h0
theorem ent231 : Iv.Enters P 231 := ⟨Tryz.f231, by kernel_rfl, by kernel_rfl, by kernel_rfl⟩
noncomputable def call144 : CallT := (noCall.add 231 m231)
def K144_0 : LoopK := { hs := [0, 1, 7], ho := [], ex := [(0, [0], [])], rs := [4, 5, 6], ro := [] }
def lp144_0 {R : Type} (N : Nat) (vs : List IV) (os : List (Option Ob)) (k : Exit → List IV → List (Option Ob) → Option R) : Option R :=
  match vs, os with
  | [.v (.one (.fc (.sc (.string x0)))), .v (.one (.fc (.sc (.int .u8 x1)))), .v (.one (.fc (.sc (.int .i64 x2))))], [] => L144_0_0 N x0 x1 x2 (fun y0 y1 y2 => k .ret [.v (.one (.fc (.sc (.string y0)))), .v (.one (.fc (.sc (.string y1)))), .v (.one (.fc (.sc (.bool y2))))] []) (fun y0 => k (.exit 0) [.v (.one (.fc (.sc (.string y0))))] [])
  | _, _ => none
def F144 (N : Nat) : FnK RV where
  N := 43
  lk := fun b => bif Nat.beq b 0 then some K144_0 else none
  lp := fun b vs os k => bif Nat.beq b 0 then lp144_0 N vs os k else none
noncomputable def ev144_0 (N m : Nat) (vs : List IV) (os : List (Option Ob)) (k : Exit → List IV → List (Option Ob) → Option RV) : Option RV :=
  evLoop 43 K144_0 (fun σ k' => evC D.tab call144 (F144 N) 0 (loopAt Tryz.f144 0).2 σ k') m vs os k
theorem st144_0_0 (N m : Nat) (x0 : ByteArray) (x1 : Int) (x2 : Int) (k : Exit → List IV → List (Option Ob) → Option RV) :
    ev144_0 N (m + 1) [.v (.one (.fc (.sc (.string x0)))), .v (.one (.fc (.sc (.int .u8 x1)))), .v (.one (.fc (.sc (.int .i64 x2))))] [] k =
    (bif (decide (x2 < ((x0).size : Int))) then
    (bif (inb x2 (x0).size) then
      (bif ((bt x0 x2) == (34 : Int)) then
        (bif (decide (((x0).size : Int) ≤ 2147483648) && decide (0 ≤ x2) && decide (x2 ≤ 2147483648)) then
          (bif (decide (((readQ x0 x2).2) < (0 : Int))) then
            (k .ret [.v (.one (.fc (.sc (.string x0)))), .v (.one (.fc (.sc (.string (⟨#[]⟩ : ByteArray))))), .v (.one (.fc (.sc (.bool false))))] [])
            else
            (ev144_0 N m [.v (.one (.fc (.sc (.string x0)))), .v (.one (.fc (.sc (.int .u8 x1)))), .v (.one (.fc (.sc (.int .i64 ((readQ x0 x2).2)))))] [] k))
          else none)
        else
        (bif (inb x2 (x0).size) then
          (bif ((bt x0 x2) == x1) then
            (bif (cutOk (x0).size none (some x2)) then
              (bif (cutOk (x0).size (some (IntKind.i64.wrap (x2 + (1 : Int)))) none) then
                (k .ret [.v (.one (.fc (.sc (.string (cutS x0 none (some x2)))))), .v (.one (.fc (.sc (.string (cutS x0 (some (IntKind.i64.wrap (x2 + (1 : Int)))) none))))), .v (.one (.fc (.sc (.bool true))))] [])
                else none)
              else none)
            else
            (ev144_0 N m [.v (.one (.fc (.sc (.string x0)))), .v (.one (.fc (.sc (.int .u8 x1)))), .v (.one (.fc (.sc (.int .i64 (IntKind.i64.wrap (x2 + (1 : Int)))))))] [] k))
          else none))
      else none)
    else
    (k (.exit 0) [.v (.one (.fc (.sc (.string x0))))] [])) := by kernel_rfl
theorem eq144_0 (N : Nat) (k : Exit → List IV → List (Option Ob) → Option RV) : ∀ m : Nat,
    (∀ (x0 : ByteArray) (x1 : Int) (x2 : Int), ev144_0 N m [.v (.one (.fc (.sc (.string x0)))), .v (.one (.fc (.sc (.int .u8 x1)))), .v (.one (.fc (.sc (.int .i64 x2))))] [] k = L144_0_0 m x0 x1 x2 (fun y0 y1 y2 => k .ret [.v (.one (.fc (.sc (.string y0)))), .v (.one (.fc (.sc (.string y1)))), .v (.one (.fc (.sc (.bool y2))))] []) (fun y0 => k (.exit 0) [.v (.one (.fc (.sc (.string y0))))] [])) := by
  intro m
  induction m with
  | zero => exact (fun _ _ _ => rfl)
  | succ m ih =>
    have ih0 := ih
    refine (fun _ _ _ => ?_)
    · rw [st144_0_0]; simp only [ih0]; rfl
theorem lo144_0 (N : Nat) : LoopOk D.tab call144 (F144 N) (loopAt Tryz.f144 0) := by
  have h1 : (loopAt Tryz.f144 0).1 = 0 := by kernel_rfl
  intro L hL vs os k r h
  rw [h1] at hL h ⊢
  have hL' : L = K144_0 := by
    have e : (F144 N).lk 0 = some K144_0 := rfl
    rw [e] at hL; cases hL; rfl
  subst hL'
  have h2 : lp144_0 N vs os k = some r := h
  unfold lp144_0 at h2
  split at h2
  · exact ⟨N, ((eq144_0 N k N) _ _ _).trans h2⟩
  · cases h2
theorem main144 (N : Nat) (s : ByteArray) (c : Int) : evF D.tab call144 (F144 N) Tryz.f144 [.one (.sc (.string s)), .one (.sc (.int .u8 c))] = T144 N s c := by kernel_rfl
theorem loops144 (N : Nat) : ∀ c, Tryz.f144.body = some c → ∀ p ∈ loopsOf 0 c, LoopOk D.tab call144 (F144 N) p := by
  intro c hc
  have e : c = bodyOf Tryz.f144 := by unfold bodyOf; rw [hc]
  subst e
  have e2 : loopsOf 0 (bodyOf Tryz.f144) = [loopAt Tryz.f144 0] := by kernel_rfl
  rw [e2]
  intro p hp
  simp only [List.mem_cons, List.not_mem_nil, or_false] at hp
  rcases hp with rfl
  · exact lo144_0 N
theorem con144 (hC : CallOk P D.tab call144) (pl : ∀ (s : ByteArray) (c : Int) res, (m144 [.one (.sc (.string s)), .one (.sc (.int .u8 c))]).val = some res → ∃ N, T144 N s c = some res) :
    ∀ avs res, (m144 avs).val = some res → Con P D.tab 144 avs res := by
  intro avs res h
  have h0 := h
  unfold m144 at h0
  split at h0
  · obtain ⟨N, hN⟩ := pl _ _ res h
    exact con_of_ev tabOk hC (f := 144) (fn := Tryz.f144) (by kernel_rfl) (F144 N) (loops144 N) (by rw [show Tryz.f144.ntmps = 43 from by kernel_rfl]; simp) ((main144 N _ _).trans hN)
  · cases h0
theorem ent144 : Iv.Enters P 144 := ⟨Tryz.f144, by kernel_rfl, by kernel_rfl, by kernel_rfl⟩
end Go.Proofs.YtpdmeafoofkpaaaGreatDoor
