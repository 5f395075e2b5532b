/- Texts of this proof, joined: Iv1 Iv2 Iv3 Iv4 Iv5. -/
import Derived.Below
import Derived.Laws.AppendOwn
import Derived.Laws.OwnMore
import Derived.Laws.MakeOwn
import Derived.Lib.ConvBytes
import Derived.Laws.BytesArg
import Derived.WalkSpells
import Derived.Orders
set_option linter.unusedVariables false
set_option linter.unusedSimpArgs false
/- The ideal values of the evaluator, and what it means that a value of the model stands for one. -/
namespace Go.Iv

structure Mail where
  frm : ByteArray
  to : List ByteArray
  lines : List ByteArray
structure Box where
  path : ByteArray
  mails : List Mail
structure Adr where
  name : ByteArray
  loc : ByteArray
  dom : ByteArray
structure Fld where
  name : ByteArray
  val : ByteArray

/-- What the elements of a slice are. -/
inductive Ty where
  | str | int (k : IntKind) | mail | box | adr | fld

@[reducible] def Ty.Den : Ty → Type
  | .str => ByteArray
  | .int _ => Int
  | .mail => Mail
  | .box => Box
  | .adr => Adr
  | .fld => Fld

@[reducible] def Ty.dflt : (t : Ty) → t.Den
  | .str => ⟨#[]⟩
  | .int _ => (0 : Int)
  | .mail => ⟨⟨#[]⟩, [], []⟩
  | .box => ⟨⟨#[]⟩, []⟩
  | .adr => ⟨⟨#[]⟩, ⟨#[]⟩, ⟨#[]⟩⟩
  | .fld => ⟨⟨#[]⟩, ⟨#[]⟩⟩

@[reducible] def Ty.size : Ty → Nat
  | .str => 1
  | .int _ => 1
  | .mail => 3
  | .box => 2
  | .adr => 3
  | .fld => 2

/-- A cell that never turns. -/
inductive FC where
  | sc (v : Value)
  | list (t : Ty) (xs : List t.Den)

def enc : (t : Ty) → t.Den → List FC
  | .str, s => [.sc (.string s)]
  | .int k, n => [.sc (.int k n)]
  | .mail, m => [.sc (.string m.frm), .list .str m.to, .list .str m.lines]
  | .box, b => [.sc (.string b.path), .list .mail b.mails]
  | .adr, a => [.sc (.string a.name), .sc (.string a.loc), .sc (.string a.dom)]
  | .fld, f => [.sc (.string f.name), .sc (.string f.val)]

/-- nil stands for the empty list where a list is wanted. -/
def asList : (t : Ty) → FC → Option (List t.Den)
  | .str, .list .str xs => some xs
  | .mail, .list .mail xs => some xs
  | .int .u8, .list (.int .u8) xs => some xs
  | .int .i64, .list (.int .i64) xs => some xs
  | .box, .list .box xs => some xs
  | .adr, .list .adr xs => some xs
  | .fld, .list .fld xs => some xs
  | _, .sc (.slice none 0 0) => some []
  | _, _ => none

def dec : (t : Ty) → List FC → Option t.Den
  | .str, [.sc (.string s)] => some s
  | .int .i64, [.sc (.int .i64 n)] => some n
  | .int .u8, [.sc (.int .u8 n)] => some n
  | .mail, [.sc (.string s), a, b] => match asList .str a, asList .str b with
    | some x, some y => some ⟨s, x, y⟩
    | _, _ => none
  | .box, [.sc (.string s), a] => match asList .mail a with
    | some x => some ⟨s, x⟩
    | _ => none
  | .adr, [.sc (.string a), .sc (.string b), .sc (.string c)] => some ⟨a, b, c⟩
  | .fld, [.sc (.string a), .sc (.string b)] => some ⟨a, b⟩
  | _, _ => none

/-- The value v is a slice whose elements read as xs, in blocks outside of F. -/
def RowIs {α : Type} (w : World) (F : Nat → Prop) (sz : Nat) (RE : List Value → α → Prop) (v : Value) (xs : List α) : Prop :=
  ∃ A cap, v = .slice A xs.length cap ∧ xs.length ≤ cap ∧
    ∀ i x, xs[i]? = some x → ∃ b off cs, A = some ⟨b, off, none⟩ ∧ ¬ F b ∧ cs.length = sz ∧
      (∀ j u, cs[j]? = some u → w.cell? ⟨b, off + (i * sz + j), none⟩ = some u) ∧ RE cs x

def reStr (cs : List Value) (s : ByteArray) : Prop := cs = [.string s]
def reInt (k : IntKind) (cs : List Value) (n : Int) : Prop := cs = [.int k n]
def reMail (w : World) (F : Nat → Prop) (cs : List Value) (m : Mail) : Prop :=
  ∃ a b, cs = [.string m.frm, a, b] ∧ RowIs w F 1 reStr a m.to ∧ RowIs w F 1 reStr b m.lines
def reBox (w : World) (F : Nat → Prop) (cs : List Value) (x : Box) : Prop :=
  ∃ a, cs = [.string x.path, a] ∧ RowIs w F 3 (reMail w F) a x.mails
def reAdr (cs : List Value) (x : Adr) : Prop := cs = [.string x.name, .string x.loc, .string x.dom]
def reFld (cs : List Value) (x : Fld) : Prop := cs = [.string x.name, .string x.val]

def RE (w : World) (F : Nat → Prop) : (t : Ty) → List Value → t.Den → Prop
  | .str => reStr
  | .int k => reInt k
  | .mail => reMail w F
  | .box => reBox w F
  | .adr => reAdr
  | .fld => reFld

def RepL (w : World) (F : Nat → Prop) (t : Ty) (v : Value) (xs : List t.Den) : Prop := RowIs w F t.size (RE w F t) v xs

def RepFC (w : World) (F : Nat → Prop) : FC → Value → Prop
  | .sc u, v => v = u
  | .list t xs, v => RepL w F t v xs

/-- What stands outside of F stays, and stays outside of F'. -/
def Stay (F : Nat → Prop) (w : World) (F' : Nat → Prop) (w' : World) : Prop :=
  ∀ b, b < w.heap.size → ¬ F b → w'.heap[b]? = w.heap[b]? ∧ ¬ F' b

theorem Stay.refl (F : Nat → Prop) (w : World) : Stay F w F w := fun _ _ h => ⟨rfl, h⟩
theorem Stay.less {F F' : Nat → Prop} {w : World} (h : ∀ b, b < w.heap.size → F' b → F b) : Stay F w F' w := fun b hb hn => ⟨rfl, fun h' => hn (h b hb h')⟩

theorem Stay.cell {F F' : Nat → Prop} {w w' : World} (h : Stay F w F' w') {a : Addr} {u : Value} (hF : ¬ F a.block) (hc : w.cell? a = some u) : w'.cell? a = some u := by
  have hlt := World.block_lt_of_cell? w a hc
  rw [World.cell?_of_block (h a.block hlt hF).1]
  exact hc

theorem RowIs.stay {α : Type} {w w' : World} {F F' : Nat → Prop} {sz : Nat} {R R' : List Value → α → Prop} {v : Value} {xs : List α}
    (hs : Stay F w F' w') (hsz : 0 < sz) (hR : ∀ cs x, R cs x → R' cs x) (h : RowIs w F sz R v xs) : RowIs w' F' sz R' v xs := by
  obtain ⟨A, cap, hv, hc, hx⟩ := h
  refine ⟨A, cap, hv, hc, fun i x hi => ?_⟩
  obtain ⟨b, off, cs, hA, hF, hl, hcell, hr⟩ := hx i x hi
  have h0 : ∃ u, cs[0]? = some u := ⟨cs[0]'(by omega), by rw [List.getElem?_eq_getElem]⟩
  obtain ⟨u, hu⟩ := h0
  have hlt := World.block_lt_of_cell? w _ (hcell 0 u hu)
  exact ⟨b, off, cs, hA, (hs b hlt hF).2, hl, fun j u hj => hs.cell (a := ⟨b, off + (i * sz + j), none⟩) hF (hcell j u hj), hR _ _ hr⟩

theorem RE.stay {w w' : World} {F F' : Nat → Prop} (hs : Stay F w F' w') : ∀ (t : Ty) (cs : List Value) (x : t.Den), RE w F t cs x → RE w' F' t cs x
  | .str, _, _, h => h
  | .int _, _, _, h => h
  | .adr, _, _, h => h
  | .fld, _, _, h => h
  | .mail, _, _, ⟨a, b, hc, h1, h2⟩ => ⟨a, b, hc, h1.stay hs (by decide) (fun _ _ h => h), h2.stay hs (by decide) (fun _ _ h => h)⟩
  | .box, _, _, ⟨a, hc, h1⟩ => ⟨a, hc, h1.stay hs (by decide) fun _ _ ⟨a, b, hc, h1, h2⟩ => ⟨a, b, hc, h1.stay hs (by decide) (fun _ _ h => h), h2.stay hs (by decide) (fun _ _ h => h)⟩⟩

theorem Ty.size_pos (t : Ty) : 0 < t.size := by cases t <;> exact Nat.succ_pos _

theorem RepL.stay {w w' : World} {F F' : Nat → Prop} (hs : Stay F w F' w') {t : Ty} {v : Value} {xs : List t.Den} (h : RepL w F t v xs) : RepL w' F' t v xs :=
  RowIs.stay hs t.size_pos (RE.stay hs t) h

theorem RepFC.stay {w w' : World} {F F' : Nat → Prop} (hs : Stay F w F' w') : ∀ {c : FC} {v : Value}, RepFC w F c v → RepFC w' F' c v
  | .sc _, _, h => h
  | .list _ _, _, h => RepL.stay hs h

theorem RepL.nil (w : World) (F : Nat → Prop) (t : Ty) : RepL w F t (.slice none 0 0) [] :=
  ⟨none, 0, rfl, Nat.le_refl _, fun i x h => by simp at h⟩

/-- 'RepFC' of a row of cells. -/
def RepFCs (w : World) (F : Nat → Prop) (cs : List FC) (vs : List Value) : Prop := cs.length = vs.length ∧ ∀ (j : Nat) (c : FC) (u : Value), cs[j]? = some c → vs[j]? = some u → RepFC w F c u

theorem RepFCs.stay {w w' : World} {F F' : Nat → Prop} (hs : Stay F w F' w') {cs : List FC} {vs : List Value} (h : RepFCs w F cs vs) : RepFCs w' F' cs vs :=
  ⟨h.1, fun j c u hc hu => (h.2 j c u hc hu).stay hs⟩

theorem asList_rep {w : World} {F : Nat → Prop} (t : Ty) (c : FC) (xs : List t.Den) (v : Value) (h : asList t c = some xs) (hv : RepFC w F c v) : RepL w F t v xs := by
  unfold asList at h
  split at h <;> first
    | (cases h; exact hv)
    | (cases h; rw [show v = .slice none 0 0 from hv]; exact RepL.nil w F _)
    | cases h

/-- An element's own cells stand for it, and what stands for its cells is the element's. -/
theorem enc_of_RE {w : World} {F : Nat → Prop} : ∀ (t : Ty) (x : t.Den) (vs : List Value), RE w F t vs x → RepFCs w F (enc t x) vs := by
  intro t x vs h
  cases t with
  | str => cases h; exact ⟨rfl, fun j c u hc hu => by match j with | 0 => cases hc; cases hu; rfl | j + 1 => simp [enc] at hc⟩
  | int k => cases h; exact ⟨rfl, fun j c u hc hu => by match j with | 0 => cases hc; cases hu; rfl | j + 1 => simp [enc] at hc⟩
  | mail =>
    obtain ⟨a, b, rfl, h1, h2⟩ := h
    exact ⟨rfl, fun j c u hc hu => by match j with | 0 => cases hc; cases hu; rfl | 1 => cases hc; cases hu; exact h1 | 2 => cases hc; cases hu; exact h2 | j + 3 => simp [enc] at hc⟩
  | box =>
    obtain ⟨a, rfl, h1⟩ := h
    exact ⟨rfl, fun j c u hc hu => by match j with | 0 => cases hc; cases hu; rfl | 1 => cases hc; cases hu; exact h1 | j + 2 => simp [enc] at hc⟩
  | adr => cases h; exact ⟨rfl, fun j c u hc hu => by match j with | 0 => cases hc; cases hu; rfl | 1 => cases hc; cases hu; rfl | 2 => cases hc; cases hu; rfl | j + 3 => simp [enc] at hc⟩
  | fld => cases h; exact ⟨rfl, fun j c u hc hu => by match j with | 0 => cases hc; cases hu; rfl | 1 => cases hc; cases hu; rfl | j + 2 => simp [enc] at hc⟩

theorem RepFCs.at {w : World} {F : Nat → Prop} {cs : List FC} {vs : List Value} (h : RepFCs w F cs vs) (j : Nat) {c : FC} (hc : cs[j]? = some c) : ∃ u, vs[j]? = some u ∧ RepFC w F c u := by
  have hj : j < cs.length := (List.getElem?_eq_some_iff.1 hc).1
  have hj' : j < vs.length := h.1 ▸ hj
  exact ⟨vs[j], List.getElem?_eq_getElem hj', h.2 j c _ hc (List.getElem?_eq_getElem hj')⟩

theorem RE_of_dec {w : World} {F : Nat → Prop} (t : Ty) (cs : List FC) (x : t.Den) (vs : List Value) (h : dec t cs = some x) (hv : RepFCs w F cs vs) : RE w F t vs x := by
  obtain ⟨hl, hr⟩ := hv
  unfold dec at h
  split at h
  · cases h; match vs, hl with | [u], _ => have := hr 0 _ _ rfl rfl; simp only [RepFC] at this; subst this; rfl
  · cases h; match vs, hl with | [u], _ => have := hr 0 _ _ rfl rfl; simp only [RepFC] at this; subst this; rfl
  · cases h; match vs, hl with | [u], _ => have := hr 0 _ _ rfl rfl; simp only [RepFC] at this; subst this; rfl
  · rename_i s a b
    split at h
    · rename_i y z hy hz
      cases h
      match vs, hl with
      | [u0, u1, u2], _ =>
        have h0 := hr 0 _ _ rfl rfl; simp only [RepFC] at h0; subst h0
        exact ⟨u1, u2, rfl, asList_rep .str a y u1 hy (hr 1 _ _ rfl rfl), asList_rep .str b z u2 hz (hr 2 _ _ rfl rfl)⟩
    · cases h
  · rename_i s a
    split at h
    · rename_i y hy
      cases h
      match vs, hl with
      | [u0, u1], _ =>
        have h0 := hr 0 _ _ rfl rfl; simp only [RepFC] at h0; subst h0
        exact ⟨u1, rfl, asList_rep .mail a y u1 hy (hr 1 _ _ rfl rfl)⟩
    · cases h
  · cases h
    match vs, hl with
    | [u0, u1, u2], _ =>
      have h0 := hr 0 _ _ rfl rfl; have h1 := hr 1 _ _ rfl rfl; have h2 := hr 2 _ _ rfl rfl
      simp only [RepFC] at h0 h1 h2; subst h0; subst h1; subst h2; rfl
  · cases h
    match vs, hl with
    | [u0, u1], _ =>
      have h0 := hr 0 _ _ rfl rfl; have h1 := hr 1 _ _ rfl rfl
      simp only [RepFC] at h0 h1; subst h0; subst h1; rfl
  · cases h

end Go.Iv

/- The evaluator: what a function's code comes to on ideal values. -/
namespace Go.Iv

/-- One cell of a variable, of a result, or a slot's own value. -/
inductive Cell where
  | bot
  | fc (c : FC)
  | hdr (n : Nat)
  | ptr (n off : Nat)
  | ep (n i off : Nat)
  | lp (cs : List FC) (off : Nat)
inductive V1 where
  | one (c : Cell)
  | agg (cs : List Cell)
inductive IV where
  | v (x : V1)
  | tup (xs : List V1)
/-- A block that has a name: a variable, a row of the call's own, the bytes of a string. -/
inductive Ob where
  | cells (cs : List Cell)
  | rows (t : Ty) (e : TypeId) (xs : List t.Den)
  | bytes (xs : List Int)
structure St where
  sl : List IV
  ob : List (Nat × Ob)

def botI : IV := .v (.one .bot)
/-- What an operation leaves that was not wanted. -/
def undI : IV := .tup []

def get : List (Nat × Ob) → Nat → Option Ob
  | [], _ => none
  | (m, o) :: r, n => if m = n then some o else get r n
def upd (n : Nat) (o : Ob) : List (Nat × Ob) → List (Nat × Ob)
  | [] => [(n, o)]
  | (m, p) :: r => if m = n then (m, o) :: r else (m, p) :: upd n o r
def del (p : Nat → Bool) : List (Nat × Ob) → List (Nat × Ob)
  | [] => []
  | (m, o) :: r => bif p m then del p r else (m, o) :: del p r

/-- Forget what leads to a block with a name that p picks. -/
def scC (p : Nat → Bool) : Cell → Cell
  | .hdr n => bif p n then .bot else .hdr n
  | .ptr n off => bif p n then .bot else .ptr n off
  | .ep n i off => bif p n then .bot else .ep n i off
  | c => c
def scV1 (p : Nat → Bool) : V1 → V1
  | .one c => .one (scC p c)
  | .agg cs => .agg (cs.map (scC p))
def scI (p : Nat → Bool) : IV → IV
  | .v x => .v (scV1 p x)
  | .tup xs => .tup (xs.map (scV1 p))
def scO (p : Nat → Bool) : Ob → Ob
  | .cells cs => .cells (cs.map (scC p))
  | o => o
def scrub (p : Nat → Bool) (σ : St) : St := { sl := σ.sl.map (scI p), ob := σ.ob.map fun x => (x.1, scO p x.2) }
/-- ... and the blocks themselves. -/
def drop (p : Nat → Bool) (σ : St) : St := scrub p { σ with ob := del p σ.ob }
def fresh (n : Nat) (σ : St) : St :=
  match get σ.ob n with
  | none => σ
  | some _ => drop (Nat.beq n) σ

/-- A row of the call's own turns into one that never turns again. -/
def frC (n : Nat) (t : Ty) (xs : List t.Den) : Cell → Cell
  | .hdr m => if n = m then .fc (.list t xs) else .hdr m
  | .ep m i off => if n = m then .lp (enc t (xs.getD i t.dflt)) off else .ep m i off
  | c => c
def frV1 (n : Nat) (t : Ty) (xs : List t.Den) : V1 → V1
  | .one c => .one (frC n t xs c)
  | .agg cs => .agg (cs.map (frC n t xs))
def frI (n : Nat) (t : Ty) (xs : List t.Den) : IV → IV
  | .v x => .v (frV1 n t xs x)
  | .tup ys => .tup (ys.map (frV1 n t xs))
def frO (n : Nat) (t : Ty) (xs : List t.Den) : Ob → Ob
  | .cells cs => .cells (cs.map (frC n t xs))
  | o => o
def frz (n : Nat) (σ : St) : St :=
  match get σ.ob n with
  | some (.rows t _ xs) => { sl := σ.sl.map (frI n t xs), ob := (del (Nat.beq n) σ.ob).map fun x => (x.1, frO n t xs x.2) }
  | some (.bytes _) => drop (Nat.beq n) σ
  | _ => σ

/-- What the evaluator must know of the types. -/
structure Tab where
  sl : TypeId → Option (Ty × TypeId)
  sz : TypeId → Option (Nat × Bool)
  zero : TypeId → Option (Bool × List Value)
  fld : TypeId → Nat → Option (Nat × Nat × Bool)
  arr : TypeId → Option (Nat × Nat)
  parm : TypeId → List (Option (Ty × TypeId))
  num : TypeId → Option IntKind
  isStr : TypeId → Bool
  isBool : TypeId → Bool
  glob : Nat → Option (List FC)
  /-- Variables of the program that hold some int. -/
  gi : List Nat

def cv : Value → IV
  | .agg arr => .v (.agg (arr.toList.map fun u => .fc (.sc u)))
  | .tuple _ => botI
  | v => .v (.one (.fc (.sc v)))

def opnd (T : Tab) (σ : St) : Operand → IV
  | .tmp t => σ.sl.getD t botI
  | .const v => cv v
  | .func f => .v (.one (.fc (.sc (.func (.func f) #[] #[]))))
  | .global g => match T.glob g with
    | some cs => .v (.one (.lp cs 0))
    | none => botI

def put (dst : Option Tmp) (x : IV) (σ : St) : St :=
  match dst with
  | none => σ
  | some d => { σ with sl := σ.sl.set d x }

def scOk : Value → Bool
  | .bool _ | .int .. | .string _ | .slice .. | .pointer _ | .func .. | .nilFunc => true
  | _ => false
def okC : Cell → Bool
  | .bot => false
  | .fc (.sc u) => scOk u
  | _ => true
def cellsOf : IV → Option (List Cell)
  | .v (.one c) => some [c]
  | .v (.agg cs) => some cs
  | .tup _ => none

section
variable {R : Type}

def req (c : Bool) (K : Option R) : Option R := bif c then K else none

def bitsI (k : IntKind) (f : BitVec k.bits → BitVec k.bits → BitVec k.bits) (a b : Int) : Int := k.wrap ((f (BitVec.ofInt k.bits a) (BitVec.ofInt k.bits b)).toNat : Int)
def evBin (op : BinOp) (x y : Value) (K : Value → Option R) : Option R :=
  match op, x, y with
  | .add, .int k a, .int k' b => if k = k' then K (.int k (k.wrap (a + b))) else none
  | .sub, .int k a, .int k' b => if k = k' then K (.int k (k.wrap (a - b))) else none
  | .mul, .int k a, .int k' b => if k = k' then K (.int k (k.wrap (a * b))) else none
  | .quo, .int k a, .int k' b => if k = k' then req (b != 0) (K (.int k (k.wrap (a.tdiv b)))) else none
  | .rem, .int k a, .int k' b => if k = k' then req (b != 0) (K (.int k (a.tmod b))) else none
  | .eql, .int k a, .int k' b => if k = k' then K (.bool (a == b)) else none
  | .neq, .int k a, .int k' b => if k = k' then K (.bool (a != b)) else none
  | .lss, .int k a, .int k' b => if k = k' then K (.bool (a < b)) else none
  | .leq, .int k a, .int k' b => if k = k' then K (.bool (a ≤ b)) else none
  | .gtr, .int k a, .int k' b => if k = k' then K (.bool (a > b)) else none
  | .geq, .int k a, .int k' b => if k = k' then K (.bool (a ≥ b)) else none
  | .add, .string a, .string b => req (Nat.ble (a.size + b.size) 9223372036854775807) (K (.string (a ++ b)))
  | .eql, .string a, .string b => K (.bool (a.toList == b.toList))
  | .neq, .string a, .string b => K (.bool !(a.toList == b.toList))
  | .lss, .string a, .string b => K (.bool (Op.bytesLess a.toList b.toList))
  | .geq, .string a, .string b => K (.bool !(Op.bytesLess a.toList b.toList))
  | .eql, .bool a, .bool b => K (.bool (a == b))
  | .neq, .bool a, .bool b => K (.bool !(a == b))
  | .and, .int k a, .int k' b => if k = k' then K (.int k (bitsI k (· &&& ·) a b)) else none
  | .or, .int k a, .int k' b => if k = k' then K (.int k (bitsI k (· ||| ·) a b)) else none
  | .xor, .int k a, .int k' b => if k = k' then K (.int k (bitsI k (· ^^^ ·) a b)) else none
  | .shl, .int k a, .int _ b => req (decide (0 ≤ b)) (K (.int k (k.wrap (a * 2 ^ min b.toNat k.bits))))
  | .shr, .int k a, .int _ b => req (decide (0 ≤ b)) (K (.int k (a.fdiv (2 ^ min b.toNat k.bits))))
  | _, _, _ => none

/-- The bytes of a string, by place. -/
def bt (s : ByteArray) (i : Int) : Int := ((s.data.toList.getD i.toNat 0).toNat : Int)

def allStr : List FC → Option (List ByteArray)
  | [] => some []
  | .sc (.string s) :: r => match allStr r with
    | some l => some (s :: l)
    | none => none
  | _ => none

/-- Write cells from a place on. -/
def splice (cs : List Cell) (off : Nat) (xs : List Cell) : List Cell := cs.take off ++ xs ++ cs.drop (off + xs.length)

def loadLp (cs : List FC) (off : Nat) (K : IV → Option R) : Option R :=
  match allStr cs with
  | some l => req (decide (off < l.length)) (K (.v (.one (.fc (.sc (.string (l.getD off ⟨#[]⟩)))))))
  | none => match cs[off]? with
    | some c => K (.v (.one (.fc c)))
    | none => none

def evLoad (T : Tab) (σ : St) (t : TypeId) (x : IV) (K : IV → Option R) : Option R :=
  match T.sz t, x with
  | some (sz, ag), .v (.one (.ptr n off)) => match get σ.ob n with
    | some (.cells cs) =>
      bif ag then (bif Nat.ble (off + sz) cs.length then K (.v (.agg ((cs.drop off).take sz))) else none)
      else match cs[off]? with
        | some c => K (.v (.one c))
        | none => none
    | _ => none
  | some (sz, ag), .v (.one (.ep n i off)) => match get σ.ob n with
    | some (.rows ty _ xs) =>
      bif ag then (bif Nat.ble (off + sz) ty.size then K (.v (.agg ((((enc ty (xs.getD i ty.dflt)).drop off).take sz).map .fc))) else none)
      else match (enc ty (xs.getD i ty.dflt))[off]? with
        | some c => K (.v (.one (.fc c)))
        | none => none
    | some (.bytes xs) => bif ag then none else bif Nat.beq off 0 then K (.v (.one (.fc (.sc (.int .u8 (xs.getD i 0)))))) else none
    | _ => none
  | some (sz, ag), .v (.one (.lp cs off)) =>
    bif ag then (bif Nat.ble (off + sz) cs.length then K (.v (.agg (((cs.drop off).take sz).map .fc))) else none)
    else loadLp cs off K
  | _, _ => none

/-- The cells of a value that is written into a row: what leads to a row of the call's own is turned first. -/
def hdrs : List Cell → List Nat
  | [] => []
  | .hdr n :: r => n :: hdrs r
  | _ :: r => hdrs r
def frzAll : List Nat → St → St
  | [], σ => σ
  | n :: r, σ => frzAll r (frz n σ)
def fcs : List Cell → Option (List FC)
  | [] => some []
  | .fc c :: r => match fcs r with
    | some l => some (c :: l)
    | none => none
  | _ :: _ => none
def hdrsI : IV → List Nat
  | .v (.one c) => hdrs [c]
  | .v (.agg cs) => hdrs cs
  | .tup _ => []

def evStore (T : Tab) (σ : St) (t : TypeId) (p : IV) (x : Operand) (K : St → Option R) : Option R :=
  match T.sz t, p with
  | some (sz, _), .v (.one (.ptr n off)) => match get σ.ob n, cellsOf (opnd T σ x) with
    | some (.cells cs), some ys =>
      bif Nat.beq ys.length sz && Nat.ble (off + sz) cs.length && ys.all okC then K { σ with ob := upd n (.cells (splice cs off ys)) σ.ob } else none
    | _, _ => none
  | some (sz, _), .v (.one (.ep n i off)) =>
    let σ' := frzAll (hdrsI (opnd T σ x)) σ
    match get σ'.ob n with
    | some (.rows ty e xs) => (match cellsOf (opnd T σ' x) with
      | none => none
      | some ys => match fcs ys with
        | some fs => bif Nat.beq ys.length sz && Nat.ble (off + sz) ty.size && ys.all okC then
            (match dec ty ((enc ty (xs.getD i ty.dflt)).take off ++ fs ++ (enc ty (xs.getD i ty.dflt)).drop (off + sz)) with
            | some z => K { σ' with ob := upd n (.rows ty e (xs.set i z)) σ'.ob }
            | none => none) else none
        | none => none)
    | some (.bytes xs) => (match opnd T σ' x with
      | .v (.one (.fc (.sc (.int .u8 b)))) => bif Nat.beq off 0 && Nat.beq sz 1 then K { σ' with ob := upd n (.bytes (xs.set i b)) σ'.ob } else none
      | _ => none)
    | _ => none
  | _, _ => none

def evFieldAddr (T : Tab) (s : TypeId) (f : Nat) (p : IV) (K : IV → Option R) : Option R :=
  match T.fld s f, p with
  | some (o, _, _), .v (.one (.ptr n off)) => K (.v (.one (.ptr n (off + o))))
  | some (o, _, _), .v (.one (.ep n i off)) => K (.v (.one (.ep n i (off + o))))
  | some (o, _, _), .v (.one (.lp cs off)) => K (.v (.one (.lp cs (off + o))))
  | _, _ => none

def evField (T : Tab) (s : TypeId) (f : Nat) (x : IV) (K : IV → Option R) : Option R :=
  match T.fld s f, x with
  | some (o, sz, ag), .v (.agg cs) =>
    bif ag then (bif Nat.ble (o + sz) cs.length then K (.v (.agg ((cs.drop o).take sz))) else none)
    else match cs[o]? with
      | some c => K (.v (.one c))
      | none => none
  | _, _ => none

def obLen : Ob → Option Nat
  | .rows _ _ xs => some xs.length
  | .bytes xs => some xs.length
  | .cells _ => none

def inb (i : Int) (n : Nat) : Bool := decide (0 ≤ i) && decide (i < (n : Int))

def evIndexAddr (T : Tab) (σ : St) (t : TypeId) (x : IV) (ix : IV) (K : IV → Option R) : Option R :=
  match ix with
  | .v (.one (.fc (.sc (.int _ i)))) => match x with
    | .v (.one (.hdr n)) => match T.sl t, get σ.ob n with
      | some (te, _), some (.rows ty _ xs) => bif Nat.beq te.size ty.size then req (inb i xs.length) (K (.v (.one (.ep n i.toNat 0)))) else none
      | some (te, _), some (.bytes xs) => bif Nat.beq te.size 1 then req (inb i xs.length) (K (.v (.one (.ep n i.toNat 0)))) else none
      | _, _ => none
    | .v (.one (.fc (.list ty xs))) => match T.sl t with
      | some (te, _) => bif Nat.beq te.size ty.size then req (inb i xs.length) (K (.v (.one (.lp (enc ty (xs.getD i.toNat ty.dflt)) 0)))) else none
      | none => none
    | .v (.one (.ptr n off)) => match T.arr t with
      | some (len, esz) => req (inb i len) (K (.v (.one (.ptr n (off + i.toNat * esz)))))
      | none => none
    | .v (.one (.lp cs off)) => match T.arr t with
      | some (len, esz) => req (inb i len) (K (.v (.one (.lp cs (off + i.toNat * esz)))))
      | none => none
    | _ => none
  | _ => none

def evIndex (T : Tab) (t : TypeId) (x : IV) (ix : IV) (K : IV → Option R) : Option R :=
  match ix with
  | .v (.one (.fc (.sc (.int _ i)))) => match x with
    | .v (.one (.fc (.sc (.string s)))) => bif T.isStr t then req (inb i s.size) (K (.v (.one (.fc (.sc (.int .u8 (bt s i))))))) else none
    | .v (.agg cs) => match T.arr t, fcs cs with
      | some (len, 1), some fs => match allStr fs with
        | some l => req (inb i len) (bif Nat.beq len l.length then K (.v (.one (.fc (.sc (.string (l.getD i.toNat ⟨#[]⟩)))))) else none)
        | none => none
      | _, _ => none
    | _ => none
  | _ => none

def nilV : IV → Bool
  | .v (.one (.fc (.sc (.slice none 0 0)))) => true
  | _ => false

def evLen (T : Tab) (σ : St) (t : TypeId) (x : IV) (K : IV → Option R) : Option R :=
  match x with
  | .v (.one (.fc (.sc (.string s)))) => bif T.isStr t then K (.v (.one (.fc (.sc (.int .i64 s.size))))) else none
  | .v (.one (.fc (.list _ xs))) => match T.sl t with
    | some _ => K (.v (.one (.fc (.sc (.int .i64 xs.length)))))
    | none => none
  | .v (.one (.hdr n)) => match T.sl t, get σ.ob n with
    | some _, some (.rows _ _ xs) => K (.v (.one (.fc (.sc (.int .i64 xs.length)))))
    | some _, some (.bytes xs) => K (.v (.one (.fc (.sc (.int .i64 xs.length)))))
    | _, _ => none
  | .v (.one (.fc (.sc (.slice none 0 0)))) => match T.sl t with
    | some _ => K (.v (.one (.fc (.sc (.int .i64 0)))))
    | none => none
  | _ => none

end
end Go.Iv

/- The evaluator, second part: slices that are made, calls, code. -/
namespace Go.Iv

/-- What a call hands back: rows that are the caller's own from now on ('buf'), and what never turns. -/
inductive RC where
  | fc (c : FC)
  | buf (t : Ty) (e : TypeId) (xs : List t.Den)
inductive R1 where
  | one (c : RC)
  | agg (cs : List RC)
inductive RV where
  | one (x : R1)
  | multi (xs : List R1)
/-- What a call comes to, as it hangs on what is not known. -/
inductive CT : Type 1 where
  | no
  | ret (x : RV)
  | br (c : Bool) (a b : CT)
  | opt {α : Type} (o : Option α) (f : α → CT)
def CT.val : CT → Option RV
  | .no => none
  | .ret x => some x
  | .br c a b => cond c a.val b.val
  | .opt o f => o.bind fun a => (f a).val
def CT.run {R : Type} : CT → (RV → Option R) → Option R
  | .no, _ => none
  | .ret x, K => K x
  | .br c a b, K => cond c (a.run K) (b.run K)
  | .opt o f, K => o.bind fun a => (f a).run K
theorem CT.run_val {R : Type} (t : CT) (K : RV → Option R) : t.run K = match t.val with
    | none => none
    | some x => K x := by
  induction t with
  | no => rfl
  | ret x => rfl
  | br c a b iha ihb => cases c with
    | true => exact iha
    | false => exact ihb
  | opt o f ih => cases o with
    | none => rfl
    | some a => exact ih a
/-- What a call is handed. -/
inductive AV where
  | one (c : FC)
  | agg (cs : List FC)

/-- The same for a call that is handed a pointer: what is behind it goes in and comes out. -/
inductive CTP : Type 1 where
  | no
  | ret (x : RV) (out : List RC)
  | br (c : Bool) (a b : CTP)
  | opt {α : Type} (o : Option α) (f : α → CTP)
def CTP.val : CTP → Option (RV × List RC)
  | .no => none
  | .ret x out => some (x, out)
  | .br c a b => cond c a.val b.val
  | .opt o f => o.bind fun a => (f a).val
def CTP.run {R : Type} : CTP → (RV → List RC → Option R) → Option R
  | .no, _ => none
  | .ret x out, K => K x out
  | .br c a b, K => cond c (a.run K) (b.run K)
  | .opt o f, K => o.bind fun a => (f a).run K
theorem CTP.run_val {R : Type} (t : CTP) (K : RV → List RC → Option R) : t.run K = match t.val with
    | none => none
    | some (x, out) => K x out := by
  induction t with
  | no => rfl
  | ret x out => rfl
  | br c a b iha ihb => cases c with
    | true => exact iha
    | false => exact ihb
  | opt o f ih => cases o with
    | none => rfl
    | some a => exact ih a
/-- A function that is given a row of the caller's own, as its first argument, and hands it back turned. -/
structure BufF where
  t : Ty
  e : TypeId
  f : List t.Den → List AV → Option (List t.Den)
  /-- Further arguments (by place behind the first) that must be rows of the caller's own. -/
  own : List Nat
/-- What is known of the functions that are called: 'p' are handed a pointer, 'n' hand back a pointer to a new variable, 'b' are given a row. -/
structure CallT where
  c : FuncId → List AV → CT
  p : FuncId → List RC → List AV → CTP
  n : FuncId → Option (List AV → Option (List FC))
  b : FuncId → Option BufF

def obList : (t : Ty) → TypeId → Ob → Option (List t.Den)
  | .str, e, .rows .str e' xs => if e = e' then some xs else none
  | .int .u8, e, .rows (.int .u8) e' xs => if e = e' then some xs else none
  | .int .i64, e, .rows (.int .i64) e' xs => if e = e' then some xs else none
  | .mail, e, .rows .mail e' xs => if e = e' then some xs else none
  | .box, e, .rows .box e' xs => if e = e' then some xs else none
  | .adr, e, .rows .adr e' xs => if e = e' then some xs else none
  | .fld, e, .rows .fld e' xs => if e = e' then some xs else none
  | _, _, _ => none

/-- A cell as a call sees it. -/
def view (ob : List (Nat × Ob)) (ty : Option (Ty × TypeId)) : Cell → Option FC
  | .fc (.sc (.slice none 0 0)) => match ty with
    | some (t, _) => some (.list t [])
    | none => some (.sc (.slice none 0 0))
  | .fc c => some c
  | .hdr n => match get ob n with
    | some (.rows t _ xs) => some (.list t xs)
    | some (.bytes xs) => some (.list (.int .u8) xs)
    | _ => none
  | _ => none
def views (ob : List (Nat × Ob)) : List (Option (Ty × TypeId)) → List Cell → Option (List FC)
  | [], [] => some []
  | ty :: tys, c :: cs => match view ob ty c, views ob tys cs with
    | some f, some fs => some (f :: fs)
    | _, _ => none
  | _, _ => none
def viewI (T : Tab) (ob : List (Nat × Ob)) (t : TypeId) : IV → Option AV
  | .v (.one c) => match T.parm t with
    | [ty] => match view ob ty c with
      | some f => some (.one f)
      | none => none
    | _ => none
  | .v (.agg cs) => match views ob (T.parm t) cs with
    | some fs => some (.agg fs)
    | none => none
  | .tup _ => none
def viewsI (T : Tab) (σ : St) : List TypeId → List Operand → Option (List AV)
  | [], [] => some []
  | t :: ts, x :: xs => match viewI T σ.ob t (opnd T σ x), viewsI T σ ts xs with
    | some a, some as => some (a :: as)
    | _, _ => none
  | _, _ => none

def nm (d j : Nat) : Nat := d + 1000 * (j + 1)
def ofCall (d n : Nat) : Bool := Nat.ble 1000 n && Nat.beq (n % 1000) d
def unC (d j : Nat) : RC → Cell
  | .fc c => .fc c
  | .buf _ _ _ => .hdr (nm d j)
def unCs (d : Nat) : Nat → List RC → List Cell
  | _, [] => []
  | j, c :: r => unC d j c :: unCs d (j + 1) r
def R1.cs : R1 → List RC
  | .one c => [c]
  | .agg cs => cs
def un1 (d j : Nat) : R1 → V1
  | .one c => .one (unC d j c)
  | .agg cs => .agg (unCs d j cs)
def unL (d : Nat) : Nat → List R1 → List V1
  | _, [] => []
  | j, x :: r => un1 d j x :: unL d (j + x.cs.length) r
def flat : List R1 → List RC
  | [] => []
  | x :: r => x.cs ++ flat r
def RV.flat : RV → List RC
  | .one x => x.cs
  | .multi xs => Iv.flat xs
def RV.un (d : Nat) : RV → IV
  | .one x => .v (un1 d 0 x)
  | .multi xs => .tup (unL d 0 xs)
def obs (d : Nat) : Nat → List RC → List (Nat × Ob)
  | _, [] => []
  | j, .fc _ :: r => obs d (j + 1) r
  | j, .buf t e xs :: r => (nm d j, .rows t e xs) :: obs d (j + 1) r
def RC.hl : RC → Bool
  | .fc (.list _ _) => true
  | .fc (.sc _) => false
  | .buf .mail _ _ => true
  | .buf .box _ _ => true
  | .buf _ _ _ => false

section
variable {R : Type}

def hasOf (d : Nat) : List (Nat × Ob) → Bool
  | [] => false
  | (n, _) :: r => ofCall d n || hasOf d r

def hdrsOps (T : Tab) (σ : St) : List Operand → List Nat
  | [] => []
  | x :: r => hdrsI (opnd T σ x) ++ hdrsOps T σ r

def evCall (T : Tab) (call : CallT) (σ : St) (dst : Option Tmp) (g : FuncId) (tys : List TypeId) (args : List Operand) (K : St → Option R) : Option R :=
  match viewsI T σ tys args with
  | none => none
  | some avs => (call.c g avs).run fun res => match dst with
    | none => K (bif res.flat.any RC.hl then frzAll (hdrsOps T σ args) σ else σ)
    | some d =>
      let σ1 := bif hasOf d σ.ob then drop (ofCall d) σ else σ
      let σ2 := bif res.flat.any RC.hl then frzAll (hdrsOps T σ args) σ1 else σ1
      bif Nat.blt d 1000 then K { sl := σ2.sl.set d (res.un d), ob := σ2.ob ++ obs d 0 res.flat } else none

/-- What a call takes over with a pointer: the contents. -/
def ptrC (ob : List (Nat × Ob)) : List Cell → Option (List RC)
  | [] => some []
  | .fc c :: r => match ptrC ob r with
    | some cs => some (.fc c :: cs)
    | none => none
  | .hdr m :: r => match get ob m, ptrC ob r with
    | some (.rows t e xs), some cs => some (.buf t e xs :: cs)
    | _, _ => none
  | _ :: _ => none
def apartN (a b : List Nat) : Bool := a.all fun n => b.all fun m => !Nat.beq n m
def nodupN : List Nat → Bool
  | [] => true
  | n :: r => apartN [n] r && nodupN r
def dlP (n : Nat) (cs : List Cell) : List Nat := hdrs cs ++ (List.range cs.length).map (nm n)
def preD (d : Tmp) (σ : St) : St := bif hasOf d σ.ob then drop (ofCall d) σ else σ
def evCallP1 (T : Tab) (call : CallT) (σ : St) (d : Tmp) (g : FuncId) (n : Nat) (tys : List TypeId) (args : List Operand) (K : St → Option R) : Option R :=
  match get σ.ob n with
  | some (.cells cs) => (match ptrC σ.ob cs, viewsI T σ tys args with
    | some ins, some avs => bif Nat.blt n 1000 && (Nat.blt d 1000 && (!Nat.beq d n && (nodupN (hdrs cs) && apartN (hdrsOps T σ args) (hdrs cs)))) then
        (call.p g ins avs).run fun res out =>
          let σ3 := drop (dlP n cs).contains (bif (out ++ res.flat).any RC.hl then frzAll (hdrsOps T σ args) σ else σ)
          bif Nat.beq out.length cs.length then
            K { sl := σ3.sl.set d (res.un d), ob := upd n (.cells (unCs n 0 out)) σ3.ob ++ (obs n 0 out ++ obs d 0 res.flat) } else none
      else none
    | _, _ => none)
  | _ => none
def evCallN (T : Tab) (σ : St) (d : Tmp) (f : List AV → Option (List FC)) (tys : List TypeId) (args : List Operand) (K : St → Option R) : Option R :=
  match viewsI T σ tys args with
  | none => none
  | some avs => match f avs with
    | none => none
    | some fs =>
      let σ1 := fresh d (frzAll (hdrsOps T σ args) σ)
      K { sl := σ1.sl.set d (.v (.one (.ptr d 0))), ob := upd d (.cells (fs.map .fc)) σ1.ob }
def ownOk (T : Tab) (σ : St) (args : List Operand) (l : List Nat) : Bool := l.all fun j => match args[j]? with
  | some x => (match opnd T σ x with
    | .v (.one (.hdr m)) => (match get σ.ob m with
      | some (.rows _ _ _) => true
      | _ => false)
    | _ => false)
  | none => false
def evCallB (T : Tab) (σ : St) (d : Tmp) (B : BufF) (n : Nat) (tys : List TypeId) (args : List Operand) (K : St → Option R) : Option R :=
  match get σ.ob n with
  | some o => (match obList B.t B.e o, viewsI T σ tys args with
    | some xs, some avs => bif apartN (hdrsOps T σ args) [n] && ownOk T σ args B.own then (B.f xs avs).bind fun ys =>
        let σ1 := scrub (Nat.beq n) (frzAll (hdrsOps T σ args) σ)
        K { sl := σ1.sl.set d (.v (.one (.hdr n))), ob := upd n (.rows B.t B.e ys) σ1.ob }
      else none
    | _, _ => none)
  | none => none
def isHdr : IV → Option Nat
  | .v (.one (.hdr n)) => some n
  | _ => none
def isPtr : IV → Option Nat
  | .v (.one (.ptr n 0)) => some n
  | _ => none
/-- A call, as its first argument and its table want it. -/
def evCalls (T : Tab) (call : CallT) (σ : St) (dst : Option Tmp) (g : FuncId) (tys : List TypeId) (args : List Operand) (K : St → Option R) : Option R :=
  match args, tys with
  | x :: xs, _ :: ts => (match isPtr (opnd T σ x) with
    | some _ => (match dst with
      | some d => (match isPtr (opnd T (preD d σ) x) with
        | some n => evCallP1 T call (preD d σ) d g n ts xs K
        | none => none)
      | none => none)
    | none => match call.b g, isHdr (opnd T σ x) with
      | some B, some n => (match dst with
        | some d => evCallB T σ d B n ts xs K
        | none => none)
      | _, _ => match call.n g, dst with
        | some f, some d => evCallN T σ d f tys args K
        | some _, none => none
        | none, _ => evCall T call σ dst g tys args K)
  | _, _ => evCall T call σ dst g tys args K

/-- A list that is read element by element. -/
def listOf (T : Tab) (σ : St) (ty : Ty) (x : IV) : Option (List ty.Den) :=
  match x with
  | .v (.one (.fc c)) => asList ty c
  | .v (.one (.hdr n)) => match get σ.ob n with
    | some (.rows t e xs) => obList ty e (.rows t e xs)
    | _ => none
  | _ => none

def evAppend (T : Tab) (σ : St) (dst : Option Tmp) (t t2 : TypeId) (x y : Operand) (K : St → Option R) : Option R :=
  match dst, T.sl t with
  | some d, some (ty, e) => bif Nat.beq t t2 then (match listOf T σ ty (opnd T σ y) with
    | none => none
    | some ys => match opnd T σ x with
      | .v (.one (.hdr n)) => (match get σ.ob n with
        | none => none
        | some o => match obList ty e o with
          | none => none
          | some xs => req (Nat.ble (xs.length + ys.length) 1099511627776)
              (K { sl := (scrub (Nat.beq n) σ).sl.set d (.v (.one (.hdr n))), ob := upd n (.rows ty e (xs ++ ys)) (scrub (Nat.beq n) σ).ob }))
      | .v (.one (.fc (.sc (.slice none 0 0)))) => req (Nat.ble ys.length 1099511627776)
          (K { sl := (fresh d σ).sl.set d (.v (.one (.hdr d))), ob := upd d (.rows ty e ys) (fresh d σ).ob })
      | _ => none) else none
  | _, _ => none

def partsOf (T : Tab) (σ : St) (ty : Ty) : Nat → List (Nat × Operand) → Option (List ty.Den)
  | _, [] => some []
  | i, (j, x) :: r => bif Nat.beq i j then (match cellsOf (opnd T σ x) with
    | none => none
    | some cs => match fcs cs with
      | none => none
      | some fs => bif cs.all okC then (match dec ty fs, partsOf T σ ty (i + 1) r with
        | some a, some as => some (a :: as)
        | _, _ => none) else none) else none

def evBuildSlice (T : Tab) (σ : St) (dst : Option Tmp) (t : TypeId) (len : Nat) (parts : List (Nat × Operand)) (K : St → Option R) : Option R :=
  match dst, T.sl t with
  | some d, some (ty, e) =>
    let σ1 := frzAll (hdrsOps T σ (parts.map (·.2))) σ
    match partsOf T σ1 ty 0 parts with
    | some xs => bif Nat.beq xs.length len && Nat.ble len 1000 then K { sl := (fresh d σ1).sl.set d (.v (.one (.hdr d))), ob := upd d (.rows ty e xs) (fresh d σ1).ob } else none
    | none => none
  | _, _ => none

/-- Where a part of a struct, of an array, lies, and how many cells it has. -/
def plc (T : Tab) (t : TypeId) (i : Nat) : Option (Nat × Nat) :=
  match T.arr t with
  | some (_, esz) => some (i * esz, esz)
  | none => match T.fld t i with
    | some (o, sz, _) => some (o, sz)
    | none => none

def fillC (T : Tab) (σ : St) (t : TypeId) : List Cell → List (Nat × Operand) → Option (List Cell)
  | cs, [] => some cs
  | cs, (i, x) :: r => match plc T t i, cellsOf (opnd T σ x) with
    | some (o, sz), some ys => bif Nat.beq ys.length sz && Nat.ble (o + sz) cs.length && ys.all okC then fillC T σ t (splice cs o ys) r else none
    | _, _ => none

def evBuild (T : Tab) (σ : St) (dst : Option Tmp) (t : TypeId) (parts : List (Nat × Operand)) (K : St → Option R) : Option R :=
  match T.zero t with
  | some (true, zs) => match fillC T σ t (zs.map fun u => .fc (.sc u)) parts with
    | some cs => K (put dst (.v (.agg cs)) σ)
    | none => none
  | _ => none

def evMake (T : Tab) (σ : St) (dst : Option Tmp) (t : TypeId) (l c : IV) (K : St → Option R) : Option R :=
  match dst, T.sl t, l, c with
  | some d, some (ty, e), .v (.one (.fc (.sc (.int .i64 l)))), .v (.one (.fc (.sc (.int .i64 c)))) =>
    req (decide (0 ≤ l) && decide (l = c) && decide (l ≤ 1099511627776)) (K { sl := (fresh d σ).sl.set d (.v (.one (.hdr d))), ob := upd d (.rows ty e (List.replicate l.toNat ty.dflt)) (fresh d σ).ob })
  | _, _, _, _ => none

def intO : Option IV → Option (Option Int)
  | none => some none
  | some (.v (.one (.fc (.sc (.int _ n))))) => some (some n)
  | _ => none

/-- x[lo:hi] of a list, a string. -/
def cutL {α : Type} (xs : List α) (lo hi : Option Int) : List α :=
  match lo, hi with
  | none, none => xs
  | some l, none => xs.drop l.toNat
  | none, some h => xs.take h.toNat
  | some l, some h => (xs.take h.toNat).drop l.toNat
def cutS (s : ByteArray) (lo hi : Option Int) : ByteArray :=
  match lo, hi with
  | none, none => s.extract 0 s.size
  | some l, none => s.extract l.toNat s.size
  | none, some h => s.extract 0 h.toNat
  | some l, some h => s.extract l.toNat h.toNat
def cutOk (n : Nat) (lo hi : Option Int) : Bool :=
  match lo, hi with
  | none, none => true
  | some l, none => decide (0 ≤ l) && decide (l ≤ (n : Int))
  | none, some h => decide (0 ≤ h) && decide (h ≤ (n : Int))
  | some l, some h => decide (0 ≤ l) && (decide (l ≤ h) && decide (h ≤ (n : Int)))

def evSlice (T : Tab) (σ : St) (dst : Option Tmp) (t : TypeId) (x : IV) (lo hi : Option IV) (K : St → Option R) : Option R :=
  match intO lo, intO hi with
  | some l, some h => match x with
    | .v (.one (.fc (.sc (.string s)))) => bif T.isStr t then req (cutOk s.size l h) (K (put dst (.v (.one (.fc (.sc (.string (cutS s l h)))))) σ)) else none
    | .v (.one (.fc (.list ty xs))) => match T.sl t with
      | some (te, _) => req (Nat.beq te.size ty.size && cutOk xs.length l h) (K (put dst (.v (.one (.fc (.list ty (cutL xs l h))))) σ))
      | none => none
    | .v (.one (.hdr n)) => (match T.sl t, get σ.ob n, l, h, dst with
      | some (te, _), some (.rows ty e xs), none, some h, some d => req (Nat.beq te.size ty.size && cutOk xs.length none (some h))
          (K { sl := (scrub (Nat.beq n) σ).sl.set d (.v (.one (.hdr n))), ob := upd n (.rows ty e (xs.take h.toNat)) (scrub (Nat.beq n) σ).ob })
      | _, _, _, _, _ => none)
    | .v (.one (.lp cs 0)) => (match T.arr t, allStr cs, l, h with
      | some (len, 1), some ss, none, none => bif Nat.beq len ss.length then K (put dst (.v (.one (.fc (.list .str ss)))) σ) else none
      | _, _, _, _ => none)
    | _ => none
  | _, _ => none

def bytesOf (s : ByteArray) : List Int := s.data.toList.map fun b => (b.toNat : Int)

def evConv (T : Tab) (σ : St) (dst : Option Tmp) (src dt : TypeId) (x : IV) (K : St → Option R) : Option R :=
  match x with
  | .v (.one (.fc (.sc (.int _ n)))) => match T.num src, T.num dt with
    | some _, some k => K (put dst (.v (.one (.fc (.sc (.int k (k.wrap n)))))) σ)
    | _, _ => none
  | .v (.one (.fc (.sc (.string s)))) => (match T.isStr src, T.sl dt, dst with
    | true, some (.int .u8, _), some d => req (Nat.ble s.size 9223372036854775807)
        (K { sl := (fresh d σ).sl.set d (.v (.one (.hdr d))), ob := upd d (.bytes (bytesOf s)) (fresh d σ).ob })
    | _, _, _ => none)
  | .v (.one (.hdr n)) => (match T.sl src, T.isStr dt, get σ.ob n with
    | some (.int .u8, _), true, some (.bytes xs) => K (put dst (.v (.one (.fc (.sc (.string (strOfNums xs)))))) σ)
    | some (.int .u8, _), true, some (.rows (.int .u8) _ xs) => K (put dst (.v (.one (.fc (.sc (.string (strOfNums xs)))))) σ)
    | _, _, _ => none)
  | .v (.one (.fc (.list (.int .u8) xs))) => (match T.sl src, T.isStr dt with
    | some (.int .u8, _), true => K (put dst (.v (.one (.fc (.sc (.string (strOfNums xs)))))) σ)
    | _, _ => none)
  | _ => none

def okBin (T : Tab) (t : TypeId) : Value → Bool
  | .bool _ => T.isBool t
  | _ => true

def evCore (T : Tab) (call : CallT) (o : Oper) (σ : St) (K : St → Option R) : Option R :=
  match o.op with
  | .move x => K (put o.dst (opnd T σ x) σ)
  | .assign x => K (put o.dst (opnd T σ x) σ)
  | .pick c a b => (match opnd T σ c with
    | .v (.one (.fc (.sc (.bool t)))) => bif t then K (put o.dst (opnd T σ a) σ) else K (put o.dst (opnd T σ b) σ)
    | _ => none)
  | .alloc e => (match o.dst, T.zero e with
    | some d, some (_, zs) => K { sl := (fresh d σ).sl.set d (.v (.one (.ptr d 0))), ob := upd d (.cells (zs.map fun u => .fc (.sc u))) (fresh d σ).ob }
    | _, _ => none)
  | .box _ x => (match o.dst, cellsOf (opnd T σ x) with
    | some d, some _ =>
      let σ1 := fresh d σ
      (match cellsOf (opnd T σ1 x) with
      | some cs => bif cs.all okC then K { sl := σ1.sl.set d (.v (.one (.ptr d 0))), ob := upd d (.cells cs) σ1.ob } else none
      | none => none)
    | _, _ => none)
  | .nilCheck x => (match opnd T σ x with
    | .v (.one (.ptr n off)) => K (put o.dst (.v (.one (.ptr n off))) σ)
    | _ => none)
  | .load t a => evLoad T σ t (opnd T σ a) fun v => K (put o.dst v σ)
  | .store t a x => evStore T σ t (opnd T σ a) x fun σ' => K (put o.dst undI σ')
  | .fieldAddr s x f => evFieldAddr T s f (opnd T σ x) fun v => K (put o.dst v σ)
  | .field s x f => evField T s f (opnd T σ x) fun v => K (put o.dst v σ)
  | .indexAddr t x ix => evIndexAddr T σ t (opnd T σ x) (opnd T σ ix) fun v => K (put o.dst v σ)
  | .index t x ix => evIndex T t (opnd T σ x) (opnd T σ ix) fun v => K (put o.dst v σ)
  | .extract x i => (match opnd T σ x with
    | .tup xs => match xs[i]? with
      | some v => K (put o.dst (.v v) σ)
      | none => none
    | _ => none)
  | .unOp .not _ x => (match opnd T σ x with
    | .v (.one (.fc (.sc (.bool b)))) => K (put o.dst (.v (.one (.fc (.sc (.bool (!b)))))) σ)
    | _ => none)
  | .unOp .neg _ x => (match opnd T σ x with
    | .v (.one (.fc (.sc (.int k n)))) => K (put o.dst (.v (.one (.fc (.sc (.int k (k.wrap (0 - n))))))) σ)
    | _ => none)
  | .binOp op t x y _ => (match opnd T σ x, opnd T σ y with
    | .v (.one (.fc (.sc a))), .v (.one (.fc (.sc b))) => bif okBin T t a then evBin op a b fun v => K (put o.dst (.v (.one (.fc (.sc v)))) σ) else none
    | _, _ => none)
  | .convert src dt x => evConv T σ o.dst src dt (opnd T σ x) K
  | .slice t x lo hi none => evSlice T σ o.dst t (opnd T σ x) (lo.map (opnd T σ)) (hi.map (opnd T σ)) K
  | .buildSlice t len parts => evBuildSlice T σ o.dst t len parts.toList K
  | .build t parts => evBuild T σ o.dst t parts.toList K
  | .makeSlice t l c => evMake T σ o.dst t (opnd T σ l) (opnd T σ c) K
  | .makeFunc fn first captured => bif Nat.beq first.size 0 && Nat.beq captured.size 0 then K (put o.dst (.v (.one (.fc (.sc (.func fn #[] #[]))))) σ) else none
  | .call { callee := .value f, args, argTypes } => (match opnd T σ f with
    | .v (.one (.fc (.sc (.func (.func g) first captured)))) =>
      bif Nat.beq first.size 0 && Nat.beq captured.size 0 then evCalls T call σ o.dst g argTypes.toList args.toList K else none
    | _ => none)
  | .call { callee := .builtin .len, args, argTypes } => (match args.toList, argTypes.toList with
    | [x], [t] => evLen T σ t (opnd T σ x) fun v => K (put o.dst v σ)
    | _, _ => none)
  | .call { callee := .builtin .min, args, argTypes := _ } => (match args.toList with
    | [x, y] => match opnd T σ x, opnd T σ y with
      | .v (.one (.fc (.sc (.int .i64 a)))), .v (.one (.fc (.sc (.int .i64 b)))) => K (put o.dst (.v (.one (.fc (.sc (.int .i64 (if b < a then b else a)))))) σ)
      | _, _ => none
    | _ => none)
  | .call { callee := .builtin .max, args, argTypes := _ } => (match args.toList with
    | [x, y] => match opnd T σ x, opnd T σ y with
      | .v (.one (.fc (.sc (.int .i64 a)))), .v (.one (.fc (.sc (.int .i64 b)))) => K (put o.dst (.v (.one (.fc (.sc (.int .i64 (if a < b then b else a)))))) σ)
      | _, _ => none
    | _ => none)
  | .call { callee := .builtin .append, args, argTypes } => (match args.toList, argTypes.toList with
    | [x, y], [t, t2] => evAppend T σ o.dst t t2 x y K
    | _, _ => none)
  | _ => none

/-- One operation, if its guard wants it. -/
def stepG (T : Tab) (call : CallT) (ops : Array Oper) (o : Oper) (σ : St) (K : St → Option R) : Option R :=
  match o.guard with
  | none => evCore T call o σ K
  | some (j, want) => match (ops[j]?).bind (·.dst) with
    | none => none
    | some d => match σ.sl.getD d botI with
      | .v (.one (.fc (.sc (.bool b)))) =>
        bif b then (let σ1 : St := { σ with sl := σ.sl.set d (.v (.one (.fc (.sc (.bool true))))) }
          bif want then evCore T call o σ1 K else K (put o.dst undI σ1))
        else (let σ1 : St := { σ with sl := σ.sl.set d (.v (.one (.fc (.sc (.bool false))))) }
          bif want then K (put o.dst undI σ1) else evCore T call o σ1 K)
      | .tup [] => K (put o.dst undI σ)
      | _ => none

/-- The operations of a region in the order of the text. -/
def evOps (T : Tab) (call : CallT) (ops : Array Oper) : List Oper → St → (St → Option R) → Option R
  | [], σ, K => K σ
  | o :: r, σ, K => stepG T call ops o σ fun σ' => evOps T call ops r σ' K

/-! ### a region whose order is drawn -/

def nmsC : Cell → List Nat
  | .hdr n => [n]
  | .ptr n _ => [n]
  | .ep n _ _ => [n]
  | _ => []
def nmsCs : List Cell → List Nat
  | [] => []
  | c :: r => nmsC c ++ nmsCs r
def nmsV : List V1 → List Nat
  | [] => []
  | .one c :: r => nmsC c ++ nmsV r
  | .agg cs :: r => nmsCs cs ++ nmsV r
def nmsI : IV → List Nat
  | .v x => nmsV [x]
  | .tup xs => nmsV xs
def nmsO : Ob → List Nat
  | .cells cs => nmsCs cs
  | _ => []
def nmsOps (T : Tab) (σ : St) : List Operand → List Nat
  | [] => []
  | x :: r => nmsI (opnd T σ x) ++ nmsOps T σ r
def nmsIn (σ : St) : List Nat → List Nat
  | [] => []
  | n :: r => (match get σ.ob n with
    | some o => nmsO o
    | none => []) ++ nmsIn σ r

/-- Does the operation look into blocks? -/
def reads (o : Oper) : Bool :=
  match o.op with
  | .move _ | .assign _ | .pick .. | .fieldAddr .. | .field .. | .index .. | .extract .. | .unOp .. | .binOp .. | .build .. | .alloc _ | .box .. | .makeSlice .. | .makeFunc .. | .nilCheck .. => false
  | _ => true
/-- ... behind a pointer. -/
def ptrW (T : Tab) (σ : St) : List Operand → List Nat
  | [] => []
  | x :: _ => match isPtr (opnd T σ x) with
    | some n => (match get σ.ob n with
      | some (.cells cs) => n :: dlP n cs
      | _ => [])
    | none => []
/-- The names of the blocks that an operation changes, turns or forgets. -/
def wn (T : Tab) (o : Oper) (σ : St) : List Nat :=
  match o.op with
  | .store _ a x => nmsOps T σ [a, x]
  | .call { callee := .builtin .append, args, argTypes := _ } => nmsOps T σ args.toList
  | .call { callee := .builtin _, args := _, argTypes := _ } => []
  | .call { callee := _, args, argTypes := _ } => hdrsOps T σ args.toList ++ ptrW T σ args.toList
  | .buildSlice _ _ parts => hdrsOps T σ (parts.toList.map (·.2))
  | .slice _ x _ _ _ => hdrsOps T σ [x]
  | _ => []
def tn (T : Tab) (o : Oper) (σ : St) : List Nat := nmsOps T σ o.op.operands.toList ++ (match o.op with
  | .call { callee := .value _, args := _, argTypes := _ } => nmsIn σ (nmsOps T σ o.op.operands.toList)
  | _ => [])
/-- The names that belong to a slot. -/
def ofD (d n : Nat) : Bool := Nat.beq d n || ofCall d n
def noneOf (d : Option Nat) (l : List Nat) : Bool :=
  match d with
  | none => true
  | some d => l.all fun n => !ofD d n
def freshOk (o : Oper) (σ : St) : Bool :=
  match o.dst with
  | none => true
  | some d => Nat.blt d 1000 && σ.ob.all fun x => !ofD d x.1
/-- What is put down of an operation: was it taken ahead of others; the names of its operands; what it changes; whatever it has to do with. -/
structure Rec where
  i : Nat
  q : Bool
  tn : List Nat
  w : List Nat
  t : List Nat
def newNms (d : Option Nat) : List (Nat × Ob) → List Nat
  | [] => []
  | (n, o) :: r => (match d with
    | none => []
    | some d => bif ofD d n then nmsO o else []) ++ newNms d r
def mkRec (T : Tab) (i : Nat) (q : Bool) (o : Oper) (σ σ' : St) : Rec :=
  { i, q, tn := tn T o σ, w := wn T o σ
    t := tn T o σ ++ ((match o.dst with
      | some d => nmsI (σ'.sl.getD d botI)
      | none => []) ++ (newNms o.dst σ'.ob ++ bif reads o then nmsIn σ (tn T o σ) else [])) }
def apartL (a b : List Nat) : Bool := a.all fun n => b.all fun m => !Nat.beq n m
/-- For each operation, as bits, those that come ahead of it in every order. -/
def befGo : List Oper → List Nat → List Nat
  | [], acc => acc
  | o :: r, acc => befGo r (acc ++ [o.after.toList.foldl (fun s e => bif Region.binds .any e then s ||| 2 ^ e.on ||| acc.getD e.on 0 else s) 0])
def pairOk (ops : Array Oper) (bef : List Nat) (y x : Rec) : Bool :=
  Nat.beq y.i x.i || ((bef.getD x.i 0).testBit y.i || ((bef.getD y.i 0).testBit x.i ||
    (match ops[y.i]?, ops[x.i]? with
    | some oi, some oj => oi.apart ops oj && (apartL x.w y.t && (noneOf oi.dst x.w && (noneOf oi.dst x.tn && noneOf oj.dst y.tn)))
    | _, _ => false)))
def chk (ops : Array Oper) (recs : List Rec) : Bool :=
  let bef := befGo ops.toList []
  recs.all fun y => !y.q || (y.w.isEmpty && recs.all fun x => pairOk ops bef y x)
def quietOp : Op → Bool
  | .move _ | .nilCheck _ | .pick .. | .fieldAddr .. | .field .. | .indexAddr .. | .index .. | .extract .. | .unOp .. | .binOp .. | .load .. | .build .. | .buildSlice .. | .slice .. | .convert .. => true
  | .call { callee := .builtin .len, args := _, argTypes := _ } => true
  | _ => false
def choose (ops : Array Oper) : List Nat → Nat → Nat
  | [], i => i
  | j :: r, i => match ops[j]? with
    | some o => bif quietOp o.op then j else choose ops r i
    | none => choose ops r i
def evDraw (T : Tab) (call : CallT) (ops : Array Oper) : Nat → Array Bool → St → List Rec → (St → Option R) → Option R
  | 0, _, _, _, _ => none
  | n + 1, listed, σ, recs, K => match Region.ready .any ops listed with
    | [] => bif chk ops recs then K σ else none
    | i :: rest =>
      let p := choose ops (i :: rest) i
      match ops[p]? with
      | none => none
      | some o => bif freshOk o σ then stepG T call ops o σ fun σ' =>
          evDraw T call ops n (listed.setIfInBounds p true) σ' (mkRec T p (!rest.isEmpty) o σ σ' :: recs) K else none
/-- Blocks that an earlier round has left under the names of a region's slots. -/
def ofOps (ops : Array Oper) (n : Nat) : Bool := ops.toList.any fun o => match o.dst with
  | some d => ofD d n
  | none => false
/-- ... move to names aside, if these are free. -/
def pkN (p : Nat → Bool) (n : Nat) : Nat := bif p n then n + 400 else n
def pkC (p : Nat → Bool) : Cell → Cell
  | .hdr n => .hdr (pkN p n)
  | .ptr n off => .ptr (pkN p n) off
  | .ep n i off => .ep (pkN p n) i off
  | c => c
def pkV1 (p : Nat → Bool) : V1 → V1
  | .one c => .one (pkC p c)
  | .agg cs => .agg (cs.map (pkC p))
def pkI (p : Nat → Bool) : IV → IV
  | .v x => .v (pkV1 p x)
  | .tup xs => .tup (xs.map (pkV1 p))
def pkO (p : Nat → Bool) : Ob → Ob
  | .cells cs => .cells (cs.map (pkC p))
  | o => o
def park (p : Nat → Bool) (σ : St) : St := { sl := σ.sl.map (pkI p), ob := σ.ob.map fun x => (pkN p x.1, pkO p x.2) }
def parkOk (p : Nat → Bool) (σ : St) : Bool := σ.ob.all fun x => !p x.1 || (!p (x.1 + 400) && (!Nat.beq (x.1 + 400) 900 && σ.ob.all fun y => !Nat.beq y.1 (x.1 + 400)))
/-- A row that a `buildSlice` would overwrite while the region still appends it. -/
def parkS (ops : Array Oper) (σ : St) : Bool :=
  (ops.toList.any fun o => match o.op with
    | .call { callee := .builtin .append, args := _, argTypes := _ } => true
    | _ => false) && ((ops.toList.any fun o => match o.op with
    | .buildSlice .. => (match o.dst with
      | some d => σ.ob.any fun x => Nat.beq x.1 d
      | none => false)
    | _ => false) && parkOk (ofOps ops) σ)
def evRegion (T : Tab) (call : CallT) (ops : Array Oper) (draw : Bool) (σ : St) (K : St → Option R) : Option R :=
  bif draw then evDraw T call ops (ops.size + 1) (Array.replicate ops.size false) (bif σ.ob.any fun x => ofOps ops x.1 then (bif parkOk (ofOps ops) σ then park (ofOps ops) σ else drop (ofOps ops) σ) else σ) [] K
  else evOps T call ops ops.toList (bif parkS ops σ then park (ofOps ops) σ else σ) K

/-! ### loops: what is kept at the head and at each exit, and what the loop comes to -/

structure LoopK where
  hs : List Nat
  ho : List Nat
  ex : List (Nat × List Nat × List Nat)
  rs : List Nat
  ro : List Nat
structure FnK (R : Type) where
  N : Nat
  lk : Nat → Option LoopK
  lp : Nat → List IV → List (Option Ob) → (Exit → List IV → List (Option Ob) → Option R) → Option R

def exOf : List (Nat × List Nat × List Nat) → Nat → Option (List Nat × List Nat)
  | [], _ => none
  | (j, p) :: r, i => bif Nat.beq j i then some p else exOf r i
def LoopK.out (L : LoopK) : Exit → Option (List Nat × List Nat)
  | .exit i => exOf L.ex i
  | .ret => some (L.rs, L.ro)
  | _ => none

def valsOf (σ : St) (s : List Nat) : List IV := s.map fun t => σ.sl.getD t botI
def blksOf (σ : St) (o : List Nat) : List (Option Ob) := o.map (get σ.ob)
/-- Only these blocks. -/
def only (o : List Nat) (σ : St) : St := drop (fun n => !o.contains n) σ
def fillI : List IV → List Nat → List IV → List IV
  | l, t :: s, v :: vs => fillI (l.set t v) s vs
  | l, _, _ => l
def fillO : List Nat → List (Option Ob) → List (Nat × Ob)
  | n :: o, some x :: xs => (n, x) :: fillO o xs
  | _ :: o, none :: xs => fillO o xs
  | _, _ => []
def expand (N : Nat) (s o : List Nat) (vs : List IV) (os : List (Option Ob)) : St := { sl := fillI (List.replicate N botI) s vs, ob := fillO o os }

def evLoop (N : Nat) (L : LoopK) (body : St → (Exit → St → Option R) → Option R) : Nat → List IV → List (Option Ob) → (Exit → List IV → List (Option Ob) → Option R) → Option R
  | 0, _, _, _ => none
  | n + 1, vs, os, k => body (expand N L.hs L.ho vs os) fun e σ' => match e with
    | .normal => bif Nat.beq σ'.sl.length N then evLoop N L body n (valsOf (only L.ho σ') L.hs) (blksOf (only L.ho σ') L.ho) k else none
    | e => match L.out e with
      | none => none
      | some (s, o) => bif Nat.beq σ'.sl.length N then k e (valsOf (only o σ') s) (blksOf (only o σ') o) else none

def evC (T : Tab) (call : CallT) (F : FnK R) : Nat → Code → St → (Exit → St → Option R) → Option R
  | _, .skip, σ, k => k .normal σ
  | _, .region _ ops draw, σ, k => evRegion T call ops draw σ (k .normal)
  | b, .seq x y, σ, k => evC T call F b x σ fun e σ' => match e with
    | .normal => evC T call F b y σ' k
    | e => k e σ'
  | b, .cond c x y, σ, k => (match opnd T σ c with
    | .v (.one (.fc (.sc (.bool t)))) => bif t then evC T call F b x σ k else evC T call F b y σ k
    | _ => none)
  | _, .block id c, σ, k => evC T call F id c σ fun e σ' => match e with
    | .exit j => if j = id then k .normal σ' else k (.exit j) σ'
    | e => k e σ'
  | b, .loop _, σ, k => (match F.lk b with
    | none => none
    | some L => bif Nat.beq σ.sl.length F.N then
        F.lp b (valsOf (only L.ho σ) L.hs) (blksOf (only L.ho σ) L.ho) fun e vs os => (match L.out e with
          | none => none
          | some (s, o) => k e (expand F.N s o vs os))
      else none)
  | _, .exit id, σ, k => k (.exit id) σ
  | _, .ret, σ, k => k .ret σ
  | _, _, _, _ => none

/-- The loops of some code, each with the block that it stands in. -/
def loopsOf : Nat → Code → List (Nat × Code)
  | b, .seq x y => loopsOf b x ++ loopsOf b y
  | b, .cond _ x y => loopsOf b x ++ loopsOf b y
  | _, .block id c => loopsOf id c
  | b, .loop c => (b, c) :: loopsOf b c
  | _, _ => []

/-- What a slot comes to as a result; a row of the call's own goes out once. -/
def packC (ob : List (Nat × Ob)) (used : List Nat) (ty : Option (Ty × TypeId)) : Cell → Option (RC × List Nat)
  | .fc (.sc (.slice none 0 0)) => match ty with
    | some (t, e) => some (.buf t e [], used)
    | none => some (.fc (.sc (.slice none 0 0)), used)
  | .fc c => some (.fc c, used)
  | .hdr n => bif used.contains n then none else match get ob n with
    | some (.rows t e xs) => some (.buf t e xs, n :: used)
    | _ => none
  | _ => none
def packCs (ob : List (Nat × Ob)) : List Nat → List (Option (Ty × TypeId)) → List Cell → Option (List RC × List Nat)
  | used, [], [] => some ([], used)
  | used, ty :: tys, c :: cs => match packC ob used ty c with
    | none => none
    | some (r, used') => match packCs ob used' tys cs with
      | none => none
      | some (rs, used'') => some (r :: rs, used'')
  | _, _, _ => none
def pack1 (T : Tab) (ob : List (Nat × Ob)) (used : List Nat) (t : TypeId) : V1 → Option (R1 × List Nat)
  | .one c => match T.parm t with
    | [ty] => match packC ob used ty c with
      | some (r, u) => some (.one r, u)
      | none => none
    | _ => none
  | .agg cs => match packCs ob used (T.parm t) cs with
    | some (rs, u) => some (.agg rs, u)
    | none => none
def resV (T : Tab) (σ : St) : ResultVar → Option V1
  | .tmp t => match σ.sl.getD t botI with
    | .v x => some x
    | .tup _ => none
  | .cell a t => evLoad T σ t (σ.sl.getD a botI) fun v => match v with
    | .v x => some x
    | .tup _ => none
def packL (T : Tab) (σ : St) : List Nat → List TypeId → List ResultVar → Option (List R1)
  | _, [], [] => some []
  | used, t :: ts, r :: rs => match resV T σ r with
    | none => none
    | some x => match pack1 T σ.ob used t x with
      | none => none
      | some (y, used') => match packL T σ used' ts rs with
        | none => none
        | some ys => some (y :: ys)
  | _, _, _ => none
def packR (T : Tab) (fn : Func) (σ : St) : Option RV :=
  match packL T σ [] fn.resultTypes.toList fn.results.toList with
  | some [x] => some (.one x)
  | some xs => some (.multi xs)
  | none => none

def AV.iv : AV → IV
  | .one c => .v (.one (.fc c))
  | .agg cs => .v (.agg (cs.map .fc))

/-- What a function comes to. -/
def evF (T : Tab) (call : CallT) (F : FnK RV) (fn : Func) (args : List AV) : Option RV :=
  match fn.body with
  | none => none
  | some c => evC T call F 0 c { sl := args.map AV.iv ++ List.replicate (fn.ntmps - args.length) botI, ob := [] } fun e σ => match e with
    | .normal => packR T fn σ
    | .ret => packR T fn σ
    | _ => none

end
end Go.Iv

/- What it means that a frame and a world of the model stand for a state of the evaluator; how that is kept. -/
namespace Go.Iv
open Go.RowKit

def blk : Value → Option Nat
  | .pointer (some a) => some a.block
  | .slice (some a) _ _ => some a.block
  | _ => none

/-- Is it a row, the cells of an element, how many elements. -/
def shp : Ob → Bool × Nat × Nat
  | .rows t _ xs => (true, t.size, xs.length)
  | .bytes xs => (true, 1, xs.length)
  | .cells _ => (false, 0, 0)

/-- Where a list may not lie: foreign ground, and what may still turn. -/
def FF (γ : Nat → Value) (ob : List (Nat × Ob)) (N : Nat → Prop) (b : Nat) : Prop := N b ∨ ∃ n o, get ob n = some o ∧ blk (γ n) = some b

def RepC (γ : Nat → Value) (ob : List (Nat × Ob)) (w : World) (F : Nat → Prop) : Cell → Value → Prop
  | .bot, _ => True
  | .fc c, v => RepFC w F c v
  | .hdr n, v => v = γ n ∧ ∃ o, get ob n = some o ∧ (shp o).1 = true
  | .ptr n off, v => ∃ o b, get ob n = some o ∧ (shp o).1 = false ∧ γ n = .pointer (some ⟨b, 0, none⟩) ∧ v = .pointer (some ⟨b, off, none⟩)
  | .ep n i off, v => ∃ o b l c, get ob n = some o ∧ (shp o).1 = true ∧ γ n = .slice (some ⟨b, 0, none⟩) l c ∧ i < (shp o).2.2 ∧ v = .pointer (some ⟨b, i * (shp o).2.1 + off, none⟩)
  | .lp cs off, v => ∃ b o vs, v = .pointer (some ⟨b, o + off, none⟩) ∧ RepFCs w F cs vs ∧ ∀ (j : Nat) (u : Value), vs[j]? = some u → ¬ F b ∧ w.cell? ⟨b, o + j, none⟩ = some u

def RepCs (γ : Nat → Value) (ob : List (Nat × Ob)) (w : World) (F : Nat → Prop) (cs : List Cell) (vs : List Value) : Prop :=
  cs.length = vs.length ∧ ∀ (j : Nat) (c : Cell) (u : Value), cs[j]? = some c → vs[j]? = some u → RepC γ ob w F c u

def RepV1 (γ : Nat → Value) (ob : List (Nat × Ob)) (w : World) (F : Nat → Prop) : V1 → Value → Prop
  | .one c, v => RepC γ ob w F c v
  | .agg cs, v => ∃ arr, v = .agg arr ∧ RepCs γ ob w F cs arr.toList

def RepI (γ : Nat → Value) (ob : List (Nat × Ob)) (w : World) (F : Nat → Prop) : IV → Value → Prop
  | .v x, v => RepV1 γ ob w F x v
  | .tup xs, v => ∃ arr, v = .tuple arr ∧ xs.length = arr.size ∧ ∀ (j : Nat) (x : V1) (u : Value), xs[j]? = some x → arr[j]? = some u → RepV1 γ ob w F x u

def RepOb (γ : Nat → Value) (ob : List (Nat × Ob)) (w : World) (F : Nat → Prop) (n : Nat) : Ob → Prop
  | .cells cs => ∃ b arr e, γ n = .pointer (some ⟨b, 0, none⟩) ∧ w.heap[b]? = some (.cells arr e (0, 0)) ∧ RepCs γ ob w F cs arr.toList
  | .rows t e xs => ∃ fl, w.ownsRow 0 e t.size (γ n) xs.length fl ∧ (∀ u ∈ fl, u.oneCell' = true) ∧ ∀ i x, xs[i]? = some x → RE w F t ((fl.drop (i * t.size)).take t.size) x
  | .bytes xs => ∃ b arr e lo hi cap, γ n = .slice (some ⟨b, 0, none⟩) xs.length cap ∧ w.heap[b]? = some (.cells arr e (lo, hi)) ∧ xs.length ≤ lo ∧ xs.length ≤ arr.size ∧
      xs.length ≤ cap ∧ ∀ (i : Nat) (x : Int), xs[i]? = some x → arr[i]? = some (Value.int .u8 x)

structure Ctx where
  P : Program
  T : Tab
  N : Nat → Prop
  /-- What was there already and is the call's own for its time: what pointers that came in lead to. -/
  M : Nat → Prop
  w0 : World
  /-- Where the variable of the pointer that came in lies; its name is 900. -/
  rt : Option Nat

/-- A slot after which a new variable may be named. -/
def Nr (C : Ctx) (d : Nat) : Prop := C.rt = none ∨ d ≠ 900
def NrO (C : Ctx) (o : Oper) : Prop := ∀ d, o.dst = some d → Nr C d

/-- Nothing has turned below B but for M. -/
structure Since (M : Nat → Prop) (B : Nat) (w w' : World) : Prop where
  os : w'.os = w.os
  tape : w'.tape = w.tape
  output : w'.output = w.output
  size : w.heap.size ≤ w'.heap.size
  block : ∀ k, k < B → ¬ M k → w'.heap[k]? = w.heap[k]?
theorem Since.refl (M : Nat → Prop) (B : Nat) (w : World) : Since M B w w := ⟨rfl, rfl, rfl, Nat.le_refl _, fun _ _ _ => rfl⟩
theorem Since.of {M : Nat → Prop} {B : Nat} {w w' : World} (h : Below B w w') : Since M B w w' := ⟨h.os, h.tape, h.output, h.size, fun k hk _ => h.block k hk⟩
theorem Since.trans {M : Nat → Prop} {B : Nat} {a b c : World} (h : Since M B a b) (k : Since M B b c) : Since M B a c :=
  ⟨k.os.trans h.os, k.tape.trans h.tape, k.output.trans h.output, Nat.le_trans h.size k.size, fun i hi hm => (k.block i hi hm).trans (h.block i hi hm)⟩
theorem Since.drew {M : Nat → Prop} {B : Nat} {a w : World} (h : Since M B a w) : Since M B a w.drew := ⟨h.os, h.tape, h.output, h.size, h.block⟩
theorem Since.setCell {M : Nat → Prop} {B : Nat} {a w : World} (h : Since M B a w) {p : Addr} (hp : B ≤ p.block ∨ M p.block) (u : Value) : Since M B a (w.setCell p u) := by
  rcases hp with hp | hp
  · exact h.trans (Since.of ((Below.refl B w).setCell hp u))
  · have hs : (w.setCell p u).heap.size = w.heap.size := by
      have := (Below.refl 0 w).setCell (p := p) (Nat.zero_le _) u
      unfold World.setCell
      split <;> simp
    refine h.trans ⟨rfl, rfl, rfl, by rw [hs]; exact Nat.le_refl _, fun k _ hm => Below.heap_setCell w p u k fun e => hm (e ▸ hp)⟩

structure Inv (C : Ctx) (γ : Nat → Value) (σ : St) (a : Act) (w : World) : Prop where
  size : a.tmps.size = σ.sl.length
  defers : a.defers = []
  slots : ∀ t, RepI γ σ.ob w (FF γ σ.ob C.N) (σ.sl.getD t botI) (a.tmps.getD t undef)
  objs : ∀ n o, get σ.ob n = some o → RepOb γ σ.ob w (FF γ σ.ob C.N) n o
  inj : ∀ n n' o o' b, get σ.ob n = some o → get σ.ob n' = some o' → blk (γ n) = some b → blk (γ n') = some b → n = n'
  own : ∀ n o b, get σ.ob n = some o → blk (γ n) = some b → ¬ C.N b ∧ (C.w0.heap.size ≤ b ∨ C.M b)
  since : Since C.M C.w0.heap.size C.w0 w
  root : ∀ b, C.rt = some b → γ 900 = .pointer (some ⟨b, 0, none⟩)

def names : Cell → List Nat
  | .hdr n => [n]
  | .ptr n _ => [n]
  | .ep n _ _ => [n]
  | _ => []

theorem RepC.move {γ γ' : Nat → Value} {ob ob' : List (Nat × Ob)} {w w' : World} {F F' : Nat → Prop} (hs : Stay F w F' w') {c : Cell} {v : Value}
    (hn : ∀ n ∈ names c, γ' n = γ n ∧ ∀ o, get ob n = some o → ∃ o', get ob' n = some o' ∧ shp o' = shp o) (h : RepC γ ob w F c v) : RepC γ' ob' w' F' c v := by
  cases c with
  | bot => trivial
  | fc c => exact RepFC.stay hs h
  | hdr n =>
    obtain ⟨rfl, o, ho, hk⟩ := h
    obtain ⟨h1, h2⟩ := hn n (by simp [names])
    obtain ⟨o', ho', hs'⟩ := h2 o ho
    exact ⟨h1.symm, o', ho', by rw [hs']; exact hk⟩
  | ptr n off =>
    obtain ⟨o, b, ho, hk, hb, rfl⟩ := h
    obtain ⟨h1, h2⟩ := hn n (by simp [names])
    obtain ⟨o', ho', hs'⟩ := h2 o ho
    exact ⟨o', b, ho', by rw [hs']; exact hk, by rw [h1]; exact hb, rfl⟩
  | ep n i off =>
    obtain ⟨o, b, l, c, ho, hk, hb, hi, rfl⟩ := h
    obtain ⟨h1, h2⟩ := hn n (by simp [names])
    obtain ⟨o', ho', hs'⟩ := h2 o ho
    exact ⟨o', b, l, c, ho', by rw [hs']; exact hk, by rw [h1]; exact hb, by rw [hs']; exact hi, by rw [hs']⟩
  | lp cs off =>
    obtain ⟨b, o, vs, rfl, hr, hc⟩ := h
    refine ⟨b, o, vs, rfl, hr.stay hs, fun j u hu => ?_⟩
    obtain ⟨hF, hcell⟩ := hc j u hu
    exact ⟨(hs b (World.block_lt_of_cell? w _ hcell) hF).2, hs.cell (a := ⟨b, o + j, none⟩) hF hcell⟩


/-! ### the association list -/

theorem get_upd_same (n : Nat) (o : Ob) (l : List (Nat × Ob)) : get (upd n o l) n = some o := by
  induction l with
  | nil => simp [upd, get]
  | cons x r ih =>
    obtain ⟨m, p⟩ := x
    unfold upd
    split
    · rename_i h; simp [get, h]
    · rename_i h; simp [get, h, ih]

theorem get_upd_ne (n m : Nat) (o : Ob) (l : List (Nat × Ob)) (h : m ≠ n) : get (upd n o l) m = get l m := by
  induction l with
  | nil => simp [upd, get, Ne.symm h]
  | cons x r ih =>
    obtain ⟨k, p⟩ := x
    unfold upd
    split
    · rename_i hk; subst hk; simp [get, Ne.symm h]
    · simp only [get]; split <;> simp [ih]

theorem get_del (p : Nat → Bool) (l : List (Nat × Ob)) (n : Nat) : get (del p l) n = if p n = true then none else get l n := by
  induction l with
  | nil => simp [del, get]
  | cons x r ih =>
    obtain ⟨m, o⟩ := x
    unfold del
    cases hp : p m with
    | true =>
      simp only [cond_true, ih, get]
      by_cases hn : m = n
      · subst hn; simp [hp]
      · simp [hn]
    | false =>
      simp only [cond_false, get, ih]
      by_cases hn : m = n
      · subst hn; simp [hp]
      · simp [hn]

theorem get_map (f : Ob → Ob) (l : List (Nat × Ob)) (n : Nat) : get (l.map fun x => (x.1, f x.2)) n = (get l n).map f := by
  induction l with
  | nil => simp [get]
  | cons x r ih =>
    obtain ⟨m, o⟩ := x
    simp only [List.map_cons, get]
    split <;> simp [ih]

theorem get_append (l r : List (Nat × Ob)) (n : Nat) : get (l ++ r) n = (get l n).or (get r n) := by
  induction l with
  | nil => simp [get]
  | cons x l ih =>
    obtain ⟨m, o⟩ := x
    simp only [List.cons_append, get]
    split <;> simp [ih]

/-! ### one step of a state -/

theorem names_scC {q : Nat → Bool} {c : Cell} {n : Nat} (h : n ∈ names (scC q c)) : n ∈ names c ∧ q n = false := by
  cases c with
  | hdr m => simp only [scC] at h; cases hq : q m <;> simp_all [names]
  | ptr m off => simp only [scC] at h; cases hq : q m <;> simp_all [names]
  | ep m i off => simp only [scC] at h; cases hq : q m <;> simp_all [names]
  | bot => simp [scC, names] at h
  | fc c => simp [scC, names] at h
  | lp cs off => simp [scC, names] at h

/-- What a move from one state's ground to another's keeps: the lists, and the names that q doesn't pick. -/
structure Kept (q : Nat → Bool) (γ γ' : Nat → Value) (ob ob' : List (Nat × Ob)) (w w' : World) (F F' : Nat → Prop) : Prop where
  stay : Stay F w F' w'
  nms : ∀ n, q n = false → ∀ o, get ob n = some o → γ' n = γ n ∧ ∃ o', get ob' n = some o' ∧ shp o' = shp o

theorem RepC.sc {q : Nat → Bool} {γ γ' : Nat → Value} {ob ob' : List (Nat × Ob)} {w w' : World} {F F' : Nat → Prop} (k : Kept q γ γ' ob ob' w w' F F') {c : Cell} {v : Value}
    (h : RepC γ ob w F c v) : RepC γ' ob' w' F' (scC q c) v := by
  cases c with
  | bot => trivial
  | fc c => exact RepFC.stay k.stay h
  | lp cs off => exact RepC.move (γ := γ) (ob := ob) k.stay (c := .lp cs off) (fun n hn => by simp [names] at hn) h
  | hdr n =>
    simp only [scC]
    cases hq : q n with
    | true => trivial
    | false =>
      obtain ⟨rfl, o, ho, hk⟩ := h
      obtain ⟨h1, o', ho', hs'⟩ := k.nms n hq o ho
      exact ⟨h1.symm, o', ho', by rw [hs']; exact hk⟩
  | ptr n off =>
    simp only [scC]
    cases hq : q n with
    | true => trivial
    | false =>
      obtain ⟨o, b, ho, hk, hb, rfl⟩ := h
      obtain ⟨h1, o', ho', hs'⟩ := k.nms n hq o ho
      exact ⟨o', b, ho', by rw [hs']; exact hk, by rw [h1]; exact hb, rfl⟩
  | ep n i off =>
    simp only [scC]
    cases hq : q n with
    | true => trivial
    | false =>
      obtain ⟨o, b, l, c, ho, hk, hb, hi, rfl⟩ := h
      obtain ⟨h1, o', ho', hs'⟩ := k.nms n hq o ho
      exact ⟨o', b, l, c, ho', by rw [hs']; exact hk, by rw [h1]; exact hb, by rw [hs']; exact hi, by rw [hs']⟩

theorem RepCs.sc {q : Nat → Bool} {γ γ' : Nat → Value} {ob ob' : List (Nat × Ob)} {w w' : World} {F F' : Nat → Prop} (k : Kept q γ γ' ob ob' w w' F F') {cs : List Cell} {vs : List Value}
    (h : RepCs γ ob w F cs vs) : RepCs γ' ob' w' F' (cs.map (scC q)) vs := by
  refine ⟨by simpa using h.1, fun j c u hc hu => ?_⟩
  rw [List.getElem?_map, Option.map_eq_some_iff] at hc
  obtain ⟨c0, hc0, rfl⟩ := hc
  exact (h.2 j c0 u hc0 hu).sc k

theorem RepV1.sc {q : Nat → Bool} {γ γ' : Nat → Value} {ob ob' : List (Nat × Ob)} {w w' : World} {F F' : Nat → Prop} (k : Kept q γ γ' ob ob' w w' F F') {x : V1} {v : Value}
    (h : RepV1 γ ob w F x v) : RepV1 γ' ob' w' F' (scV1 q x) v := by
  cases x with
  | one c => exact RepC.sc k h
  | agg cs => obtain ⟨arr, rfl, h⟩ := h; exact ⟨arr, rfl, h.sc k⟩

theorem RepI.sc {q : Nat → Bool} {γ γ' : Nat → Value} {ob ob' : List (Nat × Ob)} {w w' : World} {F F' : Nat → Prop} (k : Kept q γ γ' ob ob' w w' F F') {x : IV} {v : Value}
    (h : RepI γ ob w F x v) : RepI γ' ob' w' F' (scI q x) v := by
  cases x with
  | v x => exact RepV1.sc k h
  | tup xs =>
    obtain ⟨arr, rfl, hl, h⟩ := h
    refine ⟨arr, rfl, by simpa using hl, fun j x u hx hu => ?_⟩
    rw [List.getElem?_map, Option.map_eq_some_iff] at hx
    obtain ⟨x0, hx0, rfl⟩ := hx
    exact (h j x0 u hx0 hu).sc k

theorem scC_none (c : Cell) : scC (fun _ => false) c = c := by cases c <;> rfl
theorem scV1_none (x : V1) : scV1 (fun _ => false) x = x := by
  cases x with
  | one c => simp [scV1, scC_none]
  | agg cs => simp only [scV1]; congr 1; conv => rhs; rw [← List.map_id cs]
              exact List.map_congr_left fun c _ => scC_none c
theorem scI_none (x : IV) : scI (fun _ => false) x = x := by
  cases x with
  | v x => simp [scI, scV1_none]
  | tup xs => simp only [scI]; congr 1; conv => rhs; rw [← List.map_id xs]
              exact List.map_congr_left fun c _ => scV1_none c
theorem scO_none (o : Ob) : scO (fun _ => false) o = o := by
  cases o with
  | cells cs => simp only [scO]; congr 1; conv => rhs; rw [← List.map_id cs]
                exact List.map_congr_left fun c _ => scC_none c
  | rows _ _ _ => rfl
  | bytes _ => rfl
theorem shp_scO (q : Nat → Bool) (o : Ob) : shp (scO q o) = shp o := by cases o <;> rfl

theorem getD_map_sc (q : Nat → Bool) (l : List IV) (t : Nat) : (l.map (scI q)).getD t botI = scI q (l.getD t botI) := by
  rw [List.getD_eq_getElem?_getD, List.getElem?_map, List.getD_eq_getElem?_getD]
  cases l[t]? <;> rfl

/-- A block whose name isn't picked, and that stays as it was in memory. -/
theorem RepOb.sc {q : Nat → Bool} {γ γ' : Nat → Value} {ob ob' : List (Nat × Ob)} {w w' : World} {F F' : Nat → Prop} (k : Kept q γ γ' ob ob' w w' F F') {n : Nat} {o : Ob}
    (hγ : γ' n = γ n) (hb : ∀ b, blk (γ n) = some b → w'.heap[b]? = w.heap[b]?) (h : RepOb γ ob w F n o) : RepOb γ' ob' w' F' n (scO q o) := by
  cases o with
  | cells cs =>
    obtain ⟨b, arr, e, hg, hh, hr⟩ := h
    exact ⟨b, arr, e, by rw [hγ]; exact hg, by rw [hb b (by rw [hg]; rfl)]; exact hh, hr.sc k⟩
  | rows t e xs =>
    obtain ⟨fl, ho, h1, hr⟩ := h
    refine ⟨fl, ?_, h1, fun i x hi => (hr i x hi).stay k.stay⟩
    rw [hγ]
    refine ⟨ho.1, ?_⟩
    rcases ho.2 with hn | ⟨g, cap, cur, hv, h0, hg, rest⟩
    · exact .inl hn
    · exact .inr ⟨g, cap, cur, hv, h0, by rw [hb g (by rw [hv]; rfl)]; exact hg, rest⟩
  | bytes xs =>
    obtain ⟨b, arr, e, lo, hi, cap, hg, hh, rest⟩ := h
    exact ⟨b, arr, e, lo, hi, cap, by rw [hγ]; exact hg, by rw [hb b (by rw [hg]; rfl)]; exact hh, rest⟩

/-- THE STEP. Blocks that p picks are given anew; cells that lead to a name that q picks are forgotten. -/
theorem Inv.step {C : Ctx} {γ γ' : Nat → Value} {σ σ' : St} {a : Act} {w w' : World} (h : Inv C γ σ a w) (p q : Nat → Bool)
    (hsl : σ'.sl = σ.sl.map (scI q))
    (hob : ∀ n o', p n = false → get σ'.ob n = some o' → ∃ o, get σ.ob n = some o ∧ o' = scO q o)
    (hnew : ∀ n o', p n = true → get σ'.ob n = some o' → RepOb γ' σ'.ob w' (FF γ' σ'.ob C.N) n o')
    (hnms : ∀ n, q n = false → ∀ o, get σ.ob n = some o → γ' n = γ n ∧ ∃ o', get σ'.ob n = some o' ∧ shp o' = shp o)
    (hγ : ∀ n, p n = false → γ' n = γ n)
    (hblk : ∀ n o b, p n = false → get σ.ob n = some o → blk (γ n) = some b → w'.heap[b]? = w.heap[b]?)
    (hstay : Stay (FF γ σ.ob C.N) w (FF γ' σ'.ob C.N) w')
    (hinj : ∀ n n' o o' b, get σ'.ob n = some o → get σ'.ob n' = some o' → blk (γ' n) = some b → blk (γ' n') = some b → n = n')
    (hown : ∀ n o b, get σ'.ob n = some o → blk (γ' n) = some b → ¬ C.N b ∧ (C.w0.heap.size ≤ b ∨ C.M b))
    (hsince : Since C.M C.w0.heap.size C.w0 w') (hroot : ∀ b, C.rt = some b → γ' 900 = .pointer (some ⟨b, 0, none⟩)) : Inv C γ' σ' a w' := by
  have k : Kept q γ γ' σ.ob σ'.ob w w' (FF γ σ.ob C.N) (FF γ' σ'.ob C.N) := ⟨hstay, hnms⟩
  refine ⟨by rw [hsl, List.length_map]; exact h.size, h.defers, fun t => ?_, fun n o' ho' => ?_, hinj, hown, hsince, hroot⟩
  · rw [hsl, getD_map_sc]; exact (h.slots t).sc k
  · cases hp : p n with
    | true => exact hnew n o' hp ho'
    | false =>
      obtain ⟨o, ho, rfl⟩ := hob n o' hp ho'
      exact (h.objs n o ho).sc k (hγ n hp) (fun b hb => hblk n o b hp ho hb)

/-- Writing a slot. -/
theorem Inv.put {C : Ctx} {γ : Nat → Value} {σ : St} {a : Act} {w : World} (h : Inv C γ σ a w) (dst : Option Tmp) {x : IV} {v : Value}
    (hx : RepI γ σ.ob w (FF γ σ.ob C.N) x v) : Inv C γ (put dst x σ) (a.put dst v) w := by
  cases dst with
  | none => exact h
  | some d =>
    refine ⟨by simp [Iv.put, Act.put, h.size], h.defers, fun t => ?_, h.objs, h.inj, h.own, h.since, h.root⟩
    show RepI γ σ.ob w _ ((σ.sl.set d x).getD t botI) ((a.tmps.setIfInBounds d v).getD t undef)
    have hs := h.slots t
    rw [List.getD_eq_getElem?_getD, List.getElem?_set, Array.getD_eq_getD_getElem?, Array.getElem?_setIfInBounds]
    by_cases hd : d = t
    · subst hd
      simp only [if_true]
      by_cases hlt : d < σ.sl.length
      · rw [if_pos hlt, if_pos (by rw [h.size]; exact hlt)]; exact hx
      · rw [if_neg hlt, if_neg (by rw [h.size]; exact hlt)]; trivial
    · rw [if_neg hd, if_neg hd, ← List.getD_eq_getElem?_getD, ← Array.getD_eq_getD_getElem?]; exact hs

end Go.Iv

/- The evaluator's steps on states, each kept by what the state stands for. -/
namespace Go.Iv
open Go.RowKit

theorem beqF {a b : Nat} (h : a ≠ b) : Nat.beq a b = false := by
  cases hb : Nat.beq a b with
  | false => rfl
  | true => exact absurd (Nat.eq_of_beq_eq_true hb) h

theorem blk_lt {γ : Nat → Value} {ob : List (Nat × Ob)} {w : World} {F : Nat → Prop} {n : Nat} {o : Ob} (h : RepOb γ ob w F n o) {b : Nat} (hb : blk (γ n) = some b) : b < w.heap.size := by
  cases o with
  | cells cs => obtain ⟨b', arr, e, hg, hh, _⟩ := h; rw [hg] at hb; cases hb; exact (Array.getElem?_eq_some_iff.1 hh).1
  | rows t e xs =>
    obtain ⟨fl, ho, _⟩ := h
    rcases ho.2 with ⟨hv, _⟩ | ⟨g, cap, cur, hv, _, hg, _⟩
    · rw [hv] at hb; cases hb
    · rw [hv] at hb; cases hb; exact (Array.getElem?_eq_some_iff.1 hg).1
  | bytes xs => obtain ⟨b', arr, e, lo, hi, cap, hg, hh, _⟩ := h; rw [hg] at hb; cases hb; exact (Array.getElem?_eq_some_iff.1 hh).1

theorem Inv.lt {C : Ctx} {γ : Nat → Value} {σ : St} {a : Act} {w : World} (h : Inv C γ σ a w) {n : Nat} {o : Ob} (ho : get σ.ob n = some o) {b : Nat} (hb : blk (γ n) = some b) : b < w.heap.size :=
  blk_lt (h.objs n o ho) hb

/-- A draw, or whatever leaves the memory alone. -/
theorem Inv.world {C : Ctx} {γ : Nat → Value} {σ : St} {a : Act} {w w' : World} (h : Inv C γ σ a w) (hh : w'.heap = w.heap) (hs : Since C.M C.w0.heap.size C.w0 w') : Inv C γ σ a w' := by
  refine h.step (fun _ => false) (fun _ => false) ?_ (fun n o' _ ho => ⟨o', ho, (scO_none o').symm⟩) (fun _ _ h => by cases h) (fun n _ o ho => ⟨rfl, o, ho, rfl⟩) (fun _ _ => rfl)
    (fun _ _ _ _ _ _ => by rw [hh]) (fun b _ hn => ⟨by rw [hh], hn⟩) h.inj h.own hs h.root
  conv => lhs; rw [← List.map_id σ.sl]
  exact List.map_congr_left fun x _ => (scI_none x).symm

theorem Inv.drew {C : Ctx} {γ : Nat → Value} {σ : St} {a : Act} {w : World} (h : Inv C γ σ a w) : Inv C γ σ a w.drew := h.world rfl h.since.drew

theorem map_scI_none (l : List IV) : l.map (scI fun _ => false) = l := by
  conv => rhs; rw [← List.map_id l]
  exact List.map_congr_left fun x _ => scI_none x

theorem get_drop (p : Nat → Bool) (σ : St) (n : Nat) : get (drop p σ).ob n = if p n = true then none else (get σ.ob n).map (scO p) := by
  show get ((del p σ.ob).map fun x => (x.1, scO p x.2)) n = _
  rw [get_map, get_del]; split <;> rfl

theorem Inv.drop {C : Ctx} {γ : Nat → Value} {σ : St} {a : Act} {w : World} (h : Inv C γ σ a w) (p : Nat → Bool) : Inv C γ (drop p σ) a w := by
  have hg : ∀ n o', get (Iv.drop p σ).ob n = some o' → p n = false ∧ ∃ o, get σ.ob n = some o ∧ o' = scO p o := by
    intro n o' ho
    rw [get_drop] at ho
    cases hp : p n with
    | true => simp [hp] at ho
    | false => simp [hp] at ho; obtain ⟨o, h1, h2⟩ := ho; exact ⟨rfl, o, h1, h2.symm⟩
  refine h.step p p rfl (fun n o' _ ho => (hg n o' ho).2) (fun n o' hp ho => by rw [(hg n o' ho).1] at hp; cases hp) (fun n hq o ho => ⟨rfl, scO p o, by rw [get_drop]; simp [hq, ho], shp_scO p o⟩)
    (fun _ _ => rfl) (fun _ _ _ _ _ _ => rfl) (Stay.less fun b _ hF => ?_) (fun n n' o o' b h1 h2 h3 h4 => ?_) (fun n o b h1 h2 => ?_) h.since h.root
  · rcases hF with hF | ⟨n, o, ho, hb⟩
    · exact .inl hF
    · obtain ⟨_, o1, ho1, _⟩ := hg n o ho; exact .inr ⟨n, o1, ho1, hb⟩
  · obtain ⟨_, o1, ho1, _⟩ := hg n o h1
    obtain ⟨_, o2, ho2, _⟩ := hg n' o' h2
    exact h.inj n n' o1 o2 b ho1 ho2 h3 h4
  · obtain ⟨_, o1, ho1, _⟩ := hg n o h1
    exact h.own n o1 b ho1 h2

theorem Inv.fresh {C : Ctx} {γ : Nat → Value} {σ : St} {a : Act} {w : World} (h : Inv C γ σ a w) (n : Nat) : Inv C γ (fresh n σ) a w := by
  unfold Iv.fresh
  cases get σ.ob n with
  | none => exact h
  | some o => exact h.drop _

theorem get_fresh (n : Nat) (σ : St) : get (fresh n σ).ob n = none := by
  unfold fresh
  cases h : get σ.ob n with
  | none => exact h
  | some o => simp [get_drop]

theorem fresh_len (n : Nat) (σ : St) : (fresh n σ).sl.length = σ.sl.length := by
  unfold fresh
  cases h : get σ.ob n with
  | none => rfl
  | some o => simp [Iv.drop, scrub]

def gup (γ : Nat → Value) (n : Nat) (v : Value) : Nat → Value := fun m => if m = n then v else γ m
theorem gup_same (γ : Nat → Value) (n : Nat) (v : Value) : gup γ n v n = v := by simp [gup]
theorem gup_ne (γ : Nat → Value) (n m : Nat) (v : Value) (h : m ≠ n) : gup γ n v m = γ m := by simp [gup, h]

/-- What is known of the cells, once a block is added. -/
theorem kept_new {γ : Nat → Value} {ob : List (Nat × Ob)} {N : Nat → Prop} {w w' : World} {n : Nat} {v : Value} {o : Ob} (hn : get ob n = none)
    (hw : ∀ b, b < w.heap.size → w'.heap[b]? = w.heap[b]?) (hb : ∀ b, blk v = some b → w.heap.size ≤ b) :
    Kept (fun _ => false) γ (gup γ n v) ob (upd n o ob) w w' (FF γ ob N) (FF (gup γ n v) (upd n o ob) N) := by
  constructor
  · intro b hlt hF
    refine ⟨hw b hlt, fun hF' => hF ?_⟩
    rcases hF' with hF' | ⟨m, o', ho, hb'⟩
    · exact .inl hF'
    · by_cases hm : m = n
      · subst hm; rw [gup_same] at hb'; have := hb b hb'; omega
      · rw [get_upd_ne n m o ob hm] at ho; rw [gup_ne _ _ _ _ hm] at hb'; exact .inr ⟨m, o', ho, hb'⟩
  · intro m _ o' ho
    have hm : m ≠ n := fun e => by rw [e, hn] at ho; cases ho
    exact ⟨gup_ne _ _ _ _ hm, o', by rw [get_upd_ne n m o ob hm]; exact ho, rfl⟩

/-- A new block under a new name. -/
theorem Inv.new {C : Ctx} {γ : Nat → Value} {σ : St} {a : Act} {w w' : World} (h : Inv C γ σ a w) (n : Nat) (v : Value) (o : Ob) (hn : get σ.ob n = none)
    (hw : Below w.heap.size w w') (hb : ∀ b, blk v = some b → w.heap.size ≤ b)
    (ho : RepOb (gup γ n v) (upd n o σ.ob) w' (FF (gup γ n v) (upd n o σ.ob) C.N) n o) (hN : ∀ b, C.N b → b < C.w0.heap.size) (h9 : Nr C n) :
    Inv C (gup γ n v) { sl := σ.sl, ob := upd n o σ.ob } a w' := by
  have hk := kept_new (γ := γ) (N := C.N) (o := o) hn (fun b hlt => hw.block b hlt) hb
  have h0 := h.since.size
  refine h.step (fun m => Nat.beq m n) (fun _ => false) (map_scI_none _).symm (fun m o' hm ho' => ?_) (fun m o' hm ho' => ?_) hk.nms (fun m hm => ?_) (fun m o' b hm ho' hb' => ?_) hk.stay ?_ ?_
    (h.since.trans (Since.of (hw.mono h0))) (fun b hb => by
      rcases h9 with h9 | h9
      · rw [h9] at hb; cases hb
      · rw [gup_ne _ _ _ _ (Ne.symm h9)]; exact h.root b hb)
  · have hm' : m ≠ n := fun e => by subst e; simp at hm
    exact ⟨o', by rw [← get_upd_ne n m o σ.ob hm']; exact ho', (scO_none o').symm⟩
  · have hm' : m = n := by simpa using hm
    subst hm'
    have e := get_upd_same m o σ.ob
    have e2 : some o' = some o := by rw [← e]; exact ho'.symm
    cases e2; exact ho
  · have hm' : m ≠ n := fun e => by subst e; simp at hm
    exact gup_ne _ _ _ _ hm'
  · have hlt := h.lt ho' hb'
    exact hw.block b hlt
  · intro m m' o1 o2 b h1 h2 h3 h4
    by_cases hm : m = n
    · by_cases hm' : m' = n
      · rw [hm, hm']
      · rw [hm, gup_same] at h3; rw [gup_ne _ _ _ _ hm'] at h4
        have h2' : get σ.ob m' = some o2 := by rw [← get_upd_ne n m' o σ.ob hm']; exact h2
        have := h.lt h2' h4; have := hb b h3; omega
    · rw [gup_ne _ _ _ _ hm] at h3
      have h1' : get σ.ob m = some o1 := by rw [← get_upd_ne n m o σ.ob hm]; exact h1
      by_cases hm' : m' = n
      · rw [hm', gup_same] at h4; have := h.lt h1' h3; have := hb b h4; omega
      · rw [gup_ne _ _ _ _ hm'] at h4
        have h2' : get σ.ob m' = some o2 := by rw [← get_upd_ne n m' o σ.ob hm']; exact h2
        exact h.inj m m' o1 o2 b h1' h2' h3 h4
  · intro m o1 b h1 h2
    by_cases hm : m = n
    · rw [hm, gup_same] at h2; have h3 := hb b h2
      exact ⟨fun hc => by have := hN b hc; omega, by omega⟩
    · rw [gup_ne _ _ _ _ hm] at h2
      exact h.own m o1 b (by rw [← get_upd_ne n m o σ.ob hm]; exact h1) h2

/-! ### a row of the call's own, as a list -/

theorem flat_el {t : Ty} {fl : List Value} {n i : Nat} (hl : fl.length = n * t.size) (hi : i < n) :
    ((fl.drop (i * t.size)).take t.size).length = t.size ∧ ∀ (j : Nat) (u : Value), ((fl.drop (i * t.size)).take t.size)[j]? = some u → fl[i * t.size + j]? = some u := by
  have h1 : (i + 1) * t.size ≤ n * t.size := Nat.mul_le_mul_right _ hi
  have h2 : (i + 1) * t.size = i * t.size + t.size := by rw [Nat.add_mul, Nat.one_mul]
  refine ⟨by rw [List.length_take, List.length_drop]; omega, fun j u hu => ?_⟩
  rw [List.getElem?_take] at hu
  split at hu
  · rwa [List.getElem?_drop] at hu
  · cases hu

/-- Where a row of the call's own lies. -/
theorem own_cell {w : World} {e size n : Nat} {v : Value} {fl : List Value} (h : w.ownsRow 0 e size v n fl) {g cap : Nat} (hv : v = .slice (some ⟨g, 0, none⟩) n cap) {j : Nat} {u : Value} (hu : fl[j]? = some u) :
    w.cell? ⟨g, j, none⟩ = some u := by
  subst hv
  have hj : j < n * size := by rw [← h.1]; exact (List.getElem?_eq_some_iff.1 hu).1
  rw [h.cellAt j hj]; exact hu

theorem rows_list {γ : Nat → Value} {ob : List (Nat × Ob)} {w : World} {F F' : Nat → Prop} {n : Nat} {t : Ty} {e : TypeId} {xs : List t.Den}
    (h : RepOb γ ob w F n (.rows t e xs)) (hF : ∀ b, F' b → F b) (hb : ∀ b, blk (γ n) = some b → ¬ F' b) : RepL w F' t (γ n) xs := by
  obtain ⟨fl, ho, h1, hr⟩ := h
  rcases ho.2 with ⟨hv, hn⟩ | ⟨g, cap, cur, hv, _, hg, hcap, _⟩
  · have hx : xs = [] := List.eq_nil_of_length_eq_zero hn
    subst hx; rw [hv]; exact RepL.nil w F' t
  · refine ⟨some ⟨g, 0, none⟩, cap, hv, hcap, fun i x hi => ?_⟩
    have hlt : i < xs.length := (List.getElem?_eq_some_iff.1 hi).1
    obtain ⟨hl, hc⟩ := flat_el ho.1 hlt
    refine ⟨g, 0, _, rfl, hb g (by rw [hv]; rfl), hl, fun j u hu => ?_, (hr i x hi).stay (Stay.less fun b _ h => hF b h)⟩
    rw [Nat.zero_add]
    exact own_cell ho hv (hc j u hu)

/-- The cells of an element of a row of the call's own. -/
theorem rows_el {γ : Nat → Value} {ob : List (Nat × Ob)} {w : World} {F F' : Nat → Prop} {n : Nat} {t : Ty} {e : TypeId} {xs : List t.Den}
    (h : RepOb γ ob w F n (.rows t e xs)) (hF : ∀ b, F' b → F b) {b l c : Nat} (hg : γ n = .slice (some ⟨b, 0, none⟩) l c) {i : Nat} (hi : i < xs.length) :
    ∃ vs, RepFCs w F' (enc t (xs.getD i t.dflt)) vs ∧ ∀ (j : Nat) (u : Value), vs[j]? = some u → w.cell? ⟨b, i * t.size + j, none⟩ = some u := by
  obtain ⟨fl, ho, h1, hr⟩ := h
  have hx : xs[i]? = some (xs.getD i t.dflt) := by rw [List.getD_eq_getElem?_getD, List.getElem?_eq_getElem hi]; rfl
  obtain ⟨hl, hc⟩ := flat_el ho.1 hi
  refine ⟨_, (enc_of_RE t _ _ (hr i _ hx)).stay (Stay.less fun b _ h => hF b h), fun j u hu => ?_⟩
  rcases ho.2 with ⟨hv, _⟩ | ⟨g, cap, cur, hv, _⟩
  · rw [hg] at hv; cases hv
  · have : g = b := by rw [hg] at hv; cases hv; rfl
    subst this
    exact own_cell ho hv (hc j u hu)

theorem enc_len (t : Ty) (x : t.Den) : (enc t x).length = t.size := by cases t <;> rfl

theorem RepC.fr {γ : Nat → Value} {ob ob' : List (Nat × Ob)} {w : World} {F F' : Nat → Prop} {n : Nat} {t : Ty} {e : TypeId} {xs : List t.Den}
    (hn : get ob n = some (.rows t e xs)) (h : RepOb γ ob w F n (.rows t e xs)) (hF : ∀ b, F' b → F b) (hb : ∀ b, blk (γ n) = some b → ¬ F' b)
    (hk : ∀ m, m ≠ n → ∀ o, get ob m = some o → ∃ o', get ob' m = some o' ∧ shp o' = shp o) {c : Cell} {v : Value} (hc : RepC γ ob w F c v) : RepC γ ob' w F' (frC n t xs c) v := by
  cases c with
  | bot => trivial
  | fc c => exact RepFC.stay (Stay.less fun b _ h => hF b h) hc
  | lp cs off => exact RepC.move (γ := γ) (ob := ob) (Stay.less fun b _ h => hF b h) (c := .lp cs off) (fun n hn => by simp [names] at hn) hc
  | ptr m off =>
    obtain ⟨o, b, ho, hs, hb', rfl⟩ := hc
    have hm : m ≠ n := fun e => by subst e; rw [hn] at ho; cases ho; cases hs
    obtain ⟨o', ho', hs'⟩ := hk m hm o ho
    exact ⟨o', b, ho', by rw [hs']; exact hs, hb', rfl⟩
  | hdr m =>
    simp only [frC]
    by_cases hm : n = m
    · subst hm; rw [if_pos rfl]
      obtain ⟨rfl, _⟩ := hc
      exact rows_list h hF hb
    · rw [if_neg hm]
      obtain ⟨rfl, o, ho, hs⟩ := hc
      obtain ⟨o', ho', hs'⟩ := hk m (Ne.symm hm) o ho
      exact ⟨rfl, o', ho', by rw [hs']; exact hs⟩
  | ep m i off =>
    simp only [frC]
    obtain ⟨o, b, l, cc, ho, hs, hg, hi, rfl⟩ := hc
    by_cases hm : n = m
    · subst hm; rw [if_pos rfl]
      rw [hn] at ho; cases ho
      have hi' : i < xs.length := hi
      obtain ⟨vs, h1, h2⟩ := rows_el h hF hg hi'
      exact ⟨b, i * t.size, vs, rfl, h1, fun j u hu => ⟨hb b (by rw [hg]; rfl), h2 j u hu⟩⟩
    · rw [if_neg hm]
      obtain ⟨o', ho', hs'⟩ := hk m (Ne.symm hm) o ho
      exact ⟨o', b, l, cc, ho', by rw [hs']; exact hs, hg, by rw [hs']; exact hi, by rw [hs']⟩

theorem shp_frO (n : Nat) (t : Ty) (xs : List t.Den) (o : Ob) : shp (frO n t xs o) = shp o := by cases o <;> rfl

theorem getD_map_fr (n : Nat) (t : Ty) (xs : List t.Den) (l : List IV) (k : Nat) : (l.map (frI n t xs)).getD k botI = frI n t xs (l.getD k botI) := by
  rw [List.getD_eq_getElem?_getD, List.getElem?_map, List.getD_eq_getElem?_getD]
  cases l[k]? <;> rfl

theorem Inv.frz {C : Ctx} {γ : Nat → Value} {σ : St} {a : Act} {w : World} (h : Inv C γ σ a w) (n : Nat) : Inv C γ (frz n σ) a w := by
  unfold Iv.frz
  split
  · rename_i t e xs hn
    have hg : ∀ m, get ((del (Nat.beq n) σ.ob).map fun x => (x.1, frO n t xs x.2)) m = if m = n then none else (get σ.ob m).map (frO n t xs) := by
      intro m
      rw [get_map, get_del]
      by_cases hm : m = n
      · subst hm; simp
      · have : Nat.beq n m = false := beqF fun e => hm e.symm
        simp [this, hm]
    have hg' : ∀ m o', get ((del (Nat.beq n) σ.ob).map fun x => (x.1, frO n t xs x.2)) m = some o' → m ≠ n ∧ ∃ o, get σ.ob m = some o ∧ o' = frO n t xs o := by
      intro m o' ho
      rw [hg] at ho
      by_cases hm : m = n
      · simp [hm] at ho
      · simp [hm] at ho; obtain ⟨o, h1, h2⟩ := ho; exact ⟨hm, o, h1, h2.symm⟩
    have hF : ∀ b, FF γ ((del (Nat.beq n) σ.ob).map fun x => (x.1, frO n t xs x.2)) C.N b → FF γ σ.ob C.N b := by
      intro b hb
      rcases hb with hb | ⟨m, o', ho, hb⟩
      · exact .inl hb
      · obtain ⟨_, o, ho1, _⟩ := hg' m o' ho; exact .inr ⟨m, o, ho1, hb⟩
    have hb : ∀ b, blk (γ n) = some b → ¬ FF γ ((del (Nat.beq n) σ.ob).map fun x => (x.1, frO n t xs x.2)) C.N b := by
      intro b hb hFb
      rcases hFb with hFb | ⟨m, o', ho, hb'⟩
      · exact (h.own n _ b hn hb).1 hFb
      · obtain ⟨hm, o, ho1, _⟩ := hg' m o' ho
        exact hm (h.inj m n o _ b ho1 hn hb' hb)
    have hk : ∀ m, m ≠ n → ∀ o, get σ.ob m = some o → ∃ o', get ((del (Nat.beq n) σ.ob).map fun x => (x.1, frO n t xs x.2)) m = some o' ∧ shp o' = shp o :=
      fun m hm o ho => ⟨frO n t xs o, by rw [hg]; simp [hm, ho], shp_frO n t xs o⟩
    have hc : ∀ {c : Cell} {v : Value}, RepC γ σ.ob w (FF γ σ.ob C.N) c v → RepC γ ((del (Nat.beq n) σ.ob).map fun x => (x.1, frO n t xs x.2)) w (FF γ ((del (Nat.beq n) σ.ob).map fun x => (x.1, frO n t xs x.2)) C.N) (frC n t xs c) v :=
      fun hc => RepC.fr hn (h.objs n _ hn) hF hb hk hc
    have hcs : ∀ {cs : List Cell} {vs : List Value}, RepCs γ σ.ob w (FF γ σ.ob C.N) cs vs → RepCs γ ((del (Nat.beq n) σ.ob).map fun x => (x.1, frO n t xs x.2)) w (FF γ ((del (Nat.beq n) σ.ob).map fun x => (x.1, frO n t xs x.2)) C.N) (cs.map (frC n t xs)) vs := by
      intro cs vs hr
      refine ⟨by simpa using hr.1, fun j c u hj hu => ?_⟩
      rw [List.getElem?_map, Option.map_eq_some_iff] at hj
      obtain ⟨c0, hc0, rfl⟩ := hj
      exact hc (hr.2 j c0 u hc0 hu)
    have hv1 : ∀ {x : V1} {v : Value}, RepV1 γ σ.ob w (FF γ σ.ob C.N) x v → RepV1 γ ((del (Nat.beq n) σ.ob).map fun x => (x.1, frO n t xs x.2)) w (FF γ ((del (Nat.beq n) σ.ob).map fun x => (x.1, frO n t xs x.2)) C.N) (frV1 n t xs x) v := by
      intro x v hx
      cases x with
      | one c => exact hc hx
      | agg cs => obtain ⟨arr, rfl, hr⟩ := hx; exact ⟨arr, rfl, hcs hr⟩
    have hst : Stay (FF γ σ.ob C.N) w (FF γ ((del (Nat.beq n) σ.ob).map fun x => (x.1, frO n t xs x.2)) C.N) w := Stay.less fun b _ hb => hF b hb
    refine ⟨by rw [List.length_map]; exact h.size, h.defers, fun k => ?_, fun m o' ho => ?_, fun m m' o1 o2 b h1 h2 h3 h4 => ?_, fun m o1 b h1 h2 => ?_, h.since, h.root⟩
    · rw [getD_map_fr]
      have hs := h.slots k
      cases hx : σ.sl.getD k botI with
      | v x => rw [hx] at hs; exact hv1 hs
      | tup ys =>
        rw [hx] at hs
        obtain ⟨arr, hv, hl, hr⟩ := hs
        refine ⟨arr, hv, by simpa using hl, fun j x u hj hu => ?_⟩
        rw [List.getElem?_map, Option.map_eq_some_iff] at hj
        obtain ⟨x0, hx0, rfl⟩ := hj
        exact hv1 (hr j x0 u hx0 hu)
    · obtain ⟨hm, o, ho1, rfl⟩ := hg' m o' ho
      have hr := h.objs m o ho1
      cases o with
      | cells cs => obtain ⟨b, arr, e, h1, h2, h3⟩ := hr; exact ⟨b, arr, e, h1, h2, hcs h3⟩
      | rows t' e' ys => obtain ⟨fl, h1, h2, h3⟩ := hr; exact ⟨fl, h1, h2, fun i x hi => (h3 i x hi).stay hst⟩
      | bytes ys => exact hr
    · obtain ⟨_, p1, hp1, _⟩ := hg' m o1 h1
      obtain ⟨_, p2, hp2, _⟩ := hg' m' o2 h2
      exact h.inj m m' p1 p2 b hp1 hp2 h3 h4
    · obtain ⟨_, p1, hp1, _⟩ := hg' m o1 h1
      exact h.own m p1 b hp1 h2
  · exact h.drop _
  · exact h

theorem Inv.frzAll {C : Ctx} {γ : Nat → Value} {a : Act} {w : World} : ∀ (l : List Nat) {σ : St}, Inv C γ σ a w → Inv C γ (frzAll l σ) a w
  | [], _, h => h
  | n :: r, _, h => Inv.frzAll r (h.frz n)

end Go.Iv
