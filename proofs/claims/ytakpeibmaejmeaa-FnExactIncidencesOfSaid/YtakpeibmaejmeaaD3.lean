/- One operation on plain data: what it asks, what it yields, what memory is then. -/
import Derived.Test.YtakpeibmaejmeaaD2
namespace Go.Proofs.Ytakpeibmaejmeaa.DM
open Go.RowKit

inductive Ty where
  | int (k : IntKind)
  | bool
  | str
  | arr (n : Nat) (e : TypeId)
  | st (fs : List (TypeId × Nat))
  | slice (e : TypeId)
  | ptr (e : TypeId)
  | other

structure TI where
  ty : Ty
  sz : Nat
  bytes : Nat
  z : Dat

abbrev TyEnv := TypeId → Option TI

def noR : Rho := fun _ _ => default

def Ty.fits (P : Program) (t : TypeId) : Ty → Prop
  | .int k => P.underlying t = some (.int k)
  | .bool => P.underlying t = some .bool
  | .str => P.underlying t = some .string
  | .arr n e => P.underlying t = some (.array n e)
  | .st fs => ∃ fields, P.underlying t = some (.struct fields) ∧ fields.toList.map (fun f => (f.type, f.offset)) = fs
  | .slice e => P.underlying t = some (.slice e)
  | .ptr e => P.underlying t = some (.pointer e)
  | .other => ∃ d, P.underlying t = some d ∧ (match d with | .struct _ | .array _ _ => true | _ => false) = false

/-- Whether a type's variables lie in several cells. -/
def Ty.agg : Ty → Bool
  | .arr _ _ => true
  | .st _ => true
  | _ => false

def isScalar : Dat → Bool
  | .ar _ _ _ => false
  | .st _ _ => false
  | .ow _ _ _ _ => false
  | .tup _ _ => false
  | .un => false
  | _ => true

/-- The value fits the type's variables: one cell, or an aggregate of the size. -/
def fit (i : TI) (v : Dat) : Bool :=
  match i.ty.agg, v with
  | true, .ar n s _ => Nat.beq (n * s) i.sz
  | true, .st n f => Nat.beq (DM.sz (.st n f)) i.sz
  | false, v => isScalar v && Nat.beq i.sz 1
  | _, _ => false

/-- Values of the type are compared with no look at interfaces. -/
def eqOK (P : Program) (t : TypeId) : Bool := (!P.eqGuardType P.depth t) && ((!P.stoodInHeld t) && (match P.underlying t with
  | some (.struct fs) => fs.toList.all (fun f => f.name != "_")
  | _ => true))

structure TI.ok (P : Program) (t : TypeId) (i : TI) : Prop where
  fits : i.ty.fits P t
  info : (P.info? t).map (fun x => (x.zero, x.size, x.bytes)) = some (some (enc noR i.z), i.sz, i.bytes)
  wf : WF i.z
  pl : Pl i.z
  sc : Sc 0 i.z
  szz : DM.sz i.z = i.sz
  pos : 0 < i.sz
  fitz : fit i i.z = true
  eqg : i.ty.agg = true → eqOK P t = true

def TOK (P : Program) (T : TyEnv) : Prop := ∀ t i, T t = some i → i.ok P t

def AllP : List Prop → Prop
  | [] => True
  | [p] => p
  | p :: q :: l => p ∧ AllP (q :: l)

theorem AllP.cons {p : Prop} {l : List Prop} (h : AllP (p :: l)) : p ∧ AllP l := by
  cases l with
  | nil => exact ⟨h, trivial⟩
  | cons q l => exact h

theorem AllP.app : ∀ {l k : List Prop}, AllP (l ++ k) → AllP l ∧ AllP k
  | [], k, h => ⟨trivial, h⟩
  | p :: l, k, h => by
    obtain ⟨h1, h2⟩ := AllP.cons (l := l ++ k) h
    obtain ⟨h3, h4⟩ := AllP.app h2
    refine ⟨?_, h4⟩
    cases l with
    | nil => exact h1
    | cons q l => exact ⟨h1, h3⟩

def InR : IntKind → Int → Prop
  | .i8, x => -128 ≤ x ∧ x ≤ 127
  | .i16, x => -32768 ≤ x ∧ x ≤ 32767
  | .i32, x => -2147483648 ≤ x ∧ x ≤ 2147483647
  | .i64, x => -9223372036854775808 ≤ x ∧ x ≤ 9223372036854775807
  | .u8, x => 0 ≤ x ∧ x ≤ 255
  | .u16, x => 0 ≤ x ∧ x ≤ 65535
  | .u32, x => 0 ≤ x ∧ x ≤ 4294967295
  | .u64, x => 0 ≤ x ∧ x ≤ 18446744073709551615

def ofV : Value → Dat
  | .int k x => .i k x
  | .bool b => .b b
  | .string s => .s s
  | .pointer none => .np
  | .slice none 0 0 => .ns
  | _ => .un

def ev (fr : Nat → Dat) : Operand → Dat
  | .tmp t => fr t
  | .const v => ofV v
  | .func f => .fn f 0 (fun _ => .un)
  | _ => .un

/-- A number: either it is in range (asked), or it is taken round (wm). -/
def num (wm : Bool) (k : IntKind) (x : Int) : List Prop × Dat :=
  match wm with
  | true => ([], .i k (k.wrap x))
  | false => ([InR k x], .i k x)

def binI (wm : Bool) (op : BinOp) (k : IntKind) (a b : Int) : Option (List Prop × Dat) :=
  match op with
  | .add => some (num wm k (a + b))
  | .sub => some (num wm k (a - b))
  | .mul => some (num wm k (a * b))
  | .quo => some ((b ≠ 0) :: (num wm k (a.tdiv b)).1, (num wm k (a.tdiv b)).2)
  | .rem => some ([b ≠ 0], .i k (a.tmod b))
  | .eql => some ([], .b (decide (a = b)))
  | .neq => some ([], .b (!decide (a = b)))
  | .lss => some ([], .b (decide (a < b)))
  | .leq => some ([], .b (decide (a ≤ b)))
  | .gtr => some ([], .b (decide (b < a)))
  | .geq => some ([], .b (decide (b ≤ a)))
  | .and => some ([], .i k (k.wrap (BitVec.ofInt k.bits a &&& BitVec.ofInt k.bits b).toNat))
  | .or => some ([], .i k (k.wrap (BitVec.ofInt k.bits a ||| BitVec.ofInt k.bits b).toNat))
  | .xor => some ([], .i k (k.wrap (BitVec.ofInt k.bits a ^^^ BitVec.ofInt k.bits b).toNat))
  | .shl => some ([0 ≤ b], .i k (k.wrap (a * 2 ^ (min b.toNat k.bits))))
  | .shr => some ([0 ≤ b], .i k (a.fdiv (2 ^ (min b.toNat k.bits))))
  | _ => none

def kEq : IntKind → IntKind → Bool
  | .i8, .i8 => true | .i16, .i16 => true | .i32, .i32 => true | .i64, .i64 => true
  | .u8, .u8 => true | .u16, .u16 => true | .u32, .u32 => true | .u64, .u64 => true
  | _, _ => false

def isSh : BinOp → Bool
  | .shl => true
  | .shr => true
  | _ => false

def bin (T : TyEnv) (wm : Bool) (op : BinOp) (t : TypeId) (x y : Dat) : Option (List Prop × Dat) :=
  match x, y with
  | .i k a, .i k' b => bif kEq k k' || isSh op then binI wm op k a b else none
  | .b a, .b b => match T t, op with
    | some ⟨.bool, _, _, _⟩, .eql => some ([], .b (a == b))
    | some ⟨.bool, _, _, _⟩, .neq => some ([], .b (!(a == b)))
    | _, _ => none
  | _, _ => none

/-- What lies at a path, the indexes being within their bounds (asked). -/
def navE (d : Dat) (q : List Nat) : Option (List Prop × Dat) := match q with
  | [] => some ([], d)
  | i :: q => match d with
    | .ar n _ f => match navE (f i) q with
      | some (ps, x) => some ((i < n) :: ps, x)
      | none => none
    | .st n f => match navE (f i) q with
      | some (ps, x) => some ((i < n) :: ps, x)
      | none => none
    | _ => none
termination_by structural q

def offA (d : Dat) (q : List Nat) (acc : Nat) : Nat := match q with
  | [] => acc
  | i :: q => match d with
    | .ar _ s f => offA (f i) q (acc + i * s)
    | .st _ f => offA (f i) q (acc + sumN i (fun j => DM.sz (f j)))
    | _ => acc
termination_by structural q

theorem navE_ok : ∀ {q : List Nat} {d x : Dat} {ps : List Prop}, navE d q = some (ps, x) → AllP ps → navL d q = some x
  | [], d, x, ps, h, _ => by simp only [navE, Option.some.injEq, Prod.mk.injEq] at h; simp [navL, h.2]
  | i :: q, d, x, ps, h, hp => by
    cases d <;> simp only [navE] at h <;> first | (cases h; done) | skip
    all_goals
      split at h
      · rename_i hq
        simp only [Option.some.injEq, Prod.mk.injEq] at h
        obtain ⟨rfl, rfl⟩ := h
        obtain ⟨h1, h2⟩ := hp.cons
        simp only [navL, if_pos h1]
        exact navE_ok hq h2
      · cases h

theorem offA_eq : ∀ (q : List Nat) (d x : Dat) (acc : Nat), navL d q = some x → offA d q acc = acc + offs d q
  | [], d, x, acc, _ => by simp [offA, offs]
  | i :: q, d, x, acc, h => by
    cases d <;> simp only [navL] at h <;> first | (cases h; done) | skip
    all_goals
      split at h
      · simp only [offA, offs]
        rw [offA_eq q _ x _ h]; omega
      · cases h

def Root.navE (R : Root) (q : List Nat) : Option (List Prop × Dat) :=
  match R with
  | .var d => DM.navE d q
  | .row _ n _ f => match q with
    | [] => none
    | i :: q => match DM.navE (f i) q with
      | some (ps, x) => some ((i < n) :: ps, x)
      | none => none
  | .ro n _ f => match q with
    | [] => none
    | i :: q => match DM.navE (f i) q with
      | some (ps, x) => some ((i < n) :: ps, x)
      | none => none
  | .dead => none

def Root.offA (R : Root) (q : List Nat) : Nat :=
  match R with
  | .var d => DM.offA d q 0
  | .row _ _ s f => match q with
    | [] => 0
    | i :: q => DM.offA (f i) q (0 + i * s)
  | .ro _ s f => match q with
    | [] => 0
    | i :: q => DM.offA (f i) q (0 + i * s)
  | .dead => 0

def isSlice : Dat → Bool
  | .sl _ _ _ _ => true
  | .ns => true
  | _ => false

def plE : Dat → List Prop
  | .ar n s f => [Pl (.ar n s f)]
  | .st n f => [Pl (.st n f)]
  | _ => []

def loadE (T : TyEnv) (t : TypeId) (x : Dat) (m : List Root) : Option (List Prop × Dat) :=
  match x, T t with
  | .p r q o, some i => match m[r]? with
    | some R => match R.navE q with
      | some (ps, v) => bif fit i v then some (ps ++ (R.offA q = o) :: plE v, v) else none
      | none => none
    | none => none
  | _, _ => none

/-- Cells of this size, whatever lies there. -/
def Root.rowS (R : Root) (q : List Nat) (k : Nat) : Bool :=
  match R, q with
  | .row _ _ s _, [_] => Nat.beq s k
  | _, _ => false

def storeE (T : TyEnv) (t : TypeId) (x v : Dat) (m : List Root) : Option (List Prop × List Root) :=
  match x, T t with
  | .p r q o, some i => match m[r]? with
    | some R => bif R.mine then match R.navE q with
        | some (ps, old) => bif fit i v && (R.rowS q i.sz || fit i old) then some (ps ++ [R.offA q = o], m.set r (R.upd q v)) else none
        | none => none
      else none
    | none => none
  | _, _ => none

end Go.Proofs.Ytakpeibmaejmeaa.DM
