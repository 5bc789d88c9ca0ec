/-
  The engine, part 3: what each operation does to abstract values.
  CONDITIONS: those that each theorem names.
-/
import Derived.Test.YtjhcdndmbilogaaE2
namespace Go.Proofs.Ytjhcdndmbilogaa
namespace Eng
open Go Go.RowKit
set_option linter.unusedVariables false

inductive TK where
  | bool | int (k : IntKind) | string | slice (e : TypeId) | struct (fs : List (Nat × TypeId)) | array (n : Nat) (e : TypeId) | pointer (e : TypeId) | iface | other

def tkOf : TypeDesc → TK
  | .bool => .bool
  | .int k => .int k
  | .string => .string
  | .slice e => .slice e
  | .struct fs => .struct (fs.toList.map fun f => (f.offset, f.type))
  | .array n e => .array n e
  | .pointer e => .pointer e
  | .interface _ => .iface
  | _ => .other

structure TI where
  k : TK
  zero : List Value
  bytes : Nat

def TI.size (i : TI) : Nat := i.zero.length
def TI.agg (i : TI) : Bool := match i.k with | .struct _ | .array _ _ => true | _ => false

def tiOf (P : Program) (t : TypeId) : Option TI :=
  match P.underlying t, P.info? t with
  | some d, some i => match i.zero with
    | some z => if z.cells.size = i.size ∧ z.cells.all (·.oneCell') = true then some ⟨tkOf d, z.cells.toList, i.bytes⟩ else none
    | none => none
  | _, _ => none

structure Eff where
  val : FV
  del : List Nat := []
  put : List (Nat × Obj) := []
  rd : List Nat := []

def lookL {α : Type} : List (Nat × α) → Nat → Option α
  | [], _ => none
  | (k, x) :: r, n => match Nat.beq n k with
    | true => some x
    | false => lookL r n

theorem lookL_cons {α : Type} (k : Nat) (x : α) (r : List (Nat × α)) (n : Nat) : lookL ((k, x) :: r) n = if n = k then some x else lookL r n := by
  show (match Nat.beq n k with | true => some x | false => lookL r n) = _
  by_cases h : n = k
  · subst h; simp
  · rw [if_neg h]
    have : Nat.beq n k = false := by
      cases hb : Nat.beq n k
      · rfl
      · exact absurd (Nat.eq_of_beq_eq_true hb) h
    rw [this]

def Eff.app (e : Eff) (H : Hp) : Hp := fun o => match lookL e.put o with
  | some ob => some ob
  | none => if o ∈ e.del then none else H o

/-- A constant. -/
def cst (v : Value) : FV := match v with
  | .agg cs => if cs.all (·.oneCell') then .agg (cs.toList.map fun x => .v x) else .undef
  | v => if v.oneCell' then .c (.v v) else .undef

def evOf (T : Nat → Option FV) : Operand → FV
  | .tmp t => (T t).getD .undef
  | .const v => cst v
  | .global _ => .undef
  | .func f => .fn f []

def FV.cells : FV → Option (List C)
  | .c x => some [x]
  | .agg cs => some cs
  | _ => none

/-- Operators on exact values: what is asked, and the value. -/
def binV (op : BinOp) (x y : Value) : Option (Bool × Value) :=
  match op, x, y with
  | .shl, .int k a, .int _ b => some (decide (0 ≤ b), .int k (k.wrap (a * 2 ^ (min b.toNat k.bits))))
  | .shr, .int k a, .int _ b => some (decide (0 ≤ b), .int k (a.fdiv (2 ^ (min b.toNat k.bits))))
  | .add, .int k a, .int k' b => if k = k' then some (true, .int k (k.wrap (a + b))) else none
  | .sub, .int k a, .int k' b => if k = k' then some (true, .int k (k.wrap (a - b))) else none
  | .mul, .int k a, .int k' b => if k = k' then some (true, .int k (k.wrap (a * b))) else none
  | .quo, .int k a, .int k' b => if k = k' then some (b != 0, .int k (k.wrap (a.tdiv b))) else none
  | .rem, .int k a, .int k' b => if k = k' then some (b != 0, .int k (a.tmod b)) else none
  | .and, .int k a, .int k' b => if k = k' then some (true, .int k (k.wrap (BitVec.ofInt k.bits a &&& BitVec.ofInt k.bits b).toNat)) else none
  | .or, .int k a, .int k' b => if k = k' then some (true, .int k (k.wrap (BitVec.ofInt k.bits a ||| BitVec.ofInt k.bits b).toNat)) else none
  | .xor, .int k a, .int k' b => if k = k' then some (true, .int k (k.wrap (BitVec.ofInt k.bits a ^^^ BitVec.ofInt k.bits b).toNat)) else none
  | .eql, .int k a, .int k' b => if k = k' then some (true, .bool (a == b)) else none
  | .neq, .int k a, .int k' b => if k = k' then some (true, .bool (a != b)) else none
  | .lss, .int k a, .int k' b => if k = k' then some (true, .bool (decide (a < b))) else none
  | .leq, .int k a, .int k' b => if k = k' then some (true, .bool (decide (a ≤ b))) else none
  | .gtr, .int k a, .int k' b => if k = k' then some (true, .bool (decide (a > b))) else none
  | .geq, .int k a, .int k' b => if k = k' then some (true, .bool (decide (a ≥ b))) else none
  | .add, .string a, .string b => some (decide (a.size + b.size ≤ 9223372036854775807), .string (a ++ b))
  | .eql, .string a, .string b => some (true, .bool (a.toList == b.toList))
  | .neq, .string a, .string b => some (true, .bool (!(a.toList == b.toList)))
  | .lss, .string a, .string b => some (true, .bool (Op.bytesLess a.toList b.toList))
  | .leq, .string a, .string b => some (true, .bool (Op.bytesLess a.toList b.toList || a.toList == b.toList))
  | .gtr, .string a, .string b => some (true, .bool (!(Op.bytesLess a.toList b.toList || a.toList == b.toList)))
  | .geq, .string a, .string b => some (true, .bool (!Op.bytesLess a.toList b.toList))
  | _, _, _ => none

def isC : Operand → Bool
  | .const _ => true
  | _ => false

/-- Equality by the type: bools; an interface's nil and the literal nil. -/
def eqV (k : TK) (op : BinOp) (c : Bool) (x y : Value) : Option Bool :=
  match k, op, x, y with
  | .bool, .eql, .bool a, .bool b => some (a == b)
  | .bool, .neq, .bool a, .bool b => some (!(a == b))
  | .iface, .eql, .nilIface, .nilIface => if c then some true else none
  | .iface, .neq, .nilIface, .nilIface => if c then some false else none
  | _, _, _, _ => none

def unV (op : UnOp) (x : Value) : Option Value :=
  match op, x with
  | .neg, .int k n => some (.int k (k.wrap (0 - n)))
  | .not, .bool b => some (.bool !b)
  | _, _ => none

def nilS : Value := .slice none 0 0

/-- Cells that are data; a row that they lead to is made read-only. -/
def frz (H : Hp) : List C → Option (List C × List (Nat × Obj))
  | [] => some ([], [])
  | .all o es :: r => match H o with
    | some (.row _ t xs) => match Nat.beq es t.size with
      | true => match frz H r with
        | some (ds, ps) => some (C.sl t xs :: ds, (o, .row true t xs) :: ps)
        | none => none
      | false => none
    | _ => none
  | .part o es lo n :: r => match H o with
    | some (.row _ t xs) => match Nat.beq es t.size with
      | true => match frz H r with
        | some (ds, ps) => some (C.sl t ((xs.drop lo).take n) :: ds, (o, .row true t xs) :: ps)
        | none => none
      | false => none
    | _ => none
  | x :: r => match frz H r with
    | some (ds, ps) => some (x :: ds, ps)
    | none => none

def refs : List C → List Nat
  | [] => []
  | .all o _ :: r => o :: refs r
  | .part o _ _ _ :: r => o :: refs r
  | _ :: r => refs r

def mkv (agg : Bool) (cs : List C) : FV := match agg with
  | true => .agg cs
  | false => match cs with
    | [c] => .c c
    | _ => .undef

/-- A slice's elements, of one type. -/
structure Sl where
  t : Ty
  xs : List t.T

def rowsOf (H : Hp) : FV → Option Sl
  | .c (.sl t xs) => some ⟨t, xs⟩
  | .c (.all o es) => match H o with
    | some (.row _ t xs) => match Nat.beq es t.size with
      | true => some ⟨t, xs⟩
      | false => none
    | _ => none
  | .c (.part o es lo n) => match H o with
    | some (.row _ t xs) => match Nat.beq es t.size with
      | true => some ⟨t, (xs.drop lo).take n⟩
      | false => none
    | _ => none
  | _ => none

def ids : FV → List Nat
  | .c x => refs [x]
  | .agg cs => refs cs
  | .pb o _ => [o]
  | .pr o _ _ _ => [o]
  | _ => []

def byteRows (s : ByteArray) : List Int := s.data.toList.map fun b => (b.toNat : Int)

/-- The bytes of a row of bytes. -/
def rowBytes (xs : List Int) : ByteArray := ⟨(xs.map fun n => UInt8.ofNat n.toNat).toArray⟩

def splice {α : Type} (l : List α) (j : Nat) (x : List α) : List α := l.take j ++ x ++ l.drop (j + x.length)

def lim : Nat := 35184372088832
def cap36 : Nat := 68719476736

/-- What is appended, as elements of a type. -/
def newRows (H : Hp) (t : Ty) : FV → Option (List t.T)
  | .c (.v (.slice none 0 0)) => some []
  | .c (.v (.string s)) => if h : t = .int .u8 then some (h ▸ byteRows s) else none
  | x => match rowsOf H x with
    | some ⟨t', xs⟩ => if h : t' = t then some (h ▸ xs) else none
    | none => none

def lenOf (H : Hp) : TK → FV → Option Nat
  | .slice _, .c (.v (.slice none 0 0)) => some 0
  | .string, .c (.v (.string s)) => some s.size
  | .slice _, .c (.sl _ xs) => some xs.length
  | .slice _, .c (.all o _) => match H o with
    | some (.row _ _ xs) => some xs.length
    | _ => none
  | .slice _, .c (.part _ _ _ n) => some n
  | _, _ => none

def asI : FV → Option Int
  | .c (.v (.int _ n)) => some n
  | _ => none

/-- Parts put into cells. -/
def fillC (places : List (Nat × Nat)) : List C → List (Nat × Option (List C)) → Option (List C)
  | cells, [] => some cells
  | cells, (i, x) :: r => match places[i]?, x with
    | some (off, size), some xc => if xc.length = size ∧ off + size ≤ cells.length then fillC places (splice cells off xc) r else none
    | _, _ => none

def placesOf (P : Program) : List (Nat × TypeId) → Option (List (Nat × Nat))
  | [] => some []
  | (off, ft) :: r => match tiOf P ft, placesOf P r with
    | some ti, some l => some ((off, ti.size) :: l)
    | _, _ => none

/-- The cells of values, one after the other, so many each. -/
def catC (es : Nat) : List (Option (List C)) → Option (List C)
  | [] => some []
  | some xc :: r => match Nat.beq xc.length es with
    | true => match catC es r with
      | some l => some (xc ++ l)
      | none => none
    | false => none
  | none :: _ => none

/-- So many elements out of cells. -/
def decN (t : Ty) : Nat → List C → Option (List t.T)
  | 0, [] => some []
  | 0, _ :: _ => none
  | n + 1, cs => match dec t (cs.take t.size) with
    | some x => match decN t n (cs.drop t.size) with
      | some xs => some (x :: xs)
      | none => none
    | none => none

/-- The type of a Go type's data. -/
def tyS (F : TypeId → Option Ty) : List (Nat × TypeId) → Option Ty
  | [] => some .unit
  | f :: r => match r with
    | [] => F f.2
    | _ :: _ => match F f.2, tyS F r with
      | some a, some b => some (.pair a b)
      | _, _ => none
def tyOf (P : Program) : Nat → TypeId → Option Ty
  | 0, _ => none
  | n + 1, t => match tiOf P t with
    | some ti => match ti.k with
      | .int k => some (.int k)
      | .bool => some .bool
      | .string => some .str
      | .iface => some .ifc
      | .slice e => match tyOf P n e with
        | some a => some (.sl a)
        | none => none
      | .struct fs => tyS (tyOf P n) fs
      | _ => none
    | none => none

def okTx : TK → Bool
  | .slice _ => true
  | .string => true
  | _ => false

/-- A row that is appended to: its number, whether its elements are read-only, the first element that is taken, the elements. -/
def ownRow (H : Hp) : FV → Option (Nat × Bool × Nat × Sl)
  | .c (.all o es) => match H o with
    | some (.row fz t xs) => match Nat.beq es t.size with
      | true => some (o, fz, 0, ⟨t, xs⟩)
      | false => none
    | _ => none
  | .c (.part o es lo n) => match H o with
    | some (.row fz t xs) => match Nat.beq es t.size with
      | true => match fz with
        | false => some (o, false, lo, ⟨t, (xs.drop lo).take n⟩)
        | true => none
      | false => none
    | _ => none
  | _ => none

def fieldOf (P : Program) (t : TypeId) (f : Nat) : Option (Nat × TI) :=
  match tiOf P t with
  | some ti => match ti.k with
    | .struct fs => match fs[f]? with
      | some (off, ft) => match tiOf P ft with
        | some fi => some (off, fi)
        | none => none
      | none => none
    | _ => none
  | none => none

def elemOf (P : Program) (t : TypeId) : Option (TypeId × TI) :=
  match tiOf P t with
  | some ti => match ti.k with
    | .slice e => match tiOf P e with
      | some te => some (e, te)
      | none => none
    | _ => none
  | none => none

/-- An operand of a slice expression, if it is there. -/
def bI (ev : Operand → FV) : Option Operand → Option (Option Int)
  | none => some none
  | some z => match asI (ev z) with
    | some n => some (some n)
    | none => none
def loI : Option Int → Int
  | none => 0
  | some l => l
def hiI (h : Option Int) (len : Nat) : Int := match h with
  | none => len
  | some h => h
def cndL (l h : Option Int) (len : Nat) : Bool := match l, h with
  | none, none => true
  | some l, none => decide (0 ≤ l) && decide (l ≤ (len : Int))
  | none, some h => decide (0 ≤ h) && decide (h ≤ (len : Int))
  | some l, some h => decide (0 ≤ l) && (decide (l ≤ h) && decide (h ≤ (len : Int)))
def cutL {α : Type} (l h : Option Int) (xs : List α) : List α := match l, h with
  | none, none => xs
  | some l, none => xs.drop l.toNat
  | none, some h => xs.take h.toNat
  | some l, some h => (xs.take h.toNat).drop l.toNat
def cutS (l h : Option Int) (s : ByteArray) : ByteArray := match l, h with
  | none, none => s
  | some l, none => s.extract l.toNat s.size
  | none, some h => s.extract 0 h.toNat
  | some l, some h => s.extract l.toNat h.toNat
def cutA (o es : Nat) (l h : Option Int) (len : Nat) : C := match l, h with
  | none, none => .all o es
  | some l, none => .part o es l.toNat (len - l.toNat)
  | none, some h => .part o es 0 h.toNat
  | some l, some h => .part o es l.toNat (h.toNat - l.toNat)
def imax (a b : Int) : Int := if b > a then b else a
def imin (a b : Int) : Int := if b < a then b else a

/-- '==' by the type. -/
def eqFs (P : Program) (E : TypeId → List C → List C → Option Bool) (xs ys : List C) : List Field → Option Bool
  | [] => some true
  | f :: fs => match f.name == "_" with
    | true => none
    | false => match tiOf P f.type with
      | some fi => if (fi.agg = false → fi.size = 1) ∧ f.offset + fi.size ≤ xs.length ∧ f.offset + fi.size ≤ ys.length then
          match E f.type ((xs.drop f.offset).take fi.size) ((ys.drop f.offset).take fi.size) with
          | some r => match eqFs P E xs ys fs with
            | some s => some (r && s)
            | none => none
          | none => none
        else none
      | none => none
def eqT (P : Program) : Nat → TypeId → List C → List C → Option Bool
  | 0, _, _, _ => none
  | d + 1, t, xs, ys => match P.underlying t with
    | some .bool => match xs, ys with
      | [.v (.bool a)], [.v (.bool b)] => some (a == b)
      | _, _ => none
    | some (.int _) => match xs, ys with
      | [.v (.int k a)], [.v (.int k' b)] => if k = k' then some (a == b) else none
      | _, _ => none
    | some (.struct fs) => match P.stoodInHeld t with
      | true => none
      | false => eqFs P (eqT P d) xs ys fs.toList
    | _ => none

def eqAgg (P : Program) (op : BinOp) (t : TypeId) (xs ys : List C) : Option Bool :=
  match P.eqGuardType P.depth t with
  | true => none
  | false => match tiOf P t with
    | some ti => match ti.agg with
      | true => match eqT P 8 t xs ys with
        | some r => match op with
          | .eql => some r
          | .neq => some !r
          | _ => none
        | none => none
      | false => none
    | none => none

def opEff (P : Program) (ev : Operand → FV) (H : Hp) (nid : Nat) : Op → Option (Bool × Eff)
  | .move x | .assign x => some (true, { val := ev x })
  | .pick c a b => match ev c with
    | .c (.v (.bool t)) => match t with
      | true => some (true, { val := ev a })
      | false => some (true, { val := ev b })
    | _ => none
  | .alloc t => match tiOf P t with
    | some ti => some (true, { val := .pb nid 0, put := [(nid, .box (ti.zero.map fun x => .v x))] })
    | none => none
  | .box t x => match (ev x).cells with
    | some cs => some (true, { val := .pb nid 0, put := [(nid, .box cs)] })
    | none => none
  | .load t p => match tiOf P t with
    | none => none
    | some ti => match ev p with
      | .pb o j => match H o with
        | some (.box cells) => if j + ti.size ≤ cells.length ∧ (ti.agg = false → ti.size = 1) then some (true, { val := mkv ti.agg ((cells.drop j).take ti.size), rd := [o] }) else none
        | _ => none
      | .pr o es i j => match H o with
        | some (.row _ t xs) => if es = t.size ∧ j + ti.size ≤ t.size ∧ (ti.agg = false → ti.size = 1) then some (true, { val := mkv ti.agg (((enc t (gt t xs i)).drop j).take ti.size), rd := [o] }) else none
        | _ => none
      | .rp cells => if ti.size ≤ cells.length ∧ (ti.agg = false → ti.size = 1) then some (true, { val := mkv ti.agg (cells.take ti.size) }) else none
      | _ => none
  | .store t p x => match tiOf P t, (ev x).cells with
    | some ti, some xc => match ev p with
      | .pb o j => match H o with
        | some (.box cells) => if xc.length = ti.size ∧ j + xc.length ≤ cells.length then some (true, { val := .undef, put := [(o, .box (splice cells j xc))], rd := [o] }) else none
        | _ => none
      | .pr o es i j => match H o with
        | some (.row false t xs) => if es = t.size ∧ o ∉ refs xc ∧ xc.length = ti.size ∧ j + xc.length ≤ t.size then match frz H xc with
          | some (xd, ps) => match dec t (splice (enc t (gt t xs i)) j xd) with
            | some y => some (true, { val := .undef, put := (o, .row false t (xs.set i y)) :: ps, rd := o :: refs xc })
            | none => none
          | none => none
          else none
        | _ => none
      | _ => none
    | _, _ => none
  | .build t parts => match tiOf P t with
    | some ti => match ti.k with
      | .struct fs => match placesOf P fs with
        | some places => match fillC places (ti.zero.map fun x => .v x) (parts.toList.map fun p => (p.1, (ev p.2).cells)) with
          | some cs => some (true, { val := .agg cs })
          | none => none
        | none => none
      | _ => none
    | none => none
  | .buildSlice t len parts => match elemOf P t with
    | some (e, te) => match tyOf P 8 e with
      | some ty => if te.size = ty.size ∧ te.size ≠ 0 ∧ parts.toList.map (·.1) = List.range len ∧ len * te.size ≤ 16777216 then
          match catC te.size (parts.toList.map fun p => (ev p.2).cells) with
          | some cs => match frz H cs with
            | some (ds, ps) => match decN ty len ds with
              | some xs => some (true, { val := .c (.all nid te.size), put := (nid, .row false ty xs) :: ps, rd := refs cs })
              | none => none
            | none => none
          | none => none
        else none
      | none => none
    | none => none
  | .nilCheck x => match ev x with
    | .pb o j => some (true, { val := .pb o j })
    | .pr o es i j => some (true, { val := .pr o es i j })
    | .rp cells => some (true, { val := .rp cells })
    | .fn f caps => some (true, { val := .fn f caps })
    | _ => none
  | .binOp op t x y _ => match ev x, ev y with
    | .c (.v u), .c (.v v) => match binV op u v with
      | some (c, r) => some (c, { val := .c (.v r) })
      | none => match tiOf P t with
        | some ti => match eqV ti.k op (isC x || isC y) u v with
          | some r => some (true, { val := .c (.v (.bool r)) })
          | none => none
        | none => none
    | .c (.e b), .c (.v .nilIface) => match isC y with
      | true => match tiOf P t with
        | some ti => match ti.k, op with
          | .iface, .eql => some (true, { val := .c (.v (.bool b)) })
          | .iface, .neq => some (true, { val := .c (.v (.bool !b)) })
          | _, _ => none
        | none => none
      | false => none
    | .agg xs, .agg ys => match eqAgg P op t xs ys with
      | some r => some (true, { val := .c (.v (.bool r)) })
      | none => none
    | _, _ => none
  | .unOp op _ x => match ev x with
    | .c (.v u) => match unV op u with
      | some r => some (true, { val := .c (.v r) })
      | none => none
    | _ => none
  | .convert src dst x => match ev x with
    | .c (.v (.int _ n)) => match tiOf P dst, tiOf P src with
      | some ti, some si => match ti.k, si.k with
        | .int k, .int _ => some (true, { val := .c (.v (.int k (k.wrap n))) })
        | _, _ => none
      | _, _ => none
    | _ => none
  | .makeFunc (.func f) first caps => if first = #[] then some (true, { val := .fn f (caps.toList.map ev) }) else none
  | .extract x i => match ev x with
    | .tup vs => match vs[i]? with
      | some v => some (true, { val := v })
      | none => none
    | _ => none
  | .field t x f => match fieldOf P t f, ev x with
    | some (off, fi), .agg cs => if (fi.agg = false → fi.size = 1) ∧ off + fi.size ≤ cs.length then some (true, { val := mkv fi.agg ((cs.drop off).take fi.size) }) else none
    | _, _ => none
  | .fieldAddr t x f => match fieldOf P t f with
    | some (off, fi) => if fi.size = 0 then none else match ev x with
      | .pb o j => some (true, { val := .pb o (j + off) })
      | .pr o es i j => some (true, { val := .pr o es i (j + off) })
      | .rp cells => some (true, { val := .rp (cells.drop off) })
      | _ => none
    | none => none
  | .indexAddr t x i => match elemOf P t, asI (ev i) with
    | some (e, te), some n => match ev x with
      | .c (.sl t xs) => if t.size = te.size then some (decide (0 ≤ n) && decide (n < (xs.length : Int)), { val := .rp (enc t (gt t xs n.toNat)) }) else none
      | .c (.all o es) => match H o with
        | some (.row _ t xs) => if es = te.size ∧ es = t.size then some (decide (0 ≤ n) && decide (n < (xs.length : Int)), { val := .pr o es n.toNat 0, rd := [o] }) else none
        | _ => none
      | .c (.part o es lo m) => if es = te.size then some (decide (0 ≤ n) && decide (n < (m : Int)), { val := .pr o es (lo + n.toNat) 0 }) else none
      | _ => none
    | _, _ => none
  | .index t x i => match tiOf P t, ev x, asI (ev i) with
    | some ti, .c (.v (.string s)), some n => match ti.k with
      | .string => some (decide (0 ≤ n) && decide (n < (s.size : Int)), { val := .c (.v (.int .u8 ((s.data.getD n.toNat 0).toNat : Int))) })
      | _ => none
    | _, _, _ => none
  | .slice t x lo hi none => match tiOf P t, bI ev lo, bI ev hi with
    | some ti, some l, some h => match ti.k, ev x with
      | .string, .c (.v (.string s)) => some (cndL l h s.size, { val := .c (.v (.string (cutS l h s))) })
      | .slice e, .c (.sl t xs) => match tiOf P e with
        | some te => if t.size = te.size then some (cndL l h xs.length, { val := .c (.sl t (cutL l h xs)) }) else none
        | none => none
      | .slice e, .c (.all o es) => match tiOf P e, H o with
        | some te, some (.row _ t xs) => if es = te.size ∧ es = t.size then some (cndL l h xs.length, { val := .c (cutA o es l h xs.length), rd := [o] }) else none
        | _, _ => none
      | .slice e, .c (.part o es lo0 n) => match tiOf P e with
        | some te => if es = te.size then some (cndL l h n, { val := .c (.part o es (lo0 + (loI l).toNat) ((hiI h n).toNat - (loI l).toNat)) }) else none
        | none => none
      | _, _ => none
    | _, _, _ => none
  | .makeSlice t l c => match elemOf P t, asI (ev l), asI (ev c) with
    | some (e, te), some n, some m => match tyOf P 8 e with
      | some ty => match dec ty (te.zero.map .v) with
        | some z => if te.bytes ≤ 512 ∧ ty.size = te.size then
            some (decide (0 ≤ n) && (decide (n ≤ m) && decide (m ≤ (cap36 : Int))), { val := .c (.all nid te.size), put := [(nid, .row false ty (List.replicate n.toNat z))] })
          else none
        | none => none
      | none => none
    | _, _, _ => none
  | .call { callee := .builtin .len, args, argTypes } => match args.toList, argTypes.toList with
    | [x], [t] => match tiOf P t with
      | some ti => match lenOf H ti.k (ev x) with
        | some n => some (true, { val := .c (.v (.int .i64 n)), rd := ids (ev x) })
        | none => none
      | none => none
    | _, _ => none
  | .call { callee := .builtin .max, args, argTypes } => match args.toList with
    | [x, y] => match ev x, ev y with
      | .c (.v (.int k a)), .c (.v (.int k' b)) => if k = k' then some (true, { val := .c (.v (.int k (imax a b))) }) else none
      | _, _ => none
    | _ => none
  | .call { callee := .builtin .min, args, argTypes } => match args.toList with
    | [x, y] => match ev x, ev y with
      | .c (.v (.int k a)), .c (.v (.int k' b)) => if k = k' then some (true, { val := .c (.v (.int k (imin a b))) }) else none
      | _, _ => none
    | _ => none
  | .call { callee := .builtin .append, args, argTypes } => match args.toList, argTypes.toList with
    | [s, x], [t, tx] => match elemOf P t, tiOf P tx with
      | some (e, te), some txi => if te.bytes ≤ 512 ∧ okTx txi.k = true then
        match ev s with
        | .c (.v (.slice none 0 0)) => match tyOf P 8 e with
          | some ty => if ty.size = te.size then match newRows H ty (ev x) with
              | some new => some (decide (new.length ≤ cap36), { val := .c (.all nid te.size), put := [(nid, .row false ty new)], rd := ids (ev x) })
              | none => none
            else none
          | none => none
        | sv => match ownRow H sv with
          | some (o, fz, lo, ⟨ty, xs⟩) => if ty.size = te.size then match newRows H ty (ev x) with
              | some new => some (decide (xs.length + new.length ≤ cap36), { val := .c (.all nid te.size), del := [o], put := [(nid, .row fz ty (xs ++ new))], rd := o :: ids (ev x) })
              | none => none
            else none
          | none => none
        else none
      | _, _ => none
    | _, _ => none
  | _ => none
end Eng
end Go.Proofs.Ytjhcdndmbilogaa
