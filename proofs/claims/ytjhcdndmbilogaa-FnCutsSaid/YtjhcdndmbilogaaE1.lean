/-
  The engine, part 1: typed abstract values, and what they say of the world.
  CONDITIONS: those that each theorem names.
-/
import Derived.Orders
import Derived.Below
import Derived.Tactics
import Derived.Deep.AppendSrc
import Derived.Laws.MakeOwn
import Derived.Great.FillDense
namespace Go.Proofs.Ytjhcdndmbilogaa
namespace Eng
open Go Go.RowKit
set_option linter.unusedSectionVars false
set_option linter.unusedVariables false

/-- The types of data. -/
inductive Ty where
  | int (k : IntKind)
  | bool
  | str
  | ifc
  | unit
  | pair (a b : Ty)
  | sl (a : Ty)
  deriving DecidableEq

@[reducible] def Ty.T : Ty → Type
  | .int _ => Int
  | .bool => Bool
  | .str => ByteArray
  | .ifc => Bool
  | .unit => Unit
  | .pair a b => a.T × b.T
  | .sl a => List a.T

def Ty.size : Ty → Nat
  | .unit => 0
  | .pair a b => a.size + b.size
  | _ => 1

def Ty.dflt : (t : Ty) → t.T
  | .int _ => (0 : Int)
  | .bool => false
  | .str => ByteArray.empty
  | .ifc => true
  | .unit => ()
  | .pair a b => (a.dflt, b.dflt)
  | .sl _ => []

/-- The element number i. -/
def gt (t : Ty) (xs : List t.T) (i : Nat) : t.T := xs.getD i t.dflt

theorem gt_of {t : Ty} {xs : List t.T} {i : Nat} (h : i < xs.length) : xs[i]? = some (gt t xs i) := by
  unfold gt; simp [List.getD, h]

/-- A cell: an exact value; an interface value (is it nil?); read-only data; a row of the frame's own, whole or in part (its number, the element's cells, the first element, how many). -/
inductive C where
  | v (x : Value)
  | e (isNil : Bool)
  | sl (t : Ty) (xs : List t.T)
  | all (o es : Nat)
  | part (o es lo n : Nat)

def enc : (t : Ty) → t.T → List C
  | .int k, (n : Int) => [.v (.int k n)]
  | .bool, (b : Bool) => [.v (.bool b)]
  | .str, (s : ByteArray) => [.v (.string s)]
  | .ifc, (b : Bool) => [.e b]
  | .unit, _ => []
  | .pair a b, x => enc a x.1 ++ enc b x.2
  | .sl a, xs => [.sl a xs]

theorem enc_length : ∀ (t : Ty) (x : t.T), (enc t x).length = t.size
  | .int k, x => rfl
  | .bool, x => rfl
  | .str, x => rfl
  | .ifc, x => rfl
  | .unit, x => rfl
  | .pair a b, x => by simp only [enc, List.length_append, enc_length a, enc_length b, Ty.size]
  | .sl a, x => rfl

/-- Cells read as data of a type. -/
def dec : (t : Ty) → List C → Option t.T
  | .int k, cs => match cs with
    | [.v (.int k' n)] => if k = k' then some n else none
    | _ => none
  | .bool, cs => match cs with
    | [.v (.bool b)] => some b
    | _ => none
  | .str, cs => match cs with
    | [.v (.string s)] => some s
    | _ => none
  | .ifc, cs => match cs with
    | [.e b] => some b
    | [.v .nilIface] => some true
    | _ => none
  | .unit, cs => match cs with
    | [] => some ()
    | _ => none
  | .pair a b, cs => match dec a (cs.take a.size) with
    | some x => match dec b (cs.drop a.size) with
      | some y => some (x, y)
      | none => none
    | none => none
  | .sl a, cs => match cs with
    | [.sl b xs] => if h : b = a then some (h ▸ xs) else none
    | [.v (.slice none 0 0)] => some []
    | _ => none

/-- A slot's value. pb: a pointer to a cell of a box; pr: to a cell of an element of a row; rp: to read-only cells. -/
inductive FV where
  | undef
  | c (x : C)
  | agg (cs : List C)
  | pb (o j : Nat)
  | pr (o es i j : Nat)
  | rp (cells : List C)
  | fn (f : FuncId) (caps : List FV)
  | tup (vs : List FV)

inductive Obj where
  | box (cells : List C)
  | row (fz : Bool) (t : Ty) (xs : List t.T)

abbrev one (v : Value) : Bool := v.oneCell'

/-- Where an object lies: nowhere (an empty row of no block), or its block and its first cell. -/
inductive Pl where
  | virt
  | at (b off : Nat)

abbrev Place := Nat → Option Pl
/-- The read-only cells: of a block, one by number. -/
abbrev ZS := Nat → Nat → Prop
abbrev Hp := Nat → Option Obj

def RepT (Z : ZS) (w : World) : (t : Ty) → t.T → List Value → Prop
  | .int k, (n : Int), vs => vs = [.int k n]
  | .bool, (b : Bool), vs => vs = [.bool b]
  | .str, (s : ByteArray), vs => vs = [.string s]
  | .ifc, (b : Bool), vs => ∃ v, vs = [v] ∧ ((b = true ∧ v = .nilIface) ∨ (b = false ∧ ∃ t x, v = .iface t x))
  | .unit, _, vs => vs = []
  | .pair a b, x, vs => ∃ us ws, vs = us ++ ws ∧ RepT Z w a x.1 us ∧ RepT Z w b x.2 ws
  | .sl a, xs, vs => ∃ p cap, vs = [.slice p (List.length xs) cap] ∧ (xs = [] ∨ ∃ b off, p = some ⟨b, off, none⟩ ∧ List.length xs ≤ cap ∧
      ∀ (i : Nat) (x : a.T), xs[i]? = some x → ∃ us, RepT Z w a x us ∧
        ∀ (j : Nat) (u : Value), us[j]? = some u → Z b (off + (i * a.size + j)) ∧ w.cell? ⟨b, off + (i * a.size + j), none⟩ = some u)

/-- The read-only cells are as they were. -/
def Keeps (Z : ZS) (w w' : World) : Prop := ∀ b y, Z b y → w'.cell? ⟨b, y, none⟩ = w.cell? ⟨b, y, none⟩
abbrev ZLe (Z Z' : ZS) : Prop := ∀ b y, Z b y → Z' b y

theorem cell_of_heap {w w' : World} {b off : Nat} (h : w'.heap[b]? = w.heap[b]?) : w'.cell? ⟨b, off, none⟩ = w.cell? ⟨b, off, none⟩ := by
  unfold World.cell?
  rw [h]

theorem RepT.mono {Z Z' : ZS} {w w' : World} (hZ : ZLe Z Z') (hk : Keeps Z w w') : ∀ (t : Ty) (x : t.T) (vs : List Value), RepT Z w t x vs → RepT Z' w' t x vs
  | .int k, x, vs, h => h
  | .bool, x, vs, h => h
  | .str, x, vs, h => h
  | .ifc, x, vs, h => h
  | .unit, x, vs, h => h
  | .pair a b, x, vs, h => by
    unfold RepT at h ⊢
    obtain ⟨us, ws, e, h1, h2⟩ := h
    exact ⟨us, ws, e, RepT.mono hZ hk a _ _ h1, RepT.mono hZ hk b _ _ h2⟩
  | .sl a, xs, vs, h => by
    unfold RepT at h ⊢
    obtain ⟨p, cap, e, h⟩ := h
    refine ⟨p, cap, e, ?_⟩
    rcases h with h | ⟨b, off, h1, h2, h3⟩
    · exact .inl h
    · refine .inr ⟨b, off, h1, h2, fun i x hx => ?_⟩
      obtain ⟨us, h4, h5⟩ := h3 i x hx
      refine ⟨us, RepT.mono hZ hk a _ _ h4, fun j u hu => ?_⟩
      obtain ⟨h6, h7⟩ := h5 j u hu
      exact ⟨hZ _ _ h6, (hk _ _ h6).trans h7⟩

theorem RepT.length {Z : ZS} {w : World} : ∀ (t : Ty) (x : t.T) (vs : List Value), RepT Z w t x vs → vs.length = t.size
  | .int k, x, vs, h => by unfold RepT at h; subst h; rfl
  | .bool, x, vs, h => by unfold RepT at h; subst h; rfl
  | .str, x, vs, h => by unfold RepT at h; subst h; rfl
  | .ifc, x, vs, h => by unfold RepT at h; obtain ⟨v, rfl, _⟩ := h; rfl
  | .unit, x, vs, h => by unfold RepT at h; subst h; rfl
  | .pair a b, x, vs, h => by
    unfold RepT at h
    obtain ⟨us, ws, rfl, h1, h2⟩ := h
    simp [RepT.length a _ _ h1, RepT.length b _ _ h2, Ty.size]
  | .sl a, xs, vs, h => by unfold RepT at h; obtain ⟨p, cap, rfl, _⟩ := h; rfl

theorem RepT.ones {Z : ZS} {w : World} : ∀ (t : Ty) (x : t.T) (vs : List Value), RepT Z w t x vs → ∀ v ∈ vs, one v = true
  | .int k, x, vs, h => by unfold RepT at h; subst h; simp [one, Value.oneCell']
  | .bool, x, vs, h => by unfold RepT at h; subst h; simp [one, Value.oneCell']
  | .str, x, vs, h => by unfold RepT at h; subst h; simp [one, Value.oneCell']
  | .ifc, x, vs, h => by
    unfold RepT at h
    obtain ⟨v, rfl, h⟩ := h
    rcases h with ⟨_, rfl⟩ | ⟨_, t, x, rfl⟩ <;> simp [one, Value.oneCell']
  | .unit, x, vs, h => by unfold RepT at h; subst h; simp
  | .pair a b, x, vs, h => by
    unfold RepT at h
    obtain ⟨us, ws, rfl, h1, h2⟩ := h
    intro v hv
    rcases List.mem_append.1 hv with hv | hv
    · exact RepT.ones a _ _ h1 v hv
    · exact RepT.ones b _ _ h2 v hv
  | .sl a, xs, vs, h => by unfold RepT at h; obtain ⟨p, cap, rfl, _⟩ := h; simp [one, Value.oneCell']

/-- Block b is cells, none of them frozen, so many at the least. -/
def Cells (w : World) (b n : Nat) : Prop := ∃ cs ty, w.heap[b]? = some (.cells cs ty (0, 0)) ∧ n ≤ cs.size
def CMono (w w' : World) : Prop := ∀ b n, Cells w b n → Cells w' b n
theorem Cells.le {w : World} {b n m : Nat} (h : Cells w b n) (hm : m ≤ n) : Cells w b m := by
  obtain ⟨cs, ty, h1, h2⟩ := h
  exact ⟨cs, ty, h1, Nat.le_trans hm h2⟩
theorem Cells.lt {w : World} {b n : Nat} (h : Cells w b n) : b < w.heap.size := by
  obtain ⟨cs, ty, h1, _⟩ := h
  exact (Array.getElem?_eq_some_iff.1 h1).1

/-- A slice value is so many elements of a row, from one on. -/
def RepRow (ρ : Place) (w : World) (o es lo n : Nat) (v : Value) : Prop :=
  (ρ o = some .virt ∧ n = 0 ∧ v = .slice none 0 0) ∨
    ∃ b off x cap, ρ o = some (.at b off) ∧ v = .slice (some ⟨b, x, none⟩) n cap ∧ (n ≠ 0 → x = off + lo * es) ∧ n ≤ cap ∧ Cells w b (x + cap * es)

/-- What the numbers of objects mean: where they lie, the read-only cells, and what the objects are. -/
structure Env where
  ρ : Place
  Z : ZS
  H : Hp

def RepC (E : Env) (w : World) : C → Value → Prop
  | .v x, u => u = x ∧ one x = true
  | .e b, u => RepT E.Z w .ifc b [u]
  | .sl t xs, u => RepT E.Z w (.sl t) xs [u]
  | .all o es, u => ∃ n, RepRow E.ρ w o es 0 n u ∧ ∀ fz t xs, E.H o = some (.row fz t xs) → n = xs.length
  | .part o es lo n, u => RepRow E.ρ w o es lo n u ∧ ∀ fz t xs, E.H o = some (.row fz t xs) → lo + n ≤ xs.length

/-- Cells read as these. -/
def RepCs (E : Env) (w : World) (cs : List C) (vs : List Value) : Prop :=
  vs.length = cs.length ∧ ∀ (i : Nat) (c : C) (u : Value), cs[i]? = some c → vs[i]? = some u → RepC E w c u

mutual
def RepFV (E : Env) (w : World) : FV → Value → Prop
  | .undef, _ => True
  | .c x, v => RepC E w x v
  | .agg cs, v => ∃ vs : List Value, v = .agg vs.toArray ∧ RepCs E w cs vs
  | .pb o j, v => ∃ b off, E.ρ o = some (.at b off) ∧ v = .pointer (some ⟨b, off + j, none⟩)
  | .pr o es i j, v => ∃ b off, E.ρ o = some (.at b off) ∧ v = .pointer (some ⟨b, off + (i * es + j), none⟩) ∧ ∀ fz t xs, E.H o = some (.row fz t xs) → i < xs.length
  | .rp cells, v => ∃ b off, v = .pointer (some ⟨b, off, none⟩) ∧ ∀ (j : Nat) (d : C), cells[j]? = some d → ∃ u, E.Z b (off + j) ∧ w.cell? ⟨b, off + j, none⟩ = some u ∧ RepC E w d u
  | .fn f caps, v => ∃ vs : List Value, v = .func (.func f) #[] vs.toArray ∧ RepFVs E w caps vs
  | .tup xs, v => ∃ vs : List Value, v = .tuple vs.toArray ∧ RepFVs E w xs vs
def RepFVs (E : Env) (w : World) : List FV → List Value → Prop
  | [], vs => vs = []
  | x :: xs, vs => ∃ u us, vs = u :: us ∧ RepFV E w x u ∧ RepFVs E w xs us
end

def Ext (ρ ρ' : Place) : Prop := ∀ o p, ρ o = some p → ρ' o = some p
theorem Ext.refl (ρ : Place) : Ext ρ ρ := fun _ _ h => h
theorem Ext.trans {a b c : Place} (h : Ext a b) (k : Ext b c) : Ext a c := fun o p e => k o p (h o p e)

/-- What is known stays known: places stay, read-only cells stay, a row that is still there has as many elements. -/
structure Le (E : Env) (w : World) (E' : Env) (w' : World) : Prop where
  ρ : Ext E.ρ E'.ρ
  Z : ZLe E.Z E'.Z
  k : Keeps E.Z w w'
  c : CMono w w'
  H : ∀ o p fz' t' xs', E.ρ o = some p → E'.H o = some (.row fz' t' xs') → ∃ fz t xs, E.H o = some (.row fz t xs) ∧ xs.length = xs'.length

theorem Le.refl (E : Env) (w : World) : Le E w E w := ⟨Ext.refl _, fun _ _ h => h, fun _ _ _ => rfl, fun _ _ h => h, fun _ _ _ _ _ _ h => ⟨_, _, _, h, rfl⟩⟩
theorem Le.trans {E E' E'' : Env} {w w' w'' : World} (h : Le E w E' w') (k : Le E' w' E'' w'') : Le E w E'' w'' where
  ρ := h.ρ.trans k.ρ
  Z := fun b y z => k.Z b y (h.Z b y z)
  k := fun b y z => (k.k b y (h.Z b y z)).trans (h.k b y z)
  c := fun b n z => k.c b n (h.c b n z)
  H := fun o p fz t xs ho hh => by
    obtain ⟨fz1, t1, xs1, h1, h2⟩ := k.H o p fz t xs (h.ρ o p ho) hh
    obtain ⟨fz2, t2, xs2, h3, h4⟩ := h.H o p fz1 t1 xs1 ho h1
    exact ⟨fz2, t2, xs2, h3, h4.trans h2⟩

section
variable {E E' : Env} {w w' : World}
theorem RepRow.mono {o es lo n : Nat} {v : Value} (hl : Le E w E' w') (h : RepRow E.ρ w o es lo n v) : RepRow E'.ρ w' o es lo n v := by
  rcases h with ⟨h1, h2⟩ | ⟨b, off, x, cap, h1, h2, h3, h4, h5⟩
  · exact .inl ⟨hl.ρ _ _ h1, h2⟩
  · exact .inr ⟨b, off, x, cap, hl.ρ _ _ h1, h2, h3, h4, hl.c _ _ h5⟩
theorem RepRow.placed {ρ : Place} {o es lo n : Nat} {v : Value} (h : RepRow ρ w o es lo n v) : ∃ p, ρ o = some p := by
  rcases h with ⟨h1, h2⟩ | ⟨b, off, x, cap, h1, h2⟩
  · exact ⟨_, h1⟩
  · exact ⟨_, h1⟩
theorem RepC.mono (hl : Le E w E' w') {c : C} {v : Value} (h : RepC E w c v) : RepC E' w' c v := by
  cases c with
  | v x => exact h
  | e b => exact RepT.mono hl.Z hl.k .ifc b _ h
  | sl t xs => exact RepT.mono hl.Z hl.k (.sl t) xs _ h
  | all o es =>
    obtain ⟨n, h1, h2⟩ := h
    refine ⟨n, h1.mono hl, fun fz' t' xs' hh => ?_⟩
    obtain ⟨p, hp⟩ := h1.placed
    obtain ⟨fz, t, xs, h3, h4⟩ := hl.H o p fz' t' xs' hp hh
    rw [h2 fz t xs h3, h4]
  | part o es lo n =>
    obtain ⟨h1, h2⟩ := h
    refine ⟨h1.mono hl, fun fz' t' xs' hh => ?_⟩
    obtain ⟨p, hp⟩ := h1.placed
    obtain ⟨fz, t, xs, h3, h4⟩ := hl.H o p fz' t' xs' hp hh
    rw [← h4]
    exact h2 fz t xs h3
theorem RepCs.mono (hl : Le E w E' w') {cs : List C} {vs : List Value} (h : RepCs E w cs vs) : RepCs E' w' cs vs :=
  ⟨h.1, fun i c u hc hu => RepC.mono hl (h.2 i c u hc hu)⟩
mutual
theorem RepFV.mono (hl : Le E w E' w') : ∀ (x : FV) (v : Value), RepFV E w x v → RepFV E' w' x v
  | .undef, _, _ => by unfold RepFV; trivial
  | .c x, v, h => by unfold RepFV at h ⊢; exact RepC.mono hl h
  | .agg cs, v, h => by
    unfold RepFV at h ⊢
    obtain ⟨vs, h1, h2⟩ := h
    exact ⟨vs, h1, h2.mono hl⟩
  | .pb o j, v, h => by
    unfold RepFV at h ⊢
    obtain ⟨b, off, h1, h2⟩ := h
    exact ⟨b, off, hl.ρ _ _ h1, h2⟩
  | .pr o es i j, v, h => by
    unfold RepFV at h ⊢
    obtain ⟨b, off, h1, h2, h3⟩ := h
    refine ⟨b, off, hl.ρ _ _ h1, h2, fun fz' t' xs' hh => ?_⟩
    obtain ⟨fz, t, xs, h4, h5⟩ := hl.H o _ fz' t' xs' h1 hh
    rw [← h5]
    exact h3 fz t xs h4
  | .rp cells, v, h => by
    unfold RepFV at h ⊢
    obtain ⟨b, off, h1, h2⟩ := h
    refine ⟨b, off, h1, fun j d hd => ?_⟩
    obtain ⟨u, h3, h4, h5⟩ := h2 j d hd
    exact ⟨u, hl.Z _ _ h3, (hl.k _ _ h3).trans h4, RepC.mono hl h5⟩
  | .fn f caps, v, h => by
    unfold RepFV at h ⊢
    obtain ⟨vs, h1, h2⟩ := h
    exact ⟨vs, h1, RepFVs.mono hl caps vs h2⟩
  | .tup xs, v, h => by
    unfold RepFV at h ⊢
    obtain ⟨vs, h1, h2⟩ := h
    exact ⟨vs, h1, RepFVs.mono hl xs vs h2⟩
theorem RepFVs.mono (hl : Le E w E' w') : ∀ (xs : List FV) (vs : List Value), RepFVs E w xs vs → RepFVs E' w' xs vs
  | [], vs, h => by unfold RepFVs at h ⊢; exact h
  | x :: xs, vs, h => by
    unfold RepFVs at h ⊢
    obtain ⟨u, us, h1, h2, h3⟩ := h
    exact ⟨u, us, h1, RepFV.mono hl x u h2, RepFVs.mono hl xs us h3⟩
end
end

theorem RepFVs.get {E : Env} {w : World} : ∀ {xs : List FV} {vs : List Value}, RepFVs E w xs vs → vs.length = xs.length ∧ ∀ (i : Nat) (x : FV) (v : Value), xs[i]? = some x → vs[i]? = some v → RepFV E w x v
  | [], vs, h => by unfold RepFVs at h; subst h; exact ⟨rfl, fun i x v h => by simp at h⟩
  | x :: xs, vs, h => by
    unfold RepFVs at h
    obtain ⟨u, us, rfl, h2, h3⟩ := h
    obtain ⟨h4, h5⟩ := RepFVs.get h3
    refine ⟨by simp [h4], fun i y v hy hv => ?_⟩
    cases i with
    | zero => simp at hy hv; subst hy; subst hv; exact h2
    | succ i => exact h5 i y v (by simpa using hy) (by simpa using hv)
theorem RepFVs.of_get {E : Env} {w : World} : ∀ {xs : List FV} {vs : List Value}, vs.length = xs.length → (∀ (i : Nat) (x : FV) (v : Value), xs[i]? = some x → vs[i]? = some v → RepFV E w x v) → RepFVs E w xs vs
  | [], vs, h, _ => by unfold RepFVs; simpa using h
  | x :: xs, [], h, _ => by simp at h
  | x :: xs, u :: us, h, hh => by
    unfold RepFVs
    exact ⟨u, us, rfl, hh 0 x u rfl rfl, RepFVs.of_get (by simpa using h) (fun i y v hy hv => hh (i + 1) y v (by simpa using hy) (by simpa using hv))⟩
end Eng
end Go.Proofs.Ytjhcdndmbilogaa
